/-
 An interpreter of the Go code, proved sound, and the rules by which typed functions are shown to be what it computes. Part 2 of 4. No conditions.
-/
import Derived.Test.YtphpkphklegfeaaGreatK0
set_option linter.unusedVariables false
set_option linter.unusedSimpArgs false
namespace Go.Proofs.YtphpkphklegfeaaGreat.K
open List renaming append_cancel_right → ly, take_append_of_le_length → jh, mem_append → aq, mem_cons → bq, getElem?_eq_some_iff → ak, all_eq_true → cj, mem_range → cr, mem_singleton → bh, map_cons → dj, mem_append_left → cd, mem_filterMap → ko, getElem?_append_left → aw, eq_nil_of_length_eq_zero → cp, cons_append → dt, ext_getElem? → je, mem_cons_of_mem → bw, mem_cons_self → ck, contains_eq_mem → fa, length_take → dn, getElem?_take_of_lt → ew, replicate → cq, length_map → ee, getElem?_eq_none → ba, mem_filter → nx, nodup_nil → kf, nodup_cons → dp, mem_map → du, nil_append → dr, append_of_mem → fq, map_append → eh, nodup_append → dc, mem_map_of_mem → fi, foldl_append → jf, map_nil → ft, range → bt, prefix_refl → nk, getElem?_append_right → bu, getElem?_eq_getElem → ae, getD_eq_getElem?_getD → jm, getElem?_drop → eo, getElem?_take → di, prefix_append → gk, length_singleton → cn, getElem_cons_zero → jz, getElem?_map → dz, mapM_cons → kq, getElem?_toArray → ib, map_map → od
open Nat renaming le_refl → al, zero_le → dq, lt_of_lt_of_le → cw, le_trans → cu, not_lt → dw, lt_or_ge → bz, le_succ → jj, le_succ_of_le → la, strongRecOn → lh, zero_add → gh, add_sub_cancel_left → ic, le_add_right → ma, le_max_left → ie, le_max_right → gp
open Go renaming FuncId → eg, Value → cb, World → et, Program → bm, Oper → ch, Operand → au, TypeId → ao, ResultVar → ed
open Option.some renaming injEq → ab
open Prod.mk renaming injEq → ah
open Option renaming bind_eq_some_iff → af, map_eq_some_iff → ag, bind_some → aa, map_some → aj, getD_some → ec, isSome_iff_exists → jr
open Bool renaming eq_false_iff → ju, false_eq_true → bd, and_eq_true → ar, or_eq_true → df, not_eq_true' → eb
open _root_.Array renaming getElem?_eq_some_iff → az, getD_eq_getD_getElem? → ef, getElem?_eq_getElem → gf, replicate → jy, getElem?_replicate → lu, getElem?_toList → eu
open Classical renaming byContradiction → fp, choose → ei, choose_spec → de
open List.cons renaming injEq → ep
theorem GV.unlock {E0 E1 : Ab} {L : List Nat} (h : GV (E0.lock L) (E1.lock L)) (hd : E0.m ≤ E0.lk.length) : GV E0 E1 := by
  have hlk : E1.lk = E0.lk := ly (bs := [L]) h.lk
  have hU : ∀ (E : Ab) lv g i, Q5 E.lk.length lv → ((E.lock L).U lv g i ↔ E.U lv g i) := by
    intro E lv g i hl
    cases lv with
    | none => rfl
    | some lv =>
      have : (E.lk ++ [L]).take lv = E.lk.take lv := jh hl
      show (g ∈ E.Bj ∨ Wr _ _ ((E.lk ++ [L]).take lv) lv g i) ↔ (g ∈ E.Bj ∨ Wr _ _ (E.lk.take lv) lv g i)
      rw [this]
      exact Iff.rfl
  have hanti : ∀ g i, (E0.lock L).U (some (E0.lock L).lk.length) g i → E0.U (some E0.lk.length) g i := by
    intro g i hu
    refine (hU E0 (some E0.lk.length) g i (al _)).1 (Ab.Rt ?_ hu)
    simp
  exact
  { lk := hlk
    os := h.os
    tape := h.tape
    output := h.output
    size := h.size
    len := h.len
    mm := by have := h.mm; simpa [Ab.lock] using this
    cell := fun g i u hc hu => h.cell g i u hc fun hx => hu (hanti g i hx)
    block := fun g hg hu => h.block g hg fun i hx => hu i (hanti g i hx)
    mono := fun lv g i hl hx => by
      rcases h.mono lv g i (hl.up (by simp)) ((hU E1 lv g i (by rw [hlk]; exact hl)).2 hx) with h' | h'
      · exact .inl ((hU E0 lv g i hl).1 h')
      · exact .inr h'
    CV := h.CV
    cells := h.cells
    C1 := h.C1
    fresh := h.fresh
    Bj := h.Bj
    Ia := h.Ia
    Hh := h.Hh }
structure Ug (h : Bp) (k : eg) (L : List Nat) (E0 E1 : Ab) (H' : A6) : Prop where
 H : E1.H = H'
 n : E1.n = H'.length
 D8 : GV (E0.lock L) (E1.lock L)
 heap : CW E1
 IX : h.grow k = false → ∀ base nb d, base ≤ E0.n → nb ≤ E0.n → d ≤ E0.m → DO E0 base nb d → DO E1 base nb d
 J4 : h.grow k = true → ∀ base d, base ≤ E0.n → d ≤ E0.m → DO E0 base E0.n d → DO E1 base E1.n d
 kept : ∀ b, b < E0.n → AX (E0.lk ++ [L]) b = false → E1.H[b]? = E0.H[b]?
def qG (R : cb → et → Prop) : Ending → et → Prop
 | .returned v, w => R v w
 | _, _ => False
structure HD (P : bm) (h : Bp) (Γ : eg → List V → A6 → Lk → Option (V × A6)) : Prop where
 body : ∀ k args H lk r, Γ k args H lk = some r → ∃ fn, P.funcs[k]? = some fn ∧ fn.body.isNone = false ∧ (fn.name == "runtime.NumGoroutine") = false
 run : ∀ k args H lk L v H', Γ k args H (lk ++ [L]) = some (v, H') → ∀ (E0 : Ab) us, E0.H = H → E0.lk = lk → E0.n = H.length → E0.m = lk.length → CW E0 → (∀ l ∈ lk ++ [L], ∀ x ∈ l, x < H.length) →
  AU (E0.lock L) args us → Calls P k us.toArray E0.w (qG fun u w' => ∃ E1 : Ab, E1.w = w' ∧ Ug h k L E0 E1 H' ∧ AB E1 v u)
theorem M6 {H : A6} {f : V → Option (V × List Nat)} (hf : ∀ v v' M, f v = some (v', M) → ∀ x ∈ M, x < H.length) :
  ∀ (vs vs' : List V) (M : List Nat), Ax.lendL f vs = some (vs', M) → ∀ x ∈ M, x < H.length
 | [], vs', M, h => by
  simp only [Ax.lendL, ab, ah] at h
  obtain ⟨rfl, rfl⟩ := h
  intro x hx; cases hx
 | v :: vs, vs', M, h => by
  simp only [Ax.lendL, af, ag, Prod.exists, ah] at h
  obtain ⟨v1, M1, h1, vs2, M2, h2, rfl, rfl⟩ := h
  intro x hx
  rcases aq.1 hx with hx | hx
  ·exact hf v v1 M1 h1 x hx
  ·exact M6 hf vs vs2 M2 h2 x hx
theorem Sy (lv : Nat) (H : A6) : ∀ (k : Nat) (v v' : V) (M : List Nat), Ax lv H k v = some (v', M) → ∀ x ∈ M, x < H.length
 | 0, v, v', M, h => by simp [Ax] at h
 | k + 1, v, v', M, h => by
  have ih := M6 fun v v' M h => Sy lv H k v v' M h
  have none_ : ∀ M, M = ([] : List Nat) → ∀ x ∈ M, x < H.length := by rintro M rfl x hx; cases hx
  cases v with
  | int _ _ => simp only [Ax, ab, ah] at h; exact none_ _ h.2.symm
  | bool _ => simp only [Ax, ab, ah] at h; exact none_ _ h.2.symm
  | str _ => simp only [Ax, ab, ah] at h; exact none_ _ h.2.symm
  | IJ => simp only [Ax, ab, ah] at h; exact none_ _ h.2.symm
  | FP => simp only [Ax, ab, ah] at h; exact none_ _ h.2.symm
  | ptr _ _ => simp only [Ax, ab, ah] at h; exact none_ _ h.2.symm
  | Ft _ => simp only [Ax, ab, ah] at h; exact none_ _ h.2.symm
  | lp _ _ _ => simp only [Ax, ab, ah] at h; exact none_ _ h.2.symm
  | lit _ _ _ => simp only [Ax, ab, ah] at h; exact none_ _ h.2.symm
  | fn _ _ => simp only [Ax, ab, ah] at h; exact none_ _ h.2.symm
  | GS _ => simp [Ax] at h
  | tl n cs =>
   simp only [Ax, ag, Prod.exists, ah] at h
   obtain ⟨cs', M1, h1, rfl, rfl⟩ := h
   exact ih cs cs' M1 h1
  | snap b n cs =>
   simp only [Ax, ag, Prod.exists, ah] at h
   obtain ⟨cs', M1, h1, rfl, rfl⟩ := h
   exact ih cs cs' M1 h1
  | sl b off n =>
   simp only [Ax] at h
   split at h
   case h_2 => cases h
   rename_i sz cs hb
   split at h
   ·cases h
   simp only [ag, Prod.exists, ah] at h
   obtain ⟨cs', M1, h1, rfl, rfl⟩ := h
   intro x hx
   rcases bq.1 hx with rfl | hx
   ·exact (ak.1 hb).1
   ·exact ih _ cs' M1 h1 x hx
  | agg cs =>
   simp only [Ax, ag, Prod.exists, ah] at h
   obtain ⟨cs', M1, h1, rfl, rfl⟩ := h
   exact ih cs cs' M1 h1
section
variable {c : Cx} {E : Ab} {S : St} {a : Act} {o : ch}
theorem BG.lk {E' : Ab} {H' : A6} (hs : Cy c E S a) (h : BG c E E' H') : E'.lk = c.lk := by rw [h.D8.lk, hs.lk]
theorem Jx (hs : Cy c E S a) : ∀ (vs : List V) (ms : List Ui) (H : A6) (vs' : List V) (M : List Nat) (H1 : A6) (E1 : Ab), An c ms H vs = some (vs', M, H1) → BG c E E1 H → E1.w = E.w →
  BG c E (E1.heap H1) H1 ∧ H1.length = H.length ∧ (∀ x ∈ M, x < H.length) ∧ ∀ L, (∀ x ∈ M, x ∈ L) → GV (E1.lock L) ((E1.heap H1).lock L) ∧ ∀ us, AU E1 vs us → AU ((E1.heap H1).lock L) vs' us
 | [], ms, H, vs', M, H1, E1, h, h0, hw => by
  simp only [An, ab, ah] at h
  obtain ⟨rfl, rfl, rfl⟩ := h
  have : E1.heap H = E1 := by rw [← h0.H]; rfl
  rw [this]
  refine ⟨h0, rfl, ?_, fun L _ => ⟨GV.refl _, fun us hu => by simpa only [AU] using hu⟩⟩
  intro x hx; cases hx
 | v :: vs, ms, H, vs', M, H1, E1, h, h0, hw => by
  simp only [An, af, ag, Prod.exists, ah] at h
  obtain ⟨v1, M1, Hm, h1, vs2, M2, H2, h2, rfl, rfl, rfl⟩ := h
  have hmm : E1.lk.length = E1.m := by rw [h0.m, hs.m, BG.lk hs h0]
  have key : ∀ (Em : Ab), Em = E1.heap Hm → BG c E Em Hm → Hm.length = H.length → (∀ x ∈ M1, x < H.length) → (∀ L, (∀ x ∈ M1, x ∈ L) → GV (E1.lock L) (Em.lock L) ∧ ∀ u, AB E1 v u → AB (Em.lock L) v1 u) → (∀ us, AU E1 vs us → AU Em vs us) →
    BG c E (E1.heap H2) H2 ∧ H2.length = H.length ∧ (∀ x ∈ M1 ++ M2, x < H.length) ∧ ∀ L, (∀ x ∈ M1 ++ M2, x ∈ L) → GV (E1.lock L) ((E1.heap H2).lock L) ∧ ∀ us, AU E1 (v :: vs) us → AU ((E1.heap H2).lock L) (v1 :: vs2) us := by
   rintro Em rfl ha hl hM1 hL hvs
   obtain ⟨p1, p2, p3, p4⟩ := Jx hs vs ms.tail Hm vs2 M2 H2 (E1.heap Hm) h2 ha hw
   simp only [Ab.KO] at p1 p4
   refine ⟨p1, p2.trans hl, fun x hx => ?_, fun L hM => ?_⟩
   ·rcases aq.1 hx with hx | hx
    ·exact hM1 x hx
    ·rw [← hl]; exact p3 x hx
   ·obtain ⟨q1, q2⟩ := hL L fun x hx => hM x (aq.2 (.inl hx))
    obtain ⟨r1, r2⟩ := p4 L fun x hx => hM x (aq.2 (.inr hx))
    refine ⟨q1.trans r1, fun us hu => ?_⟩
    simp only [AU] at hu ⊢
    obtain ⟨u, us', rfl, hu1, hu2⟩ := hu
    exact ⟨u, us', rfl, r1.rep (ha.heap.lock L) _ _ (q2 u hu1), r2 us' (hvs us' hu2)⟩
  have hsame : E1.heap H = E1 := by rw [← h0.H]; rfl
  unfold H5 at h1
  cases hmode : ms.headD .Qp with
  | Qp =>
   simp only [hmode, ag, Prod.exists, ah] at h1
   obtain ⟨v1', M1', hl, rfl, rfl, rfl⟩ := h1
   have hd : c.d = E1.lk.length := by rw [BG.lk hs h0]; rfl
   rw [hd, ← h0.H] at hl
   refine key E1 hsame.symm h0 rfl (by rw [← h0.H]; exact Sy _ _ _ _ _ _ hl) (fun L hM => ⟨GV.refl _, fun u hu => Q1 hmm h0.heap Cq v v1' M1' hl hM u hu⟩) (fun us hu => hu)
  | exact =>
   simp only [hmode, ab, ah] at h1
   obtain ⟨rfl, rfl, rfl⟩ := h1
   exact key E1 hsame.symm h0 rfl (fun x hx => by cases hx) (fun L _ => ⟨GV.refl _, fun u hu => (Cn.EH E1 L h0.heap.dm).rep v u hu⟩) (fun us hu => hu)
  | share =>
   simp only [hmode] at h1
   split at h1
   ·cases h1
   simp only [ag, Prod.exists, ah] at h1
   obtain ⟨v1', Hm', hg, rfl, rfl, rfl⟩ := h1
   obtain ⟨g1, g2, g3, g4⟩ := Nd hs h0 hg
   refine key (E1.heap Hm') rfl g1 g4 (fun x hx => by cases hx) (fun L _ => ?_) (fun us hu => g2.Ih h0.heap _ _ hu)
   obtain ⟨k1, k2, k3⟩ := J6 c.base Cq (E1.lock L) v v1' Hm' (by rw [Ab.FH, h0.H]; exact hg) (h0.heap.lock L)
   refine ⟨k1, fun u hu => ?_⟩
   have := k3 u ((Cn.EH E1 L h0.heap.dm).rep v u hu)
   exact (Cn.grow ((E1.lock L).heap Hm') (n := 0) (m := 0) (dq _) (dq _)).rep _ _ this
def iC (c : Cx) (E : Ab) (a : Act) (o : ch) (v : V) (H' : A6) : Prop :=
 ∀ (next : Act → et → Prop) (Q : Exit → Act → et → Prop), (∀ E' u, BG c E E' H' → AB E' v u → next (a.put o.dst u) E'.w) → o.wp c.P a E.w next Q
theorem HE.qI {v : V} {H' : A6} (h : HE c E a o v H') : iC c E a o v H' := by
 intro next Q hn
 obtain ⟨E', ha, h⟩ := h
 unfold Oper.wp
 rcases h with ⟨u, h1, h2⟩ | ⟨h1, h2⟩
 ·rw [h1]; exact hn E' u ha h2
 ·rw [h1]; exact hn E' undef ha h2
theorem Ug.lk {h : Bp} {k : eg} {L : List Nat} {E0 E1 : Ab} {H' : A6} (hb : Ug h k L E0 E1 H') : E1.lk = E0.lk := ly (bs := [L]) hb.D8.lk
theorem DO.locked {h : Bp} {k : eg} {L : List Nat} {E0 E1 : Ab} {H' : A6} (hb : Ug h k L E0 E1 H') (hh : CW E0) {base nb d : Nat} (hbase : base ≤ E0.n) (hL : ∀ b, b < base → b ∈ L) (hnb : nb ≤ E0.n) (hd : d ≤ E0.m) (hf : DO E0 base nb d) : DO E1 base nb d := by
 have hev := hb.D8.unlock hh.dm
 intro b sz cs hlt hB c t hc i v u hv hu
 have hbn : b < E0.n := cw hlt hbase
 have hlock : AX (E0.lk ++ [L]) b = false := by
  rw [ju]
  intro hx
  unfold AX at hx
  rw [cj] at hx
  have := hx L (by simp)
  simp [hL b hlt] at this
 rw [hb.kept b hbn hlock] at hB
 have hphi := (hev.CV b hbn (fun l n z => by rw [hB]; simp)).1
 rw [hphi] at hc
 have hblk : E1.w.heap[E0.φ b]? = E0.w.heap[E0.φ b]? := by
  obtain ⟨c0, t0, h1, _, _⟩ := hh.cells b sz cs hB
  have := hb.D8.block (E0.φ b) (az.1 h1).1 fun i => by
   have := MB hh hB (hL b hlt) i
   simpa using this
  exact this
 rw [hblk] at hc
 exact (hev.shrink hh hnb hd).rep v u (hf b sz cs hlt hB c t hc i v u hv hu)
theorem XO (hs : Cy c E S a) (hΓ : HD c.P c.hints c.Γ) {v : V} {H' : A6} (hc : Ek o = true) (h : Cb c o S = some (v, H')) : iC c E a o v H' := by
 unfold Ek at hc
 split at hc
 case h_2 => cases hc
 rename_i f args ats ho
 simp only [Cb, ho] at h
 split at h
 case h_2 => cases h
 rename_i g caps hf
 simp only [af, Prod.exists] at h
 obtain ⟨vs, hvs, as, M, H1, hl, hg⟩ := h
 intro next Q hn
 have hrf := BD hs f _ hf
 simp only [AB] at hrf
 obtain ⟨cv, hcv, hcr⟩ := hrf
 have hrv := TE hs _ _ hvs
 have hargs : AU E (vs ++ caps) ((args.toList.map a.eval) ++ cv.toList) := FA hrv hcr
 obtain ⟨ha, hlen, hM, hL⟩ := Jx hs _ _ _ _ _ _ E hl (BG.refl hs) rfl
 let L := c.CF g M H1
 have hML : ∀ x ∈ M, x ∈ L := by
  intro x hx
  show x ∈ c.CF g M H1
  unfold Cx.CF
  split
  ·exact aq.2 (.inl hx)
  ·split
   ·exact aq.2 (.inl hx)
   ·exact hx
 have hLlt : ∀ x ∈ L, x < H1.length := by
  intro x hx
  have hx : x ∈ c.CF g M H1 := hx
  unfold Cx.CF at hx
  have hMl : ∀ x ∈ M, x < H1.length := by rw [hlen]; exact hM
  have hbl : c.base ≤ H1.length := by rw [hlen]; exact hs.base
  split at hx
  ·rcases aq.1 hx with hx | hx
   ·exact hMl x hx
   ·simpa using hx
  ·split at hx
   ·rcases aq.1 hx with hx | hx
    ·exact hMl x hx
    ·have := cr.1 hx
     omega
   ·exact hMl x hx
 obtain ⟨hev, hrep⟩ := hL L hML
 have hlk1 : (E.heap H1).lk = c.lk := hs.lk
 obtain ⟨fn, hfn, hbody, hname⟩ := hΓ.body _ _ _ _ _ hg
 have hrun := hΓ.run g as H1 c.lk L v H' hg (E.heap H1) _ rfl hlk1 ha.n (by rw [ha.m, hs.m]) ha.heap (by
  intro l hl x hx
  rcases aq.1 hl with hl | hl
  ·rw [hlen]; exact cw (hs.EH l hl x hx) hs.base
  ·simp only [bh] at hl
   subst hl
   exact hLlt x hx) (hrep _ hargs)
 have hexec : (execOp a.eval o).run c.P E.w = .ok (.enter g (((args.toList.map a.eval) ++ cv.toList).toArray)) E.w := by
  have hA : (args.map a.eval) ++ cv = (((args.toList.map a.eval) ++ cv.toList)).toArray := by
   apply Array.ext'; simp
  simp only [execOp, ho, resolve, hcv, Deferred.ofValue, Sem.run_bind, Sem.run_pure, Result.andThen_ok, invoke, callFunc, run_program, hfn, hname, hbody, hA]
  simp
 unfold Oper.wp
 rw [hexec]
 refine Calls.mono hrun ?_
 intro e w' hR
 cases e with
 | returned u =>
  obtain ⟨E1, rfl, hb, hr⟩ := hR
  refine hn E1 u (ha.trans (E'' := E1) ⟨hb.H, hb.n, ?_, hb.D8.unlock ha.heap.dm, hb.heap, ?_, ?_, ?_⟩) hr
  ·have := (hb.D8.unlock ha.heap.dm).mm; exact this
  ·intro hgf base nb d hbase hnb hd hrf
   have hb0 : base ≤ (E.heap H1).n := by rw [ha.n, hlen]; exact cu hbase hs.base
   cases hgk : c.hints.grow g with
   | false => exact hb.IX hgk base nb d hb0 hnb hd hrf
   | true =>
    refine DO.locked hb ha.heap hb0 (fun b hlt => ?_) hnb hd hrf
    show b ∈ c.CF g M H1
    unfold Cx.CF
    split
    ·refine aq.2 (.inr (cr.2 ?_))
     rw [hlen]; have := hs.base; omega
    ·rw [hgk, hgf]
     simp only [Bool.not_false, Bool.and_self, if_true]
     exact aq.2 (.inr (cr.2 (by omega)))
  ·intro hgf base d hbase hd hrf
   have hb0 : base ≤ (E.heap H1).n := by rw [ha.n, hlen]; exact cu hbase hs.base
   cases hgk : c.hints.grow g with
   | false => exact (hb.IX hgk base _ d hb0 (al _) hd hrf).up (hb.D8.unlock ha.heap.dm).len
   | true => exact hb.J4 hgk base d hb0 hd hrf
  ·intro b hbl hbk
   rw [← hb.H]
   refine hb.kept b ?_ ?_
   ·rw [ha.n, hlen]; have := hs.base; omega
   ·rw [hlk1]
    rw [ju] at hbk ⊢
    intro hx
    refine hbk ?_
    unfold AX at hx ⊢
    rw [cj] at hx ⊢
    exact fun l hl => hx l (aq.2 (.inl hl))
 | panicked _ => exact hR.elim
 | outgrown => exact hR.elim
theorem WD (hs : Cy c E S a) (hΓ : HD c.P c.hints c.Γ) {v : V} {H' : A6} (h : Cb c o S = some (v, H')) : iC c E a o v H' := by
 cases hc : Ek o with
 | false => exact (Zh hs hc h).qI
 | true => exact XO hs hΓ hc h
end
theorem MZ {T T' : Nat → V} : ∀ (l : List au), (∀ x ∈ l, ev T x = ev T' x) → LO T l = LO T' l
 | [], _ => rfl
 | x :: l, h => by
  simp only [LO]
  rw [h x (by simp), MZ l fun y hy => h y (by simp [hy])]
theorem Ma {T T' : Nat → V} : ∀ (l : List (Nat × au)), (∀ x ∈ l.map (·.2), ev T x = ev T' x) → S5 T l = S5 T' l
 | [], _ => rfl
 | (i, x) :: l, h => by
  simp only [S5]
  rw [h x (by simp), Ma l fun y hy => h y (by simp only [dj, bq]; exact .inr hy)]
theorem LS {T T' : Nat → V} (n : Nat) (o : Option au) (h : ∀ x, o = some x → ev T x = ev T' x) : D2 T n o = D2 T' n o := by
 cases o with
 | none => rfl
 | some x => simp only [D2]; rw [h x rfl]
theorem RV (c : Cx) (o : ch) {T T' : Nat → V} {H : A6} (h : ∀ x ∈ o.op.operands, ev T x = ev T' x) : Cb c o { T := T, H := H } = Cb c o { T := T', H := H } := by
  cases ho : o.op <;> (rw [ho] at h; simp only [Op.operands] at h; simp only [Cb, ho])
  case move x => rw [h x (by simp)]
  case assign x => rw [h x (by simp)]
  case pick k x y => rw [h k (by simp), h x (by simp), h y (by simp)]
  case box t x => rw [h x (by simp)]
  case build t ps => rw [Ma _ fun x hx => h x (by simpa using hx)]
  case buildSlice t n ps => rw [Ma _ fun x hx => h x (by simpa using hx)]
  case load t x => rw [h x (by simp)]
  case store t x y => rw [h x (by simp), h y (by simp)]
  case nilCheck x => rw [h x (by simp)]
  case binOp op t x y t2 => rw [h x (by simp), h y (by simp)]
  case unOp op t x => rw [h x (by simp)]
  case convert s d x => rw [h x (by simp)]
  case makeFunc fn first caps => rw [MZ _ fun x hx => h x (by simp; exact .inr (by simpa using hx))]
  case makeSlice t x y => rw [h x (by simp), h y (by simp)]
  case slice t x lo hi mx =>
    rw [h x (by simp)]
    cases mx with
    | none =>
      simp only []
      rw [LS 0 lo fun y hy => h y (by subst hy; simp)]
      have : ∀ n, D2 T n hi = D2 T' n hi := fun n => LS n hi fun y hy => h y (by subst hy; simp)
      simp only [this]
    | some mx =>
      cases lo with
      | some _ => rfl
      | none =>
        cases hi with
        | none => rfl
        | some hi =>
          simp only []
          rw [h hi (by simp), h mx (by simp)]
  case fieldAddr s x f => rw [h x (by simp)]
  case field s x f => rw [h x (by simp)]
  case indexAddr t x i => rw [h x (by simp), h i (by simp)]
  case index t x i => rw [h x (by simp), h i (by simp)]
  case extract x i => rw [h x (by simp)]
  case makeMap t r => cases r <;> rfl
  case lookup t x k ok => rw [h x (by simp), h k (by simp)]
  case mapUpdate t x k y => rw [h x (by simp), h k (by simp), h y (by simp)]
  case mapEntry t x k => rw [h x (by simp), h k (by simp)]
  case entryStore t x k y => rw [h x (by simp), h k (by simp), h y (by simp)]
  case call k =>
    obtain ⟨callee, args, ats⟩ := k
    simp only [Call.operands] at h
    cases callee with
    | invoke r n => rfl
    | value f =>
      simp only []
      rw [h f (by simp), MZ _ fun x hx => h x (by simp; exact .inr (by simpa using hx))]
    | builtin b =>
      have hx : ∀ x ∈ args.toList, ev T x = ev T' x := fun x hx => h x (by simpa using hx)
      cases b <;> try rfl
      case len =>
        simp only []
        split
        · rename_i x t ha ht
          rw [hx x (by rw [ha]; simp)]
        · rfl
      case append =>
        simp only []
        split
        · rename_i x y st xt ha ht
          rw [hx x (by rw [ha]; simp), hx y (by rw [ha]; simp)]
        · rfl
      case min =>
        simp only []
        split
        · rename_i x y ha
          rw [hx x (by rw [ha]; simp), hx y (by rw [ha]; simp)]
        · rfl
      case max =>
        simp only []
        split
        · rename_i x y ha
          rw [hx x (by rw [ha]; simp), hx y (by rw [ha]; simp)]
        · rfl
theorem LV {c : Cx} (hs : c.still = true) : ∀ (ps ps' : List (Nat × V)) (H H' : A6), CZ c H ps = some (ps', H') → H' = H ∧ ∀ H2, CZ c H2 ps = some (ps', H2)
 | [], ps', H, H', h => by
  simp only [CZ, ab, ah] at h
  obtain ⟨rfl, rfl⟩ := h
  exact ⟨rfl, fun _ => rfl⟩
 | (i, v) :: ps, ps', H, H', h => by
  simp only [CZ, af, ag, Prod.exists, ah] at h
  obtain ⟨v1, H1, hv, ps2, H3, h2, rfl, rfl⟩ := h
  have key : H1 = H ∧ ∀ H2, Gc c H2 v = some (v1, H2) := by
   unfold Gc at hv ⊢
   rw [hs] at hv ⊢
   split at hv
   ·rename_i hk
    simp only [ab, ah] at hv
    obtain ⟨rfl, rfl⟩ := hv
    exact ⟨rfl, fun H2 => by rw [if_pos hk]⟩
   ·rename_i hk
    simp only [if_true] at hv
    split at hv
    ·rename_i hc
     simp only [ab, ah] at hv
     obtain ⟨rfl, rfl⟩ := hv
     exact ⟨rfl, fun H2 => by rw [if_neg hk]; simp only [if_true]; rw [if_pos hc]⟩
    ·cases hv
  obtain ⟨rfl, k1⟩ := key
  obtain ⟨rfl, k2⟩ := LV hs ps ps2 H1 H3 h2
  refine ⟨rfl, fun H2 => ?_⟩
  simp only [CZ, k1 H2, aa, k2 H2, aj]
theorem FN {x : Option V} {H H2 : A6} : (x.map fun v => (v, H2)) = (x.map fun v => (v, H)).map fun r => (r.1, H2) := by
 cases x <;> rfl
theorem N8 {c : Cx} {o : ch} (hp : J8 o = true) (hb : ∀ t n ps, o.op ≠ .buildSlice t n ps) {T : Nat → V} {H H2 : A6} : Cb c o { T := T, H := H2 } = (Cb c o { T := T, H := H }).map fun r => (r.1, H2) := by
  unfold J8 at hp
  cases ho : o.op <;> simp only [ho, bd] at hp <;> simp only [Cb, ho]
  case buildSlice t n ps => exact absurd ho (hb t n ps)
  case move x => exact FN
  case assign x => exact FN
  case pick k x y => split <;> first | exact FN | rfl
  case build t ps =>
    cases S5 T ps.toList with
    | none => rfl
    | some ps => cases BJ c.P t with
      | none => rfl
      | some z => cases FT c.P t with
        | none => rfl
        | some pl => exact FN
  case nilCheck x => split <;> rfl
  case binOp op t x y t2 =>
    cases ev T x with
    | none => rfl
    | some p => cases ev T y with
      | none => rfl
      | some q => exact FN
  case unOp op t x =>
    cases ev T x with
    | none => rfl
    | some p => exact FN
  case convert s d x =>
    split
    · rfl
    · split
      · exact FN
      · rfl
    · rfl
  case makeFunc fn first caps =>
    split
    · cases LO T caps.toList <;> rfl
    · rfl
  case slice t x lo hi mx =>
    cases ev T x with
    | none => cases mx <;> cases lo <;> cases hi <;> rfl
    | some v => cases hl : Ct v with
      | none => cases mx <;> cases lo <;> cases hi <;> simp [hl]
      | some n =>
        cases mx with
        | none =>
          simp only [aa, hl]
          cases D2 T 0 lo with
          | none => rfl
          | some l => cases D2 T n hi with
            | none => rfl
            | some r => cases B6 c.P t with
              | none => rfl
              | some e =>
                simp only [aa]
                cases B8 c.P e with
                | none => rfl
                | some sz =>
                  simp only [aa]
                  split
                  · split <;> rfl
                  · rfl
        | some mx =>
          cases lo with
          | some _ => rfl
          | none => cases hi with
            | none => rfl
            | some hi =>
              simp only [aa, hl]
              cases B6 c.P t with
              | none => rfl
              | some e =>
                simp only [aa]
                cases B8 c.P e with
                | none => rfl
                | some sz =>
                  simp only [aa]
                  split
                  · split <;> rfl
                  · rfl
  case fieldAddr s x f =>
    cases AR c.P s f with
    | none => rfl
    | some off =>
      simp only [aa]
      split <;> rfl
  case field s x f =>
    cases AR c.P s f with
    | none => rfl
    | some off =>
      simp only [aa]
      split
      · split
        · exact FN
        · rfl
      · rfl
  case indexAddr t x i =>
    cases B6 c.P t with
    | none => rfl
    | some e =>
      simp only [aa]
      cases B8 c.P e with
      | none => rfl
      | some sz => cases ev T x with
        | none => rfl
        | some v =>
          simp only [aa]
          split
          · cases Ct v with
            | none => rfl
            | some n =>
              simp only [aa]
              split
              · split <;> rfl
              · rfl
          · rfl
  case index t x i =>
    split
    · split
      · exact FN
      · rfl
    · rfl
  case extract x i =>
    split
    · exact FN
    · rfl
  case call k =>
    obtain ⟨callee, args, ats⟩ := k
    cases callee with
    | invoke r n => simp at hp
    | value f => simp at hp
    | builtin b =>
      cases b <;> simp only [bd] at hp
      case len =>
        simp only []
        split
        · split
          · rfl
          · rename_i v _ _
            cases Ct v <;> rfl
          · rfl
        · rfl
      case min =>
        simp only []
        split
        · split <;> rfl
        · rfl
      case max =>
        simp only []
        split
        · split <;> rfl
        · rfl
theorem Zp {c : Cx} (hs : c.still = true) {o : ch} (hp : J8 o = true) {T : Nat → V} {H H' : A6} {v : V} (h : Cb c o { T := T, H := H } = some (v, H')) : H' = H ∧ ∀ H2, Cb c o { T := T, H := H2 } = some (v, H2) := by
  by_cases hb : ∀ t n ps, o.op ≠ .buildSlice t n ps
  · have h1 := N8 (c := c) hp hb (T := T) (H := H) (H2 := H)
    rw [h] at h1
    simp only [aj, ab, ah, true_and] at h1
    exact ⟨h1, fun H2 => by rw [N8 (c := c) hp hb (T := T) (H := H) (H2 := H2), h]; rfl⟩
  · obtain ⟨t, n, ps, ho⟩ : ∃ t n ps, o.op = .buildSlice t n ps := fp fun hx => hb fun t n ps e => hx ⟨t, n, ps, e⟩
    simp only [Cb, ho] at h ⊢
    simp only [af, Prod.exists] at h
    obtain ⟨ps1, h1, ps2, H1, h2, e, h3, sz, h4, z, h5, h6⟩ := h
    obtain ⟨rfl, k⟩ := LV hs _ _ _ _ h2
    split at h6
    case isFalse => cases h6
    rename_i hc
    simp only [ag, ah] at h6
    obtain ⟨cs, h7, rfl, rfl⟩ := h6
    refine ⟨rfl, fun H2 => ?_⟩
    simp only [h1, aa, k H2, h3, h4, h5]
    rw [if_pos hc, h7]
    rfl
def Dc (c : Cx) (ops : Array ch) (o : ch) (S : St) : Option (V × A6) := (D1 ops S.T o).bind fun b => if b then Cb c o S else some (Ck, S.H)
def JF (dst : Option Nat) (r : V × A6) (S : St) : St := { T := match dst with | some d => fun i => if i = d then r.1 else S.T i | none => S.T, H := r.2 }
def gC (c : Cx) (o : ch) : Bool := match o.dst with | some d => decide (d < c.ntmps) | none => true
theorem EX (c : Cx) (ops : Array ch) (o : ch) (S : St) : Bx c ops o S = (Dc c ops o S).bind fun r => if gC c o = true then some (JF o.dst r S) else none := by
 unfold Bx Dc gC
 cases D1 ops S.T o with
 | none => rfl
 | some b =>
  simp only [aa]
  cases b with
  | true =>
   simp only [if_true, JS]
   cases o.dst with
   | none => cases Cb c o S <;> rfl
   | some d =>
    by_cases hd : d < c.ntmps
    ·simp only [hd, if_true, decide_true]; cases Cb c o S <;> rfl
    ·simp only [hd, if_false, decide_false]; cases Cb c o S <;> simp
  | false =>
   simp only [bd, if_false]
   cases o.dst with
   | none => rfl
   | some d =>
    by_cases hd : d < c.ntmps
    ·simp only [hd, if_true, decide_true, aa]; rfl
    ·simp only [hd, if_false, decide_false, aa]; simp
theorem Qz {ops : Array ch} {o : ch} {T T' : Nat → V} (h : ∀ t ∈ o.looksAt ops, T t = T' t) : D1 ops T o = D1 ops T' o := by
 unfold D1
 cases hg : o.guard with
 | none => rfl
 | some gw =>
  obtain ⟨j, want⟩ := gw
  simp only []
  cases ht : (ops[j]?).bind (·.dst) with
  | none => rfl
  | some t =>
   simp only []
   rw [h t (by simp [Oper.looksAt, hg, ht])]
theorem Ir {c : Cx} {ops : Array ch} {o : ch} {T T' : Nat → V} {H : A6} (h : ∀ t ∈ o.looksAt ops, T t = T' t) : Dc c ops o { T := T, H := H } = Dc c ops o { T := T', H := H } := by
  unfold Dc
  rw [Qz (T := T) (T' := T') h, RV c o (T := T) (T' := T') fun x hx => ?_]
  cases x with
  | tmp t =>
    simp only [ev]
    rw [h t (cd _ (ko.2 ⟨.tmp t, by simpa using hx, rfl⟩))]
  | _ => rfl
theorem RA {c : Cx} (hs : c.still = true) {ops : Array ch} {o : ch} (hp : J8 o = true) {T : Nat → V} {H H' : A6} {v : V} (h : Dc c ops o { T := T, H := H } = some (v, H')) : H' = H ∧ ∀ H2, Dc c ops o { T := T, H := H2 } = some (v, H2) := by
  unfold Dc at h ⊢
  simp only [af] at h
  obtain ⟨b, hb, h⟩ := h
  cases b with
  | true =>
    simp only [if_true] at h
    obtain ⟨k1, k2⟩ := Zp hs hp h
    exact ⟨k1, fun H2 => by simp only [hb, aa, if_true]; exact k2 H2⟩
  | false =>
    simp only [bd, if_false, ab, ah] at h
    obtain ⟨rfl, rfl⟩ := h
    exact ⟨rfl, fun H2 => by simp only [hb, aa, bd, if_false]⟩
def CJ (H H' : A6) : Prop := (∀ (b sz : Nat) (cs : List V), H[b]? = some (.cells sz cs) → H'[b]? = some (.cells sz cs)) ∧ ∀ (b : Nat) (BP : List (V × V)), H[b]? = some (.mp BP) → H'[b]? = some (.mp BP)
theorem CJ.refl (H : A6) : CJ H H := ⟨fun _ _ _ h => h, fun _ _ h => h⟩
theorem CJ.push (H x : A6) : CJ H (H ++ x) := ⟨fun b z cs hB => by rw [aw (ak.1 hB).1]; exact hB, fun b BP hB => by rw [aw (ak.1 hB).1]; exact hB⟩
theorem R9 {c : Cx} {ops : Array ch} {o : ch} (hp : HR o = true) {T : Nat → V} {H H' : A6} {v : V} (h : Dc c ops o { T := T, H := H } = some (v, H')) : H' = H ∧ ∀ H2, CJ H H2 → Dc c ops o { T := T, H := H2 } = some (v, H2) := by
  unfold Dc at h ⊢
  simp only [af] at h
  obtain ⟨b, hb, h⟩ := h
  cases b with
  | true =>
    simp only [if_true] at h
    unfold HR at hp
    split at hp
    case h_3 => cases hp
    · rename_i t x ho
      simp only [Cb, ho, af, ag, ah] at h
      obtain ⟨p, hx, v', hl, rfl, rfl⟩ := h
      refine ⟨rfl, fun H2 hsame => ?_⟩
      simp only [hb, aa, if_true, Cb, ho, hx]
      have : FL c.P t H2 p = some v' := by
        unfold FL at hl ⊢
        cases p with
        | ptr b off =>
          simp only [] at hl ⊢
          split at hl
          case h_2 => cases hl
          rename_i sz cs hB
          rw [hsame.1 b sz cs hB]
          exact hl
        | lp lv cs off => exact hl
        | _ => simp at hl
      rw [this]
      rfl
    · rename_i t x k ok ho
      simp only [Cb, ho, af, ag, ah] at h
      obtain ⟨m, hx, kv, hk, v', hl, rfl, rfl⟩ := h
      refine ⟨rfl, fun H2 hsame => ?_⟩
      simp only [hb, aa, if_true, Cb, ho, hx, hk]
      have : JR c.P t H2 m kv ok = some v' := by
        unfold JR at hl ⊢
        cases m with
        | Ft b =>
          simp only [] at hl ⊢
          split at hl
          case h_2 => cases hl
          rename_i BP hB
          rw [hsame.2 b BP hB]
          exact hl
        | _ => simp at hl
      rw [this]
      rfl
  | false =>
    simp only [bd, if_false, ab, ah] at h
    obtain ⟨rfl, rfl⟩ := h
    exact ⟨rfl, fun H2 _ => by simp only [hb, aa, bd, if_false]⟩
theorem XP {q : Sc} {x y : V} (hs : q ≠ .s) (h : FY q x y = some true) : x = y := by
 cases q <;> cases x <;> cases y <;> simp_all [FY]
theorem Om : ∀ {ks : List Sc} {xs ys : List V}, (ks.all fun q => decide (q ≠ .s)) = true → xs.length = ks.length → ys.length = ks.length → DD ks xs ys = some true → xs = ys
 | [], xs, ys, _, hx, hy, _ => by rw [cp hx, cp hy]
 | k :: ks, [], _, _, hx, _, _ => by simp at hx
 | k :: ks, _ :: _, [], _, _, hy, _ => by simp at hy
 | k :: ks, x :: xs, y :: ys, hk, hx, hy, h => by
  simp only [List.all_cons, ar, decide_eq_true_eq] at hk
  simp only [DD, af] at h
  obtain ⟨b, h1, h2⟩ := h
  cases b with
  | false => simp at h2
  | true =>
   simp only [if_true] at h2
   rw [XP hk.1 h1, Om hk.2 (by simpa using hx) (by simpa using hy) h2]
theorem YY {P : bm} {k : ao} {kt : KT} (hk : Qo P k = some kt) {x y : V} (h : ET kt x y = some true) : x = y := by
 cases kt with
 | one q =>
  cases q with
  | s =>
   cases x <;> cases y <;> simp only [ET] at h <;> try (cases h; done)
   simp only [ab] at h
   rw [(Go.MapKept.bytes_beq _ _).1 h]
  | b => cases x <;> cases y <;> simp_all [ET, FY]
  | i => cases x <;> cases y <;> simp_all [ET, FY]
 | many ks =>
  obtain ⟨xs, ys, rfl, rfl, h1, h2, h3⟩ := It h
  rw [Om (KQ hk).2 h1 h2 h3]
theorem Pe {kt : KT} {k z : V} (hs : ET kt k k = some true) : ∀ (BP : List (V × V)) (i : Nat), FK kt k BP i = some none → FK kt k (BP ++ [(k, z)]) i = some (some (i + BP.length, z))
 | [], i, _ => by simp [FK, hs]
 | e :: BP, i, h => by
  simp only [FK, af] at h
  obtain ⟨b, hb, h⟩ := h
  cases b with
  | true => simp at h
  | false =>
   simp only [bd, if_false] at h
   simp only [dt, FK, hb, aa, bd, if_false]
   rw [Pe hs BP (i + 1) h, List.length_cons]
   congr 3
   omega
theorem VV {c : Cx} {t : ao} {H H' : A6} {m k v r : V} (h : Jj c t H m k = some (v, H')) (hl : JR c.P t H m k false = some r) : JR c.P t H' m k false = some r := by
 unfold Jj at h
 split at h
 case h_2 => cases h
 rename_i b
 split at h
 case h_2 => cases h
 rename_i BP hb
 simp only [af] at h
 obtain ⟨q, hq, h⟩ := h
 split at h
 case isFalse => cases h
 rename_i hc
 simp only [af] at h
 obtain ⟨f, hf, h⟩ := h
 obtain ⟨kt, _, hkt⟩ := KR hq
 have hlt : b < H.length := (ak.1 hb).1
 unfold JR at hl ⊢
 simp only [hb, hq, aa, if_pos (show Bb k = true ∧ ET q.1 k k = some true from ⟨hc.1, hc.2.1⟩), hf] at hl
 cases f with
 | some f =>
  obtain ⟨i, vv⟩ := f
  simp only [ab, ah] at h
  obtain ⟨_, rfl⟩ := h
  obtain ⟨n, kk, h1, h2, h3⟩ := IW BP 0 i vv hf
  have : i = n := by omega
  subst this
  have hkk := YY hkt h3
  subst hkk
  have hset : BP.set i (k, vv) = BP := by
   apply je
   intro j
   rw [List.getElem?_set]
   split
   ·rename_i e; subst e; rw [if_pos (ak.1 h2).1, h2]
   ·rfl
  rw [hset]
  have hg : (H.set b (.mp BP))[b]? = some (.mp BP) := by rw [Ai, if_pos ⟨rfl, hlt⟩]
  simp only [hg, hq, aa, if_pos (show Bb k = true ∧ ET q.1 k k = some true from ⟨hc.1, hc.2.1⟩), hf]
  exact hl
 | none =>
  simp only [af] at h
  obtain ⟨z, hz, h⟩ := h
  split at h
  case isFalse => cases h
  simp only [ab, ah] at h
  obtain ⟨_, rfl⟩ := h
  simp only [aa, hz, aj] at hl
  have hg : (H.set b (.mp (BP ++ [(k, z)])))[b]? = some (.mp (BP ++ [(k, z)])) := by rw [Ai, if_pos ⟨rfl, hlt⟩]
  simp only [hg, hq, aa, if_pos (show Bb k = true ∧ ET q.1 k k = some true from ⟨hc.1, hc.2.1⟩), Pe hc.2.1 BP 0 hf]
  exact hl
theorem aL {cx cy : Cx} (hP : cx.P = cy.P) (hx : cx.still = true) (hy : cy.still = true) {ops : Array ch} {x y : ch} (hsw : JK ops x y = true) {S : St} {vx vy : V} {Hx Hy : A6} (h1 : Dc cx ops x S = some (vx, Hx)) (h2 : Dc cy ops y (JF x.dst (vx, Hx) S) = some (vy, Hy))
    (hk : HR x = true → Dt y = true → ∀ v H', Dc cy ops y S = some (v, H') → CJ S.H H') :
    ∃ H1, Dc cy ops y S = some (vy, H1) ∧ Dc cx ops x (JF y.dst (vy, H1) S) = some (vx, Hy) := by
  unfold JK at hsw
  simp only [ar, df] at hsw
  obtain ⟨⟨ha, _⟩, hcl⟩ := hsw
  obtain ⟨a1, a2, a3⟩ := Oper.apart_spec ha
  obtain ⟨T, H⟩ := S
  have ey : ∀ H', Dc cy ops y (JF x.dst (vx, H') { T := T, H := H }) = Dc cy ops y { T := T, H := H' } := by
    intro H'
    unfold JF
    refine Ir fun t ht => ?_
    cases hd : x.dst with
    | none => rfl
    | some d =>
      simp only []
      rw [if_neg (fun (e : t = d) => a1 d hd (e ▸ ht))]
  have ex : ∀ v H', Dc cx ops x (JF y.dst (v, H') { T := T, H := H }) = Dc cx ops x { T := T, H := H' } := by
    intro v H'
    unfold JF
    refine Ir fun t ht => ?_
    cases hd : y.dst with
    | none => rfl
    | some d =>
      simp only []
      rw [if_neg (fun (e : t = d) => a3 d hd (e ▸ ht))]
  rw [ey] at h2
  rcases hcl with ((hp | hp) | hp) | hp
  · obtain ⟨rfl, k⟩ := RA hx hp h1
    exact ⟨Hy, h2, by rw [ex]; exact k Hy⟩
  · obtain ⟨rfl, k⟩ := RA hy hp h2
    exact ⟨H, k H, by rw [ex]; exact h1⟩
  · obtain ⟨hl, hp⟩ := hp
    obtain ⟨rfl, k⟩ := R9 hl h1
    rcases hp with hp | hp
    · obtain ⟨rfl, _⟩ := R9 hp h2
      exact ⟨Hy, h2, by rw [ex]; exact h1⟩
    · exact ⟨Hy, h2, by rw [ex]; exact k Hy (hk hl hp _ _ h2)⟩
  · obtain ⟨⟨he, hgx⟩, hgy⟩ := hp
    unfold Pw at he
    split at he
    case h_2 => cases he
    rename_i t ax kx t' ay ky hox hoy
    simp only [ar, beq_iff_eq] at he
    obtain ⟨⟨rfl, rfl⟩, rfl⟩ := he
    have g1 : x.guard = none := by unfold IH at hgx; split at hgx; assumption; cases hgx
    have g2 : y.guard = none := by unfold IH at hgy; split at hgy; assumption; cases hgy
    have e1 : ∀ H', Dc cx ops x { T := T, H := H' } = (JR cx.P t H' (T ax) (T kx) false).map fun v => (v, H') := by
      intro H'
      simp only [Dc, D1, g1, aa, if_true, Cb, hox, ev]
    have e2 : Dc cy ops y { T := T, H := Hx } = Jj cy t Hx (T ax) (T kx) := by
      simp only [Dc, D1, g2, aa, if_true, Cb, hoy, ev]
    rw [e1, ag] at h1
    obtain ⟨r, hr, h1⟩ := h1
    simp only [ah] at h1
    obtain ⟨rfl, rfl⟩ := h1
    refine ⟨Hy, h2, ?_⟩
    rw [ex, e1]
    rw [e2] at h2
    rw [hP] at hr ⊢
    rw [VV h2 hr]
    rfl
theorem Nf {cx cy : Cx} {ops : Array ch} {x y : ch} (ha : Oper.apart ops x y = true) {S S1 S2 : St} (h1 : Bx cx ops x S = some S1) (h2 : Bx cy ops y S1 = some S2)
  (key : ∀ vx Hx vy Hy, Dc cx ops x S = some (vx, Hx) → Dc cy ops y (JF x.dst (vx, Hx) S) = some (vy, Hy) → ∃ H1, Dc cy ops y S = some (vy, H1) ∧ Dc cx ops x (JF y.dst (vy, H1) S) = some (vx, Hy)) :
  ∃ S1', Bx cy ops y S = some S1' ∧ Bx cx ops x S1' = some S2 := by
 rw [EX] at h1 h2
 simp only [af, Prod.exists] at h1 h2
 obtain ⟨vx, Hx, e1, h1⟩ := h1
 obtain ⟨vy, Hy, e2, h2⟩ := h2
 split at h1
 case isFalse => cases h1
 rename_i c1
 split at h2
 case isFalse => cases h2
 rename_i c2
 simp only [ab] at h1 h2
 subst h1
 obtain ⟨H1, k1, k2⟩ := key _ _ _ _ e1 e2
 refine ⟨JF y.dst (vy, H1) S, ?_, ?_⟩
 ·rw [EX, k1]
  simp only [aa]
  rw [if_pos c2]
 ·rw [EX, k2]
  simp only [aa]
  rw [if_pos c1, ← h2]
  obtain ⟨_, a2, _⟩ := Oper.apart_spec ha
  unfold JF
  congr 1
  simp only [St.mk.injEq, and_true]
  cases hdx : x.dst with
  | none => rfl
  | some dx =>
   cases hdy : y.dst with
   | none => rfl
   | some dy =>
    have hne : dy ≠ dx := fun e => a2 dx hdx (by rw [hdy, e])
    funext i
    simp only []
    by_cases hi : i = dx
    ·subst hi
     rw [if_pos rfl, if_neg (fun e => hne e.symm), if_pos rfl]
    ·rw [if_neg hi]
     by_cases hj : i = dy
     ·rw [if_pos hj, if_pos hj]
     ·rw [if_neg hj, if_neg hj, if_neg hi]
theorem VL {cx cy : Cx} (hP : cx.P = cy.P) (hn : cx.ntmps = cy.ntmps) (hx : cx.still = true) (hy : cy.still = true) {ops : Array ch} {x y : ch} (hsw : JK ops x y = true) {S S1 S2 : St} (h1 : Bx cx ops x S = some S1) (h2 : Bx cy ops y S1 = some S2)
  (hk : HR x = true → Dt y = true → ∀ v H', Dc cy ops y S = some (v, H') → CJ S.H H') :
  ∃ S1', Bx cy ops y S = some S1' ∧ Bx cx ops x S1' = some S2 := by
 refine Nf ?_ h1 h2 fun vx Hx vy Hy e1 e2 => aL hP hx hy hsw e1 e2 hk
 unfold JK at hsw
 simp only [ar] at hsw
 exact hsw.1.1
theorem Sw {c : Cx} {ops : Array ch} {o : ch} {S S' : St} (h : Bx c ops o S = some S') {a : Nat} (hd : o.dst ≠ some a) : S'.T a = S.T a := by
 rw [EX] at h
 simp only [af] at h
 obtain ⟨r, _, h⟩ := h
 split at h
 case isFalse => cases h
 simp only [ab] at h
 subst h
 unfold JF
 cases hh : o.dst with
 | none => rfl
 | some d =>
  show (if a = d then _ else _) = _
  rw [if_neg]
  rintro rfl
  exact hd hh
theorem Zs {cf : Nat → Cx} {ops : Array ch} {a : Nat} : ∀ (l : List Nat) {S S' : St}, De cf ops l S = some S' → (∀ k ∈ l, ∀ o, ops[k]? = some o → o.dst ≠ some a) → S'.T a = S.T a
 | [], S, S', h, _ => by simp only [De, ab] at h; rw [h]
 | k :: l, S, S', h, hd => by
  simp only [De] at h
  split at h
  ·cases h
  rename_i o ho
  simp only [af] at h
  obtain ⟨S1, h1, h2⟩ := h
  rw [Zs l h2 fun k' hk' => hd k' (bw _ hk')]
  exact Sw h1 (hd k (ck ..) o ho)
theorem aK {c : Cx} {t : ao} {H H' : A6} {q off : Nat} {w : V} (h : G7 c t H (.ptr q off) w = some H') (hq : c.base ≤ q) : ∃ x, H' = H.set q x := by
 unfold G7 at h
 simp only [if_neg (dw.2 hq), aa] at h
 split at h
 case isFalse => cases h
 split at h
 ·split at h
  ·simp only [ab] at h
   exact ⟨_, h.symm⟩
  ·cases h
 ·cases h
theorem eM {cx cy : Cx} {ops : Array ch} {x y : ch} {t t' : ao} {a b : Nat} {v : au} (hx : x.op = .load t (.tmp a)) (hy : y.op = .store t' (.tmp b) v) (gx : x.guard = none) (gy : y.guard = none) (ha : Oper.apart ops x y = true) {S S1 S2 : St} (h1 : Bx cx ops x S = some S1) (h2 : Bx cy ops y S1 = some S2)
    (hp : En cy.base (S.T a) (S.T b) = true) : ∃ S1', Bx cy ops y S = some S1' ∧ Bx cx ops x S1' = some S2 := by
  refine Nf ha h1 h2 fun vx Hx vy Hy e1 e2 => ?_
  obtain ⟨a1, a2, a3⟩ := Oper.apart_spec ha
  obtain ⟨T, H⟩ := S
  have ey : ∀ H', Dc cy ops y (JF x.dst (vx, H') { T := T, H := H }) = Dc cy ops y { T := T, H := H' } := by
    intro H'
    unfold JF
    refine Ir fun t ht => ?_
    cases hd : x.dst with
    | none => rfl
    | some d =>
      simp only []
      rw [if_neg (fun (e : t = d) => a1 d hd (e ▸ ht))]
  have ex : ∀ v H', Dc cx ops x (JF y.dst (v, H') { T := T, H := H }) = Dc cx ops x { T := T, H := H' } := by
    intro v H'
    unfold JF
    refine Ir fun t ht => ?_
    cases hd : y.dst with
    | none => rfl
    | some d =>
      simp only []
      rw [if_neg (fun (e : t = d) => a3 d hd (e ▸ ht))]
  have x1 : ∀ H', Dc cx ops x { T := T, H := H' } = (FL cx.P t H' (T a)).map fun v => (v, H') := by
    intro H'
    simp only [Dc, D1, gx, aa, if_true, Cb, hx, ev]
  have y1 : ∀ H', Dc cy ops y { T := T, H := H' } = (ev T v).bind fun w => (G7 cy t' H' (T b) w).map fun H => (Ck, H) := by
    intro H'
    simp only [Dc, D1, gy, aa, if_true, Cb, hy]
    rfl
  rw [ey] at e2
  rw [x1, ag] at e1
  obtain ⟨r, hr, e1⟩ := e1
  simp only [ah] at e1
  obtain ⟨rfl, rfl⟩ := e1
  refine ⟨Hy, e2, ?_⟩
  rw [ex, x1]
  rw [y1] at e2
  simp only [af, ag, ah] at e2
  obtain ⟨w, _, H2, e2, _, rfl⟩ := e2
  have hl : FL cx.P t H2 (T a) = FL cx.P t H (T a) := by
    simp only [] at hp
    cases hb : T b with
    | ptr q off =>
      rw [hb] at hp e2
      cases hA : T a with
      | ptr p o =>
        rw [hA] at hp
        simp only [En, ar, bne_iff_ne, ne_eq, decide_eq_true_eq] at hp
        obtain ⟨z, rfl⟩ := aK e2 hp.2
        unfold FL
        simp only []
        rw [Ai, if_neg]
        rintro ⟨e, _⟩
        exact hp.1 e.symm
      | lp _ _ _ => rfl
      | _ => rw [hA] at hp; simp [En] at hp
    | _ => rw [hb] at hp; cases hA : T a <;> rw [hA] at hp <;> simp [En] at hp
  rw [hl, hr]; rfl
def D7 (lo : Nat) (lk : Lk) (H H' : A6) : Prop := H.length ≤ H'.length ∧ ∀ b, b < lo → AX lk b = false → H'[b]? = H[b]?
theorem D7.refl (lo : Nat) (lk : Lk) (H : A6) : D7 lo lk H H := ⟨al _, fun _ _ _ => rfl⟩
theorem D7.trans {lo : Nat} {lk : Lk} {A B C : A6} (h : D7 lo lk A B) (k : D7 lo lk B C) : D7 lo lk A C := ⟨cu h.1 k.1, fun b hb hl => (k.2 b hb hl).trans (h.2 b hb hl)⟩
def GI (Γ : eg → List V → A6 → Lk → Option (V × A6)) : Prop := ∀ k args H lk v H', Γ k args H lk = some (v, H') → D7 H.length lk H H'
theorem RN {lo : Nat} {lk : Lk} {H : A6} (x : List Bz) (hl : lo ≤ H.length) : D7 lo lk H (H ++ x) :=
 ⟨by simp, fun b hb _ => by rw [aw (by omega)]⟩
theorem Ib {c : Cx} {H : A6} {b : Nat} {x : Bz} (hm : c.BV b = true) : D7 c.base c.lk H (H.set b x) := by
 refine ⟨by simp, fun y hy hl => ?_⟩
 rw [Ai, if_neg]
 rintro ⟨rfl, _⟩
 unfold Cx.BV at hm
 simp only [df, decide_eq_true_eq] at hm
 rcases hm with hm | hm
 ·omega
 ·rw [hm] at hl; cases hl
theorem N0 {lo k : Nat} {lk : Lk} {H H' : A6} {v v' : V} (h : BC lo k H v = some (v', H')) : D7 lo lk H H' :=
 ⟨by rw [Hz lo k H v v' H' h]; exact al _, fun b hb _ => KN lo k H v v' H' h b hb⟩
theorem RM {c : Cx} : ∀ (vs : List V) (ms : List Ui) (H : A6) (vs' : List V) (M : List Nat) (H' : A6), An c ms H vs = some (vs', M, H') → D7 c.base c.lk H H' ∧ H'.length = H.length ∧ (c.calm = true → H' = H)
 | [], ms, H, vs', M, H', h => by
  simp only [An, ab, ah] at h
  obtain ⟨_, _, rfl⟩ := h
  exact ⟨D7.refl _ _ _, rfl, fun _ => rfl⟩
 | v :: vs, ms, H, vs', M, H', h => by
  simp only [An, af, ag, Prod.exists, ah] at h
  obtain ⟨v1, M1, Hm, h1, vs2, M2, H2, h2, _, _, rfl⟩ := h
  obtain ⟨k1, l1, c1⟩ := RM vs ms.tail Hm vs2 M2 H2 h2
  have key : D7 c.base c.lk H Hm ∧ Hm.length = H.length ∧ (c.calm = true → Hm = H) := by
   unfold H5 at h1
   cases hmode : ms.headD .Qp with
   | Qp =>
    simp only [hmode, ag, Prod.exists, ah] at h1
    obtain ⟨_, _, _, _, _, rfl⟩ := h1
    exact ⟨D7.refl _ _ _, rfl, fun _ => rfl⟩
   | exact =>
    simp only [hmode, ab, ah] at h1
    obtain ⟨_, _, rfl⟩ := h1
    exact ⟨D7.refl _ _ _, rfl, fun _ => rfl⟩
   | share =>
    simp only [hmode] at h1
    split at h1
    ·cases h1
    rename_i hc
    simp only [ag, Prod.exists, ah] at h1
    obtain ⟨v1', Hm', hg, _, _, rfl⟩ := h1
    exact ⟨N0 hg, Hz _ _ _ _ _ _ hg, fun hx => absurd hx hc⟩
  exact ⟨key.1.trans k1, l1.trans key.2.1, fun hx => (c1 hx).trans (key.2.2 hx)⟩
theorem Py {c : Cx} : ∀ (ps : List (Nat × V)) (H : A6) (ps' : List (Nat × V)) (H' : A6), CZ c H ps = some (ps', H') → D7 c.base c.lk H H'
 | [], H, ps', H', h => by
  simp only [CZ, ab, ah] at h
  obtain ⟨_, rfl⟩ := h
  exact D7.refl _ _ _
 | (i, v) :: ps, H, ps', H', h => by
  simp only [CZ, af, ag, Prod.exists, ah] at h
  obtain ⟨v1, H1, hv, ps2, H3, h2, _, rfl⟩ := h
  refine D7.trans ?_ (Py ps H1 ps2 H3 h2)
  unfold Gc at hv
  split at hv
  ·simp only [ab, ah] at hv
   obtain ⟨_, rfl⟩ := hv
   exact D7.refl _ _ _
  split at hv
  ·split at hv
   ·simp only [ab, ah] at hv
    obtain ⟨_, rfl⟩ := hv
    exact D7.refl _ _ _
   ·cases hv
  ·exact N0 hv
theorem VR {c : Cx} {t : ao} {H H' : A6} {p x : V} (h : G7 c t H p x = some H') : D7 c.base c.lk H H' := by
 cases p with
 | ptr b off =>
  simp only [G7] at h
  split at h
  case isFalse => cases h
  rename_i hm
  simp only [af, Prod.exists] at h
  obtain ⟨x1, H1, hx, h⟩ := h
  split at h
  case h_2 => cases h
  split at h
  case isFalse => cases h
  simp only [ab] at h
  subst h
  refine D7.trans ?_ (Ib hm)
  split at hx
  ·split at hx
   ·split at hx
    ·simp only [ab, ah] at hx
     obtain ⟨_, rfl⟩ := hx
     exact D7.refl _ _ _
    ·cases hx
   ·exact N0 hx
  ·simp only [ab, ah] at hx
   obtain ⟨_, rfl⟩ := hx
   exact D7.refl _ _ _
 | _ => simp [G7] at h
theorem Tx {c : Cx} {st xt : ao} {H H' : A6} {s x v : V} (hb : c.base ≤ H.length) (h : Dz c st xt H s x = some (v, H')) : D7 c.base c.lk H H' ∧ CJ H H' := by
 unfold Dz at h
 simp only [af] at h
 obtain ⟨e, _, sz, _, by_, _, z, _, h⟩ := h
 split at h
 case isFalse => cases h
 simp only [af] at h
 obtain ⟨n, _, xs, _, h⟩ := h
 split at h
 case isFalse => cases h
 have none_ : some (s, H) = some (v, H') → D7 c.base c.lk H H' ∧ CJ H H' := by
  intro h
  simp only [ab, ah] at h
  obtain ⟨_, rfl⟩ := h
  exact ⟨D7.refl _ _ _, CJ.refl _⟩
 split at h
 ·split at h
  ·exact none_ h
  ·split at h
   case isFalse => cases h
   simp only [ab, ah] at h
   obtain ⟨_, rfl⟩ := h
   exact ⟨RN _ hb, CJ.push _ _⟩
 ·split at h
  ·exact none_ h
  ·split at h
   case h_2 => cases h
   rename_i l m' sz' hB
   split at h
   case isFalse => cases h
   rename_i hc
   simp only [ab, ah] at h
   obtain ⟨_, rfl⟩ := h
   refine ⟨Ib hc.2.2.2.2, fun b z cs hb => ?_, fun b BP hb => ?_⟩ <;>
   ·rw [Ai, if_neg]
    ·exact hb
    ·rintro ⟨rfl, _⟩
     rw [hB] at hb
     cases hb
 ·cases h
theorem ZV {c : Cx} {t : ao} {H H' : A6} {m k v : V} (h : W4 c t H m k v = some H') : D7 c.base c.lk H H' := by
 unfold W4 at h
 split at h
 case h_2 => cases h
 split at h
 case h_2 => cases h
 simp only [af] at h
 obtain ⟨q, _, h⟩ := h
 split at h
 case isFalse => cases h
 rename_i hc
 simp only [ag] at h
 obtain ⟨r, _, rfl⟩ := h
 cases r <;> exact Ib hc.2.2.2
theorem VQ {c : Cx} {t : ao} {H H' : A6} {m k v : V} (h : Jj c t H m k = some (v, H')) : D7 c.base c.lk H H' := by
 unfold Jj at h
 split at h
 case h_2 => cases h
 split at h
 case h_2 => cases h
 simp only [af] at h
 obtain ⟨q, _, h⟩ := h
 split at h
 case isFalse => cases h
 rename_i hc
 simp only [af] at h
 obtain ⟨r, _, h⟩ := h
 cases r with
 | some r =>
  obtain ⟨i, w⟩ := r
  simp only [ab, ah] at h
  obtain ⟨_, rfl⟩ := h
  exact Ib hc.2.2
 | none =>
  simp only [af] at h
  obtain ⟨z, _, h⟩ := h
  split at h
  case isFalse => cases h
  simp only [ab, ah] at h
  obtain ⟨_, rfl⟩ := h
  exact Ib hc.2.2
theorem VP {c : Cx} {H H' : A6} {m s v : V} (h : Ol c H m s v = some H') : D7 c.base c.lk H H' := by
 unfold Ol at h
 split at h
 case h_2 => cases h
 split at h
 case h_2 => cases h
 split at h
 case isFalse => cases h
 rename_i hc
 simp only [ag] at h
 obtain ⟨e, _, rfl⟩ := h
 exact Ib hc.2.2
theorem QF {c : Cx} {o : ch} {t : ao} {n : Nat} {ps : Array (Nat × au)} (ho : o.op = .buildSlice t n ps) {S : St} {v : V} {H' : A6} (h : Cb c o S = some (v, H')) : D7 c.base c.lk S.H H' := by
 simp only [Cb, ho, af, Prod.exists] at h
 obtain ⟨ps1, h1, ps2, H1, h2, e, h3, sz, h4, z, h5, h6⟩ := h
 split at h6
 case isFalse => cases h6
 simp only [ag, ah] at h6
 obtain ⟨cs, h7, rfl, rfl⟩ := h6
 exact Py _ _ _ _ h2
theorem Zo {c : Cx} (hΓ : GI c.Γ) {o : ch} {S : St} {v : V} {H' : A6} (hb : c.base ≤ S.H.length) (h : Cb c o S = some (v, H')) :
  D7 c.base c.lk S.H H' ∧ (Dt o = true → (Ek o = true → c.calm = true) → CJ S.H H') := by
 have push : ∀ x, D7 c.base c.lk S.H (S.H ++ x) ∧ CJ S.H (S.H ++ x) := fun x =>
  ⟨RN _ hb, CJ.push _ _⟩
 by_cases hp : J8 o = true
 ·by_cases hbs : ∀ t n ps, o.op ≠ .buildSlice t n ps
  ·obtain ⟨T, H⟩ := S
   have h1 := N8 (c := c) hp hbs (T := T) (H := H) (H2 := H)
   rw [h] at h1
   simp only [aj, ab, ah, true_and] at h1
   subst h1
   exact ⟨D7.refl _ _ _, fun _ _ => CJ.refl _⟩
  ·obtain ⟨t, n, ps, ho⟩ : ∃ t n ps, o.op = .buildSlice t n ps := fp fun hx => hbs fun t n ps e => hx ⟨t, n, ps, e⟩
   exact ⟨QF ho h, fun hk => by simp [Dt, ho] at hk⟩
 ·unfold J8 at hp
  cases ho : o.op <;> simp only [ho, not_true_eq_false] at hp <;> simp only [Cb, ho] at h <;> try (cases h; done)
  case alloc t =>
   simp only [af, ab, ah] at h
   obtain ⟨sz, _, z, hz, rfl, rfl⟩ := h
   exact ⟨(push _).1, fun _ _ => (push _).2⟩
  case box t x =>
   simp only [af] at h
   obtain ⟨sz, _, w, hw, h⟩ := h
   split at h
   ·simp only [ab, ah] at h
    obtain ⟨rfl, rfl⟩ := h
    exact ⟨(push _).1, fun _ _ => (push _).2⟩
   ·cases h
  case load t x =>
   simp only [af, ag, ah] at h
   obtain ⟨p, hp, _, hl, rfl, rfl⟩ := h
   exact ⟨D7.refl _ _ _, fun _ _ => CJ.refl _⟩
  case store t p x =>
   simp only [af, ag, ah] at h
   obtain ⟨P, hp, X, hx, H1, h1, rfl, rfl⟩ := h
   exact ⟨VR h1, fun hk => by simp [Dt, ho] at hk⟩
  case makeSlice t n m =>
   simp only [af] at h
   obtain ⟨N, hn, M, hm, h⟩ := h
   unfold Jz at h
   split at h
   case h_2 => cases h
   simp only [af] at h
   obtain ⟨e, he, sz, hsz, by_, hby, z, hz, h⟩ := h
   split at h
   case isFalse => cases h
   simp only [ab, ah] at h
   obtain ⟨rfl, rfl⟩ := h
   exact ⟨(push _).1, fun _ _ => (push _).2⟩
  case makeMap t r =>
   cases r with
   | none =>
    simp only [ab, ah] at h
    obtain ⟨rfl, rfl⟩ := h
    exact ⟨(push _).1, fun _ _ => (push _).2⟩
   | some r => cases h
  case lookup t x k ok =>
   simp only [af, ag, ah] at h
   obtain ⟨m, _, kv, _, _, _, _, rfl⟩ := h
   exact ⟨D7.refl _ _ _, fun _ _ => CJ.refl _⟩
  case mapUpdate t x k y =>
   simp only [af, ag, ah] at h
   obtain ⟨m, _, kv, _, w, _, H1, h1, _, rfl⟩ := h
   exact ⟨ZV h1, fun hk => by simp [Dt, ho] at hk⟩
  case mapEntry t x k =>
   simp only [af] at h
   obtain ⟨m, _, kv, _, h⟩ := h
   exact ⟨VQ h, fun hk => by simp [Dt, ho] at hk⟩
  case entryStore t x st y =>
   simp only [af, ag, ah] at h
   obtain ⟨m, _, sv, _, w, _, H1, h1, _, rfl⟩ := h
   exact ⟨VP h1, fun hk => by simp [Dt, ho] at hk⟩
  case call k =>
   obtain ⟨callee, args, ats⟩ := k
   cases callee with
   | invoke r n => cases h
   | value f =>
    simp only [] at h
    split at h
    case h_2 => cases h
    rename_i g caps hf
    simp only [af, Prod.exists] at h
    obtain ⟨vs, hvs, as, M, H1, hl, hg⟩ := h
    obtain ⟨k1, k2, k3⟩ := RM _ _ _ _ _ _ hl
    obtain ⟨q1, q2⟩ := hΓ _ _ _ _ _ _ hg
    have hlocked : c.calm = true → ∀ b, b < S.H.length → H'[b]? = S.H[b]? := fun hc b hlt => by
     have hH := k3 hc
     subst hH
     refine q2 b hlt ?_
     rw [ju]
     intro hx
     unfold AX at hx
     rw [cj] at hx
     have := hx _ (aq.2 (.inr (bh.2 rfl)))
     simp only [Cx.CF, hc, if_true, eb, fa, decide_eq_false_iff_not] at this
     exact this (aq.2 (.inr (cr.2 hlt)))
    refine ⟨k1.trans ⟨q1, fun b hbb hbl => q2 b (by rw [k2]; omega) ?_⟩, fun _ hcalm => ⟨fun b z cs hB => ?_, fun b BP hB => ?_⟩⟩
    ·rw [ju] at hbl ⊢
     intro hx
     refine hbl ?_
     unfold AX at hx ⊢
     rw [cj] at hx ⊢
     exact fun l hl => hx l (aq.2 (.inl hl))
    ·rw [hlocked (hcalm (by simp [Ek, ho])) b (ak.1 hB).1]; exact hB
    ·rw [hlocked (hcalm (by simp [Ek, ho])) b (ak.1 hB).1]; exact hB
   | builtin b =>
    cases b <;> simp only [not_true_eq_false] at hp <;> try (cases h; done)
    case append =>
     simp only [] at h
     split at h
     case h_2 => cases h
     simp only [af] at h
     obtain ⟨p, hp, q, hq, h⟩ := h
     obtain ⟨k1, k2⟩ := Tx hb h
     exact ⟨k1, fun _ _ => k2⟩
def Cx.BQ (c : Cx) (s k : Bool) : Cx := { c with still := s, calm := k }
theorem TV {c : Cx} (hΓ : GI c.Γ) {ops : Array ch} {o : ch} {S : St} {v : V} {H' : A6} (hb : c.base ≤ S.H.length) (h : Dc c ops o S = some (v, H')) :
  D7 c.base c.lk S.H H' ∧ (Dt o = true → (Ek o = true → c.calm = true) → CJ S.H H') := by
 unfold Dc at h
 simp only [af] at h
 obtain ⟨b, _, h⟩ := h
 cases b with
 | true => exact Zo hΓ hb (by simpa using h)
 | false =>
  simp only [bd, if_false, ab, ah] at h
  obtain ⟨_, rfl⟩ := h
  exact ⟨D7.refl _ _ _, fun _ _ => CJ.refl _⟩
theorem Pr {c : Cx} (hΓ : GI c.Γ) {ops : Array ch} {o : ch} {S S' : St} (hb : c.base ≤ S.H.length) (h : Bx c ops o S = some S') : D7 c.base c.lk S.H S'.H := by
 rw [EX] at h
 simp only [af, Prod.exists] at h
 obtain ⟨v, H', h1, h2⟩ := h
 split at h2
 case isFalse => cases h2
 simp only [ab] at h2
 subst h2
 exact (TV hΓ hb h1).1
theorem QI {c : Cx} (hΓ : GI c.Γ) {cf : Nat → Cx} (hcf : ∀ i, ∃ s k, cf i = c.BQ s k) {ops : Array ch} : ∀ (l : List Nat) {S S' : St}, c.base ≤ S.H.length → De cf ops l S = some S' → D7 c.base c.lk S.H S'.H
 | [], S, S', hb, h => by
  simp only [De, ab] at h
  subst h
  exact D7.refl _ _ _
 | i :: l, S, S', hb, h => by
  simp only [De] at h
  split at h
  ·cases h
  simp only [af] at h
  obtain ⟨S1, h1, h2⟩ := h
  obtain ⟨s, k, hc⟩ := hcf i
  rw [hc] at h1
  have k1 := Pr (c := c.BQ s k) hΓ hb h1
  exact D7.trans k1 (QI hΓ hcf l (cu hb k1.1) h2)
theorem RK {lo : Nat} {lk : Lk} {f : St → Option (X × St)} (hf : ∀ S x S', lo ≤ S.H.length → f S = some (x, S') → D7 lo lk S.H S'.H) : ∀ (n : Nat) {S S' : St} {x : X}, lo ≤ S.H.length → FE f n S = some (x, S') → D7 lo lk S.H S'.H
 | 0, S, S', x, hb, h => by simp [FE] at h
 | n + 1, S, S', x, hb, h => by
  simp only [FE] at h
  split at h
  ·rename_i S1 h1
   have k1 := hf _ _ _ hb h1
   exact k1.trans (RK hf n (cu hb k1.1) h)
  ·exact hf _ _ _ hb h
theorem E8 {c : Cx} (hΓ : GI c.Γ) (n : Nat) : ∀ (b : Code) {S S' : St} {x : X}, c.base ≤ S.H.length → Ar c n b S = some (x, S') → D7 c.base c.lk S.H S'.H
 | .skip, S, S', x, hb, h => by
  simp only [Ar, ab, ah] at h
  obtain ⟨_, rfl⟩ := h
  exact D7.refl _ _ _
 | .region id ops draw, S, S', x, hb, h => by
  simp only [Ar, ag, ah] at h
  obtain ⟨S1, h1, _, rfl⟩ := h
  split at h1
  ·split at h1
   ·simp only [af] at h1
    obtain ⟨S2, h1, h2⟩ := h1
    split at h2
    ·cases h2; exact QI hΓ (cf := FX c ops) (fun i => ⟨true, _, rfl⟩) _ hb h1
    ·cases h2
   ·cases h1
  ·exact QI hΓ (cf := fun _ => c) (fun i => ⟨c.still, c.calm, rfl⟩) _ hb h1
 | .seq p q, S, S', x, hb, h => by
  simp only [Ar] at h
  split at h
  ·rename_i S1 h1
   have k1 := E8 hΓ n p hb h1
   exact k1.trans (E8 hΓ n q (cu hb k1.1) h)
  ·exact E8 hΓ n p hb h
 | .cond y p q, S, S', x, hb, h => by
  simp only [Ar] at h
  split at h
  ·exact E8 hΓ n p hb h
  ·exact E8 hΓ n q hb h
  ·cases h
 | .block id p, S, S', x, hb, h => by
  simp only [Ar] at h
  split at h
  ·rename_i i S1 h1
   have k1 := E8 hΓ n p hb h1
   split at h <;>
   ·simp only [ab, ah] at h
    obtain ⟨_, rfl⟩ := h
    exact k1
  ·exact E8 hΓ n p hb h
 | .loop p, S, S', x, hb, h => by
  simp only [Ar] at h
  exact RK (fun S x S' hb h => E8 hΓ n p hb h) n hb h
 | .exit id, S, S', x, hb, h => by
  simp only [Ar, ab, ah] at h
  obtain ⟨_, rfl⟩ := h
  exact D7.refl _ _ _
 | .ret, S, S', x, hb, h => by
  simp only [Ar, ab, ah] at h
  obtain ⟨_, rfl⟩ := h
  exact D7.refl _ _ _
 | .label _, _, _, _, _, h => by simp [Ar] at h
 | .goto _, _, _, _, _, h => by simp [Ar] at h
 | .scope _, _, _, _, _, h => by simp [Ar] at h
 | .refuse _, _, _, _, _, h => by simp [Ar] at h
 | .rangeFunc .., _, _, _, _, h => by simp [Ar] at h
def Gt (lo : Nat) (H H' : A6) : Prop := H'.length = H.length ∧ ∀ b, b < lo → H'[b]? = H[b]?
theorem Gt.refl (lo : Nat) (H : A6) : Gt lo H H := ⟨rfl, fun _ _ => rfl⟩
theorem Gt.trans {lo : Nat} {A B C : A6} (h : Gt lo A B) (k : Gt lo B C) : Gt lo A C := ⟨k.1.trans h.1, fun b hb => (k.2 b hb).trans (h.2 b hb)⟩
theorem Gt.kill {lo b : Nat} (H : A6) (hb : ¬ b < lo) : Gt lo H (H.set b .dead) :=
 ⟨by simp, fun x hx => by rw [Ai, if_neg]; rintro ⟨rfl, _⟩; exact hb hx⟩
theorem Rb {lo : Nat} {f : A6 × List Bz → V → Option (V × A6 × List Bz)} (hf : ∀ X v v' X', f X v = some (v', X') → Gt lo X.1 X'.1) :
  ∀ (vs : List V) (X : A6 × List Bz) (vs' : List V) (X' : A6 × List Bz), BL.resL f X vs = some (vs', X') → Gt lo X.1 X'.1
 | [], X, vs', X', h => by
  simp only [BL.resL, ab, ah] at h
  obtain ⟨_, rfl⟩ := h
  exact Gt.refl _ _
 | v :: vs, X, vs', X', h => by
  simp only [BL.resL, af, ag, Prod.exists] at h
  obtain ⟨v1, Ha, na, h1, vs2, Hb, nb, h2, h3⟩ := h
  simp only [ah] at h3
  obtain ⟨_, rfl⟩ := h3
  exact (hf _ _ _ _ h1).trans (Rb hf vs _ _ _ h2)
theorem Rc {th : Bool} {lo d : Nat} : ∀ (k : Nat) (X : A6 × List Bz) (v v' : V) (X' : A6 × List Bz), BL th lo d k X v = some (v', X') → Gt lo X.1 X'.1
 | 0, X, v, v', X', h => by simp [BL] at h
 | k + 1, X, v, v', X', h => by
  have ih := Rb fun X v v' X' h => Rc (th := th) (lo := lo) (d := d) k X v v' X' h
  have same : ∀ {x : V}, some (x, X) = some (v', X') → Gt lo X.1 X'.1 := by
   intro x h
   simp only [ab, ah] at h
   obtain ⟨_, rfl⟩ := h
   exact Gt.refl _ _
  cases v with
  | int _ _ => simp only [BL] at h; exact same h
  | bool _ => simp only [BL] at h; exact same h
  | str _ => simp only [BL] at h; exact same h
  | IJ => simp only [BL] at h; exact same h
  | FP => simp only [BL] at h; exact same h
  | ptr b _ =>
   simp only [BL] at h
   split at h
   ·exact same h
   ·cases h
  | Ft b =>
   simp only [BL] at h
   split at h
   ·exact same h
   ·cases h
  | lit _ _ _ =>
   simp only [BL] at h
   split at h
   ·exact same h
   ·cases h
  | tl n cs =>
   simp only [BL] at h
   split at h
   ·exact same h
   ·simp only [ag, Prod.exists, ah] at h
    obtain ⟨cs', Ha, na, h1, _, rfl⟩ := h
    exact ih _ _ _ _ h1
  | snap b n cs =>
   simp only [BL] at h
   split at h
   case h_2 => cases h
   split at h
   ·cases h
   rename_i hc
   simp only [af, Prod.exists] at h
   obtain ⟨cs', Ha, na, h1, h⟩ := h
   have k1 := (Gt.kill X.1 (fun hx => hc (.inl hx))).trans (ih _ _ _ _ h1)
   split at h
   ·split at h
    ·simp only [ab, ah] at h
     obtain ⟨_, rfl⟩ := h
     exact k1
    ·cases h
   ·simp only [ab, ah] at h
    obtain ⟨_, rfl⟩ := h
    exact k1
  | sl b off n =>
   simp only [BL] at h
   split at h
   ·exact same h
   rename_i hlo
   split at h
   case h_2 => cases h
   split at h
   ·cases h
   simp only [af, Prod.exists] at h
   obtain ⟨cs', Ha, na, h1, h⟩ := h
   have k1 := (Gt.kill X.1 hlo).trans (ih _ _ _ _ h1)
   split at h
   ·split at h
    ·simp only [ab, ah] at h
     obtain ⟨_, rfl⟩ := h
     exact k1
    ·cases h
   ·simp only [ab, ah] at h
    obtain ⟨_, rfl⟩ := h
    exact k1
  | agg cs =>
   simp only [BL, ag, Prod.exists, ah] at h
   obtain ⟨cs', Ha, na, h1, _, rfl⟩ := h
   exact ih _ _ _ _ h1
  | GS cs =>
   simp only [BL, ag, Prod.exists, ah] at h
   obtain ⟨cs', Ha, na, h1, _, rfl⟩ := h
   exact ih _ _ _ _ h1
  | _ => simp [BL] at h
theorem Rl {base : Nat} {H1 H2 : A6} {x : List Bz} (hk : ∀ b, b < base → H2[b]? = H1[b]?) (hl : base ≤ H2.length) {lk : Lk} {H0 : A6} (hb : H0.length = base) (h0 : D7 base lk H0 H1) : D7 base lk H0 (H2.take base ++ x) := by
 have hlen : (H2.take base).length = base := by rw [dn]; omega
 refine ⟨by simp; omega, fun b hlt hu => ?_⟩
 rw [aw (by omega), ew hlt, hk b hlt, h0.2 b hlt hu]
theorem IV {P : bm} {rs : List ed} {x : Option (X × St)} {r : List V × A6} (h : L0 P rs x = some r) : ∃ e S, x = some (e, S) ∧ (e = .normal ∨ e = .ret) ∧ BI P S.H S.T rs = some r.1 ∧ r.2 = S.H := by
 unfold L0 at h
 split at h
 ·simp only [ag] at h; obtain ⟨vs, h1, rfl⟩ := h; exact ⟨_, _, rfl, .inl rfl, h1, rfl⟩
 ·simp only [ag] at h; obtain ⟨vs, h1, rfl⟩ := h; exact ⟨_, _, rfl, .inr rfl, h1, rfl⟩
 ·cases h
theorem Rn {c : Cx} (hΓ : GI c.Γ) {n : Nat} {rs : List ed} {N : MT} {S : St} {b : Bool} {r : List V × A6} (hb : c.base ≤ S.H.length) (h : O4 c n rs N S b = some r) : D7 c.base c.lk S.H r.2 := by
 obtain ⟨e, S', h1, _, _, h4⟩ := IV h
 rw [h4]
 exact E8 hΓ n _ (S := (S.set N.p (S.T N.z)).set N.q (.bool b)) hb h1
theorem Uy {c : Cx} (hΓ : GI c.Γ) {n : Nat} {rs : List ed} {body : Code} {S : St} {r : List V × A6} (hb : c.base ≤ S.H.length) (h : Jk c n rs body S = some r) : D7 c.base c.lk S.H r.2 := by
 unfold Jk at h
 split at h
 ·obtain ⟨e, S', h1, _, _, h4⟩ := IV h
  rw [h4]
  exact E8 hΓ n _ hb h1
 ·rename_i N hN
  split at h
  case h_2 => cases h
  rename_i S0 h0
  have k0 := E8 hΓ n _ hb h0
  split at h
  case isFalse => cases h
  split at h
  ·exact k0.trans (Rn hΓ (cu hb k0.1) h)
  ·split at h
   case isFalse => cases h
   exact k0.trans (Rn hΓ (cu hb k0.1) h)
  ·cases h
theorem UN (P : bm) (h : Bp) : ∀ n, GI (Dw P h n)
  | 0 => fun k args H lk v H' hr => by simp [Dw] at hr
  | n + 1 => fun k args H lk v H' hr => by
    have ih := UN P h n
    simp only [Dw] at hr
    split at hr
    case h_2 => cases hr
    rename_i fn hfn
    split at hr
    case h_2 => cases hr
    rename_i body hbody
    split at hr
    case isFalse => cases hr
    simp only [af] at hr
    obtain ⟨q, hex, hl⟩ := hr
    have k1 := Uy (c := { P := P, hints := h, fn := k, ntmps := fn.ntmps, base := H.length, lk := lk, Γ := Dw P h n }) ih (al _) hex
    unfold Dd at hl
    split at hl
    · split at hl
      case isFalse => cases hl
      simp only [ab, ah] at hl
      obtain ⟨_, rfl⟩ := hl
      exact Rl (fun _ _ => rfl) k1.1 rfl k1
    · simp only [ag, Prod.exists, ah] at hl
      obtain ⟨v1, H2, news, h1, _, rfl⟩ := hl
      obtain ⟨q1, q2⟩ := Rc _ _ _ _ _ h1
      simp only [] at q1 q2
      exact Rl q2 (by rw [q1]; exact k1.1) rfl k1
def lW (c : Cx) (ops : Array ch) (j : Nat) (y : ch) (l : List Nat) (S' : St) : Prop := ∃ x t a t' b v, ops[j]? = some x ∧ x.op = .load t (.tmp a) ∧ y.op = .store t' (.tmp b) v ∧ x.guard = none ∧ y.guard = none ∧ Oper.apart ops x y = true ∧
 (∀ k ∈ j :: l, ∀ o, ops[k]? = some o → o.dst ≠ some a ∧ o.dst ≠ some b) ∧ En c.base (S'.T a) (S'.T b) = true
theorem Um {c : Cx} (hΓ : GI c.Γ) {cf : Nat → Cx} (hcf : ∀ i, ∃ k, cf i = c.BQ true k) {ops : Array ch} {i : Nat} {y : ch} (hi : ops[i]? = some y) {r2 : List Nat} {S' : St} :
  ∀ (r1 : List Nat) {S : St}, c.base ≤ S.H.length → De cf ops (r1 ++ i :: r2) S = some S' →
   (∀ s1 j s2, r1 = s1 ++ j :: s2 → (∃ x, ops[j]? = some x ∧ JK ops x y = true ∧ (HR x = true → Ek y = true → (cf i).calm = true)) ∨ lW c ops j y (s2 ++ i :: r2) S') → De cf ops (i :: (r1 ++ r2)) S = some S'
 | [], S, hb, h, _ => h
 | j :: r1, S, hb, h, hj => by
  have h0 := hj [] j r1 rfl
  obtain ⟨x, hx⟩ : ∃ x, ops[j]? = some x := by
   rcases h0 with ⟨x, hx, _⟩ | ⟨x, _, _, _, _, _, hx, _⟩ <;> exact ⟨x, hx⟩
  simp only [dt, De, hx, af] at h
  obtain ⟨S1, h1, h2⟩ := h
  obtain ⟨kj, hcj⟩ := hcf j
  obtain ⟨ki, hci⟩ := hcf i
  have hb1 : c.base ≤ S1.H.length := by
   rw [hcj] at h1
   exact cu hb (Pr (c := c.BQ true kj) hΓ hb h1).1
  have h3 := Um hΓ hcf hi r1 hb1 h2 fun s1 j' s2 e => hj (j :: s1) j' s2 (by rw [e]; rfl)
  simp only [De, hi, af] at h3
  obtain ⟨S2, h4, h5⟩ := h3
  have h6 : ∃ S3, Bx (cf i) ops y S = some S3 ∧ Bx (cf j) ops x S3 = some S2 := by
   rcases h0 with ⟨x', hx', hsw, hcalm⟩ | ⟨x', t, a, t', b, v, hx', ox, oy, gx, gy, ha, hk', hp⟩
   ·rw [hx] at hx'; cases hx'
    exact VL (cx := cf j) (cy := cf i) (by rw [hcj, hci]; rfl) (by rw [hcj, hci]; rfl) (by rw [hcj]; rfl) (by rw [hci]; rfl) hsw h1 h4 (fun hl hk v H' he => by
     have hc : Ek y = true → (cf i).calm = true := hcalm hl
     rw [hci] at he hc
     exact (TV (c := c.BQ true ki) hΓ hb he).2 hk hc)
   ·rw [hx] at hx'; cases hx'
    have sub : ∀ k ∈ r1 ++ r2, k ∈ j :: (r1 ++ i :: r2) := fun k hk => by
     rcases aq.1 hk with h | h <;> simp [h]
    have e1 : ∀ q, (∀ k ∈ j :: (r1 ++ i :: r2), ∀ o, ops[k]? = some o → o.dst ≠ some q) → S'.T q = S.T q := fun q hq => by
     rw [Zs _ h5 fun k hk => hq k (sub k hk), Sw h4 (hq i (by simp) y hi), Sw h1 (hq j (by simp) x hx)]
    rw [e1 a fun k hk o ho => (hk' k hk o ho).1, e1 b fun k hk o ho => (hk' k hk o ho).2] at hp
    exact eM ox oy gx gy ha h1 h4 (by rw [hci]; exact hp)
  obtain ⟨S3, h6, h7⟩ := h6
  simp only [De, hi, h6, aa, dt, hx, h7]
  exact h5
def YN (w : et) (u : cb) (g : Nat) (v : Nat → V) (cs : List V) : Prop :=
 (∃ cc t, w.heap[g]? = some (.cells cc t (0, 0)) ∧ cs.length ≤ cc.size ∧ ∀ (E : Ab) (i : Nat) x, cs[i]? = some x → ∃ y, cc[i]? = some y ∧ AB E x y) ∧
  ∀ (E : Ab) b, E.φ b = g → b < E.n → K5 E.H b → AB E (v b) u
section
variable {c : Cx} {E : Ab} {S : St} {a : Act} {o : ch}
theorem VW (hs : Cy c E S a) (hm : Lz o = true) {vv : V} {H' : A6} (h : Cb c o S = some (vv, H')) : ∃ (v : Nat → V) (sz : Nat) (cs : List V) (u : cb) (cc : Array cb) (t : ao),
  (∀ H2, Cb c o ⟨S.T, H2⟩ = some (v H2.length, H2 ++ [.cells sz cs])) ∧ (execOp a.eval o).run c.P E.w = .ok (.value u) (E.w.alloc (.cells cc t)) ∧ YN (E.w.alloc (.cells cc t)) u E.w.heap.size v cs := by
 unfold Lz at hm
 split at hm
 ·rename_i t ho
  unfold Cb at h
  simp only [ho, af] at h
  obtain ⟨sz, hsz, z, hz, h⟩ := h
  simp only [ab, ah] at h
  obtain ⟨rfl, rfl⟩ := h
  obtain ⟨i, x, v, h1, h2, h3, rfl⟩ := JN hz
  refine ⟨fun b => .ptr b 0, sz, v.cellsOf, .pointer (some ⟨E.w.heap.size, 0, none⟩), x.cells, t, fun H2 => ?_, ?_, ⟨x.cells, t, ?_, ?_, fun E' i y hy => ?_⟩, fun E' b h1 h2 h3 => ?_⟩
  ·unfold Cb
   simp only [ho, hsz, hz, aa]
  ·simp [execOp, ho, Instr.alloc, zeroValue, typeInfo, h1, h2, newVar, newRow]
  ·show (E.w.heap.push _)[E.w.heap.size]? = _; simp
  ·obtain ⟨hl, _⟩ := BX _ _ (Gn E h3); rw [hl]; simp
  ·obtain ⟨_, hg⟩ := BX _ _ (Gn E' h3); simpa using hg i y hy
  ·simp only [AB]; exact ⟨h2, by rw [h1], h3⟩
 ·rename_i t n m ho
  unfold Cb at h
  simp only [ho, af] at h
  obtain ⟨N, hn, M, hmm, h⟩ := h
  have hK : ∀ H2, Cb c o ⟨S.T, H2⟩ = Jz c.P (c.hints.H4 c.fn) t H2 N M := fun H2 => by
   unfold Cb
   simp only [ho, hn, hmm, aa]
  have r1 := BD hs n _ hn
  have r2 := BD hs m _ hmm
  unfold Jz at h
  split at h
  case h_2 => cases h
  rename_i k l
  simp only [af] at h
  obtain ⟨e, he, sz, hsz, by_, hby, z, hz, h⟩ := h
  split at h
  case isFalse => cases h
  rename_i hc
  have hc' := hc
  obtain ⟨rfl, h0, hb, hzl, hsz0⟩ := hc
  simp only [ab, ah] at h
  obtain ⟨rfl, rfl⟩ := h
  simp only [AB] at r1 r2
  have hz' := hz
  obtain ⟨i, x, vv, h1, h2, h3, rfl⟩ := JN hz
  obtain ⟨i', hi', hsize⟩ := J7 hsz
  rw [h1] at hi'
  simp only [ab] at hi'
  subst hi'
  have hbytes : i.bytes = by_ := by unfold CH at hby; rw [h1] at hby; simpa using hby
  subst hbytes hsize
  have hb2 : k * (i.bytes : Int) + k ≤ 70368744177664 := by rw [Int.mul_add, Int.mul_one] at hb; exact hb
  have hb3 : 0 ≤ k * (i.bytes : Int) := Int.mul_nonneg h0 (by omega)
  have hrun := run_make (P := c.P) E.w t e i x (CN he) h1 h2 .i64 .i64 k k h0 (Int.le_refl _) (by rw [Int.mul_comm]; omega) (by omega)
  have hmr : ∀ E : Ab, AU E (cq k.toNat (vv.cellsOf.map (I3 (c.hints.H4 c.fn)))).flatten (madeCells x.cells (k.toNat * i.size)).toList := fun E => by
   have := Q6 (E := E) (K4 (kp := c.hints.H4 c.fn) (Gn E h3)) (by rw [ee, hzl]; exact hsz0) k.toNat
   rw [ee, hzl] at this
   exact this
  refine ⟨fun b => .sl b 0 k.toNat, i.size, (cq k.toNat (vv.cellsOf.map (I3 (c.hints.H4 c.fn)))).flatten, .slice (some ⟨E.w.heap.size, 0, none⟩) k.toNat k.toNat, madeCells x.cells (k.toNat * i.size), e, fun H2 => ?_, ?_, ⟨madeCells x.cells (k.toNat * i.size), e, ?_, ?_, fun E' i y hy => ?_⟩, fun E' b h1 h2 h3 => ?_⟩
  ·rw [hK]
   unfold Jz
   simp only [he, hsz, hby, hz', aa]
   rw [if_pos ⟨trivial, h0, hb, hzl, hsz0⟩]
  ·simp only [execOp, ho, r1, r2, hrun, Sem.run_bind, Result.andThen_ok, Sem.run_pure]
  ·show (E.w.heap.push _)[E.w.heap.size]? = _; simp
  ·obtain ⟨hl, _⟩ := BX _ _ (hmr E); rw [hl]; simp
  ·obtain ⟨_, hg⟩ := BX _ _ (hmr E'); simpa using hg i y hy
  ·simp only [AB]; exact ⟨h2, ⟨k.toNat, by rw [h1], al _⟩, h3⟩
 ·cases hm
def Ab.name (E : Ab) (g : Nat) (AW : Bz) : Ab :=
  { w := E.w, φ := fun b => if b = E.H.length then g else E.φ b, H := E.H ++ [AW], lk := E.lk, n := E.n + 1, m := E.m, Bj := E.Bj.filter fun x => decide (x ≠ g) }
theorem CQ (E : Ab) (g : Nat) (AW : Bz) (b : Nat) : (E.name g AW).H[b]? = if b = E.H.length then some AW else E.H[b]? := by
 show (E.H ++ [AW])[b]? = _
 by_cases hb : b = E.H.length
 ·subst hb; simp
 ·rw [if_neg hb]
  rcases bz b E.H.length with hl | hl
  ·rw [aw hl]
  ·rw [ba (by simp; omega), ba hl]
theorem DI (E : Ab) (g : Nat) (AW : Bz) (b : Nat) : (E.name g AW).φ b = if b = E.H.length then g else E.φ b := rfl
theorem K2 {E : Ab} {g : Nat} {AW : Bz} {x : Nat} : x ∈ (E.name g AW).Bj ↔ x ∈ E.Bj ∧ x ≠ g := by
 show x ∈ E.Bj.filter _ ↔ _
 simp [nx]
theorem Zl {E : Ab} {g sz : Nat} {cs : List V} {lv : Option Nat} {x i : Nat} (h : (E.name g (.cells sz cs)).U lv x i) : E.U lv x i ∨ x = g := by
 rcases h with h | h
 ·exact .inl (.inl (K2.1 h).1)
 cases lv with
 | some lv =>
  obtain ⟨b, h1, h2, h3⟩ := h
  rw [CQ] at h3
  rw [DI] at h1
  by_cases hb : b = E.H.length
  ·rw [if_pos hb] at h1; exact .inr h1.symm
  ·rw [if_neg hb] at h1 h3; exact .inl (.inr ⟨b, h1, h2, h3⟩)
 | none =>
  obtain ⟨b, h1, h3⟩ := h
  rw [CQ] at h3
  rw [DI] at h1
  by_cases hb : b = E.H.length
  ·rw [if_pos hb] at h1; exact .inr h1.symm
  ·rw [if_neg hb] at h1 h3; exact .inl (.inr ⟨b, h1, h3⟩)
theorem Px {E : Ab} {g sz : Nat} {cs : List V} (hg : g ∈ E.Bj) (hn : E.n = E.H.length) {nb d : Nat} (hnb : nb ≤ E.n) (hd : d ≤ E.m) : Cn (E.shrink nb d) ((E.name g (.cells sz cs)).shrink nb d) where
 len := al _
 lvl := al _
 cell := by
  intro lv x i u _ _ h1 h3
  refine ⟨h1, fun hu => h3 ?_⟩
  rcases Zl (E := E) (lv := lv) hu with h | rfl
  ·exact h
  ·exact .inl hg
 CV := by
  intro b hb hnb2
  have hb : b < nb := hb
  have hne : b ≠ E.H.length := by omega
  refine ⟨by show (E.name g (.cells sz cs)).φ b = E.φ b; rw [DI, if_neg hne], fun l n z => ?_⟩
  show (E.name g (.cells sz cs)).H[b]? ≠ _
  rw [CQ, if_neg hne]
  exact hnb2 l n z
 cells := by
  intro b hb h z ys
  have hb : b < nb := hb
  show (E.name g (.cells sz cs)).H[b]? ≠ _
  rw [CQ, if_neg (by omega)]
  exact h z ys
 C1 := by
  intro b l n z hb hB
  have hb : b < nb := hb
  have hB : (E.name g (.cells sz cs)).H[b]? = _ := hB
  rw [CQ, if_neg (by omega)] at hB
  exact ⟨l, n, hB, al _, fun _ => ⟨by show (E.name g (.cells sz cs)).φ b = E.φ b; rw [DI, if_neg (by omega)], fun cc _ hc => ⟨cc, hc, rfl⟩⟩⟩
 fresh := by
  intro b x i u h1 h2 hb hl he
  have hl : live (E.name g (.cells sz cs)).H[b]? := hl
  have he : (E.name g (.cells sz cs)).φ b = x := he
  rw [DI] at he
  rw [CQ] at hl
  by_cases hbb : b = E.H.length
  ·rw [if_pos hbb] at he
   subst he
   exact absurd (.inl hg) h2
  ·rw [if_neg hbb] at he hl
   exact ⟨b, hb, hl, he⟩
theorem QB {E : Ab} {g sz : Nat} {cs : List V} (hg : g ∈ E.Bj) (hn : E.n = E.H.length) {v : V} {u : cb} (h : AB E v u) : AB (E.name g (.cells sz cs)) v u :=
 (Cn.grow (E.name g (.cells sz cs)) (n := E.n) (m := E.m) (jj _) (al _)).rep v u ((Px hg hn (al _) (al _)).rep v u h)
theorem VZ {E0 : Ab} {H : A6} (h : BG c E0 E H) (hb : c.base ≤ H.length) (h0 : E0.n ≤ H.length) {g sz : Nat} {cs : List V} {u : cb} {v : Nat → V} (hp : YN E.w u g v cs) (hg : g ∈ E.Bj) (hg0 : E0.w.heap.size ≤ g) (hg1 : g ∉ E0.Bj) :
    BG c E0 (E.name g (.cells sz cs)) (H ++ [.cells sz cs]) ∧ AB (E.name g (.cells sz cs)) (v H.length) u := by
  have hn : E.n = E.H.length := by rw [h.n, h.H]
  obtain ⟨⟨cc, t, p1, p2, p3⟩, p4⟩ := hp
  have hf : ∀ base nb d, base ≤ c.base → nb ≤ E.n → d ≤ E.m → DO E base nb d → DO (E.name g (.cells sz cs)) base nb d := by
    intro base nb d hbase hnb hd hf b z xs hlt hB ct tt hc i y w hv hu
    have hne : b ≠ E.H.length := by rw [h.H]; omega
    rw [CQ, if_neg hne] at hB
    rw [DI, if_neg hne] at hc
    exact (Px hg hn hnb hd).rep _ _ (hf b z xs hlt hB ct tt hc i y w hv hu)
  have hgl := (h.heap.Bj g hg).2
  refine ⟨⟨by show E.H ++ _ = _; rw [h.H], by show E.n + 1 = _; rw [h.n]; simp, h.m, ?_, ?_, fun gr base nb d h1 h2 h3 h4 => hf base nb d h1 (cu h2 h.D8.len) (by rw [h.m]; exact h3) (h.IX gr base nb d h1 h2 h3 h4), fun gr base d h1 h3 h4 => (hf base E.n d h1 (al _) (by rw [h.m]; exact h3) (h.J4 gr base d h1 h3 h4)).up (jj _), fun b hb2 hl => ?_⟩, ?_⟩
  · exact
    { lk := h.D8.lk
      os := h.D8.os
      tape := h.D8.tape
      output := h.D8.output
      size := h.D8.size
      len := la h.D8.len
      mm := h.D8.mm
      cell := h.D8.cell
      block := h.D8.block
      mono := by
        intro lv x i hl hu
        rcases Zl hu with h1 | rfl
        · exact h.D8.mono lv x i hl h1
        · exact .inr hg0
      CV := by
        intro b hb1 hb2
        obtain ⟨q1, q2⟩ := h.D8.CV b hb1 hb2
        have hne : b ≠ E.H.length := by rw [h.H]; omega
        refine ⟨by rw [DI, if_neg hne]; exact q1, fun l n z => ?_⟩
        rw [CQ, if_neg hne]
        exact q2 l n z
      cells := by
        intro b hb1 hb2 z xs
        have hne : b ≠ E.H.length := by rw [h.H]; omega
        rw [CQ, if_neg hne]
        exact h.D8.cells b hb1 hb2 z xs
      C1 := by
        intro b l n z hb1 hB
        have hne : b ≠ E.H.length := by rw [h.H]; omega
        rw [CQ, if_neg hne] at hB
        obtain ⟨k, k1, k2, k3⟩ := h.D8.C1 b l n z hb1 hB
        exact ⟨k, k1, k2, fun e => ⟨by rw [DI, if_neg hne]; exact (k3 e).1, (k3 e).2⟩⟩
      fresh := by
        intro b hl
        rw [CQ] at hl
        rw [DI]
        by_cases hbb : b = E.H.length
        · rw [if_pos hbb]; exact .inr hg0
        · rw [if_neg hbb] at hl ⊢; exact h.D8.fresh b hl
      Bj := fun x hx => K2.2 ⟨h.D8.Bj x hx, fun e => hg1 (e ▸ hx)⟩
      Ia := fun x hx => h.D8.Ia x (K2.1 hx).1
      Hh := h.D8.Hh }
  · exact
    { cells := by
        intro b z xs hB
        rw [CQ] at hB
        rw [DI]
        by_cases hbb : b = E.H.length
        · rw [if_pos hbb] at hB ⊢
          simp only [ab, Bz.cells.injEq] at hB
          obtain ⟨rfl, rfl⟩ := hB
          exact ⟨cc, t, p1, p2, fun i y hy => p3 _ i y hy⟩
        · rw [if_neg hbb] at hB ⊢
          obtain ⟨c', t', h1, h2, h3⟩ := h.heap.cells b z xs hB
          exact ⟨c', t', h1, h2, fun i y hy => let ⟨w, h4, h5⟩ := h3 i y hy; ⟨w, h4, QB hg hn h5⟩⟩
      C1 := by
        intro b l n z hB
        rw [CQ] at hB
        rw [DI]
        by_cases hbb : b = E.H.length
        · rw [if_pos hbb] at hB; cases hB
        · rw [if_neg hbb] at hB ⊢; exact h.heap.C1 b l n z hB
      lvl := by
        intro b l n z hB
        rw [CQ] at hB
        by_cases hbb : b = E.H.length
        · rw [if_pos hbb] at hB; cases hB
        · rw [if_neg hbb] at hB; exact h.heap.lvl b l n z hB
      dm := h.heap.dm
      inj := by
        intro b b' h1 h2 he
        rw [CQ] at h1 h2
        rw [DI, DI] at he
        by_cases hb1 : b = E.H.length <;> by_cases hb2 : b' = E.H.length
        · omega
        · rw [if_pos hb1, if_neg hb2] at he
          rw [if_neg hb2] at h2
          exact absurd he.symm (hgl b' h2)
        · rw [if_neg hb1, if_pos hb2] at he
          rw [if_neg hb1] at h1
          exact absurd he (hgl b h1)
        · rw [if_neg hb1, if_neg hb2] at he
          rw [if_neg hb1] at h1
          rw [if_neg hb2] at h2
          exact h.heap.inj b b' h1 h2 he
      maps := by
        intro b BP hB
        rw [CQ] at hB
        rw [DI]
        by_cases hbb : b = E.H.length
        · rw [if_pos hbb] at hB; cases hB
        · rw [if_neg hbb] at hB ⊢; exact h.heap.maps b BP hB
      Bj := by
        intro x hx
        obtain ⟨hx1, hx2⟩ := K2.1 hx
        refine ⟨(h.heap.Bj x hx1).1, fun b hl => ?_⟩
        rw [CQ] at hl
        rw [DI]
        by_cases hbb : b = E.H.length
        · rw [if_pos hbb]; exact fun e => hx2 e.symm
        · rw [if_neg hbb] at hl ⊢; exact (h.heap.Bj x hx1).2 b hl }
  · rw [aw (by omega)]
    exact h.kept b hb2 hl
  · refine p4 _ _ ?_ ?_ fun l n z => ?_
    · rw [DI, if_pos (by rw [h.H])]
    · show H.length < E.n + 1; rw [h.n]; omega
    · rw [CQ, if_pos (by rw [h.H])]; simp
end
section
variable {c : Cx} {E : Ab} {S : St} {a : Act} {o : ch}
theorem Ph (ts : Array cb) (d i : Nat) (v u : cb) : (ts.setIfInBounds d v).getD i u = if i = d ∧ d < ts.size then v else ts.getD i u := by
 simp only [ef, Array.getElem?_setIfInBounds]
 by_cases h : d = i
 ·subst h
  by_cases h2 : d < ts.size
  ·simp [h2]
  ·simp [h2]
 ·rw [if_neg h, if_neg (fun e => h e.1.symm)]
theorem Cy.next (hs : Cy c E S a) {E' : Ab} {H' : A6} (ha : BG c E E' H') {T : Nat → V} {ts : Array cb} {ds : List Deferred} (hT : ∀ i, AB E' (T i) (ts.getD i undef)) (hsz : ts.size = a.tmps.size) : Cy c E' { T, H := H' } { tmps := ts, defers := ds } where
  H := ha.H
  lk := by rw [ha.D8.lk, hs.lk]
  n := ha.n
  m := by rw [ha.m, hs.m]
  tmps := hT
  size := hsz.trans hs.size
  heap := ha.heap
  base := by have := hs.base; have h1 := hs.n; have h2 := ha.n; have h3 := ha.D8.len; show _ ≤ H'.length; omega
  EH := hs.EH
  deep := hs.deep
theorem Cy.put (hs : Cy c E S a) {E' : Ab} {H' : A6} (ha : BG c E E' H') {d : Nat} {v : V} {u : cb} (hd : d < c.ntmps) (hr : AB E' v u) : Cy c E' (({ S with H := H' } : St).set d v) (a.put (some d) u) := by
 refine Cy.next hs ha (fun i => ?_) (by simp)
 rw [Ph]
 show AB E' (if i = d then v else S.T i) _
 by_cases h : i = d
 ·rw [if_pos h, if_pos ⟨h, by rw [hs.size]; exact hd⟩]; exact hr
 ·rw [if_neg h, if_neg (fun e => h e.1)]; exact ha.D8.rep hs.heap _ _ (hs.tmps i)
theorem Cy.stay (hs : Cy c E S a) {E' : Ab} {H' : A6} (ha : BG c E E' H') : Cy c E' { S with H := H' } a := by
 refine Cy.next (ds := a.defers) hs ha (fun i => ha.D8.rep hs.heap _ _ (hs.tmps i)) rfl
theorem W1 (hs : Cy c E S a) (hΓ : HD c.P c.hints c.Γ) (hd : a.defers = []) {S' : St} (h : JS c o S = some S') {next : Act → et → Prop} {Q : Exit → Act → et → Prop}
  (hn : ∀ E' a', Cy c E' S' a' → BG c E E' S'.H → a'.defers = [] → next a' E'.w) : o.wp c.P a E.w next Q := by
 unfold JS at h
 split at h
 ·rename_i hdst
  simp only [ag, Prod.exists] at h
  obtain ⟨v, H', hop, rfl⟩ := h
  refine WD hs hΓ hop next Q fun E' u ha hr => ?_
  rw [hdst]
  exact hn E' a (Cy.stay hs ha) ha hd
 ·rename_i d hdst
  split at h
  case isFalse => cases h
  rename_i hlt
  simp only [ag, Prod.exists] at h
  obtain ⟨v, H', hop, rfl⟩ := h
  refine WD hs hΓ hop next Q fun E' u ha hr => ?_
  rw [hdst]
  exact hn E' _ (Cy.put hs ha hlt hr) ha hd
theorem TO (hs : Cy c E S a) {ops : Array ch} {b : Bool} (h : D1 ops S.T o = some b) : Region.wanted o (yielded ops a.tmps) = b := by
 unfold D1 at h
 unfold Region.wanted
 split at h
 ·rename_i hg
  rw [hg]
  simpa using h
 ·rename_i j want hg
  rw [hg]
  split at h
  ·rename_i t ht
   have hr := hs.tmps t
   simp only [yielded, ht, aa]
   split at h
   ·rename_i b' hb
    simp only [ab] at h
    rw [hb] at hr
    simp only [AB] at hr
    have : a.tmps[t]? = some (.bool b') := by
     rw [ef] at hr
     cases h2 : a.tmps[t]? with
     | none => rw [h2] at hr; simp [undef] at hr
     | some x => rw [h2] at hr; simp only [ec] at hr; rw [hr]
    rw [this]
    simpa using h
   ·rename_i hb
    simp only [ab] at h
    subst h
    rw [hb] at hr
    simp only [AB] at hr
    obtain ⟨vs, hv, hvs⟩ := hr
    simp only [AU] at hvs
    rw [ef] at hv
    cases h2 : a.tmps[t]? with
    | none => simp
    | some x =>
     rw [h2] at hv
     simp only [ec] at hv
     rw [hv]
     simp
   ·cases h
  ·cases h
theorem NR (E : Ab) : AB E Ck undef := by
 simp only [Ck, AB]
 exact ⟨#[], rfl, by simp only [AU]⟩
theorem Cy.BQ (hs : Cy c E S a) (s k : Bool) : Cy (c.BQ s k) E S a := ⟨hs.H, hs.lk, hs.n, hs.m, hs.tmps, hs.size, hs.heap, hs.base, hs.EH, hs.deep⟩
theorem Cy.W3 {s k : Bool} (hs : Cy (c.BQ s k) E S a) : Cy c E S a := ⟨hs.H, hs.lk, hs.n, hs.m, hs.tmps, hs.size, hs.heap, hs.base, hs.EH, hs.deep⟩
theorem BG.W3 {s k : Bool} {E' : Ab} {H' : A6} (h : BG (c.BQ s k) E E' H') : BG c E E' H' := ⟨h.H, h.n, h.m, h.D8, h.heap, h.IX, h.J4, h.kept⟩
theorem Lw (hs : Cy c E S a) (hΓ : HD c.P c.hints c.Γ) (hd : a.defers = []) {s k : Bool} {ops : Array ch} {S' : St} (h : Bx (c.BQ s k) ops o S = some S') {next : Act → et → Prop} {Q : Exit → Act → et → Prop}
  (hn : ∀ E' a', Cy c E' S' a' → BG c E E' S'.H → a'.defers = [] → next a' E'.w) :
  if Region.wanted o (yielded ops a.tmps) then o.wp c.P a E.w next Q ∧ (∃ r, Cb (c.BQ s k) o S = some r) else next (a.put o.dst undef) E.w := by
 unfold Bx at h
 simp only [af] at h
 obtain ⟨b, hb, h1⟩ := h
 rw [TO hs hb]
 cases b with
 | true =>
  rw [if_pos rfl] at h1 ⊢
  refine ⟨W1 (c := c.BQ s k) (hs.BQ s k) hΓ hd h1 fun E1 a1 hs1 ha1 hd1 => hn E1 a1 hs1.W3 ha1.W3 hd1, ?_⟩
  unfold JS at h1
  split at h1
  ·simp only [ag] at h1; exact ⟨_, h1.choose_spec.1⟩
  ·split at h1
   ·simp only [ag] at h1; exact ⟨_, h1.choose_spec.1⟩
   ·cases h1
 | false =>
  simp only [bd, if_false] at h1 ⊢
  split at h1
  ·rename_i d hdst
   split at h1
   case isFalse => cases h1
   rename_i hlt
   simp only [ab] at h1
   subst h1
   rw [hdst]
   exact hn E _ (Cy.put hs (BG.refl hs) hlt (NR E)) (show BG c E E S.H from BG.refl hs) hd
  ·rename_i hdst
   simp only [ab] at h1
   subst h1
   rw [hdst]
   exact hn E a hs (BG.refl hs) hd
theorem Tu (hs : Cy c E S a) (hΓ : HD c.P c.hints c.Γ) (hd : a.defers = []) {s k : Bool} {ops : Array ch} {S' : St} (h : Bx (c.BQ s k) ops o S = some S') {next : Act → et → Prop} {Q : Exit → Act → et → Prop}
  (hn : ∀ E' a', Cy c E' S' a' → BG c E E' S'.H → a'.defers = [] → next a' E'.w) :
  if Region.wanted o (yielded ops a.tmps) then o.wp c.P a E.w next Q ∨ (o.asks c.P a E.w ∧ LetsOut Q) else next (a.put o.dst undef) E.w := by
 have := Lw hs hΓ hd h (Q := Q) hn
 split
 ·rename_i hw; rw [if_pos hw] at this; exact .inl this.1
 ·rename_i hw; rw [if_neg hw] at this; exact this
def EW (a : Act) (ps : List (Nat × cb)) : Act := ps.foldl (fun a p => a.put (some p.1) p.2) a
theorem GQ (a : Act) (p : Nat × cb) (ps : List (Nat × cb)) : EW a (p :: ps) = EW (a.put (some p.1) p.2) ps := rfl
theorem Vo (a : Act) (ps : List (Nat × cb)) (p : Nat × cb) : EW a (ps ++ [p]) = (EW a ps).put (some p.1) p.2 := by simp [EW]
theorem KS {dst : Option Nat} {v : cb} : ∀ (ps : List (Nat × cb)) (a : Act), (∀ p ∈ ps, dst ≠ some p.1) → EW (a.put dst v) ps = (EW a ps).put dst v
 | [], _, _ => rfl
 | p :: ps, a, h => by
  rw [GQ, GQ, ← KS ps _ fun q hq => h q (bw _ hq), Act.put_comm a v p.2]
  intro d hd e
  exact h p (ck ..) (by rw [hd, e])
theorem Mb {ops : Array ch} {o : ch} (hsel : ∀ cs b, o.op ≠ .select cs b) : ∀ (ps : List (Nat × cb)) (a : Act), (∀ p ∈ ps, p.1 ∉ o.looksAt ops) → execOp (EW a ps).eval o = execOp a.eval o
 | [], _, _ => rfl
 | p :: ps, a, h => by
  rw [GQ, Mb hsel ps _ fun q hq => h q (bw _ hq)]
  exact execOp_put (ops := ops) o hsel a (some p.1) p.2 fun d hd => by cases hd; exact h p (ck ..)
theorem Nx {ops : Array ch} {o : ch} : ∀ (ps : List (Nat × cb)) (a : Act), (∀ p ∈ ps, p.1 ∉ o.looksAt ops) → Region.wanted o (yielded ops (EW a ps).tmps) = Region.wanted o (yielded ops a.tmps)
 | [], _, _ => rfl
 | p :: ps, a, h => by
  rw [GQ, Nx ps _ fun q hq => h q (bw _ hq)]
  exact wanted_put o a (some p.1) p.2 fun d hd => by cases hd; exact h p (ck ..)
theorem MH : ∀ (ps : List (Nat × cb)) (a : Act) (d : Deferred), EW { a with defers := d :: a.defers } ps = { EW a ps with defers := d :: (EW a ps).defers }
 | [], _, _ => rfl
 | p :: ps, a, d => by
  rw [GQ, GQ, ← MH ps]
  rfl
theorem fX {ops : Array ch} {P : bm} {o : ch} {w : et} (hsel : ∀ cs b, o.op ≠ .select cs b) {ps : List (Nat × cb)} {a : Act} (h1 : ∀ p ∈ ps, p.1 ∉ o.looksAt ops) (h2 : ∀ p ∈ ps, o.dst ≠ some p.1) {next next' : Act → et → Prop} {Q : Exit → Act → et → Prop}
  (hn : ∀ a' w', next a' w' → next' (EW a' ps) w') (h : o.wp P a w next (fun _ _ _ => False)) : o.wp P (EW a ps) w next' Q := by
 unfold Oper.wp at *
 rw [Mb hsel ps a h1]
 generalize (execOp a.eval o).run P w = r at *
 have hput : ∀ a v, (EW a ps).put o.dst v = EW (a.put o.dst v) ps := fun a v => (KS ps a h2).symm
 cases r with
 | ok n w' =>
  cases n <;> simp only [Oper.upon] at h ⊢
  case value u => rw [hput]; exact hn _ _ h
  case skip => rw [hput]; exact hn _ _ h
  case defer d => rw [← MH, hput]; exact hn _ _ h
  case enter f args =>
   refine Calls.mono h fun e w'' he => ?_
   cases e with
   | returned u => simp only [] at he ⊢; rw [hput]; exact hn _ _ he
   | panicked c => exact he.elim
   | outgrown => obtain ⟨_, _, h⟩ := he; exact h.elim
  case row row args => exact Rows.mono h fun u w'' he => by rw [hput]; exact hn _ _ he
 | halt x w' =>
  cases x <;> simp only [Oper.upon] at h
theorem RW {ops : Array ch} {Q : Exit → Act → et → Prop} {cf : Nat → Cx} (hcf : ∀ i, ∃ s k, cf i = c.BQ s k) : ∀ (l : List Nat) {E : Ab} {S : St} {a : Act} (hs : Cy c E S a) (hΓ : HD c.P c.hints c.Γ) (hd : a.defers = []) {S' : St} (h : De cf ops l S = some S')
  (hn : ∀ E' a', Cy c E' S' a' → BG c E E' S'.H → a'.defers = [] → Q .normal a' E'.w), wpOps c.P ops Q l a E.w
 | [], E, S, a, hs, _, hd, S', h, hn => by
  simp only [De, ab] at h
  subst h
  exact hn E a hs (BG.refl hs) hd
 | i :: rest, E, S, a, hs, hΓ, hd, S', h, hn => by
  simp only [De] at h
  simp only [wpOps]
  split at h
  ·cases h
  ·rename_i o ho
   simp only [af] at h
   obtain ⟨S1, h1, h2⟩ := h
   obtain ⟨s, k, hc⟩ := hcf i
   rw [hc] at h1
   simp only [ho]
   exact Tu hs hΓ hd h1 fun E1 a1 hs1 ha1 hd1 => RW hcf rest hs1 hΓ hd1 h2 fun E' a' hs' ha' hd' => hn E' a' hs' (ha1.trans ha') hd'
theorem Zb {p : Nat → Prop} : ∀ n, p n → ∃ k, p k ∧ ∀ j, p j → k ≤ j := by
 intro n
 induction n using lh with
 | _ n ih =>
  intro hn
  by_cases h : ∃ m, m < n ∧ p m
  ·obtain ⟨m, hm, hp⟩ := h
   exact ih m hm hp
  ·exact ⟨n, hn, fun j hj => Nat.le_of_not_lt fun hlt => h ⟨j, hlt, hj⟩⟩
theorem Jh {ops : Array ch} (h : MX ops = true) :
  (∀ i, i < ops.size → i ∈ Qv ops) ∧ (∀ i ∈ Qv ops, i < ops.size) ∧ (∀ i, i < ops.size → (∀ e ∈ IE ops i, e < i) ∧ ∀ j ∈ (Fq ops).getD i [], ∃ e ∈ IE ops i, e = j ∨ j ∈ (Fq ops).getD e []) ∧ Cr ops (Fq ops) (Qv ops) = true := by
 unfold MX at h
 simp only [ar, cj, cr, fa, decide_eq_true_eq, List.any_eq_true, df, beq_iff_eq] at h
 obtain ⟨⟨⟨h1, h2⟩, h3⟩, h4⟩ := h
 exact ⟨h1, h2, h3, h4⟩
theorem GX {ops : Array ch} {tab : List (List Nat)} : ∀ {l l' : List Nat}, l'.Sublist l → Cr ops tab l = true → Cr ops tab l' = true
 | _, _, .slnil, h => h
 | _, _, .cons a s, h => by
  simp only [Cr, ar] at h
  exact GX s h.2
 | _, _, .cons_cons a s, h => by
  simp only [Cr, ar, cj] at h ⊢
  exact ⟨fun i hi => h.1 i (s.subset hi), GX s h.2⟩
def Oc (ops : Array ch) (tab : List (List Nat)) (j i : Nat) : Prop :=
 i ≠ j ∧ i ∉ tab.getD j [] ∧ (j ∈ tab.getD i [] ∨ NC ops tab j i = true ∨ (LB ops tab j i).isSome = true ∨ ∃ x y, ops[j]? = some x ∧ ops[i]? = some y ∧ JK ops x y = true ∧ (HR x = true → Ek y = true → Kn ops tab i = true))
theorem RX {ops : Array ch} {tab : List (List Nat)} {j : Nat} {r : List Nat} (h : Cr ops tab (j :: r) = true) : ∀ i ∈ r, Oc ops tab j i := by
 intro i hi
 simp only [Cr, ar, cj] at h
 obtain ⟨q1, q2⟩ := h.1 i hi
 simp only [bne_iff_ne, ne_eq, eb, fa, decide_eq_false_iff_not] at q1
 refine ⟨q1.1, q1.2, ?_⟩
 simp only [df, fa, decide_eq_true_eq] at q2
 rcases q2 with ((q2 | q2) | q2) | q2
 ·exact .inl q2
 ·exact .inr (.inl q2)
 ·exact .inr (.inr (.inl q2))
 ·refine .inr (.inr (.inr ?_))
  split at q2
  ·rename_i x y hx hy
   simp only [ar, df, eb] at q2
   refine ⟨x, y, hx, hy, q2.1, fun hl hc => ?_⟩
   rcases q2.2 with (q3 | q3) | q3
   ·rw [hl] at q3; cases q3
   ·rw [hc] at q3; cases q3
   ·exact q3
  ·cases q2
theorem Ie {ops : Array ch} {tab : List (List Nat)} {i : Nat} {r2 : List Nat} : ∀ {r1 : List Nat}, Cr ops tab (r1 ++ i :: r2) = true → (∀ j ∈ r1, Oc ops tab j i) ∧ ∀ m ∈ r2, Oc ops tab i m
 | [], h => ⟨fun j hj => absurd hj (by simp), RX h⟩
 | j :: r1, h => by
  have h1 := RX h
  simp only [dt, Cr, ar] at h
  obtain ⟨k1, k2⟩ := Ie h.2
  refine ⟨fun j' hj' => ?_, k2⟩
  rcases bq.1 hj' with rfl | hj'
  ·exact h1 i (by simp)
  ·exact k1 j' hj'
theorem KA {ops : Array ch} {tab : List (List Nat)} {j m : Nat} (h : NC ops tab j m = true) : ∃ x y d, ops[j]? = some x ∧ ops[m]? = some y ∧ Lz y = true ∧ y.guard = none ∧ y.dst = some d ∧ Oper.apart ops x y = true ∧ Oper.apart ops y x = true ∧ ∀ k, k < ops.size → m ∈ tab.getD k [] → j ∈ tab.getD k [] := by
 unfold NC at h
 split at h
 case h_2 => cases h
 rename_i x y hx hy
 simp only [ar, eb, fa, decide_eq_false_iff_not, cj, cr, df, decide_eq_true_eq] at h
 obtain ⟨⟨⟨⟨⟨h1, h2⟩, h3⟩, h4⟩, h5⟩, h6⟩ := h
 have hg : y.guard = none := by cases hh : y.guard with | none => rfl | some _ => rw [hh] at h2; cases h2
 obtain ⟨d, hd⟩ : ∃ d, y.dst = some d := by cases hh : y.dst with | some d => exact ⟨d, rfl⟩ | none => rw [hh] at h3; cases h3
 exact ⟨x, y, d, hx, hy, h1, hg, hd, h4, h5, fun k hk hm => (h6 k hk).resolve_left (fun e => e hm)⟩
theorem W2 {ops : Array ch} {x y : ch} (h : JK ops x y = true) : Oper.apart ops x y = true ∧ Oper.apart ops y x = true := by
 unfold JK at h
 simp only [ar] at h
 exact h.1
theorem Mz {α : Type} {x : Option α} (h : IH x = true) : x = none := by cases x with | none => rfl | some _ => cases h
theorem Nj {ops : Array ch} {tab : List (List Nat)} {j i : Nat} {p : Nat × Nat} (h : LB ops tab j i = some p) : ∃ x y t t' v, ops[j]? = some x ∧ ops[i]? = some y ∧ x.op = .load t (.tmp p.1) ∧ y.op = .store t' (.tmp p.2) v ∧ x.guard = none ∧ y.guard = none ∧
  Oper.apart ops x y = true ∧ Oper.apart ops y x = true ∧ Mt ops tab j p.1 = true ∧ Mt ops tab i p.2 = true ∧ x.dst ≠ some p.1 ∧ y.dst = none := by
 unfold LB at h
 split at h
 case h_2 => cases h
 rename_i x y hx hy
 split at h
 case h_2 => cases h
 rename_i t a t' b v ox oy
 split at h
 case isFalse => cases h
 rename_i hc
 simp only [ab] at h
 subst h
 simp only [ar, bne_iff_ne, ne_eq] at hc
 obtain ⟨⟨⟨⟨⟨⟨⟨h1, h2⟩, h3⟩, h4⟩, h5⟩, h6⟩, h7⟩, h8⟩ := hc
 exact ⟨x, y, t, t', v, hx, hy, ox, oy, Mz h1, Mz h2, h3, h4, h5, h6, h7, Mz h8⟩
theorem Hu {ops : Array ch} {tab : List (List Nat)} {j a k : Nat} {o : ch} (h : Mt ops tab j a = true) (hk : k ∉ tab.getD j []) (ho : ops[k]? = some o) : o.dst ≠ some a := by
 unfold Mt at h
 simp only [cj, cr, df, fa, decide_eq_true_eq] at h
 have := (h k (az.1 ho).1).resolve_left hk
 rw [ho] at this
 simpa using this
theorem UA {ops : Array ch} {base : Nat} {T : Nat → V} (h : LG ops base T = true) {i j : Nat} (hi : i < ops.size) (hj : j < ops.size) (h1 : j ∉ (Fq ops).getD i []) (h2 : i ∉ (Fq ops).getD j []) {p : Nat × Nat} (hp : LB ops (Fq ops) j i = some p) : En base (T p.1) (T p.2) = true := by
 unfold LG at h
 rw [cj] at h
 refine h p ?_
 unfold Zg
 rw [List.mem_flatMap]
 refine ⟨i, cr.2 hi, ko.2 ⟨j, cr.2 hj, ?_⟩⟩
 rw [if_neg, hp]
 simp only [df, fa, decide_eq_true_eq]
 rintro (h | h)
 ·exact h1 h
 ·exact h2 h
theorem lW.of {c : Cx} {ops : Array ch} {r1 r2 : List Nat} {i : Nat} {y : ch} {S' : St} (hp : Cr ops (Fq ops) (r1 ++ i :: r2) = true) (hpart : LG ops c.base S'.T = true) (hr : ∀ k ∈ r1, k ∉ (Fq ops).getD i []) {s1 s2 : List Nat} {j : Nat} (he : r1 = s1 ++ j :: s2)
  (hls : (LB ops (Fq ops) j i).isSome = true) (ho : ops[i]? = some y) : lW c ops j y (s2 ++ i :: r2) S' := by
 obtain ⟨p, hls⟩ := jr.1 hls
 obtain ⟨x, y', t, t', v, hx, hy, ox, oy, gx, gy, a1, a2, f1, f2, d1, d2⟩ := Nj hls
 rw [ho] at hy
 cases hy
 subst he
 have q1 := (Ie (r1 := s1) (i := j) (r2 := s2 ++ i :: r2) (by simpa using hp)).2
 have q2 := (Ie hp).2
 have hj := hr j (by simp)
 refine ⟨x, t, p.1, t', p.2, v, hx, ox, oy, gx, gy, a1, fun k hk o hok => ?_, UA hpart (az.1 ho).1 (az.1 hx).1 hj ((q1 i (by simp)).2.1) hls⟩
 rcases bq.1 hk with rfl | hk
 ·rw [hx] at hok
  cases hok
  exact ⟨d1, Hu f2 hj hx⟩
 ·refine ⟨Hu f1 (q1 k hk).2.1 hok, ?_⟩
  rcases aq.1 hk with h | h
  ·exact Hu f2 (hr k (by simp [h])) hok
  ·rcases bq.1 h with rfl | h
   ·rw [ho] at hok; cases hok; rw [d2]; exact fun e => by cases e
   ·exact Hu f2 (q2 k h).2.1 hok
theorem Oc.apart {ops : Array ch} {tab : List (List Nat)} {j i : Nat} (h : Oc ops tab j i) (hn : j ∉ tab.getD i []) : ∃ x y, ops[j]? = some x ∧ ops[i]? = some y ∧ Oper.apart ops x y = true ∧ Oper.apart ops y x = true := by
 rcases h.2.2 with h | h | h | ⟨x, y, h1, h2, h3, _⟩
 ·exact absurd h hn
 ·obtain ⟨x, y, _, h1, h2, _, _, _, h3, h4, _⟩ := KA h
  exact ⟨x, y, h1, h2, h3, h4⟩
 ·obtain ⟨p, h⟩ := jr.1 h
  obtain ⟨x, y, _, _, _, h1, h2, _, _, _, _, h3, h4, _⟩ := Nj h
  exact ⟨x, y, h1, h2, h3, h4⟩
 ·exact ⟨x, y, h1, h2, W2 h3⟩
theorem DE {ops : Array ch} {tab : List (List Nat)} : ∀ {l : List Nat}, Cr ops tab l = true → l.Nodup
 | [], _ => kf
 | j :: l, h => by
  simp only [Cr, ar, cj, bne_iff_ne, ne_eq] at h
  rw [dp]
  exact ⟨fun hx => (h.1 j hx).1.1 rfl, DE h.2⟩
theorem RS {ops : Array ch} {i e : Nat} {o : ch} (ho : ops[i]? = some o) : e ∈ IE ops i ↔ ∃ d ∈ o.after, Region.binds .any d = true ∧ d.on = e := by
 unfold IE
 rw [ho]
 simp only [du, nx, Array.mem_toList_iff]
 constructor
 ·rintro ⟨d, ⟨h1, h2⟩, h3⟩; exact ⟨d, h1, h2, h3⟩
 ·rintro ⟨d, h1, h2, h3⟩; exact ⟨d, ⟨h1, h2⟩, h3⟩
theorem Gf {listed : Array Bool} {i : Nat} (h : i < listed.size) (b b' : Bool) : listed.getD i b = listed.getD i b' := by
 simp [ef, h]
structure Pd where
 m : Nat
 d : Nat
 u : cb
 g : Nat
structure qF (c : Cx) (ops : Array ch) (E0 E : Ab) (S : St) (listed : Array Bool) (r : List Nat) (p : Pd) : Prop where
 op : ∃ o, ops[p.m]? = some o ∧ o.guard = none ∧ o.dst = some p.d ∧ ∃ v sz cs, (∀ H2, Cb (FX c ops p.m) o ⟨S.T, H2⟩ = some (v H2.length, H2 ++ [.cells sz cs])) ∧ YN E.w p.u p.g v cs
 Bj : p.g ∈ E.Bj
 new : E0.w.heap.size ≤ p.g
 Ve : p.g ∉ E0.Bj
 mem : p.m ∈ r
 done : listed.getD p.m true = true
 iE : ∀ j ∈ (Fq ops).getD p.m [], j ∉ r
def LQ (ops : Array ch) (r : List Nat) (m : Nat) : Prop := ∃ r1 r2 b, r = r1 ++ m :: r2 ∧ b ∈ r1 ∧ NC ops (Fq ops) b m = true
theorem K0 {α : Type} {x y : α} {l r : List α} (h : x ∈ l ++ r) : x ∈ l ++ y :: r := (List.Sublist.append (List.Sublist.refl l) (List.sublist_cons_self y r)).subset h
theorem JC {α : Type} {x y : α} {l r : List α} (h : x ∈ l ++ y :: r) (hn : x ≠ y) : x ∈ l ++ r := by
 rcases aq.1 h with h | h
 ·exact cd _ h
 ·rcases bq.1 h with h | h
  ·exact absurd h hn
  ·exact List.mem_append_right _ h
theorem Vz {r1 r2 r1' r2' : List Nat} {m : Nat} (hn : (r1 ++ m :: r2).Nodup) (h : r1 ++ m :: r2 = r1' ++ m :: r2') : r1 = r1' ∧ r2 = r2' := by
 induction r1 generalizing r1' with
 | nil =>
  cases r1' with
  | nil => simpa using h
  | cons x xs =>
   simp only [dr, dt, ep] at h
   obtain ⟨rfl, h⟩ := h
   simp only [dr, dp] at hn
   exact absurd (by rw [h]; simp) hn.1
 | cons y ys ih =>
  cases r1' with
  | nil =>
   simp only [dr, dt, ep] at h
   obtain ⟨rfl, h⟩ := h
   simp only [dt, dp] at hn
   exact absurd (by simp) hn.1
  | cons x xs =>
   simp only [dt, ep] at h
   obtain ⟨rfl, h⟩ := h
   simp only [dt, dp] at hn
   obtain ⟨h1, h2⟩ := ih hn.2 h
   exact ⟨by rw [h1], h2⟩
theorem gR {cf : Nat → Cx} {ops : Array ch} {t : Nat} : ∀ (l : List Nat) {S S' : St}, De cf ops l S = some S' → (∀ j ∈ l, ∀ o, ops[j]? = some o → o.dst ≠ some t) → S'.T t = S.T t
 | [], S, S', h, _ => by simp only [De, ab] at h; rw [h]
 | j :: l, S, S', h, hj => by
  unfold De at h
  split at h
  ·cases h
  rename_i o ho
  simp only [af] at h
  obtain ⟨S1, h1, h2⟩ := h
  rw [gR l h2 fun k hk => hj k (bw _ hk)]
  have hd := hj j (ck ..) o ho
  rw [EX] at h1
  simp only [af] at h1
  obtain ⟨v, _, h1⟩ := h1
  split at h1
  case isFalse => cases h1
  simp only [ab] at h1
  subst h1
  unfold JF
  cases hh : o.dst with
  | none => rfl
  | some d =>
   show (if t = d then _ else _) = _
   rw [if_neg]
   rintro rfl
   exact hd hh
theorem Wi {cf : Nat → Cx} {ops : Array ch} : ∀ (l l' : List Nat) {S S' : St}, De cf ops (l ++ l') S = some S' → ∃ S1, De cf ops l S = some S1 ∧ De cf ops l' S1 = some S'
 | [], l', S, S', h => ⟨S, rfl, h⟩
 | j :: l, l', S, S', h => by
  simp only [dt, De] at h ⊢
  split at h
  ·cases h
  rename_i o ho
  simp only [af] at h
  obtain ⟨S1, h1, h2⟩ := h
  obtain ⟨S2, h3, h4⟩ := Wi l l' h2
  exact ⟨S2, by simp only [h1, aa, h3], h4⟩
theorem Q7 {cx : Cx} {ops : Array ch} {o : ch} {d : Nat} {S S1 : St} (hg : o.guard = none) (hd : o.dst = some d) (h : Bx cx ops o S = some S1) : d < cx.ntmps ∧ ∃ v H', Cb cx o S = some (v, H') ∧ S1 = ({ S with H := H' } : St).set d v := by
 unfold Bx D1 at h
 rw [hg] at h
 simp only [aa, if_true] at h
 unfold JS at h
 rw [hd] at h
 simp only [] at h
 split at h
 case isFalse => cases h
 rename_i hlt
 simp only [ag, Prod.exists] at h
 obtain ⟨v, H', h1, h2⟩ := h
 exact ⟨hlt, v, H', h1, h2.symm⟩
structure bV (c : Cx) (ops : Array ch) (E0 : Ab) (S' : St) (fuel : Nat) (listed : Array Bool) (r : List Nat) (pend : List Pd) (E : Ab) (S : St) (a A : Act) : Prop where
 size : listed.size = ops.size
 count : fuel + pend.length = r.length
 left : ∀ i, i ∈ r ↔ i < ops.size ∧ (listed.getD i true = false ∨ i ∈ pend.map (·.m))
 Gj : Cr ops (Fq ops) r = true
 down : ∀ e, listed.getD e false = true → ∀ j ∈ (Fq ops).getD e [], listed.getD j false = true
 JJ : Cy c E S a
 defers : a.defers = []
 act : A = EW a (pend.map fun p => (p.d, p.u))
 rest : De (FX c ops) ops r S = some S'
 part : LG ops c.base S'.T = true
 after : BG c E0 E S.H
 TA : ∀ p ∈ pend, qF c ops E0 E S listed r p
 nodup : (pend.map (·.m)).Nodup
 gs : (pend.map (·.g)).Nodup
theorem bV.blocked {E0 : Ab} {S' : St} {fuel : Nat} {ops : Array ch} {listed : Array Bool} {r : List Nat} {pend : List Pd} {A : Act} (h : bV c ops E0 S' fuel listed r pend E S a A) (hb : ∀ p ∈ pend, LQ ops r p.m) : ∀ (n : Nat) (p : Pd), p ∈ pend → (∃ r1 r2, r = r1 ++ p.m :: r2 ∧ r1.length = n) → ∃ b ∈ r, listed.getD b true = false ∧ ∀ k, k < ops.size → p.m ∈ (Fq ops).getD k [] → b ∈ (Fq ops).getD k [] := by
 intro n
 induction n using lh with
 | _ n ih =>
  rintro p hp ⟨r1, r2, hr, hl⟩
  obtain ⟨q1, q2, b, hq, hb1, hb2⟩ := hb p hp
  have hnd := DE h.Gj
  obtain ⟨rfl, rfl⟩ := Vz (by rw [← hr]; exact hnd) (hr.symm.trans hq)
  obtain ⟨_, _, _, _, _, _, _, _, _, _, hk⟩ := KA hb2
  have hbr : b ∈ r := by rw [hr]; simp [hb1]
  rcases ((h.left b).1 hbr).2 with hl2 | hl2
  ·exact ⟨b, hbr, hl2, hk⟩
  ·obtain ⟨q, hq1, rfl⟩ := du.1 hl2
   obtain ⟨s1, s2, rfl⟩ := fq hb1
   obtain ⟨b', h1, h2, h3⟩ := ih s1.length (by rw [← hl]; simp) q hq1 ⟨s1, s2 ++ p.m :: r2, by rw [hr]; simp, rfl⟩
   exact ⟨b', h1, h2, fun k hk1 hk2 => h3 k hk1 (hk k hk1 hk2)⟩
theorem N7 {c : Cx} {ops : Array ch} {o : ch} {T T' : Nat → V} {H : A6} (h : ∀ t ∈ o.looksAt ops, T t = T' t) : Cb c o { T := T, H := H } = Cb c o { T := T', H := H } := by
  refine RV c o fun x hx => ?_
  cases x with
  | tmp t =>
    have : t ∈ o.looksAt ops := cd _ (ko.2 ⟨.tmp t, by simpa using hx, rfl⟩)
    simp only [ev, h t this]
  | _ => rfl
theorem oK {d : Option Nat} {x : V × A6} {S : St} {t : Nat} (h : d ≠ some t) : (JF d x S).T t = S.T t := by
 unfold JF
 cases d with
 | none => rfl
 | some d =>
  show (if t = d then _ else _) = _
  rw [if_neg]
  rintro rfl
  exact h rfl
theorem bV.settle {E0 : Ab} {S' : St} {ops : Array ch} (hK : GI c.Γ) {listed : Array Bool} {A : Act} {fuel : Nat} {R : et → Prop} : ∀ (n : Nat) {r : List Nat} {pend : List Pd} {E : Ab} {S : St} {a : Act}, pend.length = n → bV c ops E0 S' fuel listed r pend E S a A →
    (∀ r pend E1 S a, bV c ops E0 S' fuel listed r pend E1 S a A → (∀ p ∈ pend, LQ ops r p.m) → E1.w = E.w → R E1.w) → R E.w
  | n, r, pend, E, S, a, hlen, h, hR => by
    by_cases hall : ∀ p ∈ pend, LQ ops r p.m
    · exact hR r pend E S a h hall rfl
    have : ∃ p, p ∈ pend ∧ ¬ LQ ops r p.m := fp fun hx => hall fun p hp => fp fun hy => hx ⟨p, hp, hy⟩
    obtain ⟨p, hp, hnb⟩ := this
    obtain ⟨pa, pb, rfl⟩ := fq hp
    have hpo := h.TA p hp
    obtain ⟨o, ho, hog, hod, v, sz, cs, hop, hpd⟩ := hpo.op
    obtain ⟨r1, r2, rfl⟩ := fq hpo.mem
    obtain ⟨p1, p2⟩ := Ie h.Gj
    have hnd := DE h.Gj
    have hbub := Um (c := c) hK (cf := FX c ops) (fun i => ⟨_, rfl⟩) ho (r2 := r2) r1 h.JJ.base h.rest fun s1 j s2 he => by
      have hj : j ∈ r1 := by rw [he]; simp
      rcases (p1 j hj).2.2 with h1 | h1 | h1 | ⟨x, y, hx, hy, hsw, hc⟩
      · exact absurd (by simp [hj]) (hpo.iE j h1)
      · exact absurd ⟨r1, r2, j, rfl, hj, h1⟩ hnb
      · exact .inr (lW.of h.Gj h.part (fun k hk hc => absurd (by simp [hk]) (hpo.iE k hc)) he h1 ho)
      · rw [ho] at hy
        simp only [ab] at hy
        subst hy
        exact .inl ⟨x, hx, hsw, hc⟩
    simp only [De, ho, af] at hbub
    obtain ⟨S1, g1, g2⟩ := hbub
    obtain ⟨hlt, v1, H1, h1, rfl⟩ := Q7 hog hod g1
    have hSe : (⟨S.T, S.H⟩ : St) = S := rfl
    have hop1 := hop S.H
    rw [hSe, h1] at hop1
    simp only [ab, ah] at hop1
    obtain ⟨rfl, rfl⟩ := hop1
    have hEn : E.n = E.H.length := by rw [h.after.n, h.after.H]
    obtain ⟨ha, hru⟩ := VZ h.after h.JJ.base (cu h.after.D8.len (Nat.le_of_eq h.after.n)) (sz := sz) hpd hpo.Bj hpo.new hpo.Ve
    have hmd : ∀ q ∈ pa ++ pb, q.m ≠ p.m ∧ q.g ≠ p.g ∧ q ∈ pa ++ p :: pb := by
      intro q hq
      have hn1 := h.nodup
      have hn2 := h.gs
      simp only [eh, dj] at hn1 hn2
      have hmem : q ∈ pa ++ p :: pb := K0 hq
      rw [dc] at hn1 hn2
      refine ⟨fun e => ?_, fun e => ?_, hmem⟩
      · rcases aq.1 hq with hq | hq
        · exact hn1.2.2 q.m (fi hq) p.m (ck ..) e
        · exact (dp.1 hn1.2.1).1 (e ▸ fi hq)
      · rcases aq.1 hq with hq | hq
        · exact hn2.2.2 q.g (fi hq) p.g (ck ..) e
        · exact (dp.1 hn2.2.1).1 (e ▸ fi hq)
    have hap : ∀ q ∈ pa ++ pb, ∃ oq, ops[q.m]? = some oq ∧ oq.dst = some q.d ∧ p.d ∉ oq.looksAt ops ∧ oq.dst ≠ some p.d := by
      intro q hq
      obtain ⟨hq1, hq2, hq3⟩ := hmd q hq
      have hqo := h.TA q hq3
      obtain ⟨oq, e1, e2, e3, _⟩ := hqo.op
      have hqr := hqo.mem
      have hkey : ∃ x y, ops[q.m]? = some x ∧ ops[p.m]? = some y ∧ Oper.apart ops x y = true ∧ Oper.apart ops y x = true := by
        rcases aq.1 hqr with hq4 | hq4
        · exact (p1 q.m hq4).apart fun e => absurd hqr (hpo.iE _ e)
        · rcases bq.1 hq4 with hq4 | hq4
          · exact absurd hq4 hq1
          · obtain ⟨x, y, k1, k2, k3, k4⟩ := (p2 q.m hq4).apart fun e => absurd hpo.mem (hqo.iE _ e)
            exact ⟨y, x, k2, k1, k4, k3⟩
      obtain ⟨x, y, k1, k2, k3, k4⟩ := hkey
      rw [e1] at k1
      rw [ho] at k2
      simp only [ab] at k1 k2
      subst k1 k2
      obtain ⟨_, w2, w3⟩ := Oper.apart_spec k3
      exact ⟨oq, e1, e3, w3 _ hod, fun e => w2 _ e (by rw [hod])⟩
    let E1 := E.name p.g (.cells sz cs)
    have hsim : Cy c E1 (({ S with H := S.H ++ [.cells sz cs] } : St).set p.d (v S.H.length)) (a.put (some p.d) p.u) := by
      refine
        { H := by show E.H ++ _ = S.H ++ _; rw [h.JJ.H]
          lk := h.JJ.lk
          n := by show E.n + 1 = _; rw [h.JJ.n]; show _ = (S.H ++ [_]).length; simp
          m := h.JJ.m
          tmps := fun i => ?_
          size := by rw [← h.JJ.size]; simp [Act.put]
          heap := ha.heap
          base := by show _ ≤ (S.H ++ [_]).length; have := h.JJ.base; simp; omega
          EH := h.JJ.EH
          deep := h.JJ.deep }
      show AB E1 (if i = p.d then _ else S.T i) (((a.tmps).setIfInBounds p.d p.u).getD i undef)
      rw [Ph]
      by_cases hi : i = p.d
      · rw [if_pos hi, if_pos ⟨hi, by rw [h.JJ.size]; exact hlt⟩]; exact hru
      · rw [if_neg hi, if_neg (fun e => hi e.1)]; exact QB hpo.Bj hEn (h.JJ.tmps i)
    refine bV.settle hK (n - 1) (r := r1 ++ r2) (pend := pa ++ pb) (E := E1) (S := ({ S with H := S.H ++ [.cells sz cs] } : St).set p.d (v S.H.length)) (a := a.put (some p.d) p.u) (by simp at hlen ⊢; omega) ?_ fun r' pend' E2 S2 a2 hm hb he => hR r' pend' E2 S2 a2 hm hb he
    have hcount := h.count
    exact
      { size := h.size
        count := by simp at hcount ⊢; omega
        left := fun i => by
          constructor
          · intro hi
            obtain ⟨k1, k2⟩ := (h.left i).1 (K0 hi)
            refine ⟨k1, k2.imp id fun k2 => ?_⟩
            obtain ⟨q, hq, rfl⟩ := du.1 k2
            refine fi (JC hq ?_)
            rintro rfl
            have := hnd
            rw [dc] at this
            rcases aq.1 hi with hi | hi
            · exact this.2.2 _ hi _ (ck ..) rfl
            · exact (dp.1 this.2.1).1 hi
          · rintro ⟨k1, k2⟩
            have hne : i ≠ p.m := by
              rintro rfl
              rcases k2 with k2 | k2
              · rw [hpo.done] at k2; cases k2
              · obtain ⟨q, hq, hqe⟩ := du.1 k2
                exact (hmd q hq).1 hqe
            refine JC ((h.left i).2 ⟨k1, k2.imp id fun k2 => ?_⟩) hne
            obtain ⟨q, hq, rfl⟩ := du.1 k2
            exact fi (K0 hq)
        Gj := GX (by simp) h.Gj
        down := h.down
        JJ := hsim
        defers := h.defers
        act := by
          rw [h.act]
          simp only [eh, dj]
          unfold EW
          rw [jf, List.foldl_cons, jf]
          congr 1
          show (EW a (pa.map fun p => (p.d, p.u))).put (some p.d) p.u = EW (a.put (some p.d) p.u) (pa.map fun p => (p.d, p.u))
          refine (KS _ _ fun q hq => ?_).symm
          obtain ⟨q', hq', rfl⟩ := du.1 hq
          obtain ⟨oq, _, e2, _, e4⟩ := hap q' (cd _ hq')
          intro e
          exact e4 (by rw [e2, ← e])
        rest := g2
        part := h.part
        after := ha
        TA := fun q hq => by
          obtain ⟨hq1, hq2, hq3⟩ := hmd q hq
          have hqo := h.TA q hq3
          obtain ⟨oq, e1, e2, e3, v2, sz2, cs2, e4, e5⟩ := hqo.op
          obtain ⟨oq', f1, f2, f3, _⟩ := hap q hq
          rw [e1] at f1
          simp only [ab] at f1
          subst f1
          refine ⟨⟨oq, e1, e2, e3, v2, sz2, cs2, fun H2 => ?_, e5⟩, K2.2 ⟨hqo.Bj, hq2⟩, hqo.new, hqo.Ve, ?_, hqo.done, fun j hj hjr => hqo.iE j hj (K0 hjr)⟩
          · rw [← e4 H2]
            refine (N7 (ops := ops) fun t ht => ?_)
            show (if t = p.d then _ else S.T t) = _
            rw [if_neg]
            rintro rfl
            exact f3 ht
          · exact JC hqo.mem hq1
        nodup := by
          have := h.nodup
          simp only [eh, dj] at this ⊢
          exact this.sublist (by simp)
        gs := by
          have := h.gs
          simp only [eh, dj] at this ⊢
          exact this.sublist (by simp) }
  termination_by n => n
  decreasing_by simp at hlen; omega
theorem bV.apart {E0 : Ab} {S' : St} {fuel : Nat} {ops : Array ch} {listed : Array Bool} {r : List Nat} {pend : List Pd} {A : Act} (h : bV c ops E0 S' fuel listed r pend E S a A) {i : Nat} {oi : ch} (hi : ops[i]? = some oi) (hir : i ∈ r) (hil : listed.getD i true = false) (hanc : ∀ p ∈ pend, p.m ∉ (Fq ops).getD i []) : ∀ p ∈ pend, ∃ op, ops[p.m]? = some op ∧ Oper.apart ops op oi = true ∧ Oper.apart ops oi op = true := by
 intro p hp
 have hpo := h.TA p hp
 obtain ⟨r1, r2, rfl⟩ := fq hir
 obtain ⟨p1, p2⟩ := Ie h.Gj
 have hne : p.m ≠ i := by
  intro e
  have := hpo.done
  rw [e, hil] at this
  cases this
 rcases aq.1 hpo.mem with hm | hm
 ·obtain ⟨x, y, k1, k2, k3, k4⟩ := (p1 p.m hm).apart (hanc p hp)
  rw [hi] at k2
  simp only [ab] at k2
  subst k2
  exact ⟨x, k1, k3, k4⟩
 ·rcases bq.1 hm with hm | hm
  ·exact absurd hm hne
  ·have hsz : p.m < listed.size := by
    rcases bz p.m listed.size with hl | hl
    ·exact hl
    ·rw [h.size] at hl
     obtain ⟨o, ho, _⟩ := hpo.op
     exact absurd (az.1 ho).1 (dw.2 hl)
   have hna : i ∉ (Fq ops).getD p.m [] := by
    intro e
    have := h.down p.m (by rw [Gf hsz false true]; exact hpo.done) i e
    have hi2 : i < listed.size := by rw [h.size]; exact (az.1 hi).1
    rw [Gf hi2 false true, hil] at this
    cases this
   obtain ⟨x, y, k1, k2, k3, k4⟩ := (p2 p.m hm).apart hna
   rw [hi] at k1
   simp only [ab] at k1
   subst k1
   exact ⟨y, k2, k4, k3⟩
theorem Nt {c : Cx} {o : ch} {S : St} {r : V × A6} (h : Cb c o S = some r) : ∀ cs b, o.op ≠ .select cs b := by
 intro cs b e
 unfold Cb at h
 simp only [e] at h
 cases h
theorem Ji {ops : Array ch} {E0 : Ab} (hh0 : CW E0) {Q : Exit → Act → et → Prop} (hok : MX ops = true) (hΓ : HD c.P c.hints c.Γ) (hK : GI c.Γ) {S' : St} (hn : ∀ E' a', Cy c E' S' a' → BG c E0 E' S'.H → a'.defers = [] → Q .normal a' E'.w) : ∀ (fuel : Nat) (listed : Array Bool) (r : List Nat) (pend : List Pd) {E : Ab} {S : St} {a A : Act},
    bV c ops E0 S' fuel listed r pend E S a A → (∀ p ∈ pend, LQ ops r p.m) → wpAny c.P .any ops Q fuel listed A E.w
  | 0, listed, r, pend, E, S, a, A, h, hb => by
    have hun : ∀ i ∈ r, listed.getD i true = false → False := by
      intro i hi hl
      have hnd := DE h.Gj
      have hle : pend.length + 1 ≤ r.length := by
        have h1 : (i :: pend.map (·.m)).Nodup := by
          refine dp.2 ⟨fun hm => ?_, h.nodup⟩
          obtain ⟨p, hp, rfl⟩ := du.1 hm
          have := (h.TA p hp).done
          rw [hl] at this
          cases this
        have h2 := List.Nodup.length_le_of_subset h1 (l₂ := r) fun x hx => by
          rcases bq.1 hx with rfl | hx
          · exact hi
          · obtain ⟨p, hp, rfl⟩ := du.1 hx
            exact (h.TA p hp).mem
        simpa using h2
      have := h.count
      omega
    have hp0 : pend = [] := by
      cases pend with
      | nil => rfl
      | cons p ps =>
        obtain ⟨r1, r2, hr⟩ := fq (h.TA p (ck ..)).mem
        obtain ⟨b, hb1, hb2, _⟩ := h.blocked hb _ p (ck ..) ⟨r1, r2, hr, rfl⟩
        exact (hun b hb1 hb2).elim
    subst hp0
    have hr0 : r = [] := by
      have := h.count
      exact cp (by simp at this; omega)
    subst hr0
    have hrest := h.rest
    simp only [De, ab] at hrest
    subst hrest
    have hA : A = a := h.act
    subst hA
    refine ⟨?_, hn E A h.JJ h.after h.defers⟩
    rw [List.eq_nil_iff_forall_not_mem]
    intro i hi
    obtain ⟨h1, o, h2, _⟩ := mem_ready.1 hi
    have := (h.left i).2 ⟨(az.1 h2).1, .inl h1⟩
    cases this
  | fuel + 1, listed, r, pend, E, S, a, A, h, hb => by
    obtain ⟨s1, s2, s3, s4⟩ := Jh hok
    have hsz := h.size
    refine ⟨fun hnil => ?_, fun i hi => ?_⟩
    · exfalso
      have hex : ∃ x, x ∈ r ∧ listed.getD x true = false := by
        refine fp fun hx => ?_
        have hnd := DE h.Gj
        have := List.Nodup.length_le_of_subset hnd (l₂ := pend.map (·.m)) fun x hxr => by
          rcases ((h.left x).1 hxr).2 with h1 | h1
          · exact absurd ⟨x, hxr, h1⟩ hx
          · exact h1
        have hc := h.count
        simp at this
        omega
      obtain ⟨x, hx⟩ := hex
      obtain ⟨m, hm, hmin⟩ := Zb (p := fun k => k ∈ r ∧ listed.getD k true = false) x hx
      obtain ⟨hm1, _⟩ := (h.left m).1 hm.1
      have : m ∈ Region.ready .any ops listed := by
        rw [mem_ready]
        refine ⟨hm.2, ops[m], gf hm1, fun e he hb' => ?_⟩
        have hlt := (s3 m hm1).1 e.on ((RS (gf hm1)).2 ⟨e, he, hb', rfl⟩)
        cases hl : listed.getD e.on true with
        | false => exact absurd (hmin e.on ⟨(h.left e.on).2 ⟨by omega, .inl hl⟩, hl⟩) (by omega)
        | true => rw [Gf (by omega) false true]; exact hl
      rw [hnil] at this
      cases this
    · obtain ⟨h1, o, ho, h2⟩ := mem_ready.1 hi
      have hlt : i < ops.size := (az.1 ho).1
      have hir : i ∈ r := (h.left i).2 ⟨hlt, .inl h1⟩
      have hlist : ∀ e ∈ IE ops i, listed.getD e false = true := by
        intro e he
        obtain ⟨d, hd1, hd2, rfl⟩ := (RS ho).1 he
        exact h2 d hd1 hd2
      have hanc : ∀ j ∈ (Fq ops).getD i [], listed.getD j false = true := by
        intro j hj
        obtain ⟨e, he, hej⟩ := (s3 i hlt).2 j hj
        rcases hej with rfl | hej
        · exact hlist _ he
        · exact h.down e (hlist e he) j hej
      have hancr : ∀ j ∈ (Fq ops).getD i [], j ∉ r := by
        intro j hj hjr
        rcases ((h.left j).1 hjr) with ⟨hjs, hl | hl⟩
        · have h4 := hanc j hj
          rw [Gf (by omega) false true, hl] at h4
          cases h4
        · obtain ⟨p, hp, rfl⟩ := du.1 hl
          obtain ⟨r1, r2, hr⟩ := fq hjr
          obtain ⟨b, hb1, hb2, hb3⟩ := h.blocked hb _ p hp ⟨r1, r2, hr, rfl⟩
          have h4 := hanc b (hb3 i hlt hj)
          rw [Gf (by have := ((h.left b).1 hb1).1; omega) false true, hb2] at h4
          cases h4
      have hap := h.apart ho hir h1 fun p hp e => hancr _ e (h.TA p hp).mem
      have hl1 : ∀ q ∈ pend.map fun p => (p.d, p.u), q.1 ∉ o.looksAt ops := by
        intro q hq
        obtain ⟨p, hp, rfl⟩ := du.1 hq
        obtain ⟨op, k1, k2, _⟩ := hap p hp
        obtain ⟨op', e1, _, e3, _⟩ := (h.TA p hp).op
        rw [e1] at k1
        simp only [ab] at k1
        subst k1
        exact (Oper.apart_spec k2).1 _ e3
      have hl2 : ∀ q ∈ pend.map fun p => (p.d, p.u), o.dst ≠ some q.1 := by
        intro q hq
        obtain ⟨p, hp, rfl⟩ := du.1 hq
        obtain ⟨op, k1, k2, _⟩ := hap p hp
        obtain ⟨op', e1, _, e3, _⟩ := (h.TA p hp).op
        rw [e1] at k1
        simp only [ab] at k1
        subst k1
        exact (Oper.apart_spec k2).2.1 _ e3
      have hl3 : ∀ p ∈ pend, ∀ d, o.dst = some d → ∃ op, ops[p.m]? = some op ∧ d ∉ op.looksAt ops := by
        intro p hp d hd
        obtain ⟨op, k1, _, k2⟩ := hap p hp
        exact ⟨op, k1, (Oper.apart_spec k2).1 d hd⟩
      have hA := h.act
      subst hA
      obtain ⟨r1, r2, rfl⟩ := fq hir
      obtain ⟨p1, p2⟩ := Ie h.Gj
      have hnd := DE h.Gj
      have hir12 : i ∉ r1 ++ r2 := by
        intro hx
        rw [dc] at hnd
        rcases aq.1 hx with hx | hx
        · exact hnd.2.2 _ hx _ (ck ..) rfl
        · exact (dp.1 hnd.2.1).1 hx
      have hdown : ∀ e, (listed.setIfInBounds i true).getD e false = true → ∀ j ∈ (Fq ops).getD e [], (listed.setIfInBounds i true).getD j false = true := by
        intro e he j hj
        by_cases hx : i = e
        · subst hx
          exact getD_set_true (hanc j hj)
        · rw [getD_set_ne false hx] at he
          exact getD_set_true (h.down e he j hj)
      have hpm : ∀ p ∈ pend, p.m ≠ i := by
        intro p hp e
        have := (h.TA p hp).done
        rw [e, h1] at this
        cases this
      have hdone : ∀ p ∈ pend, (listed.setIfInBounds i true).getD p.m true = true := by
        intro p hp
        rw [getD_set_ne true (fun e => hpm p hp e.symm)]
        exact (h.TA p hp).done
      by_cases hcase : ∃ b ∈ r1, NC ops (Fq ops) b i = true
      ·
        obtain ⟨b, hb1, hb2⟩ := hcase
        obtain ⟨_, o', d, _, ho', hmk, hog, hod, _, _, _⟩ := KA hb2
        rw [ho] at ho'
        simp only [ab] at ho'
        subst ho'
        obtain ⟨Sm, q1, q2⟩ := Wi r1 (i :: r2) h.rest
        simp only [De, ho, af] at q2
        obtain ⟨S1, q2, _⟩ := q2
        obtain ⟨_, v1, H1, q3, _⟩ := Q7 hog hod q2
        have hT : ∀ t ∈ o.looksAt ops, Sm.T t = S.T t := by
          intro t ht
          refine gR r1 q1 fun j hj oj hoj e => ?_
          obtain ⟨x, y, k1, k2, k3, _⟩ := (p1 j hj).apart fun e => hancr j e (by simp [hj])
          rw [hoj] at k1
          rw [ho] at k2
          simp only [ab] at k1 k2
          subst k1 k2
          exact (Oper.apart_spec k3).1 t e ht
        obtain ⟨c1, e1, e2⟩ : ∃ vv HH, Cb (FX c ops i) o S = some (vv, HH) := by
          have := N7 (c := FX c ops i) (ops := ops) (o := o) (H := Sm.H) hT
          rw [show (⟨Sm.T, Sm.H⟩ : St) = Sm from rfl, q3] at this
          unfold Lz at hmk
          split at hmk
          · rename_i t hop
            unfold Cb at this ⊢
            simp only [hop] at this ⊢
            have t2 := this.symm
            simp only [af] at t2
            obtain ⟨sz, hsz', z, hz, _⟩ := t2
            exact ⟨_, _, by simp only [hsz', hz, aa]; rfl⟩
          · rename_i t n m hop
            unfold Cb at this ⊢
            simp only [hop] at this ⊢
            have t2 := this.symm
            simp only [af] at t2
            obtain ⟨N, hN, M, hM, t3⟩ := t2
            simp only [hN, hM, aa]
            unfold Jz at t3 ⊢
            split at t3
            case h_2 => cases t3
            rename_i k l
            simp only [af] at t3
            obtain ⟨e, he, sz, hsz', by_, hby, z, hz, t4⟩ := t3
            split at t4
            case isFalse => cases t4
            rename_i hc
            simp only [he, hsz', hby, hz, aa]
            rw [if_pos hc]
            exact ⟨_, _, rfl⟩
          · cases hmk
        obtain ⟨v, sz, cs, u, cc, t, hop, hrun, hpd⟩ := VW (c := FX c ops i) (h.JJ.BQ true (Kn ops (Fq ops) i)) hmk e2
        have hsel := Nt e2
        let E1 : Ab := { E with w := E.w.alloc (.cells cc t), Bj := E.w.heap.size :: E.Bj }
        have hsil : FW E E1 cc t :=
          { heap := rfl, os := rfl, tape := rfl, output := rfl, CV := rfl, H := rfl, lk := rfl, nn := rfl, mm := rfl
            Bj := fun g => by
              show g ∈ E.w.heap.size :: E.Bj ↔ g ∈ E.Bj ∨ (g ∈ E.w.heap.size :: E.Bj ∧ g = E.w.heap.size)
              simp only [bq]
              constructor
              · rintro (rfl | hg)
                · exact .inr ⟨.inl rfl, rfl⟩
                · exact .inl hg
              · rintro (hg | ⟨hg, _⟩)
                · exact .inr hg
                · exact hg }
        have hafter : BG c E0 E1 S.H := by
          have hr := hsil.rel h.JJ.heap
          exact h.after.trans
            { H := h.JJ.H, n := h.JJ.n, m := rfl, D8 := hsil.D8, heap := hr
              IX := fun _ base nb d _ hn hd hf => hsil.DU hn hd hf h.JJ.heap
              J4 := fun _ base d _ hd hf => hsil.DU (al _) hd hf h.JJ.heap
              kept := fun _ _ _ => by rw [h.JJ.H] }
        have hsim : Cy c E1 S a := ⟨h.JJ.H, h.JJ.lk, h.JJ.n, h.JJ.m, fun j => hsil.D8.rep h.JJ.heap _ _ (h.JJ.tmps j), h.JJ.size, hafter.heap, h.JJ.base, h.JJ.EH, h.JJ.deep⟩
        unfold wpOp
        simp only [ho]
        have hw : Region.wanted o (yielded ops (EW a (pend.map fun p => (p.d, p.u))).tmps) = true := by
          unfold Region.wanted; rw [hog]
        rw [if_pos hw]
        refine .inl ?_
        unfold Oper.wp
        rw [Mb hsel _ a hl1]
        show o.upon c.P _ _ Q ((execOp a.eval o).run (FX c ops i).P E.w)
        rw [hrun, Oper.upon_value]
        rw [hod]
        refine Ji hh0 hok hΓ hK hn fuel (listed.setIfInBounds i true) (r1 ++ i :: r2) (pend ++ [⟨i, d, u, E.w.heap.size⟩]) (E := E1) (S := S) (a := a) ?_ ?_
        · have hlis : (listed.setIfInBounds i true).getD i true = true := by simp [hsz, hlt]
          exact
            { size := by simp [hsz]
              count := by have := h.count; simp at this ⊢; omega
              left := fun x => by
                have hlx := h.left x
                by_cases hx : i = x
                · subst hx
                  exact ⟨fun _ => ⟨hlt, .inr (by simp)⟩, fun _ => by simp⟩
                · rw [getD_set_ne true hx, hlx]
                  simp only [eh, dj, ft, aq, bh]
                  constructor
                  · rintro ⟨k1, k2⟩; exact ⟨k1, k2.imp id .inl⟩
                  · rintro ⟨k1, k2⟩; exact ⟨k1, k2.imp id fun k => k.resolve_right fun e => hx e.symm⟩
              Gj := h.Gj
              down := hdown
              JJ := hsim
              defers := h.defers
              act := by
                rw [eh, dj, ft, Vo]
              rest := h.rest
              part := h.part
              after := hafter
              TA := fun p hp => by
                rcases aq.1 hp with hp | hp
                · have hpo := h.TA p hp
                  obtain ⟨op, k1, k2, k3, v2, sz2, cs2, k4, ⟨cc2, t2, m1, m2⟩, m3⟩ := hpo.op
                  refine ⟨⟨op, k1, k2, k3, v2, sz2, cs2, k4, ⟨cc2, t2, ?_, m2⟩, m3⟩, bw _ hpo.Bj, hpo.new, hpo.Ve, hpo.mem, hdone p hp, hpo.iE⟩
                  have := hsil.D8.Hh p.g hpo.Bj (h.JJ.heap.Bj _ hpo.Bj).1
                  rw [this]; exact m1
                · simp only [bh] at hp
                  subst hp
                  exact ⟨⟨o, ho, hog, hod, v, sz, cs, hop, hpd⟩, ck .., h.after.D8.size, fun e => absurd (hh0.Bj _ e).1 (dw.2 h.after.D8.size), hir, hlis, hancr⟩
              nodup := by
                rw [eh, dj, ft, dc]
                refine ⟨h.nodup, by simp, fun x hx y hy e => ?_⟩
                simp only [bh] at hy
                obtain ⟨p, hp, rfl⟩ := du.1 hx
                exact hpm p hp (e.trans hy)
              gs := by
                rw [eh, dj, ft, dc]
                refine ⟨h.gs, by simp, fun x hx y hy e => ?_⟩
                simp only [bh] at hy
                obtain ⟨p, hp, rfl⟩ := du.1 hx
                have := (h.JJ.heap.Bj _ (h.TA p hp).Bj).1
                rw [e, hy] at this
                exact absurd this (Nat.lt_irrefl _) }
        · intro p hp
          rcases aq.1 hp with hp | hp
          · exact hb p hp
          · simp only [bh] at hp
            subst hp
            exact ⟨r1, r2, b, rfl, hb1, hb2⟩
      ·
        have hbub := Um (c := c) hK (cf := FX c ops) (fun i => ⟨_, rfl⟩) ho (r2 := r2) r1 h.JJ.base h.rest fun s1 j s2 he => by
          have hj : j ∈ r1 := by rw [he]; simp
          rcases (p1 j hj).2.2 with hj2 | hj2 | hj2 | ⟨x, y, hx, hy, hsw, hc⟩
          · exact absurd (by simp [hj]) (hancr j hj2)
          · exact absurd ⟨j, hj, hj2⟩ hcase
          · exact .inr (lW.of h.Gj h.part (fun k hk hc => absurd (by simp [hk]) (hancr k hc)) he hj2 ho)
          · rw [ho] at hy
            simp only [ab] at hy
            subst hy
            exact .inl ⟨x, hx, hsw, hc⟩
        simp only [De, ho, af] at hbub
        obtain ⟨S1, g1, g2⟩ := hbub
        have hg := EX (FX c ops i) ops o S
        rw [g1] at hg
        have hg := hg.symm
        simp only [af] at hg
        obtain ⟨ve, _, hg⟩ := hg
        split at hg
        case isFalse => cases hg
        simp only [ab] at hg
        have key : ∀ E1 a1, Cy c E1 S1 a1 → BG c E E1 S1.H → a1.defers = [] → wpAny c.P .any ops Q fuel (listed.setIfInBounds i true) (EW a1 (pend.map fun p => (p.d, p.u))) E1.w := by
          intro E1 a1 hs1 ha1 hd1
          refine bV.settle (c := c) (E0 := E0) (S' := S') (ops := ops) hK (listed := listed.setIfInBounds i true) (A := EW a1 (pend.map fun p => (p.d, p.u))) (fuel := fuel) (R := fun w => wpAny c.P .any ops Q fuel (listed.setIfInBounds i true) (EW a1 (pend.map fun p => (p.d, p.u))) w) pend.length (r := r1 ++ r2) (pend := pend) (E := E1) (S := S1) (a := a1) rfl ?_ fun r' pend' E2 S2 a2 hm hb' he => Ji hh0 hok hΓ hK hn fuel _ r' pend' hm hb'
          exact
            { size := by simp [hsz]
              count := by have := h.count; simp at this ⊢; omega
              left := fun x => by
                have hlx := h.left x
                by_cases hx : i = x
                · subst hx
                  refine ⟨fun hm => absurd hm hir12, ?_⟩
                  rintro ⟨_, hm | hm⟩
                  · simp [hsz, hlt] at hm
                  · obtain ⟨p, hp, e⟩ := du.1 hm
                    exact absurd e (hpm p hp)
                · rw [getD_set_ne true hx, ← hlx]
                  simp [aq, bq, Ne.symm hx]
              Gj := GX (by simp) h.Gj
              down := hdown
              JJ := hs1
              defers := hd1
              act := rfl
              rest := g2
              part := h.part
              after := h.after.trans ha1
              TA := fun p hp => by
                have hpo := h.TA p hp
                obtain ⟨op, k1, k2, k3, v2, sz2, cs2, k4, ⟨cc2, t2, m1, m2⟩, m3⟩ := hpo.op
                refine ⟨⟨op, k1, k2, k3, v2, sz2, cs2, fun H2 => ?_, ⟨cc2, t2, ?_, m2⟩, m3⟩, ha1.D8.Bj _ hpo.Bj, hpo.new, hpo.Ve, JC hpo.mem (hpm p hp), hdone p hp, fun j hj hjr => hpo.iE j hj (K0 hjr)⟩
                · rw [← k4 H2]
                  refine N7 (ops := ops) fun t ht => ?_
                  rw [← hg]
                  refine oK fun e => ?_
                  obtain ⟨op', e1, e2⟩ := hl3 p hp t e
                  rw [k1] at e1
                  simp only [ab] at e1
                  subst e1
                  exact e2 ht
                · rw [ha1.D8.Hh p.g hpo.Bj (h.JJ.heap.Bj _ hpo.Bj).1]; exact m1
              nodup := h.nodup
              gs := h.gs }
        have hst := Lw h.JJ hΓ h.defers (s := true) (k := Kn ops (Fq ops) i) (o := o) (ops := ops) g1 (next := fun a1 w1 => wpAny c.P .any ops Q fuel (listed.setIfInBounds i true) (EW a1 (pend.map fun p => (p.d, p.u))) w1) (Q := fun _ _ _ => False) key
        unfold wpOp
        simp only [ho]
        rw [Nx _ a hl1]
        split
        · rename_i hw
          rw [if_pos hw] at hst
          obtain ⟨hst, r0, hr0⟩ := hst
          exact .inl (fX (Nt hr0) hl1 hl2 (fun a' w' hx => hx) hst)
        · rename_i hw
          rw [if_neg hw] at hst
          rw [← KS _ a hl2]
          exact hst
def Ab.drew (E : Ab) : Ab := { E with w := { E.w with drawn := E.w.drawn + 1 } }
theorem GV.drew (E : Ab) : GV E E.drew where
 lk := rfl
 os := rfl
 tape := rfl
 output := rfl
 size := al _
 len := al _
 mm := rfl
 cell := fun _ _ _ h _ => h
 block := fun _ _ _ => rfl
 mono := fun _ _ _ _ h => .inl h
 CV := fun _ _ h => ⟨rfl, h⟩
 cells := fun _ _ h => h
 C1 := fun _ _ n _ _ h => ⟨n, h, al _, fun _ => ⟨rfl, fun c _ hc => ⟨c, hc, rfl⟩⟩⟩
 fresh := fun _ h => .inl ⟨rfl, h⟩
 Bj := fun _ h => h
 Ia := fun _ h => .inl h
 Hh := fun _ _ _ => rfl
theorem BG.drew (hs : Cy c E S a) : BG c E E.drew S.H where
  H := hs.H
  n := hs.n
  m := rfl
  D8 := GV.drew E
  heap :=
    { cells := fun b sz cs hb => by
        obtain ⟨x, t, h1, h2, h3⟩ := hs.heap.cells b sz cs hb
        exact ⟨x, t, h1, h2, fun i v hv => let ⟨u, h4, h5⟩ := h3 i v hv; ⟨u, h4, (GV.drew E).rep hs.heap _ _ h5⟩⟩
      C1 := hs.heap.C1
      lvl := hs.heap.lvl
      dm := hs.heap.dm
      inj := hs.heap.inj
      maps := hs.heap.maps
      Bj := hs.heap.Bj }
  IX := fun _ base nb d _ hnb hd hf b sz cs hlt hB x t hx i v u hv hu => ((GV.drew E).shrink hs.heap hnb hd).rep _ _ (hf b sz cs hlt hB x t hx i v u hv hu)
  J4 := fun _ base d _ hd hf b sz cs hlt hB x t hx i v u hv hu => ((GV.drew E).shrink hs.heap (al _) hd).rep _ _ (hf b sz cs hlt hB x t hx i v u hv hu)
  kept := fun _ _ _ => by rw [hs.H]
def X.Yd : X → Exit
 | .normal => .normal
 | .exit id => .exit id
 | .ret => .ret
open Classical in
theorem R2 {P : bm} {Q : Exit → Act → et → Prop} {a : Act} {w : et} {b : Code} (I : Nat → Act → et → Prop) {n : Nat} (h0 : I n a w) (hz : ∀ a w, ¬ I 0 a w)
  (round : ∀ k a w, I (k + 1) a w → b.wp P (Exit.then (I k) Q) a w) : (Code.loop b).wp P Q a w := by
 let μ : Act → et → Nat := fun a w => if h : ∃ k, I k a w then ei (Zb (p := fun k => I k a w) (ei h) (de h)) else 0
 have hμ : ∀ a w (h : ∃ k, I k a w), I (μ a w) a w ∧ ∀ j, I j a w → μ a w ≤ j := by
  intro a w h
  have := de (Zb (p := fun k => I k a w) (ei h) (de h))
  show I (if h : ∃ k, I k a w then _ else 0) a w ∧ _
  simp only [μ, dif_pos h]
  exact this
 refine wp_loop (fun a w => ∃ k, I k a w) μ ⟨n, h0⟩ fun a w h => ?_
 obtain ⟨h1, h2⟩ := hμ a w h
 obtain ⟨k, hk⟩ : ∃ k, μ a w = k + 1 := by
  cases hm : μ a w with
  | zero => rw [hm] at h1; exact absurd h1 (hz a w)
  | succ k => exact ⟨k, rfl⟩
 rw [hk] at h1 ⊢
 refine wp_mono (round k a w h1) fun e a' w' hq => ?_
 cases e with
 | normal => exact ⟨⟨k, hq⟩, Nat.lt_succ_of_le ((hμ a' w' ⟨k, hq⟩).2 k hq)⟩
 | _ => exact hq
theorem CX (hm : c.P.follows .mixedOrders = true) (hΓ : HD c.P c.hints c.Γ) (hK : GI c.Γ) (n : Nat) : ∀ (b : Code) {E : Ab} {S : St} {a : Act} (hs : Cy c E S a) (hd : a.defers = []) {x : X} {S' : St} (h : Ar c n b S = some (x, S')) {Q : Exit → Act → et → Prop}
    (hn : ∀ E' a', Cy c E' S' a' → BG c E E' S'.H → a'.defers = [] → Q x.Yd a' E'.w), b.wp c.P Q a E.w
  | .skip, E, S, a, hs, hd, x, S', h, Q, hn => by
    simp only [Ar, ab, ah] at h
    obtain ⟨rfl, rfl⟩ := h
    exact wp_skip (hn E a hs (BG.refl hs) hd)
  | .region id ops draw, E, S, a, hs, hd, x, S', h, Q, hn => by
    cases draw with
    | false =>
      simp only [Ar, bd, if_false, ag, ah] at h
      obtain ⟨S1, h1, rfl, rfl⟩ := h
      exact wp_region (RW (fun _ => ⟨c.still, c.calm, rfl⟩) _ hs hΓ hd h1 hn)
    | true =>
      simp only [Ar, if_true, ag, ah] at h
      obtain ⟨S1, h1, rfl, rfl⟩ := h
      split at h1
      case isFalse => cases h1
      rename_i hok
      rw [af] at h1
      obtain ⟨S2, h1, hpart⟩ := h1
      split at hpart
      case isFalse => cases hpart
      rename_i hpart'
      cases hpart
      have hpart := hpart'
      obtain ⟨s1, s2, s3, s4⟩ := Jh hok
      have ha0 := BG.drew hs
      have hs0 : Cy c E.drew S a := Cy.next (T := S.T) (ts := a.tmps) (ds := a.defers) hs ha0 (fun i => (GV.drew E).rep hs.heap _ _ (hs.tmps i)) rfl
      refine wp_region_any hm ?_
      have hlen : (Qv ops).length = ops.size := by
        have hnd := DE s4
        refine Nat.le_antisymm ?_ ?_
        · have := List.Nodup.length_le_of_subset hnd (l₂ := bt ops.size) fun i hi => cr.2 (s2 i hi)
          simpa using this
        · have := List.Nodup.length_le_of_subset (List.nodup_range (n := ops.size)) (l₂ := Qv ops) fun i hi => s1 i (cr.1 hi)
          simpa using this
      refine Ji (E0 := E.drew) hs0.heap hok hΓ hK (S' := S1) (fun E' a' hs' ha' hd' => hn E' a' hs' (ha0.trans ha') hd') ops.size (jy ops.size false) (Qv ops) [] (E := E.drew) (S := S) (a := a) ?_ (fun p hp => by cases hp)
      have hf : ∀ i, i < ops.size → (jy ops.size false).getD i true = false := fun i hi => by simp [ef, hi]
      exact
        { size := by simp
          count := by simpa using hlen.symm
          left := fun i => ⟨fun hi => ⟨s2 i hi, .inl (hf i (s2 i hi))⟩, fun hi => s1 i hi.1⟩
          Gj := s4
          down := fun e he j hj => by
            exfalso
            simp only [ef, lu] at he
            split at he <;> simp at he
          JJ := hs0
          defers := hd
          act := rfl
          rest := h1
          part := hpart
          after := BG.refl hs0
          TA := fun p hp => by cases hp
          nodup := kf
          gs := kf }
  | .seq p q, E, S, a, hs, hd, x, S', h, Q, hn => by
    simp only [Ar] at h
    split at h
    · rename_i S1 h1
      refine wp_seq (CX hm hΓ hK n p hs hd h1 fun E1 a1 hs1 ha1 hd1 => ?_)
      exact CX hm hΓ hK n q hs1 hd1 h fun E' a' hs' ha' hd' => hn E' a' hs' (ha1.trans ha') hd'
    · rename_i hne
      refine wp_seq (CX hm hΓ hK n p hs hd h fun E1 a1 hs1 ha1 hd1 => ?_)
      have := hn E1 a1 hs1 ha1 hd1
      cases x with
      | normal => exact absurd h (hne S')
      | exit i => exact this
      | ret => exact this
  | .cond y p q, E, S, a, hs, hd, x, S', h, Q, hn => by
    simp only [Ar] at h
    split at h
    · rename_i hy
      have hr := BD hs y _ hy
      simp only [AB] at hr
      exact wp_cond_true hr (CX hm hΓ hK n p hs hd h hn)
    · rename_i hy
      have hr := BD hs y _ hy
      simp only [AB] at hr
      exact wp_cond_false hr (CX hm hΓ hK n q hs hd h hn)
    · cases h
  | .block id p, E, S, a, hs, hd, x, S', h, Q, hn => by
    simp only [Ar] at h
    split at h
    · rename_i i S1 h1
      refine wp_block (CX hm hΓ hK n p hs hd h1 fun E1 a1 hs1 ha1 hd1 => ?_)
      show if i = id then Q .normal a1 E1.w else Q (.exit i) a1 E1.w
      split at h
      · rename_i hi
        simp only [ab, ah] at h
        obtain ⟨rfl, rfl⟩ := h
        rw [if_pos hi]
        exact hn E1 a1 hs1 ha1 hd1
      · rename_i hi
        simp only [ab, ah] at h
        obtain ⟨rfl, rfl⟩ := h
        rw [if_neg hi]
        exact hn E1 a1 hs1 ha1 hd1
    · rename_i hne
      refine wp_block (CX hm hΓ hK n p hs hd h fun E1 a1 hs1 ha1 hd1 => ?_)
      have := hn E1 a1 hs1 ha1 hd1
      cases x with
      | normal => exact this
      | exit i => exact absurd h (hne i S')
      | ret => exact this
  | .loop p, E, S, a, hs, hd, x, S', h, Q, hn => by
    simp only [Ar] at h
    refine R2 (I := fun k a' w' => ∃ E' S1, Cy c E' S1 a' ∧ E'.w = w' ∧ BG c E E' S1.H ∧ a'.defers = [] ∧ FE (Ar c n p) k S1 = some (x, S')) (n := n)
      ⟨E, S, hs, rfl, BG.refl hs, hd, h⟩ (fun a w => by rintro ⟨E', S1, _, _, _, _, h⟩; simp [FE] at h) ?_
    rintro k a1 w1 ⟨E1, S1, hs1, rfl, ha1, hd1, hit⟩
    simp only [FE] at hit
    split at hit
    · rename_i S2 h2
      refine CX hm hΓ hK n p hs1 hd1 h2 fun E2 a2 hs2 ha2 hd2 => ?_
      exact ⟨E2, S2, hs2, rfl, ha1.trans ha2, hd2, hit⟩
    · rename_i hne
      refine CX hm hΓ hK n p hs1 hd1 hit fun E2 a2 hs2 ha2 hd2 => ?_
      have := hn E2 a2 hs2 (ha1.trans ha2) hd2
      cases x with
      | normal => exact absurd hit (hne S')
      | exit i => exact this
      | ret => exact this
  | .exit id, E, S, a, hs, hd, x, S', h, Q, hn => by
    simp only [Ar, ab, ah] at h
    obtain ⟨rfl, rfl⟩ := h
    exact wp_exit (hn E a hs (BG.refl hs) hd)
  | .ret, E, S, a, hs, hd, x, S', h, Q, hn => by
    simp only [Ar, ab, ah] at h
    obtain ⟨rfl, rfl⟩ := h
    exact wp_ret (hn E a hs (BG.refl hs) hd)
  | .label _, _, _, _, _, _, _, _, h, _, _ => by simp [Ar] at h
  | .goto _, _, _, _, _, _, _, _, h, _, _ => by simp [Ar] at h
  | .scope _, _, _, _, _, _, _, _, h, _, _ => by simp [Ar] at h
  | .refuse _, _, _, _, _, _, _, _, h, _, _ => by simp [Ar] at h
  | .rangeFunc .., _, _, _, _, _, _, _, h, _, _ => by simp [Ar] at h
end
def Ab.out (E : Ab) (lo : Nat) (lk : Lk) (d : Nat) (H : A6) (news : List Bz) (Ω : List Nat) : Ab :=
  { w := E.w, φ := fun b => if b < lo then E.φ b else E.φ (Ω.getD (b - lo) 0), H := H.take lo ++ news, lk := lk, n := lo + news.length, m := d, Bj := E.Bj }
structure Rs (E : Ab) (lo d : Nat) (lk : Lk) : Prop where
 heap : CW E
 le : lo ≤ E.H.length
 qD : ∀ lv, lv ≤ d → E.lk.take lv = lk.take lv
 len : lk.length = d
 EH : ∀ l ∈ lk, ∀ x ∈ l, x < lo
def lY (E : Ab) (d b : Nat) : Prop := (∃ sz cs, E.H[b]? = some (.cells sz cs)) ∨ ∃ l n sz, E.H[b]? = some (.C1 l n sz) ∧ d < l
theorem lY.live {E : Ab} {d b : Nat} (h : lY E d b) : live E.H[b]? := by
 rcases h with ⟨_, _, h⟩ | ⟨_, _, _, h, _⟩ <;> (rw [h]; trivial)
structure Ga (E : Ab) (lo d : Nat) (H : A6) (news : List Bz) (Ω F : List Nat) : Prop where
 len : H.length = E.H.length
 R1 : Ω.length = news.length
 Ve : ∀ b : Nat, b < lo → H[b]? = E.H[b]?
 same : ∀ b : Nat, H[b]? = E.H[b]? ∨ H[b]? = some Bz.dead
 omega : ∀ b : Nat, b ∈ Ω → lo ≤ b ∧ H[b]? = some Bz.dead ∧ lY E d b
 Tp : ∀ b : Nat, b ∈ F → lo ≤ b ∧ H[b]? = some Bz.dead ∧ live E.H[b]?
 nodup : Ω.Nodup
 apart : ∀ b : Nat, b ∈ Ω → b ∉ F
 Gz : ∀ (j : Nat) x, news[j]? = some x → ∃ sz cs, x = .cells sz cs
structure Uh (news : List Bz) (Ω F : List Nat) (news' : List Bz) (Ω' F' : List Nat) : Prop where
 news : news <+: news'
 om : Ω <+: Ω'
 fr : ∀ b, b ∈ F → b ∈ F'
theorem Uh.refl (news : List Bz) (Ω F : List Nat) : Uh news Ω F news Ω F := ⟨nk _, nk _, fun _ h => h⟩
theorem Uh.trans {n1 n2 n3 : List Bz} {a1 a2 a3 f1 f2 f3 : List Nat} (h : Uh n1 a1 f1 n2 a2 f2) (k : Uh n2 a2 f2 n3 a3 f3) : Uh n1 a1 f1 n3 a3 f3 :=
 ⟨h.news.trans k.news, h.om.trans k.om, fun b hb => k.fr b (h.fr b hb)⟩
theorem Wo {α : Type} {l l' : List α} (h : l <+: l') {i : Nat} {x : α} (hx : l[i]? = some x) : l'[i]? = some x := by
 obtain ⟨t, rfl⟩ := h
 rw [aw (ak.1 hx).1]
 exact hx
def lU (E : Ab) (lo d : Nat) (lk : Lk) (news : List Bz) (Ω F : List Nat) : Prop :=
 ∀ (j b sz : Nat) (cs : List V), Ω[j]? = some b → news[j]? = some (.cells sz cs) → ∃ c t, E.w.heap[E.φ b]? = some (.cells c t (0, 0)) ∧ cs.length ≤ c.size ∧
  ∀ Hf nf Ωf Ff, Ga E lo d Hf nf Ωf Ff → Uh news Ω F nf Ωf Ff → ∀ (i : Nat) v, cs[i]? = some v → ∃ u, c[i]? = some u ∧ AB (E.out lo lk d Hf nf Ωf) v u
def lX (H : A6) (Ω F Ω' F' : List Nat) : Prop := ∀ b : Nat, b ∈ Ω' ∨ b ∈ F' → b ∈ Ω ∨ b ∈ F ∨ live H[b]?
section
variable {E : Ab} {lo d : Nat} {lk : Lk}
theorem DV (hL : Rs E lo d lk) {H : A6} {news : List Bz} {Ω F : List Nat} (hs : Ga E lo d H news Ω F) (b : Nat) : (E.out lo lk d H news Ω).H[b]? = if b < lo then E.H[b]? else news[b - lo]? := by
 have hl : (H.take lo).length = lo := by rw [dn, hs.len]; have := hL.le; omega
 show (H.take lo ++ news)[b]? = _
 by_cases h : b < lo
 ·rw [if_pos h, aw (by omega), ew h, hs.Ve b h]
 ·rw [if_neg h, bu (by omega), hl]
theorem eV {H : A6} {news : List Bz} {Ω F : List Nat} (hs : Ga E lo d H news Ω F) {j : Nat} {x : Bz} (hx : news[j]? = some x) : ∃ b, Ω[j]? = some b ∧ b ∈ Ω := by
 have hj : j < Ω.length := by rw [hs.R1]; exact (ak.1 hx).1
 exact ⟨Ω[j], ae hj, List.getElem_mem hj⟩
theorem El (hL : Rs E lo d lk) {H : A6} {news : List Bz} {Ω F : List Nat} (hs : Ga E lo d H news Ω F) {b : Nat} (hl : live (E.out lo lk d H news Ω).H[b]?) :
  (b < lo ∧ (E.out lo lk d H news Ω).φ b = E.φ b ∧ (E.out lo lk d H news Ω).H[b]? = E.H[b]? ∧ live E.H[b]?) ∨
  (∃ b0 sz cs, ¬ b < lo ∧ Ω[b - lo]? = some b0 ∧ b0 ∈ Ω ∧ (E.out lo lk d H news Ω).φ b = E.φ b0 ∧ news[b - lo]? = some (.cells sz cs) ∧ lo ≤ b0 ∧ lY E d b0) := by
 rw [DV hL hs] at hl
 by_cases h : b < lo
 ·rw [if_pos h] at hl
  exact .inl ⟨h, by show (if b < lo then _ else _) = _; rw [if_pos h], by rw [DV hL hs, if_pos h], hl⟩
 ·rw [if_neg h] at hl
  right
  cases hx : news[b - lo]? with
  | none => rw [hx] at hl; exact hl.elim
  | some x =>
   obtain ⟨b0, h1, h2⟩ := eV hs hx
   obtain ⟨sz, cs, rfl⟩ := hs.Gz _ _ hx
   obtain ⟨h3, _, h4⟩ := hs.omega b0 h2
   refine ⟨b0, sz, cs, h, h1, h2, ?_, rfl, h3, h4⟩
   show (if b < lo then _ else E.φ (Ω.getD (b - lo) 0)) = _
   rw [if_neg h, jm, h1]
   rfl
theorem ZM (hL : Rs E lo d lk) {b : Nat} (hb : lo ≤ b) (lv : Nat) : AX (lk.take lv) b = true := by
 unfold AX
 rw [cj]
 intro l hl
 simp only [eb, fa, decide_eq_false_iff_not]
 intro hm
 have := hL.EH l (List.mem_of_mem_take hl) b hm
 omega
theorem Zt (hL : Rs E lo d lk) {H : A6} {news : List Bz} {Ω F : List Nat} (hs : Ga E lo d H news Ω F) {lv : Nat} (hlv : lv ≤ d) {g i : Nat} (hu : (E.out lo lk d H news Ω).U (some lv) g i) : E.U (some lv) g i := by
 have hu' := hu
 rcases hu with hu | ⟨b, h1, h2, h3⟩
 ·exact .inl hu
 have hl : live (E.out lo lk d H news Ω).H[b]? := by
  split at h3
  ·rename_i he; rw [he]; trivial
  ·rename_i he; rw [he]; trivial
  ·rename_i he; rw [he]; trivial
  ·exact h3.elim
 rcases El hL hs hl with ⟨p1, p2, p3, p4⟩ | ⟨b0, sz, cs, p1, p2, p3, p4, p5, p6, p7⟩
 ·rw [p3] at h3
  refine .inr ⟨b, by rw [← p2]; exact h1, ?_, h3⟩
  rw [hL.qD lv hlv]
  exact h2
 ·refine .inr ⟨b0, by rw [← p4]; exact h1, by rw [hL.qD lv hlv]; exact ZM hL p6 lv, ?_⟩
  rcases p7 with ⟨_, _, p7⟩ | ⟨l, n, z, p7, p8⟩
  ·rw [p7]; trivial
  ·rw [p7]; exact .inl (Nat.lt_of_le_of_lt hlv p8)
theorem Vh (hL : Rs E lo d lk) {H : A6} {news : List Bz} {Ω F : List Nat} (hs : Ga E lo d H news Ω F) {b : Nat} (hb : b ∈ F) (lv : Option Nat) (i : Nat) : ¬ (E.out lo lk d H news Ω).U lv (E.φ b) i := by
 intro hu
 obtain ⟨h1, _, h2⟩ := hs.Tp b hb
 rcases Ru hu with hu | ⟨b', k1, k2⟩
 ·exact (hL.heap.Bj _ hu).2 b h2 rfl
 rcases El hL hs k2 with ⟨p1, p2, p3, p4⟩ | ⟨b0, sz, cs, p1, p2, p3, p4, p5, p6, p7⟩
 ·rw [p2] at k1
  have := hL.heap.inj _ _ p4 h2 k1
  omega
 ·rw [p4] at k1
  have := hL.heap.inj _ _ p7.live h2 k1
  subst this
  exact hs.apart _ p3 hb
mutual
theorem Og {E E2 : Ab} {d : Nat} (hw : E2.w = E.w) (hm : d ≤ E2.m) (hU : ∀ lv g i, lv ≤ d → E2.U (some lv) g i → E.U (some lv) g i) : ∀ (v : V) (u : cb), clean (d + 1) v = true → AB E v u → AB E2 v u
 | .int .., _, _, r => by simpa only [AB] using r
 | .bool _, _, _, r => by simpa only [AB] using r
 | .str _, _, _, r => by simpa only [AB] using r
 | .IJ, _, _, r => by simpa only [AB] using r
 | .FP, _, _, r => by simpa only [AB] using r
 | .ptr .., _, h, _ => by simp [clean] at h
 | .lp .., _, h, _ => by simp [clean] at h
 | .tl .., _, h, _ => by simp [clean] at h
 | .snap .., _, h, _ => by simp [clean] at h
 | .sl .., _, h, _ => by simp [clean] at h
 | .fn .., _, h, _ => by simp [clean] at h
 | .lit lv len cs, _, h, r => by
  simp only [AB] at r ⊢
  simp only [clean, ar, df, beq_iff_eq, decide_eq_true_eq] at h
  obtain ⟨hl, A, cap, h1, h2, h3⟩ := r
  have hlv : lv ≤ d := by omega
  refine ⟨cu hlv hm, A, cap, h1, h2, ?_⟩
  rcases h3 with h3 | ⟨g, o, h3, h4⟩
  ·exact .inl h3
  ·exact .inr ⟨g, o, h3, R6 hw hm hU lv hlv g o cs h.2 h4⟩
 | .agg cs, _, h, r => by
  simp only [AB] at r ⊢
  simp only [clean] at h
  obtain ⟨vs, h1, h2⟩ := r
  exact ⟨vs, h1, Ko hw hm hU cs _ h h2⟩
 | .GS cs, _, h, r => by
  simp only [AB] at r ⊢
  simp only [clean] at h
  obtain ⟨vs, h1, h2⟩ := r
  exact ⟨vs, h1, Ko hw hm hU cs _ h h2⟩
theorem R6 {E E2 : Ab} {d : Nat} (hw : E2.w = E.w) (hm : d ≤ E2.m) (hU : ∀ lv g i, lv ≤ d → E2.U (some lv) g i → E.U (some lv) g i) (lv : Nat) (hlv : lv ≤ d) (g : Nat) : ∀ (o : Nat) (cs : List V), clean.cleanL (d + 1) cs = true → Ca E (some lv) g o cs → Ca E2 (some lv) g o cs
 | _, [], _, _ => by simp only [Ca]
 | o, c :: cs, h, r => by
  simp only [Ca] at r ⊢
  simp only [clean.cleanL, ar] at h
  obtain ⟨⟨u, h1, h2⟩, h3, h4⟩ := r
  exact ⟨⟨u, by rw [hw]; exact h1, Og hw hm hU c u h.1 h2⟩, fun hu => h3 (hU lv g o hlv hu), R6 hw hm hU lv hlv g (o + 1) cs h.2 h4⟩
theorem Ko {E E2 : Ab} {d : Nat} (hw : E2.w = E.w) (hm : d ≤ E2.m) (hU : ∀ lv g i, lv ≤ d → E2.U (some lv) g i → E.U (some lv) g i) : ∀ (cs : List V) (vs : List cb), clean.cleanL (d + 1) cs = true → AU E cs vs → AU E2 cs vs
 | [], _, _, r => by simpa only [AU] using r
 | c :: cs, _, h, r => by
  simp only [AU] at r ⊢
  simp only [clean.cleanL, ar] at h
  obtain ⟨u, us, h1, h2, h3⟩ := r
  exact ⟨u, us, h1, Og hw hm hU c u h.1 h2, Ko hw hm hU cs us h.2 h3⟩
end
def Ip (E : Ab) (lo d : Nat) (lk : Lk) (H : A6) (news : List Bz) (H2 : A6) (news2 : List Bz) (R : Ab → Prop) : Prop :=
 ∀ Ω F, Ga E lo d H news Ω F → lU E lo d lk news Ω F → ∃ Ω2 F2, Ga E lo d H2 news2 Ω2 F2 ∧ lU E lo d lk news2 Ω2 F2 ∧ Uh news Ω F news2 Ω2 F2 ∧ lX H Ω F Ω2 F2 ∧ (∀ b : Nat, H[b]? = some Bz.dead → H2[b]? = some Bz.dead) ∧
  ∀ Hf nf Ωf Ff, Ga E lo d Hf nf Ωf Ff → Uh news2 Ω2 F2 nf Ωf Ff → R (E.out lo lk d Hf nf Ωf)
theorem QM {f : A6 × List Bz → V → Option (V × A6 × List Bz)} (hf : ∀ H news v v' H2 news2, f (H, news) v = some (v', (H2, news2)) → (∃ u, AB E v u) → Ip E lo d lk H news H2 news2 fun Z => ∀ u, AB E v u → AB Z v' u) :
  ∀ (vs : List V) (H : A6) (news : List Bz) (vs' : List V) (H2 : A6) (news2 : List Bz), BL.resL f (H, news) vs = some (vs', (H2, news2)) → (∃ us, AU E vs us) → Ip E lo d lk H news H2 news2 (fun Z => ∀ us, AU E vs us → AU Z vs' us) ∧ vs'.length = vs.length
 | [], H, news, vs', H2, news2, h, hex => by
  simp only [BL.resL, ab, ah] at h
  obtain ⟨rfl, rfl, rfl⟩ := h
  exact ⟨fun Ω F hs hF => ⟨Ω, F, hs, hF, Uh.refl _ _ _, fun b hb => hb.elim .inl fun h => .inr (.inl h), fun _ h => h, fun _ _ _ _ _ _ us hu => by simpa only [AU] using hu⟩, rfl⟩
 | v :: vs, H, news, vs', H2, news2, h, hex => by
  simp only [BL.resL, af, ag, Prod.exists, ah] at h
  obtain ⟨v1, H1, n1, h1, vs2, H3, n3, h2, rfl, rfl, rfl⟩ := h
  obtain ⟨us0, hex⟩ := hex
  simp only [AU] at hex
  obtain ⟨u0, us1, _, hex1, hex2⟩ := hex
  have k1 := hf H news v v1 H1 n1 h1 ⟨u0, hex1⟩
  obtain ⟨k2, l2⟩ := QM hf vs H1 n1 vs2 H3 n3 h2 ⟨us1, hex2⟩
  refine ⟨fun Ω F hs hF => ?_, by simp [l2]⟩
  obtain ⟨Ω1, F1, a1, a2, a3, a4, a5, a6⟩ := k1 Ω F hs hF
  obtain ⟨Ω2, F2, b1, b2, b3, b4, b5, b6⟩ := k2 Ω1 F1 a1 a2
  refine ⟨Ω2, F2, b1, b2, a3.trans b3, fun b hb => ?_, fun b hb => b5 b (a5 b hb), fun Hf nf Ωf Ff hsf hext us hu => ?_⟩
  ·rcases b4 b hb with h | h | h
   ·exact a4 b (.inl h)
   ·exact a4 b (.inr h)
   ·right; right
    rcases a1.same b with hx | hx
    ·rcases hs.same b with hy | hy
     ·rw [hy, ← hx]; exact h
     ·rw [a5 b hy] at h; exact h.elim
    ·rw [hx] at h; exact h.elim
  ·simp only [AU] at hu ⊢
   obtain ⟨u, us', rfl, hu1, hu2⟩ := hu
   exact ⟨u, us', rfl, a6 Hf nf Ωf Ff hsf (b3.trans hext) u hu1, b6 Hf nf Ωf Ff hsf hext us' hu2⟩
theorem Ng {H : A6} {news : List Bz} {R : Ab → Prop} (h : ∀ Hf nf Ωf Ff, Ga E lo d Hf nf Ωf Ff → R (E.out lo lk d Hf nf Ωf)) : Ip E lo d lk H news H news R :=
 fun Ω F hs hF => ⟨Ω, F, hs, hF, Uh.refl _ _ _, fun b hb => hb.elim .inl fun h => .inr (.inl h), fun _ h => h, fun Hf nf Ωf Ff hsf _ => h Hf nf Ωf Ff hsf⟩
theorem Ga.kill {H : A6} {news : List Bz} {Ω F : List Nat} (hs : Ga E lo d H news Ω F) {b : Nat} (hb : lo ≤ b) (hl : b < H.length) : Ga E lo d (H.set b .dead) news Ω F where
 len := by simp [hs.len]
 R1 := hs.R1
 Ve := fun x hx => by rw [Ai, if_neg (by omega)]; exact hs.Ve x hx
 same := fun x => by
  rw [Ai]
  split
  ·exact .inr rfl
  ·exact hs.same x
 omega := fun x hx => by
  obtain ⟨h1, h2, h3⟩ := hs.omega x hx
  refine ⟨h1, ?_, h3⟩
  rw [Ai]
  split
  ·rfl
  ·exact h2
 Tp := fun x hx => by
  obtain ⟨h1, h2, h3⟩ := hs.Tp x hx
  refine ⟨h1, ?_, h3⟩
  rw [Ai]
  split
  ·rfl
  ·exact h2
 nodup := hs.nodup
 apart := hs.apart
 Gz := hs.Gz
theorem Pj {H : A6} {b : Nat} (hl : b < H.length) : (H.set b .dead)[b]? = some Bz.dead := by rw [Ai, if_pos ⟨rfl, hl⟩]
theorem Pt (hL : Rs E lo d lk) {th : Bool} {H : A6} {news : List Bz} {b off n sz : Nat} {cs cs' : List V} {H2 : A6} {news2 : List Bz} (hb : lo ≤ b) (hlive : live H[b]?) (hown : lY E d b)
  (hr : Ip E lo d lk (H.set b .dead) news H2 news2 (fun Z => ∀ us, AU E cs us → AU Z cs' us)) (hlen : cs'.length = cs.length)
  (hex : ∃ c t, E.w.heap[E.φ b]? = some (.cells c t (0, 0)) ∧ off + cs.length ≤ c.size ∧ ∀ (i : Nat) v, cs[i]? = some v → ∃ u, c[off + i]? = some u ∧ AB E v u) {v' : V} {X2 : A6 × List Bz}
  (h : (if th then if off = 0 ∧ cs.length = n * sz then some (V.sl (lo + news2.length) 0 n, H2, news2 ++ [Bz.cells sz cs']) else none else some (V.lit 0 n cs', H2, news2)) = some (v', X2)) :
  Ip E lo d lk H news X2.1 X2.2 fun Z => ∀ cap, n ≤ cap → AB Z v' (.slice (some ⟨E.φ b, off, none⟩) n cap) := by
 intro Ω F hs hF
 have hbl : b < H.length := by
  rcases bz b H.length with h | h
  ·exact h
  ·rw [ba h] at hlive; exact hlive.elim
 have hnd : H[b]? ≠ some .dead := fun e => by rw [e] at hlive; exact hlive.elim
 obtain ⟨Ω2, F2, a1, a2, a3, a4, a5, a6⟩ := hr Ω F (hs.kill hb hbl) hF
 have hdead : H2[b]? = some Bz.dead := a5 b (Pj hbl)
 have hnO : b ∉ Ω2 := by
  intro hm
  rcases a4 b (.inl hm) with h | h | h
  ·exact hnd (hs.omega b h).2.1
  ·exact hnd (hs.Tp b h).2.1
  ·rw [Pj hbl] at h; exact h.elim
 have hnF : b ∉ F2 := by
  intro hm
  rcases a4 b (.inr hm) with h | h | h
  ·exact hnd (hs.omega b h).2.1
  ·exact hnd (hs.Tp b h).2.1
  ·rw [Pj hbl] at h; exact h.elim
 have hnew : ∀ x : Nat, x ∈ Ω2 ∨ x ∈ F2 → x ∈ Ω ∨ x ∈ F ∨ live H[x]? := by
  intro x hx
  rcases a4 x hx with h | h | h
  ·exact .inl h
  ·exact .inr (.inl h)
  ·right; right
   rw [Ai] at h
   split at h
   ·exact h.elim
   ·exact h
 have hdd : ∀ x : Nat, H[x]? = some Bz.dead → H2[x]? = some Bz.dead := by
  intro x hx
  refine a5 x ?_
  rw [Ai]
  split
  ·rfl
  ·exact hx
 obtain ⟨c, t, q1, q2, q3⟩ := hex
 have hvs : AU E cs ((c.toList.drop off).take cs.length) := by
  refine EO _ _ (by simp; omega) fun i v u hi hj => ?_
  have hil : i < cs.length := (ak.1 hi).1
  rw [ew hil, eo, eu] at hj
  obtain ⟨u', h1, h2⟩ := q3 i v hi
  rw [hj] at h1
  simp only [ab] at h1
  subst h1
  exact h2
 have hcell : ∀ (i : Nat) u, ((c.toList.drop off).take cs.length)[i]? = some u → c[off + i]? = some u := by
  intro i u hi
  rw [di] at hi
  split at hi
  ·rw [eo, eu] at hi; exact hi
  ·cases hi
 cases th with
 | false =>
  simp only [bd, if_false, ab, ah] at h
  obtain ⟨rfl, rfl⟩ := h
  refine ⟨Ω2, b :: F2, ?_, ?_, ⟨a3.news, a3.om, fun x hx => bq.2 (.inr (a3.fr x hx))⟩, ?_, hdd, ?_⟩
  ·exact { a1 with
    Tp := fun x hx => by
     rcases bq.1 hx with rfl | hx
     ·exact ⟨hb, hdead, hown.live⟩
     ·exact a1.Tp x hx
    apart := fun x hx hm => by
     rcases bq.1 hm with rfl | hm
     ·exact hnO hx
     ·exact a1.apart x hx hm }
  ·intro j b0 z zs h1 h2
   obtain ⟨c', t', p1, p2, p3⟩ := a2 j b0 z zs h1 h2
   exact ⟨c', t', p1, p2, fun Hf nf Ωf Ff hsf hext => p3 Hf nf Ωf Ff hsf ⟨hext.news, hext.om, fun x hx => hext.fr x (bq.2 (.inr hx))⟩⟩
  ·rintro x (hx | hx)
   ·exact hnew x (.inl hx)
   ·rcases bq.1 hx with rfl | hx
    ·exact .inr (.inr hlive)
    ·exact hnew x (.inr hx)
  ·intro Hf nf Ωf Ff hsf hext cap hcap
   have hx2 : Uh news2 Ω2 F2 nf Ωf Ff := ⟨hext.news, hext.om, fun x hx => hext.fr x (bq.2 (.inr hx))⟩
   simp only [AB]
   refine ⟨dq _, _, cap, rfl, hcap, .inr ⟨_, _, rfl, ?_⟩⟩
   refine HU (a6 Hf nf Ωf Ff hsf hx2 _ hvs) (fun i u hi => ?_) fun i _ => Vh hL hsf (hext.fr b (bq.2 (.inl rfl))) _ _
   show E.w.cell? _ = _
   rw [cell_of_row _ _ _ _ _ _ q1]
   exact hcell i u hi
 | true =>
  simp only [if_true] at h
  split at h
  case isFalse => cases h
  rename_i hc
  obtain ⟨rfl, hcl⟩ := hc
  simp only [ab, ah] at h
  obtain ⟨rfl, rfl⟩ := h
  refine ⟨Ω2 ++ [b], F2, ?_, ?_, ⟨a3.news.trans (gk _ _), a3.om.trans (gk _ _), a3.fr⟩, ?_, hdd, ?_⟩
  ·exact { a1 with
    R1 := by simp [a1.R1]
    omega := fun x hx => by
     rcases aq.1 hx with hx | hx
     ·exact a1.omega x hx
     ·simp only [bh] at hx; subst hx; exact ⟨hb, hdead, hown⟩
    nodup := by
     rw [dc]
     refine ⟨a1.nodup, by simp, fun x hx y hy => ?_⟩
     simp only [bh] at hy
     subst hy
     rintro rfl
     exact hnO hx
    apart := fun x hx hm => by
     rcases aq.1 hx with hx | hx
     ·exact a1.apart x hx hm
     ·simp only [bh] at hx; subst hx; exact hnF hm
    Gz := fun j x hx => by
     rcases bz j news2.length with hj | hj
     ·rw [aw hj] at hx; exact a1.Gz j x hx
     ·rw [bu hj] at hx
      obtain ⟨h1, h2⟩ := ak.1 hx
      simp only [cn] at h1
      have hz : j - news2.length = 0 := by omega
      simp only [hz, jz] at h2
      exact ⟨_, _, h2.symm⟩ }
  ·intro j b0 z zs h1 h2
   rcases bz j news2.length with hj | hj
   ·rw [aw hj] at h2
    rw [aw (by rw [a1.R1]; exact hj)] at h1
    obtain ⟨c', t', p1, p2, p3⟩ := a2 j b0 z zs h1 h2
    exact ⟨c', t', p1, p2, fun Hf nf Ωf Ff hsf hext => p3 Hf nf Ωf Ff hsf ⟨(gk _ _).trans hext.news, (gk _ _).trans hext.om, hext.fr⟩⟩
   ·rw [bu hj] at h2
    rw [bu (by rw [a1.R1]; exact hj)] at h1
    obtain ⟨hlt, h2⟩ := ak.1 h2
    obtain ⟨_, h1⟩ := ak.1 h1
    simp only [cn] at hlt
    have hz : j - news2.length = 0 := by omega
    have hz' : j - Ω2.length = 0 := by rw [a1.R1]; omega
    simp only [hz, jz, Bz.cells.injEq] at h2
    simp only [hz', jz] at h1
    obtain ⟨rfl, rfl⟩ := h2
    subst h1
    refine ⟨c, t, q1, by rw [hlen]; omega, fun Hf nf Ωf Ff hsf hext i v hv => ?_⟩
    have hx2 : Uh news2 Ω2 F2 nf Ωf Ff := ⟨(gk _ _).trans hext.news, (gk _ _).trans hext.om, hext.fr⟩
    obtain ⟨_, hg⟩ := BX _ _ (a6 Hf nf Ωf Ff hsf hx2 _ hvs)
    obtain ⟨u, k1, k2⟩ := hg i v hv
    have := hcell i u k1
    rw [gh] at this
    exact ⟨u, this, k2⟩
  ·rintro x (hx | hx)
   ·rcases aq.1 hx with hx | hx
    ·exact hnew x (.inl hx)
    ·simp only [bh] at hx; subst hx; exact .inr (.inr hlive)
   ·exact hnew x (.inr hx)
  ·intro Hf nf Ωf Ff hsf hext cap hcap
   have hj : nf[news2.length]? = some (.cells sz cs') := Wo hext.news (by simp)
   have hjΩ : Ωf[news2.length]? = some b := Wo hext.om (by rw [← a1.R1]; simp)
   have hlt : ¬ lo + news2.length < lo := by omega
   simp only [AB]
   refine ⟨?_, ⟨cap, ?_, hcap⟩, fun l k z => ?_⟩
   ·show lo + news2.length < lo + nf.length
    have := (ak.1 hj).1
    omega
   ·show _ = Value.slice (some ⟨if lo + news2.length < lo then _ else E.φ (Ωf.getD (lo + news2.length - lo) 0), _, _⟩) _ _
    rw [if_neg hlt, ic, jm, hjΩ]
    rfl
   ·rw [DV hL hsf, if_neg hlt, ic, hj]
    simp
end
section
variable {E : Ab} {lo d : Nat} {lk : Lk}
theorem QN (hL : Rs E lo d lk) (th : Bool) : ∀ (k : Nat) (H : A6) (news : List Bz) (v v' : V) (H2 : A6) (news2 : List Bz), BL th lo (d + 1) k (H, news) v = some (v', (H2, news2)) → (∃ u, AB E v u) →
  Ip E lo d lk H news H2 news2 fun Z => ∀ u, AB E v u → AB Z v' u
 | 0, H, news, v, v', H2, news2, h, _ => by simp [BL] at h
 | k + 1, H, news, v, v', H2, news2, h, hrep => by
  have ihL := QM (E := E) (lo := lo) (d := d) (lk := lk) fun H news v v' H2 news2 h hx => QN hL th k H news v v' H2 news2 h hx
  have same : (v', (H2, news2)) = (v, (H, news)) → (∀ Hf nf Ωf Ff, Ga E lo d Hf nf Ωf Ff → ∀ u, AB E v u → AB (E.out lo lk d Hf nf Ωf) v u) → Ip E lo d lk H news H2 news2 fun Z => ∀ u, AB E v u → AB Z v' u := by
   intro e hr
   simp only [ah] at e
   obtain ⟨rfl, rfl, rfl⟩ := e
   exact Ng hr
  have mono : ∀ {H : A6} {news : List Bz} {H2 : A6} {news2 : List Bz} {R R' : Ab → Prop}, Ip E lo d lk H news H2 news2 R → (∀ Hf nf Ωf Ff, Ga E lo d Hf nf Ωf Ff → R (E.out lo lk d Hf nf Ωf) → R' (E.out lo lk d Hf nf Ωf)) → Ip E lo d lk H news H2 news2 R' := by
   intro H news H2 news2 R R' h hr Ω F hs hF
   obtain ⟨Ω2, F2, a1, a2, a3, a4, a5, a6⟩ := h Ω F hs hF
   exact ⟨Ω2, F2, a1, a2, a3, a4, a5, fun Hf nf Ωf Ff hsf hx => hr Hf nf Ωf Ff hsf (a6 Hf nf Ωf Ff hsf hx)⟩
  cases v with
  | int _ _ => simp only [BL, ab] at h; exact same h.symm fun _ _ _ _ _ u r => by simpa only [AB] using r
  | bool _ => simp only [BL, ab] at h; exact same h.symm fun _ _ _ _ _ u r => by simpa only [AB] using r
  | str _ => simp only [BL, ab] at h; exact same h.symm fun _ _ _ _ _ u r => by simpa only [AB] using r
  | IJ => simp only [BL, ab] at h; exact same h.symm fun _ _ _ _ _ u r => by simpa only [AB] using r
  | FP => simp only [BL, ab] at h; exact same h.symm fun _ _ _ _ _ u r => by simpa only [AB] using r
  | lp _ _ _ => simp [BL] at h
  | fn _ _ => simp [BL] at h
  | ptr b off =>
   simp only [BL] at h
   split at h
   case isFalse => cases h
   rename_i hb
   simp only [ab] at h
   refine same h.symm fun Hf nf Ωf Ff hsf u r => ?_
   simp only [AB] at r ⊢
   obtain ⟨_, r2, r3⟩ := r
   refine ⟨by show b < lo + nf.length; omega, ?_, fun l n z => ?_⟩
   ·rw [r2]; show _ = Value.pointer (some ⟨if b < lo then E.φ b else _, off, none⟩); rw [if_pos hb]
   ·rw [DV hL hsf, if_pos hb]; exact r3 l n z
  | Ft b =>
   simp only [BL] at h
   split at h
   case isFalse => cases h
   rename_i hb
   simp only [ab] at h
   refine same h.symm fun Hf nf Ωf Ff hsf u r => ?_
   simp only [AB] at r ⊢
   obtain ⟨_, r2, r3⟩ := r
   refine ⟨by show b < lo + nf.length; omega, ?_, fun l n z => ?_⟩
   ·rw [r2]; show _ = Value.map (some (if b < lo then E.φ b else _)); rw [if_pos hb]
   ·rw [DV hL hsf, if_pos hb]; exact r3 l n z
  | lit lv n cs =>
   simp only [BL] at h
   split at h
   ·rename_i hc
    simp only [ab] at h
    exact same h.symm fun Hf nf Ωf Ff hsf u r => Og (E := E) (E2 := E.out lo lk d Hf nf Ωf) (d := d) rfl (al _) (fun lv g i hlv hu => Zt hL hsf hlv hu) _ u hc r
   ·cases h
  | tl n cs =>
   simp only [BL] at h
   split at h
   ·rename_i h0
    simp only [ab, ah] at h
    obtain ⟨rfl, rfl, rfl⟩ := h
    refine Ng fun Hf nf Ωf Ff hsf u r => ?_
    simp only [AB] at r
    obtain ⟨A, rfl, hA⟩ := r
    cases th with
    | true =>
     simp only [if_true, AB]
     exact ⟨A, by rw [h0], .inl trivial⟩
    | false =>
     simp only [bd, if_false, AB]
     exact ⟨dq _, A, n, by rw [h0], by omega, .inl trivial⟩
   rename_i h0
   simp only [ag, Prod.exists, ah] at h
   obtain ⟨cs', H1, n1, h1, rfl, rfl, rfl⟩ := h
   have hx : ∃ us, AU E cs us := by
    obtain ⟨u, r⟩ := hrep
    simp only [AB] at r
    obtain ⟨A, rfl, hA⟩ := r
    rcases hA with hA | ⟨g, o, hA, hr⟩
    ·exact absurd hA h0
    ·exact ⟨_, Dn fun i v hi => let ⟨u, a1, a2, _⟩ := Cc _ _ hr i v hi; ⟨u, a1, a2⟩⟩
   obtain ⟨ih, l⟩ := ihL cs H news cs' H1 n1 h1 hx
   refine mono ih fun Hf nf Ωf Ff hsf hR u r => ?_
   simp only [AB] at r ⊢
   obtain ⟨A, rfl, hA⟩ := r
   refine ⟨dq _, A, n, rfl, al _, ?_⟩
   rcases hA with hA | ⟨g, o, hA, hr⟩
   ·exact .inl hA
   ·refine .inr ⟨g, o, hA, H7 (E := E) (fun i v hi => let ⟨u, a1, a2, _⟩ := Cc _ _ hr i v hi; ⟨u, a1, a2⟩) hR l rfl fun i hi hu => ?_⟩
    obtain ⟨u', _, _, a3⟩ := Cc _ _ hr i _ (ae hi)
    exact a3 (Zt hL hsf (dq _) hu)
  | snap b n cs =>
   simp only [BL] at h
   split at h
   case h_2 => cases h
   rename_i l m sz hb
   split at h
   ·cases h
   rename_i hc
   simp only [not_or, dw, Decidable.not_not] at hc
   obtain ⟨hlo, rfl, hl⟩ := hc
   simp only [af, Prod.exists] at h
   obtain ⟨cs', H1, n1, h1, h2⟩ := h
   intro Ω F hs hF
   have hEb : E.H[b]? = some (.C1 l m sz) := by
    rcases hs.same b with h | h
    ·rw [← h]; exact hb
    ·rw [hb] at h; cases h
   obtain ⟨u0, hu0⟩ := hrep
   simp only [AB] at hu0
   obtain ⟨_, ⟨A, cap0, hu0, hcap0, ⟨g, o, hA, _, hr⟩, hcur⟩, _⟩ := hu0
   obtain ⟨_, hcur⟩ := hcur _ _ _ hEb
   obtain ⟨hA', c, t, hrow, _⟩ := hcur rfl
   rw [hA] at hA'
   simp only [ab, Addr.mk.injEq, and_true] at hA'
   obtain ⟨rfl, rfl⟩ := hA'
   obtain ⟨ih, hlen⟩ := ihL cs _ news cs' H1 n1 h1 ⟨_, Dn fun i v hi => let ⟨u, a1, a2, _⟩ := Cc _ _ hr i v hi; ⟨u, a1, a2⟩⟩
   have hget : ∀ (i : Nat) v, cs[i]? = some v → ∃ u, c[0 + i]? = some u ∧ AB E v u := by
    intro i v hi
    obtain ⟨u, k1, k2, _⟩ := Cc _ _ hr i v hi
    rw [cell_of_row _ _ _ _ _ _ hrow] at k1
    exact ⟨u, k1, k2⟩
   have hcs : 0 + cs.length ≤ c.size := by
    rcases Nat.eq_zero_or_pos cs.length with h0 | h0
    ·omega
    ·obtain ⟨u, k1, _⟩ := hget (cs.length - 1) _ (ae (by omega))
     have := (az.1 k1).1
     omega
   have h2' : (if th then if 0 = 0 ∧ cs.length = m * sz then some (V.sl (lo + n1.length) 0 m, H1, n1 ++ [Bz.cells sz cs']) else none else some (V.lit 0 m cs', H1, n1)) = some (v', (H2, news2)) := by
    rw [← h2]
    simp
   have := Pt (E := E) (off := 0) (n := m) hL hlo (by rw [hb]; trivial) (.inr ⟨l, m, sz, hEb, hl⟩) ih hlen ⟨c, t, hrow, hcs, hget⟩ h2'
   refine mono (R' := fun Z => ∀ u, AB E _ u → AB Z v' u) this (fun Hf nf Ωf Ff hsf hR u r => ?_) Ω F hs hF
   simp only [AB] at r
   obtain ⟨_, ⟨A2, cap, rfl, hcap, _, hcur2⟩, _⟩ := r
   obtain ⟨_, hcur2⟩ := hcur2 _ _ _ hEb
   obtain ⟨rfl, _⟩ := hcur2 rfl
   exact hR cap hcap
  | sl b off n =>
   simp only [BL] at h
   split at h
   ·rename_i hb
    simp only [ab] at h
    refine same h.symm fun Hf nf Ωf Ff hsf u r => ?_
    simp only [AB] at r ⊢
    obtain ⟨_, ⟨cap, r1, r2⟩, r3⟩ := r
    refine ⟨by show b < lo + nf.length; omega, ⟨cap, ?_, r2⟩, fun l n z => ?_⟩
    ·rw [r1]; show _ = Value.slice (some ⟨if b < lo then E.φ b else _, off, none⟩) _ _; rw [if_pos hb]
    ·rw [DV hL hsf, if_pos hb]; exact r3 l n z
   rename_i hlo
   split at h
   case h_2 => cases h
   rename_i sz cs hb
   split at h
   ·cases h
   rename_i hc
   simp only [af, Prod.exists] at h
   obtain ⟨cs', H1, n1, h1, h2⟩ := h
   intro Ω F hs hF
   have hEb : E.H[b]? = some (.cells sz cs) := by
    rcases hs.same b with h | h
    ·rw [← h]; exact hb
    ·rw [hb] at h; cases h
   have hcl : ((cs.drop off).take (n * sz)).length = n * sz := by simp; omega
   obtain ⟨c, t, hrow, hcs, hget⟩ := hL.heap.cells b sz cs hEb
   have hget2 : ∀ (i : Nat) v, ((cs.drop off).take (n * sz))[i]? = some v → ∃ u, c[off + i]? = some u ∧ AB E v u := by
    intro i v hi
    rw [di] at hi
    split at hi
    ·rw [eo] at hi; exact hget _ v hi
    ·cases hi
   obtain ⟨ih, hlen⟩ := ihL _ _ news cs' H1 n1 h1 ⟨_, Dn (g := E.φ b) (o := off) fun i v hi => let ⟨u, a1, a2⟩ := hget2 i v hi; ⟨u, by rw [cell_of_row _ _ _ _ _ _ hrow]; exact a1, a2⟩⟩
   have h2' : (if th then if off = 0 ∧ ((cs.drop off).take (n * sz)).length = n * sz then some (V.sl (lo + n1.length) 0 n, H1, n1 ++ [Bz.cells sz cs']) else none else some (V.lit 0 n cs', H1, n1)) = some (v', (H2, news2)) := by
    cases th with
    | false => exact h2
    | true =>
     simp only [if_true] at h2 ⊢
     split at h2
     ·rename_i hx
      rw [if_pos ⟨hx.1, hcl⟩]; exact h2
     ·cases h2
   have := Pt (E := E) (off := off) (n := n) hL (by omega) (by rw [hb]; trivial) (.inl ⟨sz, cs, hEb⟩) ih hlen ⟨c, t, hrow, by rw [hcl]; omega, hget2⟩ h2'
   refine mono (R' := fun Z => ∀ u, AB E _ u → AB Z v' u) this (fun Hf nf Ωf Ff hsf hR u r => ?_) Ω F hs hF
   simp only [AB] at r
   obtain ⟨_, ⟨cap, rfl, hcap⟩, _⟩ := r
   exact hR cap hcap
  | agg cs =>
   simp only [BL, ag, Prod.exists, ah] at h
   obtain ⟨cs', H1, n1, h1, rfl, rfl, rfl⟩ := h
   obtain ⟨ih, l⟩ := ihL cs H news cs' H1 n1 h1 (by
    obtain ⟨u, r⟩ := hrep
    simp only [AB] at r
    obtain ⟨vs, _, hr⟩ := r
    exact ⟨_, hr⟩)
   refine mono ih fun Hf nf Ωf Ff hsf hR u r => ?_
   simp only [AB] at r ⊢
   obtain ⟨vs, hv, hr⟩ := r
   exact ⟨vs, hv, hR _ hr⟩
  | GS cs =>
   simp only [BL, ag, Prod.exists, ah] at h
   obtain ⟨cs', H1, n1, h1, rfl, rfl, rfl⟩ := h
   obtain ⟨ih, l⟩ := ihL cs H news cs' H1 n1 h1 (by
    obtain ⟨u, r⟩ := hrep
    simp only [AB] at r
    obtain ⟨vs, _, hr⟩ := r
    exact ⟨_, hr⟩)
   refine mono ih fun Hf nf Ωf Ff hsf hR u r => ?_
   simp only [AB] at r ⊢
   obtain ⟨vs, hv, hr⟩ := r
   exact ⟨vs, hv, hR _ hr⟩
end
theorem Cn.kH (E : Ab) (L : List Nat) (hd : E.m ≤ E.lk.length) : Cn E { E with lk := E.lk ++ [L] } where
 len := al _
 lvl := al _
 CV := fun _ _ h => ⟨rfl, h⟩
 cells := fun _ _ h => h
 C1 := fun _ l n _ _ h => ⟨l, n, h, al _, fun _ => ⟨rfl, fun c _ hc => ⟨c, hc, rfl⟩⟩⟩
 cell := by
  intro lv g i u hlv _ h1 h3
  refine ⟨h1, fun hu => h3 ?_⟩
  cases lv with
  | none => exact hu
  | some lv =>
   have hle : lv ≤ E.lk.length := cu hlv hd
   rcases hu with hu | ⟨b, p1, p2, p3⟩
   ·exact .inl hu
   refine .inr ⟨b, p1, ?_, p3⟩
   have : (E.lk ++ [L]).take lv = E.lk.take lv := jh hle
   rw [← this]
   exact p2
 fresh := fun b _ _ _ _ _ hb hl he => ⟨b, hb, hl, he⟩
theorem DO.lock {E : Ab} {L : List Nat} {base nb d : Nat} (hd : d ≤ E.lk.length) (h : DO E base nb d) : DO (E.lock L) base nb d :=
 fun b sz cs hlt hB c t hc i v u hv hu => (Cn.kH (E.shrink nb d) L hd).rep v u (h b sz cs hlt hB c t hc i v u hv hu)
theorem DO.all {E : Ab} (hh : CW E) (base : Nat) : DO E base E.n E.m := by
 intro b sz cs hlt hB c t hc i v u hv hu
 obtain ⟨c', t', h1, _, h2⟩ := hh.cells b sz cs hB
 rw [hc] at h1
 simp only [ab, Obj.cells.injEq] at h1
 obtain ⟨rfl, _⟩ := h1
 obtain ⟨u', h3, h4⟩ := h2 i v hv
 rw [hu] at h3
 simp only [ab] at h3
 subst h3
 exact h4
section
variable {E : Ab} {lo d : Nat} {lk : Lk}
theorem I4 {H : A6} {news : List Bz} {Ω : List Nat} {b : Nat} (hb : b < lo) : (E.out lo lk d H news Ω).φ b = E.φ b := by
 show (if b < lo then _ else _) = _; rw [if_pos hb]
theorem RL (hL : Rs E lo d lk) {H : A6} {news : List Bz} {Ω F : List Nat} (hs : Ga E lo d H news Ω F) {nb d' : Nat} (hnb : nb ≤ lo) (hd : d' ≤ d) : Cn (E.shrink nb d') ((E.out lo lk d H news Ω).shrink nb d') where
 len := al _
 lvl := al _
 cell := by
  intro lv g i u hlv haw h1 h3
  refine ⟨h1, fun hu => h3 ?_⟩
  cases lv with
  | some l => exact Zt hL hs (cu hlv hd) hu
  | none =>
   have hu0 : (E.out lo lk d H news Ω).U none g i := hu
   rcases hu0 with hu0 | ⟨b, h4, h5⟩
   ·exact .inl hu0
   have hl : live (E.out lo lk d H news Ω).H[b]? := by
    split at h5
    ·rename_i he; rw [he]; trivial
    ·rename_i he; rw [he]; trivial
    ·rename_i he; rw [he]; trivial
    ·exact h5.elim
   rcases El hL hs hl with ⟨p1, p2, p3, p4⟩ | ⟨b0, sz, cs, p1, p2, p3, p4, p5, p6, p7⟩
   ·rw [p3] at h5
    exact .inr ⟨b, p2.symm.trans h4, h5⟩
   ·exact absurd (p4.symm.trans h4) (haw rfl b0 (cu hnb p6) p7.live)
 CV := by
  intro b hb hn
  have hb : b < nb := hb
  refine ⟨I4 (H := H) (news := news) (lk := lk) (d := d) (by omega), fun l n z => ?_⟩
  show (E.out lo lk d H news Ω).H[b]? ≠ _
  rw [DV hL hs, if_pos (by omega)]
  exact hn l n z
 cells := by
  intro b hb hn z cs
  have hb : b < nb := hb
  show (E.out lo lk d H news Ω).H[b]? ≠ _
  rw [DV hL hs, if_pos (by omega)]
  exact hn z cs
 C1 := by
  intro b l n sz hb hB
  have hb : b < nb := hb
  have hB : (E.out lo lk d H news Ω).H[b]? = _ := hB
  rw [DV hL hs, if_pos (by omega)] at hB
  exact ⟨l, n, hB, al _, fun _ => ⟨I4 (H := H) (news := news) (lk := lk) (d := d) (by omega), fun c _ hc => ⟨c, hc, rfl⟩⟩⟩
 fresh := by
  intro b g i u h1 _ hb hl he
  rcases El hL hs hl with ⟨p1, p2, p3, p4⟩ | ⟨b0, sz, cs, p1, p2, p3, p4, p5, p6, p7⟩
  ·exact ⟨b, hb, p4, p2.symm.trans he⟩
  ·exact ⟨b0, cu hnb p6, p7.live, p4.symm.trans he⟩
end
section
variable {c : Cx} {E0 E' : Ab} {L : List Nat} {Hc : A6}
structure Rr (c : Cx) (E0 E' : Ab) (L : List Nat) (Hc : A6) : Prop where
 Wc : CW E0
 n0 : E0.n = E0.H.length
 m0 : E0.m = E0.lk.length
 base : c.base = E0.n
 lk : c.lk = E0.lk ++ [L]
 EH : ∀ l ∈ E0.lk, ∀ x ∈ l, x < E0.n
 after : BG c (E0.lock L) E' Hc
theorem Rr.last (h : Rr c E0 E' L Hc) : Rs E' E0.n E0.m E0.lk where
 heap := h.after.heap
 le := by
  have h1 := h.after.n
  have h2 := h.after.H
  have h3 : E0.n ≤ E'.n := h.after.D8.len
  rw [h2, ← h1]; exact h3
 qD := by
  intro lv hlv
  have h1 : E'.lk = E0.lk ++ [L] := h.after.D8.lk
  rw [h1]
  exact jh (by rw [← h.m0]; exact hlv)
 len := h.m0.symm
 EH := h.EH
theorem Rr.fresh (h : Rr c E0 E' L Hc) {b : Nat} (hb : E0.n ≤ b) (hl : live E'.H[b]?) : E0.w.heap.size ≤ E'.φ b := by
 rcases h.after.D8.fresh b hl with ⟨_, h2⟩ | h2
 ·have h2 : live E0.H[b]? := h2
  rw [ba (by rw [← h.n0]; exact hb)] at h2
  exact h2.elim
 ·exact h2
theorem Rr.lvl (h : Rr c E0 E' L Hc) {b l n sz : Nat} (hb : b < E0.n) (hB : E'.H[b]? = some (.C1 l n sz)) : l ≤ E0.m := by
 obtain ⟨k, h1, _⟩ := h.after.D8.C1 b l n sz hb hB
 rw [h.m0]
 exact h.Wc.lvl b l k sz h1
theorem Xi (hD : Rr c E0 E' L Hc) (hg : c.hints.grow c.fn = false) {th : Bool} {v v' : V} {u : cb} {H2 : A6} {news : List Bz} (hr : AB E' v u) (h : BL th E0.n (E0.m + 1) Cq (Hc, []) v = some (v', (H2, news))) :
    ∃ E1, E1.w = E'.w ∧ Ug c.hints c.fn L E0 E1 (H2.take E0.n ++ news) ∧ AB E1 v' u := by
  have hL := hD.last
  have hHc : E'.H = Hc := hD.after.H
  have hev := hD.after.D8
  have hs0 : Ga E' E0.n E0.m Hc [] [] [] :=
    { len := by rw [hHc], R1 := rfl, Ve := fun b _ => by rw [hHc], same := fun b => .inl (by rw [hHc]), omega := fun b hb => (by cases hb), Tp := fun b hb => (by cases hb), nodup := kf, apart := fun b hb => (by cases hb), Gz := fun j x hx => by simp at hx }
  obtain ⟨Ω, F, hs, hF, _, _, _, hrep⟩ := QN (lk := E0.lk) hL th Cq Hc [] v v' H2 news h ⟨u, hr⟩ [] [] hs0 (fun j b sz cs h1 _ => by simp at h1)
  let E1 := E'.out E0.n E0.lk E0.m H2 news Ω
  have hlen : (H2.take E0.n).length = E0.n := by rw [dn, hs.len]; have := hL.le; omega
  have hf0 : DO E' E0.n E0.n E0.m := hD.after.IX hg _ _ _ (by rw [hD.base]; exact al _) (al _) (jj _) (DO.lock (by rw [hD.m0]; exact al _) (DO.all hD.Wc _))
  have hgrow : Cn (E1.shrink E0.n E0.m) E1 := Cn.grow E1 (ma _ _) (al _)
  have hrel : CW E1 :=
    { cells := by
        intro b sz cs hB
        by_cases hb : b < E0.n
        · have hB' := hB
          rw [DV hL hs, if_pos hb] at hB'
          obtain ⟨c', t, h1, h2, h3⟩ := hL.heap.cells b sz cs hB'
          refine ⟨c', t, ?_, h2, fun i v hv => ?_⟩
          · show E'.w.heap[(E'.out E0.n E0.lk E0.m H2 news Ω).φ b]? = _
            rw [I4 hb]; exact h1
          · obtain ⟨u, h4, _⟩ := h3 i v hv
            exact ⟨u, h4, hgrow.rep _ _ ((RL hL hs (al _) (al _)).rep _ _ (hf0 b sz cs hb hB' c' t h1 i v u hv h4))⟩
        · rcases El hL hs (b := b) (by rw [hB]; trivial) with ⟨p1, _⟩ | ⟨b0, sz', cs', p1, p2, p3, p4, p5, p6, p7⟩
          · exact absurd p1 hb
          · rw [DV hL hs, if_neg hb, p5] at hB
            simp only [ab, Bz.cells.injEq] at hB
            obtain ⟨rfl, rfl⟩ := hB
            obtain ⟨c', t, h1, h2, h3⟩ := hF _ _ _ _ p2 p5
            refine ⟨c', t, ?_, h2, h3 H2 news Ω F hs (Uh.refl _ _ _)⟩
            show E'.w.heap[(E'.out E0.n E0.lk E0.m H2 news Ω).φ b]? = _
            rw [p4]; exact h1
      C1 := by
        intro b l n sz hB
        by_cases hb : b < E0.n
        · rw [DV hL hs, if_pos hb] at hB
          obtain ⟨c', t, h1, h2⟩ := hL.heap.C1 b l n sz hB
          refine ⟨c', t, ?_, h2⟩
          show E'.w.heap[(E'.out E0.n E0.lk E0.m H2 news Ω).φ b]? = _
          rw [I4 hb]; exact h1
        · rw [DV hL hs, if_neg hb] at hB
          obtain ⟨_, _, hx⟩ := hs.Gz _ _ hB
          cases hx
      lvl := by
        intro b l n sz hB
        by_cases hb : b < E0.n
        · rw [DV hL hs, if_pos hb] at hB
          have := hD.lvl hb hB
          rw [hD.m0] at this
          exact this
        · rw [DV hL hs, if_neg hb] at hB
          obtain ⟨_, _, hx⟩ := hs.Gz _ _ hB
          cases hx
      dm := by show E0.m ≤ E0.lk.length; rw [hD.m0]; exact al _
      maps := by
        intro b BP hB
        by_cases hb : b < E0.n
        · rw [DV hL hs, if_pos hb] at hB
          obtain ⟨h1, h2⟩ := hL.heap.maps b BP hB
          refine ⟨?_, h2⟩
          show E'.w.heap[(E'.out E0.n E0.lk E0.m H2 news Ω).φ b]? = _
          rw [I4 hb]; exact h1
        · rw [DV hL hs, if_neg hb] at hB
          obtain ⟨_, _, hx⟩ := hs.Gz _ _ hB
          cases hx
      inj := by
        intro b b' h1 h2 he
        rcases El hL hs h1 with ⟨p1, p2, p3, p4⟩ | ⟨b0, sz, cs, p1, p2, p3, p4, p5, p6, p7⟩ <;>
        rcases El hL hs h2 with ⟨q1, q2, q3, q4⟩ | ⟨b0', sz', cs', q1, q2, q3, q4, q5, q6, q7⟩
        · exact hL.heap.inj _ _ p4 q4 (by rw [← p2, ← q2]; exact he)
        · have := hL.heap.inj _ _ p4 q7.live (by rw [← p2, ← q4]; exact he)
          omega
        · have := hL.heap.inj _ _ p7.live q4 (by rw [← p4, ← q2]; exact he)
          omega
        · have := hL.heap.inj _ _ p7.live q7.live (by rw [← p4, ← q4]; exact he)
          subst this
          have h5 := (ak.1 p2)
          have h6 := (ak.1 q2)
          obtain ⟨i1, e1⟩ := h5
          obtain ⟨i2, e2⟩ := h6
          have := (List.getElem_inj (h₀ := i1) (h₁ := i2) hs.nodup).1 (e1.trans e2.symm)
          omega
      Bj := fun g hg => ⟨(hL.heap.Bj g hg).1, fun b hl => by
        rcases El hL hs hl with ⟨p1, p2, p3, p4⟩ | ⟨b0, sz, cs, p1, p2, p3, p4, p5, p6, p7⟩
        · rw [p2]; exact (hL.heap.Bj g hg).2 _ p4
        · rw [p4]; exact (hL.heap.Bj g hg).2 _ p7.live⟩ }
  have hold : ∀ b, b < E0.n → E1.H[b]? = E'.H[b]? := fun b hb => by
    show (E'.out E0.n E0.lk E0.m H2 news Ω).H[b]? = _
    rw [DV hL hs, if_pos hb]
  refine ⟨E1, rfl, ⟨rfl, ?_, ?_, hrel, ?_, (fun h => by rw [hg] at h; cases h), ?_⟩, hrep H2 news Ω F hs (Uh.refl _ _ _) u hr⟩
  · show E0.n + news.length = (H2.take E0.n ++ news).length
    rw [List.length_append, hlen]
  · exact
    { lk := rfl
      os := hev.os
      tape := hev.tape
      output := hev.output
      size := hev.size
      len := ma _ _
      mm := rfl
      cell := hev.cell
      block := hev.block
      mono := by
        intro lv g i hlv hu
        rcases hu with hu | hu
        · exact hev.mono lv g i hlv (.inl hu)
        cases lv with
        | some l =>
          obtain ⟨b, h1, h2, h3⟩ := hu
          have hl : live E1.H[b]? := by
            split at h3
            · rename_i he; rw [Ab.FH] at he; rw [he]; trivial
            · rename_i he; rw [Ab.FH] at he; rw [he]; trivial
            · rename_i he; rw [Ab.FH] at he; rw [he]; trivial
            · exact h3.elim
          rcases El hL hs hl with ⟨p1, p2, p3, p4⟩ | ⟨b0, sz, cs, p1, p2, p3, p4, p5, p6, p7⟩
          · refine hev.mono (some l) g i hlv (.inr ⟨b, by rw [← p2]; exact h1, ?_, ?_⟩)
            · have : E'.lk = E0.lk ++ [L] := hev.lk
              rw [this]; exact h2
            · rw [Ab.FH, hold b p1] at h3; exact h3
          · right
            rw [← h1, Ab.M7]
            show _ ≤ (E'.out E0.n E0.lk E0.m H2 news Ω).φ b
            rw [p4]
            exact hD.fresh p6 p7.live
        | none =>
          obtain ⟨b, h1, h3⟩ := hu
          have hl : live E1.H[b]? := by
            split at h3
            · rename_i he; rw [Ab.FH] at he; rw [he]; trivial
            · rename_i he; rw [Ab.FH] at he; rw [he]; trivial
            · rename_i he; rw [Ab.FH] at he; rw [he]; trivial
            · exact h3.elim
          rcases El hL hs hl with ⟨p1, p2, p3, p4⟩ | ⟨b0, sz, cs, p1, p2, p3, p4, p5, p6, p7⟩
          · refine hev.mono none g i hlv (.inr ⟨b, by rw [← p2]; exact h1, ?_⟩)
            rw [Ab.FH, hold b p1] at h3; exact h3
          · right
            rw [← h1, Ab.M7]
            show _ ≤ (E'.out E0.n E0.lk E0.m H2 news Ω).φ b
            rw [p4]
            exact hD.fresh p6 p7.live
      CV := by
        intro b hb hn
        obtain ⟨h1, h2⟩ := hev.CV b hb hn
        refine ⟨(I4 (H := H2) (news := news) (lk := E0.lk) (d := E0.m) hb).trans h1, fun l n z => ?_⟩
        rw [Ab.FH, hold b hb]
        exact h2 l n z
      cells := by
        intro b hb hn z cs
        rw [Ab.FH, hold b hb]
        exact hev.cells b hb hn z cs
      C1 := by
        intro b l n sz hb hB
        rw [Ab.FH, hold b hb] at hB
        obtain ⟨k, h1, h2, h3⟩ := hev.C1 b l n sz hb hB
        exact ⟨k, h1, h2, fun e => ⟨(I4 (H := H2) (news := news) (lk := E0.lk) (d := E0.m) hb).trans (h3 e).1, (h3 e).2⟩⟩
      fresh := by
        intro b hl
        rcases El hL hs hl with ⟨p1, p2, p3, p4⟩ | ⟨b0, sz, cs, p1, p2, p3, p4, p5, p6, p7⟩
        · rcases hev.fresh b p4 with ⟨h1, h2⟩ | h1
          · exact .inl ⟨p2.trans h1, h2⟩
          · exact .inr (by rw [Ab.M7]; show _ ≤ (E'.out E0.n E0.lk E0.m H2 news Ω).φ b; rw [p2]; exact h1)
        · exact .inr (by rw [Ab.M7]; show _ ≤ (E'.out E0.n E0.lk E0.m H2 news Ω).φ b; rw [p4]; exact hD.fresh p6 p7.live)
      Bj := hev.Bj
      Ia := hev.Ia
      Hh := hev.Hh }
  · intro _ base nb d' hbase hnb hd hf
    have hf1 := hD.after.IX hg base nb d' (by rw [hD.base]; exact hbase) hnb (la hd) (DO.lock (L := L) (by rw [← hD.m0]; exact hd) hf)
    intro b sz cs hlt hB c' t hc i v u hv hu
    have hb : b < E0.n := cw hlt hbase
    rw [hold b hb] at hB
    have hc : E'.w.heap[(E'.out E0.n E0.lk E0.m H2 news Ω).φ b]? = _ := hc
    rw [I4 hb] at hc
    exact (RL hL hs hnb hd).rep v u (hf1 b sz cs hlt hB c' t hc i v u hv hu)
  · intro b hb hk
    rw [hold b hb, hHc]
    exact hD.after.kept b (by rw [hD.base]; exact hb) (by rw [hD.lk]; exact hk)
end
def GF (d : Nat) : Bz → Bz
 | .C1 l n sz => .C1 (min l d) n sz
 | .cells sz cs => if cs.all (Bc (d + 1)) then .cells sz cs else .dead
 | x => x
theorem aB (d : Nat) : ND (d + 1) = GF d := by funext x; cases x <;> rfl
theorem VU {d : Nat} {x : Option Bz} : live (x.map (GF d)) → live x := by
 cases x with
 | none => exact id
 | some x => cases x with
  | cells sz cs => intro _; trivial
  | _ => exact id
def Ab.grown (E : Ab) (lo : Nat) (lk : Lk) (d : Nat) : Ab := { w := E.w, φ := E.φ, H := E.H.take lo ++ (E.H.drop lo).map (GF d), lk := lk, n := E.n, m := d, Bj := E.Bj }
section
variable {c : Cx} {E0 E' : Ab} {L : List Nat} {Hc : A6}
theorem IZ (E : Ab) (lo : Nat) (lk : Lk) (d : Nat) (hlo : lo ≤ E.H.length) (b : Nat) : (E.grown lo lk d).H[b]? = if b < lo then E.H[b]? else (E.H[b]?).map (GF d) := by
 have hl : (E.H.take lo).length = lo := by rw [dn]; omega
 show (E.H.take lo ++ (E.H.drop lo).map (GF d))[b]? = _
 by_cases h : b < lo
 ·rw [if_pos h, aw (by omega), ew h]
 ·rw [if_neg h, bu (by omega), hl, dz, eo]
  congr 2
  omega
theorem HQ {E : Ab} {lo : Nat} {lk : Lk} {d : Nat} (hlo : lo ≤ E.H.length) {b : Nat} : live (E.grown lo lk d).H[b]? → live E.H[b]? := by
 rw [IZ E lo lk d hlo]
 split
 ·exact id
 ·exact VU
theorem Gg {E : Ab} {lo : Nat} {lk : Lk} {d : Nat} (hlo : lo ≤ E.H.length) {b sz : Nat} {cs : List V} (h : (E.grown lo lk d).H[b]? = some (.cells sz cs)) : E.H[b]? = some (.cells sz cs) ∧ (¬ b < lo → cs.all (Bc (d + 1)) = true) := by
 rw [IZ E lo lk d hlo] at h
 split at h
 ·rename_i hb; exact ⟨h, fun x => absurd hb x⟩
 ·cases hx : E.H[b]? with
  | none => rw [hx] at h; simp at h
  | some x =>
   rw [hx] at h
   cases x with
   | cells z es =>
    simp only [aj, GF, ab] at h
    split at h
    ·rename_i hc
     cases h
     exact ⟨rfl, fun _ => hc⟩
    ·cases h
   | C1 _ _ _ => simp [GF] at h
   | mp _ => simp [GF] at h
   | dead => simp [GF] at h
theorem Pq {E : Ab} {lo : Nat} {lk : Lk} {d : Nat} (hlo : lo ≤ E.H.length) {b : Nat} {BP : List (V × V)} (h : (E.grown lo lk d).H[b]? = some (.mp BP)) : E.H[b]? = some (.mp BP) := by
 rw [IZ E lo lk d hlo] at h
 split at h
 ·exact h
 ·cases hx : E.H[b]? with
  | none => rw [hx] at h; simp at h
  | some x =>
   rw [hx] at h
   cases x with
   | cells z es =>
    simp only [aj, GF, ab] at h
    split at h <;> cases h
   | C1 _ _ _ => simp [GF] at h
   | mp _ => simpa [GF] using h
   | dead => simp [GF] at h
theorem HB {E : Ab} {lo : Nat} {lk : Lk} {d : Nat} (hlo : lo ≤ E.H.length) {b l n sz : Nat} (h : (E.grown lo lk d).H[b]? = some (.C1 l n sz)) : ∃ l0, E.H[b]? = some (.C1 l0 n sz) ∧ l ≤ l0 ∧ (b < lo → l = l0) ∧ (¬ b < lo → l ≤ d) := by
 rw [IZ E lo lk d hlo] at h
 split at h
 ·rename_i hb
  exact ⟨l, h, al _, fun _ => rfl, fun x => absurd hb x⟩
 ·rename_i hb
  cases hx : E.H[b]? with
  | none => rw [hx] at h; simp at h
  | some x =>
   rw [hx] at h
   cases x with
   | C1 l0 n0 sz0 =>
    simp only [aj, GF, ab, Bz.C1.injEq] at h
    obtain ⟨rfl, rfl, rfl⟩ := h
    exact ⟨l0, rfl, Nat.min_le_left _ _, fun x => absurd x hb, fun _ => Nat.min_le_right _ _⟩
   | cells _ _ =>
    simp only [aj, GF, ab] at h
    split at h <;> cases h
   | mp _ => simp [GF] at h
   | dead => simp [GF] at h
theorem WZ {E : Ab} {lo : Nat} {lk L : Lk} {d : Nat} (hlo : lo ≤ E.H.length) (hlk : E.lk = L) {lv : Nat} {g i : Nat} (h : ({ E.grown lo lk d with lk := L } : Ab).U (some lv) g i) : E.U (some lv) g i := by
 rcases h with h | ⟨b, h1, h2, h3⟩
 ·exact .inl h
 refine .inr ⟨b, h1, by rw [hlk]; exact h2, ?_⟩
 have h3 : match (E.grown lo lk d).H[b]? with
  | some (.cells _ _) | some (.mp _) => True
  | some (.C1 l n sz) => lv < l ∨ n * sz ≤ i
  | _ => False := h3
 split at h3
 ·rename_i he
  rw [(Gg hlo he).1]; trivial
 ·rename_i he
  rw [Pq hlo he]; trivial
 ·rename_i he
  obtain ⟨l0, h4, h5, _⟩ := HB hlo he
  rw [h4]
  rcases h3 with h3 | h3
  ·exact .inl (cw h3 h5)
  ·exact .inr h3
 ·exact h3.elim
theorem WY {E : Ab} {lo : Nat} {lk : Lk} {d : Nat} (hlo : lo ≤ E.H.length) {g i : Nat} (h : (E.grown lo lk d).U none g i) : E.U none g i := by
 rcases h with h | ⟨b, h1, h3⟩
 ·exact .inl h
 refine .inr ⟨b, h1, ?_⟩
 split at h3
 ·rename_i he
  rw [(Gg hlo he).1]; trivial
 ·rename_i he
  rw [Pq hlo he]; trivial
 ·rename_i he
  obtain ⟨l0, h4, _⟩ := HB hlo he
  rw [h4]
  exact h3
 ·exact h3.elim
theorem Tw {E : Ab} {lo : Nat} {lk : Lk} {d d' : Nat} (hlo : lo ≤ E.H.length) (hlk : ∀ lv, lv ≤ d → E.lk.take lv = lk.take lv) (hd : d' ≤ d) : Cn (E.shrink E.n d') ((E.grown lo lk d).shrink E.n d') where
 len := al _
 lvl := al _
 cell := by
  intro lv g i u hlv _ h1 h3
  refine ⟨h1, fun hu => h3 ?_⟩
  cases lv with
  | some l =>
   have hl : l ≤ d := cu hlv hd
   refine WZ (E := E) (lo := lo) (lk := lk) (d := d) (L := E.lk) hlo rfl ?_
   rcases hu with hu | ⟨b, p1, p2, p3⟩
   ·exact .inl hu
   refine .inr ⟨b, p1, ?_, p3⟩
   show AX (E.lk.take l) b = true
   rw [hlk l hl]; exact p2
  | none => exact WY (lk := lk) (d := d) hlo hu
 CV := by
  intro b hb hn
  refine ⟨rfl, fun l n z hx => ?_⟩
  obtain ⟨l0, h, _⟩ := HB (lk := lk) (d := d) hlo hx
  exact hn l0 n z h
 cells := by
  intro b hb hn z cs hx
  exact hn z cs (Gg (lk := lk) (d := d) hlo hx).1
 C1 := by
  intro b l n sz hb hB
  obtain ⟨l0, h, _⟩ := HB (lk := lk) (d := d) hlo hB
  exact ⟨l0, n, h, al _, fun _ => ⟨rfl, fun c _ hc => ⟨c, hc, rfl⟩⟩⟩
 fresh := fun b g i u _ _ hb hl he => ⟨b, hb, HQ (lk := lk) (d := d) hlo hl, he⟩
theorem Tz (hD : Rr c E0 E' L Hc) (hg : c.hints.grow c.fn = true) {v : V} {u : cb} (hr : AB E' v u) (hv : Bc (E0.m + 1) v = true) :
    ∃ E1, E1.w = E'.w ∧ Ug c.hints c.fn L E0 E1 (Hc.take E0.n ++ (Hc.drop E0.n).map (GF E0.m)) ∧ AB E1 v u := by
  have hL := hD.last
  have hHc : E'.H = Hc := hD.after.H
  have hev := hD.after.D8
  have hlo := hL.le
  have hnH : E'.n = E'.H.length := by rw [hHc]; exact hD.after.n
  let E1 := E'.grown E0.n E0.lk E0.m
  have hk : ∀ d', d' ≤ E0.m → Cn (E'.shrink E'.n d') (E1.shrink E'.n d') := fun d' hd => Tw hlo hL.qD hd
  have hk1 : Cn (E'.shrink E'.n E0.m) E1 := hk E0.m (al _)
  have hfAll : DO E' E0.n E'.n E0.m := hD.after.J4 hg _ _ (by rw [hD.base]; exact al _) (jj _) (DO.lock (by rw [hD.m0]; exact al _) (DO.all hD.Wc _))
  have hrel : CW E1 :=
    { cells := by
        intro b sz cs hB
        obtain ⟨hB', hcl⟩ := Gg hlo hB
        obtain ⟨c', t, h1, h2, h3⟩ := hL.heap.cells b sz cs hB'
        refine ⟨c', t, h1, h2, fun i v hv => ?_⟩
        obtain ⟨u, h4, h5⟩ := h3 i v hv
        refine ⟨u, h4, hk1.rep _ _ ?_⟩
        by_cases hb : b < E0.n
        · exact hfAll b sz cs hb hB' c' t h1 i v u hv h4
        · refine HJ v u ?_ h5
          have := hcl hb
          rw [cj] at this
          exact this v (List.mem_of_getElem? hv)
      C1 := by
        intro b l n sz hB
        obtain ⟨l0, h, _⟩ := HB hlo hB
        exact hL.heap.C1 b l0 n sz h
      lvl := by
        intro b l n sz hB
        obtain ⟨l0, h, _, h1, h2⟩ := HB hlo hB
        show l ≤ E0.lk.length
        rw [← hD.m0]
        by_cases hb : b < E0.n
        · rw [h1 hb]; exact hD.lvl hb h
        · exact h2 hb
      dm := by show E0.m ≤ E0.lk.length; rw [hD.m0]; exact al _
      inj := fun b b' h1 h2 he => hL.heap.inj b b' (HQ hlo h1) (HQ hlo h2) he
      maps := fun b BP hB => hL.heap.maps b BP (Pq hlo hB)
      Bj := fun g hg => ⟨(hL.heap.Bj g hg).1, fun b hl => (hL.heap.Bj g hg).2 b (HQ hlo hl)⟩ }
  have hold : ∀ b, b < E0.n → E1.H[b]? = E'.H[b]? := fun b hb => by
    show (E'.grown E0.n E0.lk E0.m).H[b]? = _
    rw [IZ _ _ _ _ hlo, if_pos hb]
  refine ⟨E1, rfl, ⟨?_, ?_, ?_, hrel, (fun h => by rw [hg] at h; cases h), ?_, ?_⟩, hk1.rep _ _ (HJ v u hv hr)⟩
  · show E'.H.take _ ++ (E'.H.drop _).map _ = _
    rw [hHc]
  · show E'.n = _
    rw [hnH, hHc]
    simp
    rw [hHc] at hlo
    omega
  · exact
    { lk := rfl
      os := hev.os
      tape := hev.tape
      output := hev.output
      size := hev.size
      len := hev.len
      mm := rfl
      cell := hev.cell
      block := hev.block
      mono := by
        intro lv g i hlv hu
        refine hev.mono lv g i hlv ?_
        cases lv with
        | some l => exact WZ (E := E') (lo := E0.n) (lk := E0.lk) (d := E0.m) (L := E0.lk ++ [L]) hlo hev.lk hu
        | none => exact WY (lk := E0.lk) (d := E0.m) hlo hu
      CV := by
        intro b hb hn
        obtain ⟨h1, h2⟩ := hev.CV b hb hn
        refine ⟨h1, fun l n z => ?_⟩
        rw [Ab.FH, hold b hb]
        exact h2 l n z
      cells := by
        intro b hb hn z cs
        rw [Ab.FH, hold b hb]
        exact hev.cells b hb hn z cs
      C1 := by
        intro b l n sz hb hB
        rw [Ab.FH, hold b hb] at hB
        exact hev.C1 b l n sz hb hB
      fresh := fun b hl => hev.fresh b (HQ (lk := E0.lk) (d := E0.m) hlo hl)
      Bj := hev.Bj
      Ia := hev.Ia
      Hh := hev.Hh }
  · intro _ base d' hbase hd hf
    have hf1 := hD.after.J4 hg base d' (by rw [hD.base]; exact hbase) (la hd) (DO.lock (L := L) (by rw [← hD.m0]; exact hd) hf)
    intro b sz cs hlt hB c' t hc i v u hv hu
    exact (hk d' hd).rep v u (hf1 b sz cs hlt (Gg (lk := E0.lk) (d := E0.m) hlo hB).1 c' t hc i v u hv hu)
  · intro b hb hkk
    rw [hold b hb, hHc]
    exact hD.after.kept b (by rw [hD.base]; exact hb) (by rw [hD.lk]; exact hkk)
theorem Xl {P : bm} {E : Ab} (hh : CW E) {t : ao} {p v : V} {u : cb} (hp : AB E p u) (h : FL P t E.H p = some v) :
  ∃ ad x, u = .pointer (some ad) ∧ (loadVar t ad).run P E.w = .ok x E.w ∧ AB E v x := by
 unfold FL at h
 split at h
 ·split at h
  case h_2 => simp at h
  rename_i b off _ sz cs hb
  simp only [AB] at hp
  obtain ⟨_, hp, _⟩ := hp
  obtain ⟨x, h1, h2⟩ := MJ (P := P) (o := 0) (TS hh hb) h
  rw [gh] at h1
  exact ⟨_, x, hp, h1, h2⟩
 ·simp only [AB] at hp
  obtain ⟨_, g, o, hp, hr⟩ := hp
  obtain ⟨x, h1, h2⟩ := MJ (P := P) (o := o) (fun i v hi => by
   obtain ⟨u, h1, h2, _⟩ := Cc _ _ hr i v hi
   exact ⟨u, h1, h2⟩) h
  exact ⟨_, x, hp, h1, h2⟩
 ·simp at h
theorem JG {P : bm} {E : Ab} (hh : CW E) {T : Nat → V} {ts : Array cb} (hT : ∀ i, AB E (T i) (ts.getD i undef)) : ∀ (l : List ed) (vs : List V), BI P E.H T l = some vs →
  ∃ us, (l.mapM (m := Sem) fun (r : ed) => match r with
   | .tmp t => pure (ts.getD t undef)
   | .cell a t => do loadVar t (← asAddr (ts.getD a undef))).run P E.w = .ok us E.w ∧ AU E vs us
 | [], vs, h => by
  simp only [BI, ab] at h
  subst h
  exact ⟨[], by simp, by simp only [AU]⟩
 | .tmp t :: l, vs, h => by
  simp only [BI, ag] at h
  obtain ⟨ws, hw, rfl⟩ := h
  obtain ⟨us, h1, h2⟩ := JG hh hT l ws hw
  refine ⟨ts.getD t undef :: us, ?_, ?_⟩
  ·simp only [kq, Sem.run_bind, Sem.run_pure, Result.andThen_ok, h1]
  ·simp only [AU]; exact ⟨_, us, rfl, hT t, h2⟩
 | .cell a t :: l, vs, h => by
  simp only [BI, af, ag] at h
  obtain ⟨v, hv, ws, hw, rfl⟩ := h
  obtain ⟨us, h1, h2⟩ := JG hh hT l ws hw
  obtain ⟨ad, x, k1, k2, k3⟩ := Xl (P := P) hh (hT a) hv
  refine ⟨x :: us, ?_, ?_⟩
  ·have ha : (asAddr (ts.getD a undef)).run P E.w = .ok ad E.w := by rw [k1]; rfl
   simp only [kq, Sem.run_bind, Sem.run_pure, Result.andThen_ok, ha, k2, h1]
  ·simp only [AU]; exact ⟨_, us, rfl, k3, h2⟩
theorem UL {P : bm} {E : Ab} (hh : CW E) {T : Nat → V} {ts : Array cb} (hT : ∀ i, AB E (T i) (ts.getD i undef)) {fn : Func} {vs : List V} (h : BI P E.H T fn.results.toList = some vs) :
  ∃ u, (results fn ts).run P E.w = .ok u E.w ∧ AB E (EI vs) u := by
 obtain ⟨us, h1, h2⟩ := JG (P := P) hh hT _ _ h
 obtain ⟨hl, hg⟩ := BX _ _ h2
 refine ⟨if h : us.toArray.size = 1 then us.toArray[0] else .tuple us.toArray, ?_, ?_⟩
 ·unfold results
  rw [Array.mapM_eq_mapM_toList]
  simp only [Sem.run_bind, Sem.run_map, Sem.run_pure]
  exact congrArg (fun r : Result (List cb) => (r.andThen fun a w' => Result.ok a.toArray w').andThen fun a w' => Result.ok (if h : a.size = 1 then a[0] else Value.tuple a) w') h1
 ·match us, hl, hg, h2 with
  | [], hl, hg, h2 =>
   have : vs = [] := cp hl
   subst this
   simp only [EI, AB]
   exact ⟨#[], rfl, by simp only [AU]⟩
  | [u], hl, hg, h2 =>
   obtain ⟨v, rfl⟩ := List.length_eq_one_iff.1 hl
   simp only [AU] at h2
   obtain ⟨u', us', h3, h4, h5⟩ := h2
   simp only [ep] at h3
   obtain ⟨rfl, _⟩ := h3
   simpa [EI] using h4
  | u1 :: u2 :: us, hl, hg, h2 =>
   have : EI vs = .GS vs := by
    match vs, hl with
    | v1 :: v2 :: vs, _ => rfl
   rw [this]
   simp only [AB]
   exact ⟨(u1 :: u2 :: us).toArray, by simp, h2⟩
end
theorem XE {E : Ab} {vs : List V} {us : List cb} (h : AU E vs us) (n : Nat) (i : Nat) : AB E (JO vs i) ((us.toArray ++ jy n undef).getD i undef) := by
 obtain ⟨hl, hg⟩ := BX _ _ h
 unfold JO
 rw [jm, ef, Array.getElem?_append]
 by_cases hi : i < us.length
 ·rw [if_pos (by simpa using hi)]
  have hv : i < vs.length := by omega
  obtain ⟨u, h1, h2⟩ := hg i _ (ae hv)
  rw [ae hv, ib, h1]
  exact h2
 ·rw [if_neg (by simpa using hi), ba (by omega)]
  rw [lu]
  split
  ·exact NR E
  ·exact NR E
theorem Qt {b : Code} {N : MT} (h : FO b = some N) : b = .seq N.R0 (.seq (.seq (.region N.i #[N.o1, N.o2] false) (.cond (.tmp N.q) N.A .skip)) N.B) ∧
  N.o1.dst = some N.p ∧ N.o1.op = .move (.tmp N.z) ∧ N.o1.guard = none ∧ N.o2.dst = some N.q ∧ N.o2.op = .binOp .eql N.t (.tmp N.p) (.const (.slice none 0 0)) N.t2 ∧ N.o2.guard = none := by
 unfold FO at h
 split at h
 case h_2 => cases h
 rename_i R0 i ops q' A B
 unfold Vc at h
 split at h
 case h_2 => cases h
 rename_i o1 o2 hops
 split at h
 case h_2 => cases h
 rename_i p z q t p' t2 h1 h2 h3 h4 h5 h6
 split at h
 case isFalse => cases h
 rename_i hpq
 obtain ⟨rfl, rfl⟩ := hpq
 simp only [ab] at h
 subst h
 have : ops = #[o1, o2] := by
  apply Array.toList_inj.1
  rw [hops]
 subst this
 exact ⟨rfl, h1, h2, h3, h4, h5, h6⟩
theorem VT {E : Ab} {x : V} {u : cb} {n : Nat} (hr : AB E x u) (hn : Ct x = some n) : ∃ A cap, u = .slice A n cap ∧ (n ≠ 0 → A ≠ none) := by
 cases x with
 | lit lv len cs =>
  simp only [Ct, ab] at hn
  subst hn
  simp only [AB] at hr
  obtain ⟨_, A, cap, h1, _, h3⟩ := hr
  refine ⟨A, cap, h1, fun h => ?_⟩
  rcases h3 with h3 | ⟨g, o, h3, _⟩
  ·exact absurd h3 h
  ·rw [h3]; simp
 | tl len cs =>
  simp only [Ct, ab] at hn
  subst hn
  simp only [AB] at hr
  obtain ⟨A, h1, h3⟩ := hr
  refine ⟨A, _, h1, fun h => ?_⟩
  rcases h3 with h3 | ⟨g, o, h3, _⟩
  ·exact absurd h3 h
  ·rw [h3]; simp
 | snap b len cs =>
  simp only [Ct, ab] at hn
  subst hn
  simp only [AB] at hr
  obtain ⟨_, ⟨A, cap, h1, _, ⟨g, o, h3, _⟩, _⟩, _⟩ := hr
  exact ⟨A, cap, h1, fun _ => by rw [h3]; simp⟩
 | sl b off len =>
  simp only [Ct, ab] at hn
  subst hn
  simp only [AB] at hr
  obtain ⟨_, ⟨cap, h1, _⟩, _⟩ := hr
  exact ⟨_, cap, h1, fun _ => by simp⟩
 | _ => simp [Ct] at hn
theorem Y5 {P : bm} (w : et) {t e : ao} (A : Option Addr) (n c : Nat) (ht : P.underlying t = some (.slice e)) : (binOp .eql t (.slice A n c) (.slice none 0 0)).run P w = .ok (.bool A.isNone) w := by
 cases A with
 | none =>
  have h : ∀ d : Nat, (Op.equalIn (d + 1) t (.slice none n c) (.slice none 0 0)).run P w = .ok true w := fun d => by
   simp [Op.equalIn, run_underlying ht]
  simp only [binOp]
  simp [Op.equal, Op.maxDepth, h 9999]
 | some a =>
  have h : ∀ d : Nat, (Op.equalIn (d + 1) t (.slice (some a) n c) (.slice none 0 0)).run P w = .ok false w := fun d => by
   simp [Op.equalIn, run_underlying ht]
  simp only [binOp]
  simp [Op.equal, Op.maxDepth, h 9999]
theorem TY {c : Cx} (hm : c.P.follows .mixedOrders = true) (hΓ : HD c.P c.hints c.Γ) (hK : GI c.Γ) {n : Nat} {rs : List ed} {b : Code} {E : Ab} {S : St} {a : Act} (hs : Cy c E S a) (hd : a.defers = []) {r : List V × A6} (h : Jk c n rs b S = some r) {Q : Exit → Act → et → Prop}
  (hn : ∀ E' a' S' (x : X), Cy c E' S' a' → BG c E E' S'.H → a'.defers = [] → (x = .normal ∨ x = .ret) → BI c.P S'.H S'.T rs = some r.1 → r.2 = S'.H → Q x.Yd a' E'.w) : b.wp c.P Q a E.w := by
 unfold Jk at h
 split at h
 ·obtain ⟨x, S1, h1, h2, h3, h4⟩ := IV h
  exact CX hm hΓ hK n b hs hd h1 fun E' a' hs' ha' hd' => hn E' a' S1 x hs' ha' hd' h2 h3 h4
 ·rename_i N hN
  obtain ⟨rfl, k1, k2, k3, k4, k5, k6⟩ := Qt hN
  split at h
  case h_2 => cases h
  rename_i S0 h0
  split at h
  case isFalse => cases h
  rename_i hc
  obtain ⟨hp, hq, hpq, hel⟩ := hc
  refine wp_seq (CX hm hΓ hK n N.R0 hs hd h0 fun E1 a1 hs1 ha1 hd1 => ?_)
  obtain ⟨len, hlen⟩ : ∃ len, Ct (S0.T N.z) = some len := by
   cases hh : Ct (S0.T N.z) with
   | none => rw [hh] at h; cases h
   | some len => exact ⟨len, rfl⟩
  obtain ⟨A, cap, hu, hA⟩ := VT (hs1.tmps N.z) hlen
  obtain ⟨e, he⟩ := jr.1 hel
  have hin : O4 c n rs N S0 A.isNone = some r := by
   rw [hlen] at h
   cases len with
   | zero =>
    simp only [] at h
    split at h
    case isFalse => cases h
    rename_i hsame
    cases A with
    | none => exact hsame.trans h
    | some _ => exact h
   | succ m =>
    cases A with
    | none => exact absurd rfl (hA (by omega))
    | some _ => exact h
  obtain ⟨x, S2, h1, h2, h3, h4⟩ := IV hin
  have hu0 : a1.eval (.tmp N.z) = .slice A len cap := hu
  refine wp_seq (wp_seq (wp_region ?_))
  show wpOps c.P #[N.o1, N.o2] _ [0, 1] a1 E1.w
  have hg1 : (#[N.o1, N.o2] : Array ch)[0]? = some N.o1 := rfl
  have hg2 : (#[N.o1, N.o2] : Array ch)[1]? = some N.o2 := rfl
  simp only [wpOps, hg1, hg2]
  have hw1 : ∀ y : Nat → Option Bool, Region.wanted N.o1 y = true := fun y => by unfold Region.wanted; rw [k3]
  have hw2 : ∀ y : Nat → Option Bool, Region.wanted N.o2 y = true := fun y => by unfold Region.wanted; rw [k6]
  rw [if_pos (hw1 _)]
  refine .inl ?_
  have hs2 : Cy c E1 (S0.set N.p (S0.T N.z)) (a1.put (some N.p) (a1.eval (.tmp N.z))) := Cy.put (H' := S0.H) hs1 (BG.refl hs1) hp (hs1.tmps N.z)
  have hrun1 : (execOp a1.eval N.o1).run c.P E1.w = .ok (.value (a1.eval (.tmp N.z))) E1.w := by simp only [execOp, k2]; rfl
  unfold Oper.wp
  rw [hrun1, Oper.upon_value, k1]
  rw [if_pos (hw2 _)]
  refine .inl ?_
  have hev : (a1.put (some N.p) (a1.eval (.tmp N.z))).eval (.tmp N.p) = .slice A len cap := by
   have hlt : N.p < a1.tmps.size := by rw [hs1.size]; exact hp
   show ((a1.tmps).setIfInBounds N.p (a1.eval (.tmp N.z))).getD N.p undef = _
   rw [Ph, if_pos ⟨rfl, hlt⟩, hu0]
  have hrun2 : (execOp (a1.put (some N.p) (a1.eval (.tmp N.z))).eval N.o2).run c.P E1.w = .ok (.value (.bool A.isNone)) E1.w := by
   have hc2 : (a1.put (some N.p) (a1.eval (.tmp N.z))).eval (.const (.slice none 0 0)) = .slice none 0 0 := rfl
   simp only [execOp, k5, hev, hc2]
   have hguard : eqGuard .eql N.t (.tmp N.p) (.const (.slice none 0 0)) (.slice A len cap) (.slice none 0 0) = pure () := rfl
   simp only [hguard, Sem.run_bind, Sem.run_pure, Result.andThen_ok, Y5 E1.w A len cap (CN he)]
  rw [hrun2, Oper.upon_value, k4]
  have hs3 : Cy c E1 ((S0.set N.p (S0.T N.z)).set N.q (.bool A.isNone)) ((a1.put (some N.p) (a1.eval (.tmp N.z))).put (some N.q) (.bool A.isNone)) := Cy.put (H' := S0.H) (S := S0.set N.p (S0.T N.z)) hs2 (show BG c E1 E1 S0.H from BG.refl hs1) hq (by simp only [AB])
  have hfin : ∀ E' a', Cy c E' S2 a' → BG c E1 E' S2.H → a'.defers = [] → Q x.Yd a' E'.w := fun E' a' hs' ha' hd' => hn E' a' S2 x hs' (ha1.trans ha') hd' h2 h3 h4
  have hcond : ((a1.put (some N.p) (a1.eval (.tmp N.z))).put (some N.q) (.bool A.isNone)).eval (.tmp N.q) = .bool A.isNone := by
   have := hs3.tmps N.q
   have hT : ((S0.set N.p (S0.T N.z)).set N.q (.bool A.isNone)).T N.q = .bool A.isNone := if_pos rfl
   rw [hT] at this
   simp only [AB] at this
   exact this
  cases hb : A.isNone with
  | true =>
   rw [hb] at h1 hs3 hcond
   simp only [if_true] at h1
   refine wp_cond_true hcond ?_
   simp only [Ar] at h1
   split at h1
   ·rename_i S3 h5
    refine CX (c := c) hm hΓ hK n N.A hs3 hd1 h5 fun E' a' hs' ha' hd' => ?_
    exact CX (c := c) hm hΓ hK n N.B hs' hd' h1 fun E'' a'' hs'' ha'' hd'' => hfin E'' a'' hs'' (ha'.trans ha'') hd''
   ·rename_i hne
    refine CX (c := c) hm hΓ hK n N.A hs3 hd1 h1 fun E' a' hs' ha' hd' => ?_
    have := hfin E' a' hs' ha' hd'
    cases x with
    | normal => exact absurd h1 (hne S2)
    | exit i => exact this
    | ret => exact this
  | false =>
   rw [hb] at h1 hs3 hcond
   simp only [bd, if_false] at h1
   refine wp_cond_false hcond (wp_skip ?_)
   exact CX (c := c) hm hΓ hK n N.B hs3 hd1 h1 hfin
theorem NI (P : bm) (hfol : P.follows .mixedOrders = true) (h : Bp) : ∀ n, HD P h (Dw P h n)
  | 0 => ⟨fun k args H lk r hr => by simp [Dw] at hr, fun k args H lk L v H' hr => by simp [Dw] at hr⟩
  | n + 1 => by
    have ih := NI P hfol h n
    refine ⟨fun k args H lk r hr => ?_, fun k args H lk L v H' hr E0 us hH hlk hn hm hh hlocks hrep => ?_⟩
    · simp only [Dw] at hr
      split at hr
      case h_2 => cases hr
      rename_i fn hfn
      split at hr
      case h_2 => cases hr
      rename_i body hbody
      split at hr
      case isFalse => cases hr
      rename_i hc
      exact ⟨fn, hfn, by rw [hbody]; rfl, hc.2⟩
    · simp only [Dw] at hr
      split at hr
      case h_2 => cases hr
      rename_i fn hfn
      split at hr
      case h_2 => cases hr
      rename_i body hbody
      split at hr
      case isFalse => cases hr
      rename_i hc
      obtain ⟨hlen, hname⟩ := hc
      subst hH hlk
      let c : Cx := { P := P, hints := h, fn := k, ntmps := fn.ntmps, base := E0.H.length, lk := E0.lk ++ [L], Γ := Dw P h n }
      have hal : args.length = us.length := (BX _ _ hrep).1
      have hs : Cy c (E0.lock L) { T := JO args, H := E0.H } { tmps := us.toArray ++ jy (fn.ntmps - us.toArray.size) undef, defers := [] } :=
        { H := rfl
          lk := rfl
          n := hn
          m := by show E0.m + 1 = (E0.lk ++ [L]).length; rw [hm]; simp
          tmps := fun i => XE hrep _ i
          size := by simp; show us.length + (fn.ntmps - us.length) = fn.ntmps; omega
          heap := hh.lock L
          base := al _
          EH := hlocks
          deep := by show 0 < (E0.lk ++ [L]).length; simp }
      simp only [af] at hr
      obtain ⟨q, hex, hl⟩ := hr
      refine calls_of_wp hfn hbody ?_
      refine TY (c := c) hfol ih (UN P h n) hs rfl hex fun E' a' S x hs' ha' hd' hx hvs hq => ?_
      rw [hq] at hl
      rw [← hs'.H] at hvs
      obtain ⟨u0, hu0, hr0⟩ := UL (P := P) hs'.heap hs'.tmps hvs
      have hD : Rr c E0 E' L S.H :=
        { Wc := hh, n0 := hn, m0 := hm, base := hn.symm, lk := rfl
          EH := fun l hl x hx => by rw [hn]; exact hlocks l (aq.2 (.inl hl)) x hx
          after := ha' }
      have hdl : (E0.lk ++ [L]).length = E0.m + 1 := by rw [hm]; simp
      have key : ∃ E1 : Ab, E1.w = E'.w ∧ Ug h k L E0 E1 H' ∧ AB E1 v u0 := by
        unfold Dd at hl
        split at hl
        · rename_i hg
          split at hl
          case isFalse => cases hl
          rename_i hcl
          simp only [ab, ah] at hl
          obtain ⟨rfl, rfl⟩ := hl
          rw [hdl] at hcl
          obtain ⟨E1, k1, k2, k3⟩ := Tz hD hg hr0 hcl
          refine ⟨E1, k1, ?_, k3⟩
          rw [← hn, hdl, aB]
          exact k2
        · rename_i hg
          simp only [ag, Prod.exists, ah] at hl
          obtain ⟨v1, H2, news, h1, rfl, rfl⟩ := hl
          rw [hdl, ← hn] at h1
          obtain ⟨E1, k1, k2, k3⟩ := Xi hD (by simpa using hg) hr0 h1
          exact ⟨E1, k1, by rw [← hn]; exact k2, k3⟩
      obtain ⟨E1, k1, k2, k3⟩ := key
      rcases hx with rfl | rfl
      · exact ⟨hd', u0, hu0, E1, k1, k2, k3⟩
      · exact ⟨hd', u0, hu0, E1, k1, k2, k3⟩
abbrev fZ := eg → List V → A6 → Lk → Option (V × A6)
def iD (Γ Γ' : fZ) : Prop := ∀ k a H lk r, Γ k a H lk = some r → Γ' k a H lk = some r
def Cx.at (c : Cx) (Γ : fZ) : Cx := { c with Γ := Γ }
theorem o8 {c : Cx} {Γ : fZ} (hG : iD c.Γ Γ) {o : ch} {S : St} {r : V × A6} (h : Cb c o S = some r) : Cb (c.at Γ) o S = some r := by
 by_cases hc : Ek o = true
 ·unfold Ek at hc
  split at hc
  case h_2 => cases hc
  rename_i f args ats ho
  simp only [Cb, ho] at h ⊢
  split at h
  case h_2 => cases h
  rename_i g caps hf
  simp only [af, Prod.exists] at h
  obtain ⟨vs, hvs, as, M, H1, hl, hg⟩ := h
  simp only [hf, hvs, aa]
  have : An (c.at Γ) (c.hints.DS g) S.H (vs ++ caps) = An c (c.hints.DS g) S.H (vs ++ caps) := by
   have : ∀ (vs : List V) (ms : List Ui) (H : A6), An (c.at Γ) ms H vs = An c ms H vs := by
    intro vs
    induction vs with
    | nil => intro ms H; rfl
    | cons v vs ih =>
     intro ms H
     simp only [An]
     have : H5 (c.at Γ) (ms.headD .Qp) H v = H5 c (ms.headD .Qp) H v := rfl
     rw [this]
     congr 1
     funext r
     rw [ih]
   exact this _ _ _
  show (An (c.at Γ) (c.hints.DS g) S.H (vs ++ caps)).bind _ = _
  rw [this, hl]
  exact hG _ _ _ _ _ hg
 ·have : Cb (c.at Γ) o S = Cb c o S := by
   have em : ∀ (ps : List (Nat × V)) (H : A6), CZ (c.at Γ) H ps = CZ c H ps := by
    intro ps
    induction ps with
    | nil => intro H; rfl
    | cons p ps ih =>
     intro H
     obtain ⟨i, v⟩ := p
     simp only [CZ]
     have : Gc (c.at Γ) H v = Gc c H v := rfl
     rw [this]
     congr 1
     funext r
     rw [ih]
   obtain ⟨dst, op, ty, pos, aft, gd⟩ := o
   cases op <;> try rfl
   case buildSlice t n ps =>
    simp only [Cb]
    congr 1
    funext ps
    rw [em]
    rfl
   case makeMap t r => cases r <;> rfl
   case call k =>
    obtain ⟨callee, args, ats⟩ := k
    cases callee with
    | value f => exact absurd rfl hc
    | builtin b => cases b <;> rfl
    | invoke r n => rfl
  rw [this]
  exact h
theorem Tt {c : Cx} {Γ : fZ} (hG : iD c.Γ Γ) {ops : Array ch} {o : ch} {S S' : St} (h : Bx c ops o S = some S') : Bx (c.at Γ) ops o S = some S' := by
 rw [EX] at h ⊢
 simp only [af, Prod.exists] at h
 obtain ⟨v, H', h1, h2⟩ := h
 unfold Dc at h1
 simp only [af] at h1
 obtain ⟨b, hb, h1⟩ := h1
 have : Dc (c.at Γ) ops o S = some (v, H') := by
  unfold Dc
  rw [hb, aa]
  cases b with
  | true => simp only [if_true] at h1 ⊢; exact o8 hG h1
  | false => simpa using h1
 rw [this]
 exact h2
theorem Vg {Γ : fZ} {cf : Nat → Cx} (hG : ∀ i, iD (cf i).Γ Γ) {ops : Array ch} : ∀ (l : List Nat) {S S' : St}, De cf ops l S = some S' → De (fun i => (cf i).at Γ) ops l S = some S'
 | [], S, S', h => h
 | i :: l, S, S', h => by
  simp only [De] at h ⊢
  split at h
  ·cases h
  simp only [af] at h
  obtain ⟨S1, h1, h2⟩ := h
  rw [Tt (hG i) h1]
  exact Vg hG l h2
theorem M0 {f g : St → Option (X × St)} (hfg : ∀ S r, f S = some r → g S = some r) : ∀ {n m : Nat}, n ≤ m → ∀ {S : St} {r : X × St}, FE f n S = some r → FE g m S = some r
 | 0, m, _, S, r, h => by simp [FE] at h
 | n + 1, 0, hnm, S, r, h => by omega
 | n + 1, m + 1, hnm, S, r, h => by
  simp only [FE] at h ⊢
  split at h
  ·rename_i S1 h1
   rw [hfg _ _ h1]
   exact M0 hfg (by omega) h
  ·rename_i hne
   rw [hfg _ _ h]
   split
   ·rename_i S1 he
    simp only [ab] at he
    subst he
    exact absurd h (hne S1)
   ·rfl
theorem EK {c : Cx} {Γ : fZ} (hG : iD c.Γ Γ) {n m : Nat} (hnm : n ≤ m) : ∀ (b : Code) {S : St} {r : X × St}, Ar c n b S = some r → Ar (c.at Γ) m b S = some r
 | .skip, S, r, h => h
 | .region id ops draw, S, r, h => by
  simp only [Ar, ag] at h ⊢
  obtain ⟨S1, h1, rfl⟩ := h
  refine ⟨S1, ?_, rfl⟩
  split at h1
  ·rename_i hd
   rw [if_pos hd]
   split at h1
   ·rename_i hok
    rw [if_pos hok]
    rw [af] at h1 ⊢
    obtain ⟨S2, h1, h2⟩ := h1
    exact ⟨S2, Vg (cf := FX c ops) (fun _ => hG) _ h1, h2⟩
   ·cases h1
  ·rename_i hd
   rw [if_neg hd]
   exact Vg (cf := fun _ => c) (fun _ => hG) _ h1
 | .seq p q, S, r, h => by
  simp only [Ar] at h ⊢
  split at h
  ·rename_i S1 h1
   rw [EK hG hnm p h1]
   exact EK hG hnm q h
  ·rename_i hne
   rw [EK hG hnm p h]
   split
   ·rename_i S1 he
    simp only [ab] at he
    subst he
    exact absurd h (hne S1)
   ·rfl
 | .cond y p q, S, r, h => by
  simp only [Ar] at h ⊢
  split at h
  ·exact EK hG hnm p h
  ·exact EK hG hnm q h
  ·cases h
 | .block id p, S, r, h => by
  simp only [Ar] at h ⊢
  split at h
  ·rename_i i S1 h1
   rw [EK hG hnm p h1]
   exact h
  ·rename_i hne
   rw [EK hG hnm p h]
   split
   ·rename_i i S1 he
    simp only [ab] at he
    subst he
    exact absurd h (hne i S1)
   ·rfl
 | .loop p, S, r, h => by
  simp only [Ar] at h ⊢
  exact M0 (fun S r h => EK hG hnm p h) hnm h
 | .exit id, S, r, h => h
 | .ret, S, r, h => h
 | .label _, _, _, h => by simp [Ar] at h
 | .goto _, _, _, h => by simp [Ar] at h
 | .scope _, _, _, h => by simp [Ar] at h
 | .refuse _, _, _, h => by simp [Ar] at h
 | .rangeFunc .., _, _, h => by simp [Ar] at h
theorem ZH {P : bm} {rs : List ed} {x y : Option (X × St)} (h : ∀ r, x = some r → y = some r) {r : List V × A6} (hr : L0 P rs x = some r) : L0 P rs y = some r := by
 obtain ⟨e, S, h1, h2, h3, h4⟩ := IV hr
 rw [h _ h1]
 obtain ⟨vs, H⟩ := r
 simp only [] at h3 h4
 subst h4
 rcases h2 with rfl | rfl
 ·simp only [L0, h3, aj]
 ·simp only [L0, h3, aj]
theorem Yc {c : Cx} {Γ : fZ} (hG : iD c.Γ Γ) {n m : Nat} (hnm : n ≤ m) {rs : List ed} {b : Code} {S : St} {r : List V × A6} (h : Jk c n rs b S = some r) : Jk (c.at Γ) m rs b S = some r := by
 unfold Jk at h ⊢
 have hw : ∀ N S bb r, O4 c n rs N S bb = some r → O4 (c.at Γ) m rs N S bb = some r := fun N S bb r hr => ZH (fun q hq => EK hG hnm _ hq) hr
 cases hN : FO b with
 | none =>
  rw [hN] at h
  simp only [] at h ⊢
  exact ZH (fun q hq => EK hG hnm _ hq) h
 | some N =>
  rw [hN] at h
  simp only [] at h ⊢
  split at h
  case h_2 => cases h
  rename_i S0 h0
  rw [EK hG hnm _ h0]
  simp only []
  split at h
  case isFalse => cases h
  rename_i hc
  have hc' : N.p < (c.at Γ).ntmps ∧ N.q < (c.at Γ).ntmps ∧ N.p ≠ N.q ∧ (B6 (c.at Γ).P N.t).isSome = true := hc
  rw [if_pos hc']
  split at h
  ·exact hw _ _ _ _ h
  ·split at h
   case isFalse => cases h
   rename_i hs
   have h2 := hw _ _ _ _ h
   have h1 := hw _ _ _ _ (hs.trans h)
   rw [if_pos (h1.trans h2.symm)]
   exact h2
  ·cases h
theorem TH (P : bm) (h : Bp) : ∀ {n m : Nat}, n ≤ m → iD (Dw P h n) (Dw P h m)
  | 0, m, _, k, a, H, lk, r, hr => by simp [Dw] at hr
  | n + 1, 0, hnm, _, _, _, _, _, _ => by omega
  | n + 1, m + 1, hnm, k, a, H, lk, r, hr => by
    have ih : iD (Dw P h n) (Dw P h m) := TH P h (by omega)
    simp only [Dw] at hr ⊢
    split at hr
    case h_2 => cases hr
    rename_i fn hfn
    split at hr
    case h_2 => cases hr
    rename_i body hbody
    split at hr
    case isFalse => cases hr
    rename_i hc
    simp only [hbody, hc, and_self, if_true]
    simp only [af] at hr ⊢
    obtain ⟨q, h1, h2⟩ := hr
    exact ⟨q, Yc (c := { P := P, hints := h, fn := k, ntmps := fn.ntmps, base := H.length, lk := lk, Γ := Dw P h n }) ih (by omega : n ≤ m) h1, h2⟩
open Classical in
noncomputable def Am (P : bm) (h : Bp) : fZ := fun k a H lk =>
 if hx : ∃ n r, Dw P h n k a H lk = some r then some (ei (de hx)) else none
theorem OV {P : bm} {h : Bp} {n : Nat} {k : eg} {a : List V} {H : A6} {lk : Lk} {r : V × A6} (hr : Dw P h n k a H lk = some r) : Am P h k a H lk = some r := by
 have hx : ∃ n r, Dw P h n k a H lk = some r := ⟨n, r, hr⟩
 unfold Am
 rw [dif_pos hx]
 have h1 := de (de hx)
 have h2 := TH P h (ie n (ei hx)) _ _ _ _ _ hr
 have h3 := TH P h (gp n (ei hx)) _ _ _ _ _ h1
 rw [← h3, h2]
theorem TG {P : bm} {h : Bp} {k : eg} {a : List V} {H : A6} {lk : Lk} {r : V × A6} (hr : Am P h k a H lk = some r) : ∃ n, Dw P h n k a H lk = some r := by
 unfold Am at hr
 split at hr
 ·rename_i hx
  simp only [ab] at hr
  exact ⟨_, hr ▸ de (de hx)⟩
 ·cases hr
theorem Vr (P : bm) (hfol : P.follows .mixedOrders = true) (h : Bp) : HD P h (Am P h) where
 body := fun k args H lk r hr => let ⟨n, hn⟩ := TG hr; (NI P hfol h n).body k args H lk r hn
 run := fun k args H lk L v H' hr => let ⟨n, hn⟩ := TG hr; (NI P hfol h n).run k args H lk L v H' hn
theorem eU {P : bm} {h : Bp} {c : Cx} (hc : c.Γ = Am P h) {o : ch} {S : St} {r : V × A6} (hr : Cb c o S = some r) : ∃ n, Cb (c.at (Dw P h n)) o S = some r := by
 by_cases hcl : Ek o = true
 ·have hh := hr
  unfold Ek at hcl
  split at hcl
  case h_2 => cases hcl
  rename_i f args ats ho
  simp only [Cb, ho] at hr
  split at hr
  case h_2 => cases hr
  rename_i g caps hf
  simp only [af, Prod.exists] at hr
  obtain ⟨vs, hvs, as, M, H1, hl, hg⟩ := hr
  rw [hc] at hg
  obtain ⟨n, hn⟩ := TG hg
  refine ⟨n, ?_⟩
  have : ∀ (vs : List V) (ms : List Ui) (H : A6), An (c.at (Dw P h n)) ms H vs = An c ms H vs := by
   intro vs
   induction vs with
   | nil => intro ms H; rfl
   | cons v vs ih =>
    intro ms H
    simp only [An]
    have : H5 (c.at (Dw P h n)) (ms.headD .Qp) H v = H5 c (ms.headD .Qp) H v := rfl
    rw [this]
    congr 1
    funext r
    rw [ih]
  simp only [Cb, ho, hf, hvs, aa]
  show (An (c.at (Dw P h n)) (c.hints.DS g) S.H (vs ++ caps)).bind _ = _
  rw [this, hl]
  exact hn
 ·refine ⟨0, ?_⟩
  have em : ∀ (ps : List (Nat × V)) (H : A6), CZ (c.at (Dw P h 0)) H ps = CZ c H ps := by
   intro ps
   induction ps with
   | nil => intro H; rfl
   | cons p ps ih =>
    intro H
    obtain ⟨i, v⟩ := p
    simp only [CZ]
    have : Gc (c.at (Dw P h 0)) H v = Gc c H v := rfl
    rw [this]
    congr 1
    funext r
    rw [ih]
  have : Cb (c.at (Dw P h 0)) o S = Cb c o S := by
   obtain ⟨dst, op, ty, pos, aft, gd⟩ := o
   cases op <;> try rfl
   case buildSlice t n ps =>
    simp only [Cb]
    congr 1
    funext ps
    rw [em]
    rfl
   case makeMap t r => cases r <;> rfl
   case call k =>
    obtain ⟨callee, args, ats⟩ := k
    cases callee with
    | value f => exact absurd rfl hcl
    | builtin b => cases b <;> rfl
    | invoke r n => rfl
  rw [this]
  exact hr
theorem VK {P : bm} {h : Bp} {c : Cx} (hc : c.Γ = Am P h) {ops : Array ch} {o : ch} {S S' : St} (hr : Bx c ops o S = some S') : ∃ n, ∀ m, n ≤ m → Bx (c.at (Dw P h m)) ops o S = some S' := by
 rw [EX] at hr
 simp only [af, Prod.exists] at hr
 obtain ⟨v, H', h1, h2⟩ := hr
 unfold Dc at h1
 simp only [af] at h1
 obtain ⟨b, hb, h1⟩ := h1
 have key : ∃ n, Dc (c.at (Dw P h n)) ops o S = some (v, H') := by
  unfold Dc
  simp only [hb, aa]
  cases b with
  | true => simp only [if_true] at h1 ⊢; exact eU hc h1
  | false => exact ⟨0, by simpa using h1⟩
 obtain ⟨n, hn⟩ := key
 refine ⟨n, fun m hm => ?_⟩
 have : Bx (c.at (Dw P h n)) ops o S = some S' := by
  rw [EX, hn]
  exact h2
 exact Tt (c := c.at (Dw P h n)) (TH P h hm) this
theorem QH {P : bm} {h : Bp} {cf : Nat → Cx} (hc : ∀ i, (cf i).Γ = Am P h) {ops : Array ch} : ∀ (l : List Nat) {S S' : St}, De cf ops l S = some S' → ∃ n, ∀ m, n ≤ m → De (fun i => (cf i).at (Dw P h m)) ops l S = some S'
 | [], S, S', hr => ⟨0, fun _ _ => hr⟩
 | i :: l, S, S', hr => by
  simp only [De] at hr
  split at hr
  ·cases hr
  rename_i o ho
  simp only [af] at hr
  obtain ⟨S1, h1, h2⟩ := hr
  obtain ⟨n1, k1⟩ := VK (hc i) h1
  obtain ⟨n2, k2⟩ := QH hc l h2
  refine ⟨max n1 n2, fun m hm => ?_⟩
  simp only [De, ho, k1 m (by omega), aa]
  exact k2 m (by omega)
theorem RJ {F : Nat → St → Option (X × St)} {f : St → Option (X × St)} (hf : ∀ S r, f S = some r → ∃ n, ∀ m, n ≤ m → F m S = some r) : ∀ (j : Nat) {S : St} {r : X × St}, FE f j S = some r → ∃ n, ∀ m, n ≤ m → FE (F m) j S = some r
 | 0, S, r, h => by simp [FE] at h
 | j + 1, S, r, h => by
  simp only [FE] at h
  split at h
  ·rename_i S1 h1
   obtain ⟨n1, k1⟩ := hf _ _ h1
   obtain ⟨n2, k2⟩ := RJ hf j h
   refine ⟨max n1 n2, fun m hm => ?_⟩
   simp only [FE, k1 m (by omega)]
   exact k2 m (by omega)
  ·rename_i hne
   obtain ⟨n1, k1⟩ := hf _ _ h
   refine ⟨n1, fun m hm => ?_⟩
   simp only [FE, k1 m hm]
   split
   ·rename_i S1 he
    simp only [ab] at he
    subst he
    exact absurd h (hne S1)
   ·rfl
theorem Ey {P : bm} {h : Bp} {c : Cx} (hc : c.Γ = Am P h) (j : Nat) : ∀ (b : Code) {S : St} {r : X × St}, Ar c j b S = some r → ∃ n, ∀ m, n ≤ m → Ar (c.at (Dw P h m)) m b S = some r
 | .skip, S, r, hr => ⟨0, fun _ _ => hr⟩
 | .region id ops draw, S, r, hr => by
  simp only [Ar, ag] at hr ⊢
  obtain ⟨S1, h1, rfl⟩ := hr
  split at h1
  ·rename_i hd
   split at h1
   ·rename_i hok
    rw [af] at h1
    obtain ⟨S2, h1, h2⟩ := h1
    obtain ⟨n, k⟩ := QH (cf := FX c ops) (fun _ => hc) _ h1
    exact ⟨n, fun m hm => ⟨S1, by rw [if_pos hd, if_pos hok, af]; exact ⟨S2, k m hm, h2⟩, rfl⟩⟩
   ·cases h1
  ·rename_i hd
   obtain ⟨n, k⟩ := QH (cf := fun _ => c) (fun _ => hc) _ h1
   exact ⟨n, fun m hm => ⟨S1, by rw [if_neg hd]; exact k m hm, rfl⟩⟩
 | .seq p q, S, r, hr => by
  simp only [Ar] at hr ⊢
  split at hr
  ·rename_i S1 h1
   obtain ⟨n1, k1⟩ := Ey hc j p h1
   obtain ⟨n2, k2⟩ := Ey hc j q hr
   refine ⟨max n1 n2, fun m hm => ?_⟩
   rw [k1 m (by omega)]
   exact k2 m (by omega)
  ·rename_i hne
   obtain ⟨n1, k1⟩ := Ey hc j p hr
   refine ⟨n1, fun m hm => ?_⟩
   rw [k1 m hm]
   split
   ·rename_i S1 he
    simp only [ab] at he
    subst he
    exact absurd hr (hne S1)
   ·rfl
 | .cond y p q, S, r, hr => by
  simp only [Ar] at hr ⊢
  split at hr
  ·exact Ey hc j p hr
  ·exact Ey hc j q hr
  ·cases hr
 | .block id p, S, r, hr => by
  simp only [Ar] at hr ⊢
  split at hr
  ·rename_i i S1 h1
   obtain ⟨n1, k1⟩ := Ey hc j p h1
   refine ⟨n1, fun m hm => ?_⟩
   rw [k1 m hm]
   exact hr
  ·rename_i hne
   obtain ⟨n1, k1⟩ := Ey hc j p hr
   refine ⟨n1, fun m hm => ?_⟩
   rw [k1 m hm]
   split
   ·rename_i i S1 he
    simp only [ab] at he
    subst he
    exact absurd hr (hne i S1)
   ·rfl
 | .loop p, S, r, hr => by
  simp only [Ar] at hr ⊢
  obtain ⟨n, k⟩ := RJ (F := fun m => Ar (c.at (Dw P h m)) m p) (fun S r h => Ey hc j p h) j hr
  exact ⟨max n j, fun m hm => M0 (fun _ _ h => h) (by omega) (k m (by omega))⟩
 | .exit id, S, r, hr => ⟨0, fun _ _ => hr⟩
 | .ret, S, r, hr => ⟨0, fun _ _ => hr⟩
 | .label _, _, _, h => by simp [Ar] at h
 | .goto _, _, _, h => by simp [Ar] at h
 | .scope _, _, _, h => by simp [Ar] at h
 | .refuse _, _, _, h => by simp [Ar] at h
 | .rangeFunc .., _, _, h => by simp [Ar] at h
open Classical in
noncomputable def EG (c : Cx) (b : Code) (S : St) : Option (X × St) :=
 if hx : ∃ n r, Ar c n b S = some r then some (ei (de hx)) else none
theorem CD {c : Cx} {n : Nat} {b : Code} {S : St} {r : X × St} (hr : Ar c n b S = some r) : EG c b S = some r := by
 have hx : ∃ n r, Ar c n b S = some r := ⟨n, r, hr⟩
 unfold EG
 rw [dif_pos hx]
 have h1 := de (de hx)
 have h2 := EK (c := c) (Γ := c.Γ) (fun _ _ _ _ _ h => h) (ie n (ei hx)) b hr
 have h3 := EK (c := c) (Γ := c.Γ) (fun _ _ _ _ _ h => h) (gp n (ei hx)) b h1
 rw [← h3, h2]
theorem EU {c : Cx} {b : Code} {S : St} {r : X × St} (hr : EG c b S = some r) : ∃ n, ∀ m, n ≤ m → Ar c m b S = some r := by
 unfold EG at hr
 split at hr
 ·rename_i hx
  simp only [ab] at hr
  exact ⟨_, fun m hm => EK (c := c) (Γ := c.Γ) (fun _ _ _ _ _ h => h) hm b (hr ▸ de (de hx))⟩
 ·cases hr
theorem IU {c : Cx} {b : Code} {S : St} {x : Option (X × St)} (h1 : ∀ r, x = some r → EG c b S = some r) (h2 : ∀ n r, Ar c n b S = some r → x = some r) : EG c b S = x := by
 cases he : EG c b S with
 | none =>
  cases x with
  | none => rfl
  | some r => rw [h1 r rfl] at he; cases he
 | some r =>
  obtain ⟨n, hn⟩ := EU he
  exact (h2 n r (hn n (al _))).symm
section
variable {c : Cx} {S : St}
theorem Ux : EG c .skip S = some (.normal, S) := CD (n := 0) rfl
theorem Uv (id : Nat) : EG c (.exit id) S = some (.exit id, S) := CD (n := 0) rfl
theorem XQ : EG c .ret S = some (.ret, S) := CD (n := 0) rfl
theorem S6 (id : Nat) (ops : Array ch) : EG c (.region id ops false) S = (De (fun _ => c) ops (bt ops.size) S).map fun S' => (.normal, S') :=
 IU (fun r h => CD (n := 0) (by simpa only [Ar, bd, if_false] using h)) fun n r h => by simpa only [Ar, bd, if_false] using h
theorem Uu (id : Nat) (ops : Array ch) : EG c (.region id ops true) S = if MX ops then ((De (FX c ops) ops (Qv ops) S).bind fun S' => if LG ops c.base S'.T then some S' else none).map fun S' => (.normal, S') else none := by
 refine IU (fun r h => CD (n := 0) ?_) fun n r h => ?_
 ·simp only [Ar, if_true]
  split at h
  ·rename_i hd; rw [if_pos hd]; exact h
  ·cases h
 ·simp only [Ar, if_true] at h
  split
  ·rename_i hd; rw [if_pos hd] at h; exact h
  ·rename_i hd; rw [if_neg hd] at h; exact h
def UZ (x : Option (X × St)) (k : St → Option (X × St)) : Option (X × St) :=
 match x with
 | some (.normal, S) => k S
 | r => r
theorem XR (p q : Code) : EG c (.seq p q) S = UZ (EG c p S) fun S' => EG c q S' := by
 refine IU (fun r h => ?_) fun n r h => ?_
 ·unfold UZ at h
  split at h
  ·rename_i S1 h1
   obtain ⟨n1, k1⟩ := EU h1
   obtain ⟨n2, k2⟩ := EU h
   refine CD (n := max n1 n2) ?_
   simp only [Ar, k1 _ (ie ..), k2 _ (gp ..)]
  ·rename_i hne
   obtain ⟨n1, k1⟩ := EU h
   refine CD (n := n1) ?_
   simp only [Ar, k1 _ (al _)]
   split
   ·rename_i S1 he
    simp only [ab] at he
    subst he
    exact absurd h (hne S1)
   ·rfl
 ·simp only [Ar] at h
  split at h
  ·rename_i S1 h1
   rw [CD h1]
   exact CD h
  ·rename_i hne
   rw [CD h]
   obtain ⟨x, S1⟩ := r
   cases x with
   | normal => exact absurd h (hne S1)
   | exit i => rfl
   | ret => rfl
theorem Ut (y : au) (p q : Code) : EG c (.cond y p q) S = match ev S.T y with
  | some (.bool true) => EG c p S
  | some (.bool false) => EG c q S
  | _ => none := by
 refine IU (fun r h => ?_) fun n r h => ?_
 ·split at h
  ·rename_i hy
   obtain ⟨n, k⟩ := EU h
   exact CD (n := n) (by simp only [Ar, hy, k n (al _)])
  ·rename_i hy
   obtain ⟨n, k⟩ := EU h
   exact CD (n := n) (by simp only [Ar, hy, k n (al _)])
  ·cases h
 ·simp only [Ar] at h
  split at h
  ·rename_i hy; simp only [hy]; exact CD h
  ·rename_i hy; simp only [hy]; exact CD h
  ·cases h
theorem TX (id : Nat) (p : Code) : EG c (.block id p) S = match EG c p S with
  | some (.exit i, S') => if i = id then some (.normal, S') else some (.exit i, S')
  | r => r := by
 refine IU (fun r h => ?_) fun n r h => ?_
 ·split at h
  ·rename_i i S1 h1
   obtain ⟨n, k⟩ := EU h1
   exact CD (n := n) (by simp only [Ar, k n (al _)]; exact h)
  ·rename_i hne
   obtain ⟨n, k⟩ := EU h
   refine CD (n := n) ?_
   simp only [Ar, k n (al _)]
   split
   ·rename_i i S1 he
    simp only [ab] at he
    subst he
    exact absurd h (hne i S1)
   ·rfl
 ·simp only [Ar] at h
  split at h
  ·rename_i i S1 h1
   rw [CD h1]
   exact h
  ·rename_i hne
   rw [CD h]
   obtain ⟨x, S1⟩ := r
   cases x with
   | normal => rfl
   | exit i => exact absurd h (hne i S1)
   | ret => rfl
theorem Uw (p : Code) : EG c (.loop p) S = UZ (EG c p S) fun S' => EG c (.loop p) S' := by
 refine IU (fun r h => ?_) fun n r h => ?_
 ·unfold UZ at h
  split at h
  ·rename_i S1 h1
   obtain ⟨n1, k1⟩ := EU h1
   obtain ⟨n2, k2⟩ := EU h
   refine CD (n := max n1 n2 + 1) ?_
   have h3 := k2 (max n1 n2) (gp ..)
   simp only [Ar] at h3
   simp only [Ar, FE, k1 (max n1 n2 + 1) (by omega)]
   exact M0 (fun S r h => EK (c := c) (Γ := c.Γ) (fun _ _ _ _ _ h => h) (jj _) p h) (al _) h3
  ·rename_i hne
   obtain ⟨n1, k1⟩ := EU h
   refine CD (n := n1 + 1) ?_
   simp only [Ar, FE, k1 (n1 + 1) (jj _)]
   split
   ·rename_i S1 he
    simp only [ab] at he
    subst he
    exact absurd h (hne S1)
   ·rfl
 ·simp only [Ar] at h
  cases n with
  | zero => simp [FE] at h
  | succ n =>
   simp only [FE] at h
   split at h
   ·rename_i S1 h1
    rw [CD h1]
    refine CD (n := n + 1) ?_
    simp only [Ar]
    exact M0 (fun _ _ h => h) (jj _) h
   ·rename_i hne
    rw [CD h]
    obtain ⟨x, S1⟩ := r
    cases x with
    | normal => exact absurd h (hne S1)
    | exit i => rfl
    | ret => rfl
end
noncomputable def B5 (P : bm) (h : Bp) (k ntmps base : Nat) (lk : Lk) : Cx := { P := P, hints := h, fn := k, ntmps := ntmps, base := base, lk := lk, Γ := Am P h }
def mF (P : bm) (h : Bp) (k base d : Nat) (rs : List ed) (x : Option (X × St)) : Option (V × A6) :=
 match x with
 | some (.normal, S) | some (.ret, S) => (BI P S.H S.T rs).bind fun vs => Dd h k base d (EI vs) S.H
 | _ => none
theorem Vq {P : bm} {h : Bp} {k : eg} {fn : Func} {body : Code} (hfn : P.funcs[k]? = some fn) (hb : fn.body = some body) {args : List V} {H : A6} {lk : Lk} (hns : FO body = none) (hlen : args.length ≤ fn.ntmps) (hname : (fn.name == "runtime.NumGoroutine") = false) {r : V × A6}
    (hr : mF P h k H.length lk.length fn.results.toList (EG (B5 P h k fn.ntmps H.length lk) body { T := JO args, H := H }) = some r) : Am P h k args H lk = some r := by
  have main : ∀ x S, EG (B5 P h k fn.ntmps H.length lk) body { T := JO args, H := H } = some (x, S) → (x = .normal ∨ x = .ret) → ((BI P S.H S.T fn.results.toList).bind fun vs => Dd h k H.length lk.length (EI vs) S.H) = some r → Am P h k args H lk = some r := by
    intro x S hx hxx hl
    obtain ⟨n, hn⟩ := EU hx
    obtain ⟨m, hm⟩ := Ey (P := P) (h := h) rfl n body (hn n (al _))
    refine OV (n := m + 1) ?_
    simp only [Dw, hfn, hb]
    rw [if_pos ⟨hlen, hname⟩]
    have := hm m (al _)
    unfold Cx.at B5 at this
    simp only [] at this
    unfold Jk
    rw [hns]
    simp only []
    rw [this]
    rcases hxx with rfl | rfl
    · simp only [L0]
      simp only [af] at hl
      obtain ⟨vs, h1, h2⟩ := hl
      simp only [h1, aj, aa, h2]
    · simp only [L0]
      simp only [af] at hl
      obtain ⟨vs, h1, h2⟩ := hl
      simp only [h1, aj, aa, h2]
  unfold mF at hr
  split at hr
  · rename_i S hx; exact main _ S hx (.inl rfl) hr
  · rename_i S hx; exact main _ S hx (.inr rfl) hr
  · cases hr
def GZ (c : Cx) (b : Code) (S : St) (Q : X → St → Prop) : Prop := ∃ x S', EG c b S = some (x, S') ∧ Q x S'
def Pp (k : St → Prop) (Q : X → St → Prop) (x : X) (S : St) : Prop := match x with | .normal => k S | x => Q x S
def Cw (T : Nat → V) (d : Nat) (v : V) : Nat → V := fun i => if i = d then v else T i
theorem OZ (T : Nat → V) (d : Nat) (v : V) (i : Nat) : Cw T d v i = if i = d then v else T i := rfl
def NA (c : Cx) (ops : Array ch) : List (Bool × Bool × ch) → St → Option St
 | [], S => some S
 | (s, k, o) :: l, S => (Bx (c.BQ s k) ops o S).bind fun S' => NA c ops l S'
def BU (c : Cx) (ops : Array ch) (l : List (Bool × Bool × ch)) (S : St) (Q : St → Prop) : Prop := ∃ S', NA c ops l S = some S' ∧ Q S'
def lS (x : Option (V × A6)) (Q : V → A6 → Prop) : Prop := ∃ v H, x = some (v, H) ∧ Q v H
def lR {α : Type} (x : Option α) (Q : α → Prop) : Prop := ∃ v, x = some v ∧ Q v
def Hi (c : Cx) (op : Op) (S : St) : Option (V × A6) := Cb c ⟨none, op, 0, "", #[], none⟩ S
theorem T5 (c : Cx) (o : ch) (S : St) : Cb c o S = Hi c o.op S := rfl
theorem bS {α : Type} (a : α) (Q : α → Prop) : lR (some a) Q = Q a := by
 apply propext
 simp [lR]
section
variable {c : Cx} {ops : Array ch} {S : St} {Q : X → St → Prop}
theorem W7 {x : X} : (∃ x' S', some (x, S) = some (x', S') ∧ Q x' S') ↔ Q x S := by
 constructor
 ·rintro ⟨x', S', h, hq⟩
  simp only [ab, ah] at h
  obtain ⟨rfl, rfl⟩ := h
  exact hq
 ·exact fun h => ⟨_, _, rfl, h⟩
theorem bR : GZ c .skip S Q = Q .normal S := by
 apply propext; unfold GZ; rw [Ux]; exact W7
theorem bP (id : Nat) : GZ c (.exit id) S Q = Q (.exit id) S := by
 apply propext; unfold GZ; rw [Uv]; exact W7
theorem fU : GZ c .ret S Q = Q .ret S := by
 apply propext; unfold GZ; rw [XQ]; exact W7
theorem XB (p q : Code) : GZ c (.seq p q) S Q = GZ c p S (Pp (fun S' => GZ c q S' Q) Q) := by
 apply propext
 unfold GZ
 simp only [XR, UZ]
 constructor
 ·rintro ⟨x, S', h, hq⟩
  split at h
  ·rename_i S1 h1
   exact ⟨.normal, S1, h1, x, S', h, hq⟩
  ·rename_i hne
   refine ⟨x, S', h, ?_⟩
   cases x with
   | normal => exact absurd h (hne S')
   | exit i => exact hq
   | ret => exact hq
 ·rintro ⟨x, S', h, hq⟩
  rw [h]
  cases x with
  | normal => exact hq
  | exit i => exact ⟨_, _, rfl, hq⟩
  | ret => exact ⟨_, _, rfl, hq⟩
def kZ (v : V) (A B : Prop) : Prop := match v with | .bool true => A | .bool false => B | _ => False
theorem YG (b : Bool) (A B : Prop) : kZ (.bool b) A B = if b then A else B := by cases b <;> rfl
theorem bN (y : au) (p q : Code) : GZ c (.cond y p q) S Q = lR (ev S.T y) fun v => kZ v (GZ c p S Q) (GZ c q S Q) := by
 apply propext
 unfold GZ
 simp only [Ut, lR]
 constructor
 ·rintro ⟨x, S', h, hq⟩
  split at h
  ·rename_i hy; exact ⟨_, hy, x, S', h, hq⟩
  ·rename_i hy; exact ⟨_, hy, x, S', h, hq⟩
  ·cases h
 ·rintro ⟨v, hv, h⟩
  rw [hv]
  unfold kZ at h
  split at h
  ·exact h
  ·exact h
  ·exact h.elim
theorem YH (id : Nat) (p : Code) : GZ c (.block id p) S Q = GZ c p S fun x S' => match x with | .exit i => if i = id then Q .normal S' else Q (.exit i) S' | x => Q x S' := by
 apply propext
 unfold GZ
 simp only [TX]
 constructor
 ·rintro ⟨x, S', h, hq⟩
  split at h
  ·rename_i i S1 h1
   refine ⟨_, _, h1, ?_⟩
   split at h <;>
   ·rename_i hi
    simp only [ab, ah] at h
    obtain ⟨rfl, rfl⟩ := h
    simp only [hi, if_true, if_false]
    exact hq
  ·rename_i hne
   refine ⟨x, S', h, ?_⟩
   cases x with
   | normal => exact hq
   | exit i => exact absurd h (hne i S')
   | ret => exact hq
 ·rintro ⟨x, S', h, hq⟩
  rw [h]
  cases x with
  | normal => exact ⟨_, _, rfl, hq⟩
  | exit i =>
   simp only [] at hq ⊢
   split at hq
   ·rename_i hi; rw [if_pos hi]; exact ⟨_, _, rfl, hq⟩
   ·rename_i hi; rw [if_neg hi]; exact ⟨_, _, rfl, hq⟩
  | ret => exact ⟨_, _, rfl, hq⟩
theorem MR {b : Code} {Q' : X → St → Prop} (h : GZ c b S Q) (hq : ∀ x S, Q x S → Q' x S) : GZ c b S Q' :=
 let ⟨x, S', h1, h2⟩ := h; ⟨x, S', h1, hq _ _ h2⟩
theorem bQ {p : Code} (I : Nat → St → Prop) : ∀ (n : Nat) {S : St}, I n S → (∀ k S, k ≤ n → I k S → GZ c p S (Pp (fun S' => ∃ j, j < k ∧ I j S') Q)) → GZ c (.loop p) S Q := by
 intro n
 induction n using lh with
 | _ n ih =>
  intro S h0 hstep
  obtain ⟨x, S1, h1, h2⟩ := hstep n S (al _) h0
  unfold GZ
  rw [Uw, h1]
  unfold Pp at h2
  cases x with
  | normal =>
   obtain ⟨j, hj, hI⟩ := h2
   exact ih j hj hI fun k S hk hI => hstep k S (by omega) hI
  | exit i => exact ⟨_, _, rfl, h2⟩
  | ret => exact ⟨_, _, rfl, h2⟩
theorem T8 {cf : Nat → Cx} {fl : Nat → Bool × Bool} (hcf : ∀ i, cf i = c.BQ (fl i).1 (fl i).2) : ∀ (l : List Nat) (l' : List (Bool × Bool × ch)) (S : St), (l.map fun i => (ops[i]?).map fun o => ((fl i).1, (fl i).2, o)) = l'.map some → De cf ops l S = NA c ops l' S
 | [], l', S, h => by
  cases l' with
  | nil => rfl
  | cons x l' => simp at h
 | i :: l, l', S, h => by
  cases l' with
  | nil => simp at h
  | cons x l' =>
   simp only [dj, ep] at h
   obtain ⟨h1, h2⟩ := h
   cases ho : ops[i]? with
   | none => rw [ho] at h1; cases h1
   | some o =>
    rw [ho] at h1
    simp only [aj, ab] at h1
    subst h1
    simp only [De, ho, NA, hcf i]
    congr 1
    funext S'
    exact T8 hcf l l' S' h2
def Vn (ops : Array ch) : List (Bool × Bool × ch) := ops.toList.map fun o => (false, false, o)
theorem Y1 (l : List ch) : (bt l.length).map (fun i => l[i]?) = l.map some := by
 apply je
 intro i
 simp only [dz]
 by_cases h : i < l.length
 ·simp [h]
 ·rw [ba (by simp; omega), ba (by omega)]
  rfl
theorem W6 (hc : c.still = false ∧ c.calm = false) (id : Nat) (ops : Array ch) : GZ c (.region id ops false) S Q = BU c ops (Vn ops) S (Q .normal) := by
 have h1 : De (fun _ => c) ops (bt ops.size) S = NA c ops (Vn ops) S := by
  refine T8 (fl := fun _ => (false, false)) (fun i => ?_) _ _ _ ?_
  ·unfold Cx.BQ
   cases c
   simp only [Cx.mk.injEq, true_and] at hc ⊢
   exact ⟨hc.1, hc.2, trivial⟩
  ·have := Y1 ops.toList
   unfold Vn
   rw [od]
   have h2 := congrArg (List.map (Option.map fun o => (false, false, o))) this
   simp only [od] at h2
   simpa [Function.comp_def] using h2
 apply propext
 unfold GZ BU
 rw [S6, h1]
 constructor
 ·rintro ⟨x, S', h, hq⟩
  simp only [ag, ah] at h
  obtain ⟨S1, h1, rfl, rfl⟩ := h
  exact ⟨S1, h1, hq⟩
 ·rintro ⟨S', h, hq⟩
  exact ⟨.normal, S', by rw [h]; rfl, hq⟩
def WE (ops : Array ch) (l : List (Nat × Bool)) (ps : List (Nat × Nat)) : Bool := MX ops && Qv ops == l.map (·.1) && (l.all fun x => Kn ops (Fq ops) x.1 == x.2) && Zg ops (Fq ops) == ps
def YX (ops : Array ch) (l : List (Nat × Bool)) : Bool := WE ops l []
def Kq (ops : Array ch) (l : List (Nat × Bool)) : List (Bool × Bool × ch) := l.filterMap fun x => (ops[x.1]?).map fun o => (true, x.2, o)
theorem Ro {id : Nat} (l : List (Nat × Bool)) (ps : List (Nat × Nat)) (h : WE ops l ps = true) (hq : BU c ops (Kq ops l) S fun S' => (ps.all fun p => En c.base (S'.T p.1) (S'.T p.2)) = true ∧ Q .normal S') : GZ c (.region id ops true) S Q := by
 unfold WE at h
 rw [ar, beq_iff_eq] at h
 obtain ⟨h, hps⟩ := h
 simp only [ar, beq_iff_eq, cj] at h
 obtain ⟨⟨hok, hord⟩, hcalm⟩ := h
 obtain ⟨S', h1, hpo, h2⟩ := hq
 refine ⟨.normal, S', ?_, h2⟩
 rw [Uu, if_pos hok, hord]
 have hlt : ∀ x ∈ l, x.1 < ops.size := by
  intro x hx
  refine (Jh hok).2.1 x.1 ?_
  rw [hord]
  exact du.2 ⟨x, hx, rfl⟩
 have : De (FX c ops) ops (l.map (·.1)) S = NA c ops (Kq ops l) S := by
  refine T8 (fl := fun i => (true, Kn ops (Fq ops) i)) (fun i => rfl) _ _ _ ?_
  clear h1 hord
  unfold Kq
  induction l with
  | nil => rfl
  | cons x l ih =>
   have hx := hlt x (ck ..)
   have hcx := hcalm x (ck ..)
   have ih := ih (fun y hy => hcalm y (bw _ hy)) (fun y hy => hlt y (bw _ hy))
   simp only [dj, List.filterMap_cons, gf hx, aj, hcx, ep, true_and]
   exact ih
 rw [this, h1, aa, if_pos]
 ·rfl
 ·unfold LG
  rw [hps]
  exact hpo
theorem bO {id : Nat} (l : List (Nat × Bool)) (h : YX ops l = true) (hq : BU c ops (Kq ops l) S (Q .normal)) : GZ c (.region id ops true) S Q :=
 Ro l [] h (by obtain ⟨S', h1, h2⟩ := hq; exact ⟨S', h1, rfl, h2⟩)
theorem fW (Q : St → Prop) : BU c ops [] S Q = Q S := by
 apply propext; simp [BU, NA]
theorem bU {s k : Bool} {d : Nat} {op : Op} {ty : ao} {pos : String} {aft : Array Edge} {l : List (Bool × Bool × ch)} {Q : St → Prop} :
  BU c ops ((s, k, ⟨some d, op, ty, pos, aft, none⟩) :: l) S Q = (d < c.ntmps ∧ lS (Hi (c.BQ s k) op S) fun v H => BU c ops l ⟨Cw S.T d v, H⟩ Q) := by
 apply propext
 unfold BU lS
 simp only [NA, Bx, D1, aa, if_true, JS]
 constructor
 ·rintro ⟨S', h, hq⟩
  simp only [af] at h
  obtain ⟨S1, h1, h2⟩ := h
  split at h1
  case isFalse => cases h1
  rename_i hd
  simp only [ag, Prod.exists] at h1
  obtain ⟨v, H, h3, rfl⟩ := h1
  exact ⟨hd, v, H, h3, S', h2, hq⟩
 ·rintro ⟨hd, v, H, h3, S', h2, hq⟩
  refine ⟨S', ?_, hq⟩
  have hd' : d < (c.BQ s k).ntmps := hd
  rw [if_pos hd', T5, h3]
  exact h2
theorem bT {s k : Bool} {op : Op} {ty : ao} {pos : String} {aft : Array Edge} {l : List (Bool × Bool × ch)} {Q : St → Prop} :
  BU c ops ((s, k, ⟨none, op, ty, pos, aft, none⟩) :: l) S Q = lS (Hi (c.BQ s k) op S) fun v H => BU c ops l ⟨S.T, H⟩ Q := by
 apply propext
 unfold BU lS
 simp only [NA, Bx, D1, aa, if_true, JS]
 constructor
 ·rintro ⟨S', h, hq⟩
  simp only [af, ag, Prod.exists] at h
  obtain ⟨S1, ⟨v, H, h3, rfl⟩, h2⟩ := h
  exact ⟨v, H, h3, S', h2, hq⟩
 ·rintro ⟨v, H, h3, S', h2, hq⟩
  refine ⟨S', ?_, hq⟩
  rw [T5, h3]
  exact h2
def Ps (ops : Array ch) (T : Nat → V) (j : Nat) (w : Bool) : Option Bool :=
 ((ops[j]?).bind (·.dst)).bind fun t => match T t with
  | .bool b => some (b == w)
  | .GS [] => some false
  | _ => none
theorem Rp {s k : Bool} {d : Nat} {op : Op} {ty : ao} {pos : String} {aft : Array Edge} {j : Nat} {w : Bool} {l : List (Bool × Bool × ch)} {Q : St → Prop} :
  BU c ops ((s, k, ⟨some d, op, ty, pos, aft, some (j, w)⟩) :: l) S Q = (d < c.ntmps ∧ lR (Ps ops S.T j w) fun b => if b then lS (Hi (c.BQ s k) op S) fun v H => BU c ops l ⟨Cw S.T d v, H⟩ Q else BU c ops l ⟨Cw S.T d Ck, S.H⟩ Q) := by
 have hw : D1 ops S.T ⟨some d, op, ty, pos, aft, some (j, w)⟩ = Ps ops S.T j w := by
  unfold D1 Ps
  simp only []
  cases (ops[j]?).bind (·.dst) <;> rfl
 apply propext
 unfold BU lS lR
 simp only [NA, Bx, hw, JS]
 constructor
 ·rintro ⟨S', h, hq⟩
  simp only [af] at h
  obtain ⟨S1, ⟨b, hb, h1⟩, h2⟩ := h
  cases b with
  | true =>
   simp only [if_true] at h1
   split at h1
   case isFalse => cases h1
   rename_i hd
   simp only [ag, Prod.exists] at h1
   obtain ⟨v, H, h3, rfl⟩ := h1
   exact ⟨hd, true, hb, by rw [if_pos rfl]; exact ⟨v, H, h3, S', h2, hq⟩⟩
  | false =>
   simp only [bd, if_false] at h1
   split at h1
   case isFalse => cases h1
   rename_i hd
   simp only [ab] at h1
   subst h1
   exact ⟨hd, false, hb, by rw [if_neg (by simp)]; exact ⟨S', h2, hq⟩⟩
 ·rintro ⟨hd, b, hb, h⟩
  have hd' : d < (c.BQ s k).ntmps := hd
  cases b with
  | true =>
   rw [if_pos rfl] at h
   obtain ⟨v, H, h3, S', h2, hq⟩ := h
   refine ⟨S', ?_, hq⟩
   simp only [hb, aa, if_true, if_pos hd', T5, h3]
   exact h2
  | false =>
   rw [if_neg (by simp)] at h
   obtain ⟨S', h2, hq⟩ := h
   refine ⟨S', ?_, hq⟩
   simp only [hb, aa, bd, if_false, if_pos hd']
   exact h2
theorem Zq (x : au) : Hi c (.move x) S = (ev S.T x).map fun v => (v, S.H) := rfl
theorem Vf (x : au) : Hi c (.assign x) S = (ev S.T x).map fun v => (v, S.H) := rfl
def Wn (v : V) (x y : Option V) : Option V := match v with | .bool true => x | .bool false => y | _ => none
theorem Vm (x y : Option V) : Wn (.bool true) x y = x := rfl
theorem UB (x y : Option V) : Wn (.bool false) x y = y := rfl
theorem U7 (a x y : au) : Hi c (.pick a x y) S = ((ev S.T a).bind fun v => Wn v (ev S.T x) (ev S.T y)).map fun v => (v, S.H) := by
 unfold Hi Cb Wn
 simp only []
 cases ev S.T a with
 | none => rfl
 | some v =>
  cases v with
  | bool b => cases b <;> rfl
  | _ => rfl
theorem Xr (t : ao) : Hi c (.alloc t) S = (B8 c.P t).bind fun sz => (BJ c.P t).bind fun z => some (.ptr S.H.length 0, S.H ++ [.cells sz z]) := rfl
theorem Wh (t : ao) (x : au) : Hi c (.box t x) S = (B8 c.P t).bind fun sz => (ev S.T x).bind fun v => if v.cellsOf.all V.Bm then some (.ptr S.H.length 0, S.H ++ [.cells sz v.cellsOf]) else none := rfl
theorem Xt (t : ao) (ps : Array (Nat × au)) : Hi c (.build t ps) S = (S5 S.T ps.toList).bind fun ps => (BJ c.P t).bind fun z => (FT c.P t).bind fun pl => ((Dv (fun i => pl[i]?) z ps).map .agg).map fun v => (v, S.H) := rfl
theorem K7 (t : ao) (a : au) : Hi c (.load t a) S = (ev S.T a).bind fun v => (FL c.P t S.H v).map fun v => (v, S.H) := rfl
theorem N9 (t : ao) (a x : au) : Hi c (.store t a x) S = (ev S.T a).bind fun p => (ev S.T x).bind fun v => (G7 c t S.H p v).map fun H => (Ck, H) := rfl
def Un (v : V) : Option V := match v with | .ptr b off => some (.ptr b off) | .lp lv cs off => some (.lp lv cs off) | _ => none
theorem T7 (x : au) : Hi c (.nilCheck x) S = (ev S.T x).bind fun v => (Un v).map fun v => (v, S.H) := by
 unfold Hi Cb Un
 simp only []
 cases ev S.T x with
 | none => rfl
 | some v => cases v <;> rfl
theorem Xs (op : BinOp) (t x y) (t2) : Hi c (.binOp op t x y t2) S = (ev S.T x).bind fun a => (ev S.T y).bind fun b => (Qe c.P op t a b).map fun v => (v, S.H) := rfl
theorem Zr (op : UnOp) (t x) : Hi c (.unOp op t x) S = (ev S.T x).bind fun a => (pN op a).map fun v => (v, S.H) := rfl
theorem T6 (f : eg) (caps : Array au) : Hi c (.makeFunc (.func f) #[] caps) S = (LO S.T caps.toList).bind fun vs => some (.fn f vs, S.H) := rfl
def eQ (v : V) (off : Nat) : Option V := match v with | .ptr b o => some (.ptr b (o + off)) | .lp lv cs o => some (.lp lv cs (o + off)) | _ => none
theorem Qu (s : ao) (x : au) (f : Nat) : Hi c (.fieldAddr s x f) S = (AR c.P s f).bind fun off => (ev S.T x).bind fun v => (eQ v off).map fun v => (v, S.H) := by
 unfold Hi Cb eQ
 simp only []
 cases AR c.P s f with
 | none => rfl
 | some off =>
  simp only [aa]
  cases ev S.T x with
  | none => rfl
  | some v => cases v <;> rfl
def asInt (v : V) : Option Int := match v with | .int _ n => some n | _ => none
def Qn (d sz : Nat) (v : V) (n : Int) : Option V := (Ct v).bind fun len => if 0 ≤ n ∧ n < len then
 match v with
 | .lit lv _ cs => some (.lp lv cs (n.toNat * sz))
 | .tl _ cs => some (.lp 0 cs (n.toNat * sz))
 | .snap _ _ cs => some (.lp d cs (n.toNat * sz))
 | .sl b off _ => some (.ptr b (off + n.toNat * sz))
 | _ => none
 else none
theorem DM (t : ao) (x i : au) : Hi c (.indexAddr t x i) S = (B6 c.P t).bind fun e => (B8 c.P e).bind fun sz => (ev S.T x).bind fun v => (ev S.T i).bind fun w => (asInt w).bind fun n => (Qn c.d sz v n).map fun v => (v, S.H) := by
 unfold Hi Cb asInt Qn
 simp only []
 cases B6 c.P t with
 | none => rfl
 | some e =>
  simp only [aa]
  cases B8 c.P e with
  | none => rfl
  | some sz =>
   simp only [aa]
   cases ev S.T x with
   | none => rfl
   | some v =>
    simp only [aa]
    cases ev S.T i with
    | none => rfl
    | some w =>
     cases w with
     | int k n =>
      simp only [aa]
      cases Ct v with
      | none => rfl
      | some len =>
       simp only [aa]
       split
       ·cases v <;> rfl
       ·rfl
     | _ => rfl
theorem Kh (t : ao) (n m : au) : Hi c (.makeSlice t n m) S = (ev S.T n).bind fun a => (ev S.T m).bind fun b => Jz c.P (c.hints.H4 c.fn) t S.H a b := rfl
def bG (v : V) (i : Nat) : Option V := match v with | .GS vs => vs[i]? | _ => none
theorem U6 (x : au) (i : Nat) : Hi c (.extract x i) S = (ev S.T x).bind fun v => (bG v i).map fun v => (v, S.H) := by
 unfold Hi Cb bG
 simp only []
 cases ev S.T x with
 | none => rfl
 | some v => cases v <;> rfl
def Qh (v : V) : Option (eg × List V) := match v with | .fn g caps => some (g, caps) | _ => none
theorem Gi (f : au) (args : Array au) (ats : Array ao) : Hi c (.call ⟨.value f, args, ats⟩) S = (ev S.T f).bind fun fv => (Qh fv).bind fun g => (LO S.T args.toList).bind fun vs =>
  (An c (c.hints.DS g.1) S.H (vs ++ g.2)).bind fun r => c.Γ g.1 r.1 r.2.2 (c.lk ++ [c.CF g.1 r.2.1 r.2.2]) := by
 unfold Hi Cb Qh
 simp only []
 cases ev S.T f with
 | none => rfl
 | some v => cases v <;> rfl
def k8 (v : V) (isStr : Bool) : Option Nat := match v with | .str s => if isStr then some s.size else none | v => if isStr then none else Ct v
def IM (P : bm) (t : ao) : Option Bool := match P.underlying t with | some .string => some true | some (.slice _) => some false | _ => none
theorem eT (x : au) (t : ao) : Hi c (.call ⟨.builtin .len, #[x], #[t]⟩) S = (IM c.P t).bind fun b => (ev S.T x).bind fun v => (k8 v b).map fun n => (.int .i64 n, S.H) := by
 unfold Hi Cb IM k8
 simp only [ib, List.getElem?_cons_zero]
 cases c.P.underlying t with
 | none => rfl
 | some d =>
  cases d with
  | string =>
   simp only [aa, if_true]
   cases ev S.T x with
   | none => rfl
   | some v => cases v <;> rfl
  | slice e =>
   simp only [aa, bd, if_false]
   cases ev S.T x with
   | none => rfl
   | some v =>
    simp only [aa]
    cases v <;> simp [Ct]
  | _ => rfl
theorem QG (a b : au) (st xt : ao) : Hi c (.call ⟨.builtin .append, #[a, b], #[st, xt]⟩) S = (ev S.T a).bind fun x => (ev S.T b).bind fun y => Dz c st xt S.H x y := rfl
theorem Rd {P : bm} {h : Bp} {k : eg} {fn : Func} {body : Code} (hfn : P.funcs[k]? = some fn) (hb : fn.body = some body) {args : List V} {H : A6} {lk : Lk} {n : Nat} (hn : fn.ntmps = n) (hns : FO body = none) (hlen : args.length ≤ n) (hname : (fn.name == "runtime.NumGoroutine") = false) {rs : Array ed} (hrs : fn.results = rs) {r : V × A6}
  (hr : GZ (B5 P h k n H.length lk) body ⟨JO args, H⟩ fun x S => (x = .normal ∨ x = .ret) ∧ ((BI P S.H S.T rs.toList).bind fun vs => Dd h k H.length lk.length (EI vs) S.H) = some r) : Am P h k args H lk = some r := by
 subst hn hrs
 obtain ⟨x, S, h1, h2, h3⟩ := hr
 refine Vq hfn hb hns hlen hname ?_
 rw [h1]
 rcases h2 with rfl | rfl
 ·exact h3
 ·exact h3
end
end Go.Proofs.YtphpkphklegfeaaGreat.K
