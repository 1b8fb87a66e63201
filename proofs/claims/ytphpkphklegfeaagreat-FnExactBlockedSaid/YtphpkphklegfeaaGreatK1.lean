/-
 An interpreter of the Go code, proved sound, and the rules by which typed functions are shown to be what it computes. Part 2 of 4. No conditions.
-/
import Derived.Test.YtphpkphklegfeaaGreatK0
set_option linter.unusedVariables false
set_option linter.unusedSimpArgs false
namespace Go.Proofs.YtphpkphklegfeaaGreat.K
theorem Fq.unlock {E0 E1 : AZ} {L : List Nat} (h : Fq (E0.lock L) (E1.lock L)) (hd : E0.m ≤ E0.lk.length) : Fq E0 E1 := by
  have hlk : E1.lk = E0.lk := List.append_cancel_right (bs := [L]) h.lk
  have hU : ∀ (E : AZ) lv g i, PA E.lk.length lv → ((E.lock L).U lv g i ↔ E.U lv g i) := by
    intro E lv g i hl
    cases lv with
    | none => rfl
    | some lv =>
      have : (E.lk ++ [L]).take lv = E.lk.take lv := List.take_append_of_le_length hl
      show (g ∈ E.Bb ∨ Wr _ _ ((E.lk ++ [L]).take lv) lv g i) ↔ (g ∈ E.Bb ∨ Wr _ _ (E.lk.take lv) lv g i)
      rw [this]
      exact Iff.rfl
  have hanti : ∀ g i, (E0.lock L).U (some (E0.lock L).lk.length) g i → E0.U (some E0.lk.length) g i := by
    intro g i hu
    refine (hU E0 (some E0.lk.length) g i (Nat.le_refl _)).1 (AZ.Qq ?_ hu)
    simp
  exact
  { lk := hlk
    os := h.os
    tape := h.tape
    output := h.output
    size := h.size
    len := h.len
    mm := by have := h.mm; simpa [AZ.lock] using this
    cell := fun g i u hc hu => h.cell g i u hc fun hx => hu (hanti g i hx)
    block := fun g hg hu => h.block g hg fun i hx => hu i (hanti g i hx)
    mono := fun lv g i hl hx => by
      rcases h.mono lv g i (hl.up (by simp)) ((hU E1 lv g i (by rw [hlk]; exact hl)).2 hx) with h' | h'
      · exact .inl ((hU E0 lv g i hl).1 h')
      · exact .inr h'
    CI := h.CI
    cells := h.cells
    Br := h.Br
    fresh := h.fresh
    Bb := h.Bb
    Hr := h.Hr
    H5 := h.H5 }
structure Tc (h : Bg) (k : FuncId) (L : List Nat) (E0 E1 : AZ) (H' : A3) : Prop where
 H : E1.H = H'
 n : E1.n = H'.length
 Ch : Fq (E0.lock L) (E1.lock L)
 heap : CJ E1
 Hn : h.grow k = false → ∀ base nb d, base ≤ E0.n → nb ≤ E0.n → d ≤ E0.m → D4 E0 base nb d → D4 E1 base nb d
 IK : h.grow k = true → ∀ base d, base ≤ E0.n → d ≤ E0.m → D4 E0 base E0.n d → D4 E1 base E1.n d
 kept : ∀ b, b < E0.n → AV (E0.lk ++ [L]) b = false → E1.H[b]? = E0.H[b]?
def mG (R : Value → World → Prop) : Ending → World → Prop
 | .returned v, w => R v w
 | _, _ => False
structure Ga (P : Program) (h : Bg) (Γ : FuncId → List V → A3 → Lk → Option (V × A3)) : Prop where
 body : ∀ k args H lk r, Γ k args H lk = some r → ∃ fn, P.funcs[k]? = some fn ∧ fn.body.isNone = false ∧ (fn.name == "runtime.NumGoroutine") = false
 run : ∀ k args H lk L v H', Γ k args H (lk ++ [L]) = some (v, H') → ∀ (E0 : AZ) us, E0.H = H → E0.lk = lk → E0.n = H.length → E0.m = lk.length → CJ E0 → (∀ l ∈ lk ++ [L], ∀ x ∈ l, x < H.length) →
  AP (E0.lock L) args us → Calls P k us.toArray E0.w (mG fun u w' => ∃ E1 : AZ, E1.w = w' ∧ Tc h k L E0 E1 H' ∧ AA E1 v u)
theorem LF {H : A3} {f : V → Option (V × List Nat)} (hf : ∀ v v' M, f v = some (v', M) → ∀ x ∈ M, x < H.length) :
  ∀ (vs vs' : List V) (M : List Nat), Ao.lendL f vs = some (vs', M) → ∀ x ∈ M, x < H.length
 | [], vs', M, h => by
  simp only [Ao.lendL, Option.some.injEq, Prod.mk.injEq] at h
  obtain ⟨rfl, rfl⟩ := h
  intro x hx; cases hx
 | v :: vs, vs', M, h => by
  simp only [Ao.lendL, Option.bind_eq_some_iff, Option.map_eq_some_iff, Prod.exists, Prod.mk.injEq] at h
  obtain ⟨v1, M1, h1, vs2, M2, h2, rfl, rfl⟩ := h
  intro x hx
  rcases List.mem_append.1 hx with hx | hx
  ·exact hf v v1 M1 h1 x hx
  ·exact LF hf vs vs2 M2 h2 x hx
theorem Rj (lv : Nat) (H : A3) : ∀ (k : Nat) (v v' : V) (M : List Nat), Ao lv H k v = some (v', M) → ∀ x ∈ M, x < H.length
 | 0, v, v', M, h => by simp [Ao] at h
 | k + 1, v, v', M, h => by
  have ih := LF fun v v' M h => Rj lv H k v v' M h
  have none_ : ∀ M, M = ([] : List Nat) → ∀ x ∈ M, x < H.length := by rintro M rfl x hx; cases hx
  cases v with
  | int _ _ => simp only [Ao, Option.some.injEq, Prod.mk.injEq] at h; exact none_ _ h.2.symm
  | bool _ => simp only [Ao, Option.some.injEq, Prod.mk.injEq] at h; exact none_ _ h.2.symm
  | str _ => simp only [Ao, Option.some.injEq, Prod.mk.injEq] at h; exact none_ _ h.2.symm
  | HW => simp only [Ao, Option.some.injEq, Prod.mk.injEq] at h; exact none_ _ h.2.symm
  | Eg => simp only [Ao, Option.some.injEq, Prod.mk.injEq] at h; exact none_ _ h.2.symm
  | ptr _ _ => simp only [Ao, Option.some.injEq, Prod.mk.injEq] at h; exact none_ _ h.2.symm
  | FF _ => simp only [Ao, Option.some.injEq, Prod.mk.injEq] at h; exact none_ _ h.2.symm
  | lp _ _ _ => simp only [Ao, Option.some.injEq, Prod.mk.injEq] at h; exact none_ _ h.2.symm
  | lit _ _ _ => simp only [Ao, Option.some.injEq, Prod.mk.injEq] at h; exact none_ _ h.2.symm
  | fn _ _ => simp only [Ao, Option.some.injEq, Prod.mk.injEq] at h; exact none_ _ h.2.symm
  | FH _ => simp [Ao] at h
  | tl n cs =>
   simp only [Ao, Option.map_eq_some_iff, Prod.exists, Prod.mk.injEq] at h
   obtain ⟨cs', M1, h1, rfl, rfl⟩ := h
   exact ih cs cs' M1 h1
  | snap b n cs =>
   simp only [Ao, Option.map_eq_some_iff, Prod.exists, Prod.mk.injEq] at h
   obtain ⟨cs', M1, h1, rfl, rfl⟩ := h
   exact ih cs cs' M1 h1
  | sl b off n =>
   simp only [Ao] at h
   split at h
   case h_2 => cases h
   rename_i sz cs hb
   split at h
   ·cases h
   simp only [Option.map_eq_some_iff, Prod.exists, Prod.mk.injEq] at h
   obtain ⟨cs', M1, h1, rfl, rfl⟩ := h
   intro x hx
   rcases List.mem_cons.1 hx with rfl | hx
   ·exact (List.getElem?_eq_some_iff.1 hb).1
   ·exact ih _ cs' M1 h1 x hx
  | agg cs =>
   simp only [Ao, Option.map_eq_some_iff, Prod.exists, Prod.mk.injEq] at h
   obtain ⟨cs', M1, h1, rfl, rfl⟩ := h
   exact ih cs cs' M1 h1
section
variable {c : Cx} {E : AZ} {S : St} {a : Act} {o : Oper}
theorem B8.lk {E' : AZ} {H' : A3} (hs : Cc c E S a) (h : B8 c E E' H') : E'.lk = c.lk := by rw [h.Ch.lk, hs.lk]
theorem JH (hs : Cc c E S a) : ∀ (vs : List V) (ms : List Tf) (H : A3) (vs' : List V) (M : List Nat) (H1 : A3) (E1 : AZ), Af c ms H vs = some (vs', M, H1) → B8 c E E1 H → E1.w = E.w →
  B8 c E (E1.heap H1) H1 ∧ H1.length = H.length ∧ (∀ x ∈ M, x < H.length) ∧ ∀ L, (∀ x ∈ M, x ∈ L) → Fq (E1.lock L) ((E1.heap H1).lock L) ∧ ∀ us, AP E1 vs us → AP ((E1.heap H1).lock L) vs' us
 | [], ms, H, vs', M, H1, E1, h, h0, hw => by
  simp only [Af, Option.some.injEq, Prod.mk.injEq] at h
  obtain ⟨rfl, rfl, rfl⟩ := h
  have : E1.heap H = E1 := by rw [← h0.H]; rfl
  rw [this]
  refine ⟨h0, rfl, ?_, fun L _ => ⟨Fq.refl _, fun us hu => by simpa only [AP] using hu⟩⟩
  intro x hx; cases hx
 | v :: vs, ms, H, vs', M, H1, E1, h, h0, hw => by
  simp only [Af, Option.bind_eq_some_iff, Option.map_eq_some_iff, Prod.exists, Prod.mk.injEq] at h
  obtain ⟨v1, M1, Hm, h1, vs2, M2, H2, h2, rfl, rfl, rfl⟩ := h
  have hmm : E1.lk.length = E1.m := by rw [h0.m, hs.m, B8.lk hs h0]
  have key : ∀ (Em : AZ), Em = E1.heap Hm → B8 c E Em Hm → Hm.length = H.length → (∀ x ∈ M1, x < H.length) → (∀ L, (∀ x ∈ M1, x ∈ L) → Fq (E1.lock L) (Em.lock L) ∧ ∀ u, AA E1 v u → AA (Em.lock L) v1 u) → (∀ us, AP E1 vs us → AP Em vs us) →
    B8 c E (E1.heap H2) H2 ∧ H2.length = H.length ∧ (∀ x ∈ M1 ++ M2, x < H.length) ∧ ∀ L, (∀ x ∈ M1 ++ M2, x ∈ L) → Fq (E1.lock L) ((E1.heap H2).lock L) ∧ ∀ us, AP E1 (v :: vs) us → AP ((E1.heap H2).lock L) (v1 :: vs2) us := by
   rintro Em rfl ha hl hM1 hL hvs
   obtain ⟨p1, p2, p3, p4⟩ := JH hs vs ms.tail Hm vs2 M2 H2 (E1.heap Hm) h2 ha hw
   simp only [AZ.Jm] at p1 p4
   refine ⟨p1, p2.trans hl, fun x hx => ?_, fun L hM => ?_⟩
   ·rcases List.mem_append.1 hx with hx | hx
    ·exact hM1 x hx
    ·rw [← hl]; exact p3 x hx
   ·obtain ⟨q1, q2⟩ := hL L fun x hx => hM x (List.mem_append.2 (.inl hx))
    obtain ⟨r1, r2⟩ := p4 L fun x hx => hM x (List.mem_append.2 (.inr hx))
    refine ⟨q1.trans r1, fun us hu => ?_⟩
    simp only [AP] at hu ⊢
    obtain ⟨u, us', rfl, hu1, hu2⟩ := hu
    exact ⟨u, us', rfl, r1.rep (ha.heap.lock L) _ _ (q2 u hu1), r2 us' (hvs us' hu2)⟩
  have hsame : E1.heap H = E1 := by rw [← h0.H]; rfl
  unfold GQ at h1
  cases hmode : ms.headD .Pv with
  | Pv =>
   simp only [hmode, Option.map_eq_some_iff, Prod.exists, Prod.mk.injEq] at h1
   obtain ⟨v1', M1', hl, rfl, rfl, rfl⟩ := h1
   have hd : c.d = E1.lk.length := by rw [B8.lk hs h0]; rfl
   rw [hd, ← h0.H] at hl
   refine key E1 hsame.symm h0 rfl (by rw [← h0.H]; exact Rj _ _ _ _ _ _ hl) (fun L hM => ⟨Fq.refl _, fun u hu => P5 hmm h0.heap BU v v1' M1' hl hM u hu⟩) (fun us hu => hu)
  | exact =>
   simp only [hmode, Option.some.injEq, Prod.mk.injEq] at h1
   obtain ⟨rfl, rfl, rfl⟩ := h1
   exact key E1 hsame.symm h0 rfl (fun x hx => by cases hx) (fun L _ => ⟨Fq.refl _, fun u hu => (CX.Dk E1 L h0.heap.dm).rep v u hu⟩) (fun us hu => hu)
  | share =>
   simp only [hmode] at h1
   split at h1
   ·cases h1
   simp only [Option.map_eq_some_iff, Prod.exists, Prod.mk.injEq] at h1
   obtain ⟨v1', Hm', hg, rfl, rfl, rfl⟩ := h1
   obtain ⟨g1, g2, g3, g4⟩ := Mj hs h0 hg
   refine key (E1.heap Hm') rfl g1 g4 (fun x hx => by cases hx) (fun L _ => ?_) (fun us hu => g2.Hv h0.heap _ _ hu)
   obtain ⟨k1, k2, k3⟩ := IL c.base BU (E1.lock L) v v1' Hm' (by rw [AZ.Eb, h0.H]; exact hg) (h0.heap.lock L)
   refine ⟨k1, fun u hu => ?_⟩
   have := k3 u ((CX.Dk E1 L h0.heap.dm).rep v u hu)
   exact (CX.grow ((E1.lock L).heap Hm') (n := 0) (m := 0) (Nat.zero_le _) (Nat.zero_le _)).rep _ _ this
def dM (c : Cx) (E : AZ) (a : Act) (o : Oper) (v : V) (H' : A3) : Prop :=
 ∀ (next : Act → World → Prop) (Q : Exit → Act → World → Prop), (∀ E' u, B8 c E E' H' → AA E' v u → next (a.put o.dst u) E'.w) → o.wp c.P a E.w next Q
theorem Gc.mK {v : V} {H' : A3} (h : Gc c E a o v H') : dM c E a o v H' := by
 intro next Q hn
 obtain ⟨E', ha, h⟩ := h
 unfold Oper.wp
 rcases h with ⟨u, h1, h2⟩ | ⟨h1, h2⟩
 ·rw [h1]; exact hn E' u ha h2
 ·rw [h1]; exact hn E' undef ha h2
theorem Tc.lk {h : Bg} {k : FuncId} {L : List Nat} {E0 E1 : AZ} {H' : A3} (hb : Tc h k L E0 E1 H') : E1.lk = E0.lk := List.append_cancel_right (bs := [L]) hb.Ch.lk
theorem D4.locked {h : Bg} {k : FuncId} {L : List Nat} {E0 E1 : AZ} {H' : A3} (hb : Tc h k L E0 E1 H') (hh : CJ E0) {base nb d : Nat} (hbase : base ≤ E0.n) (hL : ∀ b, b < base → b ∈ L) (hnb : nb ≤ E0.n) (hd : d ≤ E0.m) (hf : D4 E0 base nb d) : D4 E1 base nb d := by
 have hev := hb.Ch.unlock hh.dm
 intro b sz cs hlt hB c t hc i v u hv hu
 have hbn : b < E0.n := Nat.lt_of_lt_of_le hlt hbase
 have hlock : AV (E0.lk ++ [L]) b = false := by
  rw [Bool.eq_false_iff]
  intro hx
  unfold AV at hx
  rw [List.all_eq_true] at hx
  have := hx L (by simp)
  simp [hL b hlt] at this
 rw [hb.kept b hbn hlock] at hB
 have hphi := (hev.CI b hbn (fun l n z => by rw [hB]; simp)).1
 rw [hphi] at hc
 have hblk : E1.w.heap[E0.φ b]? = E0.w.heap[E0.φ b]? := by
  obtain ⟨c0, t0, h1, _, _⟩ := hh.cells b sz cs hB
  have := hb.Ch.block (E0.φ b) (Array.getElem?_eq_some_iff.1 h1).1 fun i => by
   have := LJ hh hB (hL b hlt) i
   simpa using this
  exact this
 rw [hblk] at hc
 exact (hev.shrink hh hnb hd).rep v u (hf b sz cs hlt hB c t hc i v u hv hu)
theorem W9 (hs : Cc c E S a) (hΓ : Ga c.P c.hints c.Γ) {v : V} {H' : A3} (hc : EI o = true) (h : CU c o S = some (v, H')) : dM c E a o v H' := by
 unfold EI at hc
 split at hc
 case h_2 => cases hc
 rename_i f args ats ho
 simp only [CU, ho] at h
 split at h
 case h_2 => cases h
 rename_i g caps hf
 simp only [Option.bind_eq_some_iff, Prod.exists] at h
 obtain ⟨vs, hvs, as, M, H1, hl, hg⟩ := h
 intro next Q hn
 have hrf := B5 hs f _ hf
 simp only [AA] at hrf
 obtain ⟨cv, hcv, hcr⟩ := hrf
 have hrv := S4 hs _ _ hvs
 have hargs : AP E (vs ++ caps) ((args.toList.map a.eval) ++ cv.toList) := EV hrv hcr
 obtain ⟨ha, hlen, hM, hL⟩ := JH hs _ _ _ _ _ _ E hl (B8.refl hs) rfl
 let L := c.Bw g M H1
 have hML : ∀ x ∈ M, x ∈ L := by
  intro x hx
  show x ∈ c.Bw g M H1
  unfold Cx.Bw
  split
  ·exact List.mem_append.2 (.inl hx)
  ·split
   ·exact List.mem_append.2 (.inl hx)
   ·exact hx
 have hLlt : ∀ x ∈ L, x < H1.length := by
  intro x hx
  have hx : x ∈ c.Bw g M H1 := hx
  unfold Cx.Bw at hx
  have hMl : ∀ x ∈ M, x < H1.length := by rw [hlen]; exact hM
  have hbl : c.base ≤ H1.length := by rw [hlen]; exact hs.base
  split at hx
  ·rcases List.mem_append.1 hx with hx | hx
   ·exact hMl x hx
   ·simpa using hx
  ·split at hx
   ·rcases List.mem_append.1 hx with hx | hx
    ·exact hMl x hx
    ·have := List.mem_range.1 hx
     omega
   ·exact hMl x hx
 obtain ⟨hev, hrep⟩ := hL L hML
 have hlk1 : (E.heap H1).lk = c.lk := hs.lk
 obtain ⟨fn, hfn, hbody, hname⟩ := hΓ.body _ _ _ _ _ hg
 have hrun := hΓ.run g as H1 c.lk L v H' hg (E.heap H1) _ rfl hlk1 ha.n (by rw [ha.m, hs.m]) ha.heap (by
  intro l hl x hx
  rcases List.mem_append.1 hl with hl | hl
  ·rw [hlen]; exact Nat.lt_of_lt_of_le (hs.Dk l hl x hx) hs.base
  ·simp only [List.mem_singleton] at hl
   subst hl
   exact hLlt x hx) (hrep _ hargs)
 have hexec : (execOp a.eval o).run c.P E.w = .ok (.enter g (((args.toList.map a.eval) ++ cv.toList).toArray)) E.w := by
  have hA : (args.map a.eval) ++ cv = (((args.toList.map a.eval) ++ cv.toList)).toArray := by
   apply Array.ext'; simp
  simp only [execOp, ho, resolve, hcv, Deferred.ofValue, Sem.run_bind, Sem.run_pure, Result.andThen_ok, invoke, callFunc, run_program, hfn, hname, hbody, hA]
  simp
 unfold Oper.wp
 rw [hexec]
 refine Calls.mono hrun ?_
 intro e w' hR
 cases e with
 | returned u =>
  obtain ⟨E1, rfl, hb, hr⟩ := hR
  refine hn E1 u (ha.trans (E'' := E1) ⟨hb.H, hb.n, ?_, hb.Ch.unlock ha.heap.dm, hb.heap, ?_, ?_, ?_⟩) hr
  ·have := (hb.Ch.unlock ha.heap.dm).mm; exact this
  ·intro hgf base nb d hbase hnb hd hrf
   have hb0 : base ≤ (E.heap H1).n := by rw [ha.n, hlen]; exact Nat.le_trans hbase hs.base
   cases hgk : c.hints.grow g with
   | false => exact hb.Hn hgk base nb d hb0 hnb hd hrf
   | true =>
    refine D4.locked hb ha.heap hb0 (fun b hlt => ?_) hnb hd hrf
    show b ∈ c.Bw g M H1
    unfold Cx.Bw
    split
    ·refine List.mem_append.2 (.inr (List.mem_range.2 ?_))
     rw [hlen]; have := hs.base; omega
    ·rw [hgk, hgf]
     simp only [Bool.not_false, Bool.and_self, if_true]
     exact List.mem_append.2 (.inr (List.mem_range.2 (by omega)))
  ·intro hgf base d hbase hd hrf
   have hb0 : base ≤ (E.heap H1).n := by rw [ha.n, hlen]; exact Nat.le_trans hbase hs.base
   cases hgk : c.hints.grow g with
   | false => exact (hb.Hn hgk base _ d hb0 (Nat.le_refl _) hd hrf).up (hb.Ch.unlock ha.heap.dm).len
   | true => exact hb.IK hgk base d hb0 hd hrf
  ·intro b hbl hbk
   rw [← hb.H]
   refine hb.kept b ?_ ?_
   ·rw [ha.n, hlen]; have := hs.base; omega
   ·rw [hlk1]
    rw [Bool.eq_false_iff] at hbk ⊢
    intro hx
    refine hbk ?_
    unfold AV at hx ⊢
    rw [List.all_eq_true] at hx ⊢
    exact fun l hl => hx l (List.mem_append.2 (.inl hl))
 | panicked _ => exact hR.elim
 | outgrown => exact hR.elim
theorem VE (hs : Cc c E S a) (hΓ : Ga c.P c.hints c.Γ) {v : V} {H' : A3} (h : CU c o S = some (v, H')) : dM c E a o v H' := by
 cases hc : EI o with
 | false => exact (YI hs hc h).mK
 | true => exact W9 hs hΓ hc h
end
theorem Lj {T T' : Nat → V} : ∀ (l : List Operand), (∀ x ∈ l, ev T x = ev T' x) → KC T l = KC T' l
 | [], _ => rfl
 | x :: l, h => by
  simp only [KC]
  rw [h x (by simp), Lj l fun y hy => h y (by simp [hy])]
theorem Ll {T T' : Nat → V} : ∀ (l : List (Nat × Operand)), (∀ x ∈ l.map (·.2), ev T x = ev T' x) → Qz T l = Qz T' l
 | [], _ => rfl
 | (i, x) :: l, h => by
  simp only [Qz]
  rw [h x (by simp), Ll l fun y hy => h y (by simp only [List.map_cons, List.mem_cons]; exact .inr hy)]
theorem Kf {T T' : Nat → V} (n : Nat) (o : Option Operand) (h : ∀ x, o = some x → ev T x = ev T' x) : Ce T n o = Ce T' n o := by
 cases o with
 | none => rfl
 | some x => simp only [Ce]; rw [h x rfl]
theorem QS (c : Cx) (o : Oper) {T T' : Nat → V} {H : A3} (h : ∀ x ∈ o.op.operands, ev T x = ev T' x) : CU c o { T := T, H := H } = CU c o { T := T', H := H } := by
  cases ho : o.op <;> (rw [ho] at h; simp only [Op.operands] at h; simp only [CU, ho])
  case move x => rw [h x (by simp)]
  case assign x => rw [h x (by simp)]
  case pick k x y => rw [h k (by simp), h x (by simp), h y (by simp)]
  case box t x => rw [h x (by simp)]
  case build t ps => rw [Ll _ fun x hx => h x (by simpa using hx)]
  case buildSlice t n ps => rw [Ll _ fun x hx => h x (by simpa using hx)]
  case load t x => rw [h x (by simp)]
  case store t x y => rw [h x (by simp), h y (by simp)]
  case nilCheck x => rw [h x (by simp)]
  case binOp op t x y t2 => rw [h x (by simp), h y (by simp)]
  case unOp op t x => rw [h x (by simp)]
  case convert s d x => rw [h x (by simp)]
  case makeFunc fn first caps => rw [Lj _ fun x hx => h x (by simp; exact .inr (by simpa using hx))]
  case makeSlice t x y => rw [h x (by simp), h y (by simp)]
  case slice t x lo hi mx =>
    rw [h x (by simp)]
    cases mx with
    | none =>
      simp only []
      rw [Kf 0 lo fun y hy => h y (by subst hy; simp)]
      have : ∀ n, Ce T n hi = Ce T' n hi := fun n => Kf n hi fun y hy => h y (by subst hy; simp)
      simp only [this]
    | some mx =>
      cases lo with
      | some _ => rfl
      | none =>
        cases hi with
        | none => rfl
        | some hi =>
          simp only []
          rw [h hi (by simp), h mx (by simp)]
  case fieldAddr s x f => rw [h x (by simp)]
  case field s x f => rw [h x (by simp)]
  case indexAddr t x i => rw [h x (by simp), h i (by simp)]
  case index t x i => rw [h x (by simp), h i (by simp)]
  case extract x i => rw [h x (by simp)]
  case makeMap t r => cases r <;> rfl
  case lookup t x k ok => rw [h x (by simp), h k (by simp)]
  case mapUpdate t x k y => rw [h x (by simp), h k (by simp), h y (by simp)]
  case mapEntry t x k => rw [h x (by simp), h k (by simp)]
  case entryStore t x k y => rw [h x (by simp), h k (by simp), h y (by simp)]
  case call k =>
    obtain ⟨callee, args, ats⟩ := k
    simp only [Call.operands] at h
    cases callee with
    | invoke r n => rfl
    | value f =>
      simp only []
      rw [h f (by simp), Lj _ fun x hx => h x (by simp; exact .inr (by simpa using hx))]
    | builtin b =>
      have hx : ∀ x ∈ args.toList, ev T x = ev T' x := fun x hx => h x (by simpa using hx)
      cases b <;> try rfl
      case len =>
        simp only []
        split
        · rename_i x t ha ht
          rw [hx x (by rw [ha]; simp)]
        · rfl
      case append =>
        simp only []
        split
        · rename_i x y st xt ha ht
          rw [hx x (by rw [ha]; simp), hx y (by rw [ha]; simp)]
        · rfl
      case min =>
        simp only []
        split
        · rename_i x y ha
          rw [hx x (by rw [ha]; simp), hx y (by rw [ha]; simp)]
        · rfl
      case max =>
        simp only []
        split
        · rename_i x y ha
          rw [hx x (by rw [ha]; simp), hx y (by rw [ha]; simp)]
        · rfl
theorem Kh {c : Cx} (hs : c.still = true) : ∀ (ps ps' : List (Nat × V)) (H H' : A3), CM c H ps = some (ps', H') → H' = H ∧ ∀ H2, CM c H2 ps = some (ps', H2)
 | [], ps', H, H', h => by
  simp only [CM, Option.some.injEq, Prod.mk.injEq] at h
  obtain ⟨rfl, rfl⟩ := h
  exact ⟨rfl, fun _ => rfl⟩
 | (i, v) :: ps, ps', H, H', h => by
  simp only [CM, Option.bind_eq_some_iff, Option.map_eq_some_iff, Prod.exists, Prod.mk.injEq] at h
  obtain ⟨v1, H1, hv, ps2, H3, h2, rfl, rfl⟩ := h
  have key : H1 = H ∧ ∀ H2, Fy c H2 v = some (v1, H2) := by
   unfold Fy at hv ⊢
   rw [hs] at hv ⊢
   split at hv
   ·rename_i hk
    simp only [Option.some.injEq, Prod.mk.injEq] at hv
    obtain ⟨rfl, rfl⟩ := hv
    exact ⟨rfl, fun H2 => by rw [if_pos hk]⟩
   ·rename_i hk
    simp only [if_true] at hv
    split at hv
    ·rename_i hc
     simp only [Option.some.injEq, Prod.mk.injEq] at hv
     obtain ⟨rfl, rfl⟩ := hv
     exact ⟨rfl, fun H2 => by rw [if_neg hk]; simp only [if_true]; rw [if_pos hc]⟩
    ·cases hv
  obtain ⟨rfl, k1⟩ := key
  obtain ⟨rfl, k2⟩ := Kh hs ps ps2 H1 H3 h2
  refine ⟨rfl, fun H2 => ?_⟩
  simp only [CM, k1 H2, Option.bind_some, k2 H2, Option.map_some]
theorem Ee {x : Option V} {H H2 : A3} : (x.map fun v => (v, H2)) = (x.map fun v => (v, H)).map fun r => (r.1, H2) := by
 cases x <;> rfl
theorem MI {c : Cx} {o : Oper} (hp : IN o = true) (hb : ∀ t n ps, o.op ≠ .buildSlice t n ps) {T : Nat → V} {H H2 : A3} : CU c o { T := T, H := H2 } = (CU c o { T := T, H := H }).map fun r => (r.1, H2) := by
  unfold IN at hp
  cases ho : o.op <;> simp only [ho, Bool.false_eq_true] at hp <;> simp only [CU, ho]
  case buildSlice t n ps => exact absurd ho (hb t n ps)
  case move x => exact Ee
  case assign x => exact Ee
  case pick k x y => split <;> first | exact Ee | rfl
  case build t ps =>
    cases Qz T ps.toList with
    | none => rfl
    | some ps => cases BI c.P t with
      | none => rfl
      | some z => cases El c.P t with
        | none => rfl
        | some pl => exact Ee
  case nilCheck x => split <;> rfl
  case binOp op t x y t2 =>
    cases ev T x with
    | none => rfl
    | some p => cases ev T y with
      | none => rfl
      | some q => exact Ee
  case unOp op t x =>
    cases ev T x with
    | none => rfl
    | some p => exact Ee
  case convert s d x =>
    split
    · rfl
    · split
      · exact Ee
      · rfl
    · rfl
  case makeFunc fn first caps =>
    split
    · cases KC T caps.toList <;> rfl
    · rfl
  case slice t x lo hi mx =>
    cases ev T x with
    | none => cases mx <;> cases lo <;> cases hi <;> rfl
    | some v => cases hl : CZ v with
      | none => cases mx <;> cases lo <;> cases hi <;> simp [hl]
      | some n =>
        cases mx with
        | none =>
          simp only [Option.bind_some, hl]
          cases Ce T 0 lo with
          | none => rfl
          | some l => cases Ce T n hi with
            | none => rfl
            | some r => cases Ax c.P t with
              | none => rfl
              | some e =>
                simp only [Option.bind_some]
                cases B3 c.P e with
                | none => rfl
                | some sz =>
                  simp only [Option.bind_some]
                  split
                  · split <;> rfl
                  · rfl
        | some mx =>
          cases lo with
          | some _ => rfl
          | none => cases hi with
            | none => rfl
            | some hi =>
              simp only [Option.bind_some, hl]
              cases Ax c.P t with
              | none => rfl
              | some e =>
                simp only [Option.bind_some]
                cases B3 c.P e with
                | none => rfl
                | some sz =>
                  simp only [Option.bind_some]
                  split
                  · split <;> rfl
                  · rfl
  case fieldAddr s x f =>
    cases AW c.P s f with
    | none => rfl
    | some off =>
      simp only [Option.bind_some]
      split <;> rfl
  case field s x f =>
    cases AW c.P s f with
    | none => rfl
    | some off =>
      simp only [Option.bind_some]
      split
      · split
        · exact Ee
        · rfl
      · rfl
  case indexAddr t x i =>
    cases Ax c.P t with
    | none => rfl
    | some e =>
      simp only [Option.bind_some]
      cases B3 c.P e with
      | none => rfl
      | some sz => cases ev T x with
        | none => rfl
        | some v =>
          simp only [Option.bind_some]
          split
          · cases CZ v with
            | none => rfl
            | some n =>
              simp only [Option.bind_some]
              split
              · split <;> rfl
              · rfl
          · rfl
  case index t x i =>
    split
    · split
      · exact Ee
      · rfl
    · rfl
  case extract x i =>
    split
    · exact Ee
    · rfl
  case call k =>
    obtain ⟨callee, args, ats⟩ := k
    cases callee with
    | invoke r n => simp at hp
    | value f => simp at hp
    | builtin b =>
      cases b <;> simp only [Bool.false_eq_true] at hp
      case len =>
        simp only []
        split
        · split
          · rfl
          · rename_i v _ _
            cases CZ v <;> rfl
          · rfl
        · rfl
      case min =>
        simp only []
        split
        · split <;> rfl
        · rfl
      case max =>
        simp only []
        split
        · split <;> rfl
        · rfl
theorem YR {c : Cx} (hs : c.still = true) {o : Oper} (hp : IN o = true) {T : Nat → V} {H H' : A3} {v : V} (h : CU c o { T := T, H := H } = some (v, H')) : H' = H ∧ ∀ H2, CU c o { T := T, H := H2 } = some (v, H2) := by
  by_cases hb : ∀ t n ps, o.op ≠ .buildSlice t n ps
  · have h1 := MI (c := c) hp hb (T := T) (H := H) (H2 := H)
    rw [h] at h1
    simp only [Option.map_some, Option.some.injEq, Prod.mk.injEq, true_and] at h1
    exact ⟨h1, fun H2 => by rw [MI (c := c) hp hb (T := T) (H := H) (H2 := H2), h]; rfl⟩
  · obtain ⟨t, n, ps, ho⟩ : ∃ t n ps, o.op = .buildSlice t n ps := Classical.byContradiction fun hx => hb fun t n ps e => hx ⟨t, n, ps, e⟩
    simp only [CU, ho] at h ⊢
    simp only [Option.bind_eq_some_iff, Prod.exists] at h
    obtain ⟨ps1, h1, ps2, H1, h2, e, h3, sz, h4, z, h5, h6⟩ := h
    obtain ⟨rfl, k⟩ := Kh hs _ _ _ _ h2
    split at h6
    case isFalse => cases h6
    rename_i hc
    simp only [Option.map_eq_some_iff, Prod.mk.injEq] at h6
    obtain ⟨cs, h7, rfl, rfl⟩ := h6
    refine ⟨rfl, fun H2 => ?_⟩
    simp only [h1, Option.bind_some, k H2, h3, h4, h5]
    rw [if_pos hc, h7]
    rfl
def Ea (c : Cx) (ops : Array Oper) (o : Oper) (S : St) : Option (V × A3) := (D0 ops S.T o).bind fun b => if b then CU c o S else some (Ca, S.H)
def N2 (dst : Option Nat) (r : V × A3) (S : St) : St := { T := match dst with | some d => fun i => if i = d then r.1 else S.T i | none => S.T, H := r.2 }
def cH (c : Cx) (o : Oper) : Bool := match o.dst with | some d => decide (d < c.ntmps) | none => true
theorem EU (c : Cx) (ops : Array Oper) (o : Oper) (S : St) : CW c ops o S = (Ea c ops o S).bind fun r => if cH c o = true then some (N2 o.dst r S) else none := by
 unfold CW Ea cH
 cases D0 ops S.T o with
 | none => rfl
 | some b =>
  simp only [Option.bind_some]
  cases b with
  | true =>
   simp only [if_true, Iq]
   cases o.dst with
   | none => cases CU c o S <;> rfl
   | some d =>
    by_cases hd : d < c.ntmps
    ·simp only [hd, if_true, decide_true]; cases CU c o S <;> rfl
    ·simp only [hd, if_false, decide_false]; cases CU c o S <;> simp
  | false =>
   simp only [Bool.false_eq_true, if_false]
   cases o.dst with
   | none => rfl
   | some d =>
    by_cases hd : d < c.ntmps
    ·simp only [hd, if_true, decide_true, Option.bind_some]; rfl
    ·simp only [hd, if_false, decide_false, Option.bind_some]; simp
theorem Q4 {ops : Array Oper} {o : Oper} {T T' : Nat → V} (h : ∀ t ∈ o.looksAt ops, T t = T' t) : D0 ops T o = D0 ops T' o := by
 unfold D0
 cases hg : o.guard with
 | none => rfl
 | some gw =>
  obtain ⟨j, want⟩ := gw
  simp only []
  cases ht : (ops[j]?).bind (·.dst) with
  | none => rfl
  | some t =>
   simp only []
   rw [h t (by simp [Oper.looksAt, hg, ht])]
theorem Nm {c : Cx} {ops : Array Oper} {o : Oper} {T T' : Nat → V} {H : A3} (h : ∀ t ∈ o.looksAt ops, T t = T' t) : Ea c ops o { T := T, H := H } = Ea c ops o { T := T', H := H } := by
  unfold Ea
  rw [Q4 (T := T) (T' := T') h, QS c o (T := T) (T' := T') fun x hx => ?_]
  cases x with
  | tmp t =>
    simp only [ev]
    rw [h t (List.mem_append_left _ (List.mem_filterMap.2 ⟨.tmp t, by simpa using hx, rfl⟩))]
  | _ => rfl
theorem QD {c : Cx} (hs : c.still = true) {ops : Array Oper} {o : Oper} (hp : IN o = true) {T : Nat → V} {H H' : A3} {v : V} (h : Ea c ops o { T := T, H := H } = some (v, H')) : H' = H ∧ ∀ H2, Ea c ops o { T := T, H := H2 } = some (v, H2) := by
  unfold Ea at h ⊢
  simp only [Option.bind_eq_some_iff] at h
  obtain ⟨b, hb, h⟩ := h
  cases b with
  | true =>
    simp only [if_true] at h
    obtain ⟨k1, k2⟩ := YR hs hp h
    exact ⟨k1, fun H2 => by simp only [hb, Option.bind_some, if_true]; exact k2 H2⟩
  | false =>
    simp only [Bool.false_eq_true, if_false, Option.some.injEq, Prod.mk.injEq] at h
    obtain ⟨rfl, rfl⟩ := h
    exact ⟨rfl, fun H2 => by simp only [hb, Option.bind_some, Bool.false_eq_true, if_false]⟩
def C5 (H H' : A3) : Prop := (∀ (b sz : Nat) (cs : List V), H[b]? = some (.cells sz cs) → H'[b]? = some (.cells sz cs)) ∧ ∀ (b : Nat) (BJ : List (V × V)), H[b]? = some (.mp BJ) → H'[b]? = some (.mp BJ)
theorem C5.refl (H : A3) : C5 H H := ⟨fun _ _ _ h => h, fun _ _ h => h⟩
theorem C5.push (H x : A3) : C5 H (H ++ x) := ⟨fun b z cs hB => by rw [List.getElem?_append_left (List.getElem?_eq_some_iff.1 hB).1]; exact hB, fun b BJ hB => by rw [List.getElem?_append_left (List.getElem?_eq_some_iff.1 hB).1]; exact hB⟩
theorem QC {c : Cx} {ops : Array Oper} {o : Oper} (hp : Gr o = true) {T : Nat → V} {H H' : A3} {v : V} (h : Ea c ops o { T := T, H := H } = some (v, H')) : H' = H ∧ ∀ H2, C5 H H2 → Ea c ops o { T := T, H := H2 } = some (v, H2) := by
  unfold Ea at h ⊢
  simp only [Option.bind_eq_some_iff] at h
  obtain ⟨b, hb, h⟩ := h
  cases b with
  | true =>
    simp only [if_true] at h
    unfold Gr at hp
    split at hp
    case h_3 => cases hp
    · rename_i t x ho
      simp only [CU, ho, Option.bind_eq_some_iff, Option.map_eq_some_iff, Prod.mk.injEq] at h
      obtain ⟨p, hx, v', hl, rfl, rfl⟩ := h
      refine ⟨rfl, fun H2 hsame => ?_⟩
      simp only [hb, Option.bind_some, if_true, CU, ho, hx]
      have : G5 c.P t H2 p = some v' := by
        unfold G5 at hl ⊢
        cases p with
        | ptr b off =>
          simp only [] at hl ⊢
          split at hl
          case h_2 => cases hl
          rename_i sz cs hB
          rw [hsame.1 b sz cs hB]
          exact hl
        | lp lv cs off => exact hl
        | _ => simp at hl
      rw [this]
      rfl
    · rename_i t x k ok ho
      simp only [CU, ho, Option.bind_eq_some_iff, Option.map_eq_some_iff, Prod.mk.injEq] at h
      obtain ⟨m, hx, kv, hk, v', hl, rfl, rfl⟩ := h
      refine ⟨rfl, fun H2 hsame => ?_⟩
      simp only [hb, Option.bind_some, if_true, CU, ho, hx, hk]
      have : Ip c.P t H2 m kv ok = some v' := by
        unfold Ip at hl ⊢
        cases m with
        | FF b =>
          simp only [] at hl ⊢
          split at hl
          case h_2 => cases hl
          rename_i BJ hB
          rw [hsame.2 b BJ hB]
          exact hl
        | _ => simp at hl
      rw [this]
      rfl
  | false =>
    simp only [Bool.false_eq_true, if_false, Option.some.injEq, Prod.mk.injEq] at h
    obtain ⟨rfl, rfl⟩ := h
    exact ⟨rfl, fun H2 _ => by simp only [hb, Option.bind_some, Bool.false_eq_true, if_false]⟩
theorem WA {q : Sc} {x y : V} (hs : q ≠ .s) (h : Et q x y = some true) : x = y := by
 cases q <;> cases x <;> cases y <;> simp_all [Et]
theorem No : ∀ {ks : List Sc} {xs ys : List V}, (ks.all fun q => decide (q ≠ .s)) = true → xs.length = ks.length → ys.length = ks.length → Ck ks xs ys = some true → xs = ys
 | [], xs, ys, _, hx, hy, _ => by rw [List.eq_nil_of_length_eq_zero hx, List.eq_nil_of_length_eq_zero hy]
 | k :: ks, [], _, _, hx, _, _ => by simp at hx
 | k :: ks, _ :: _, [], _, _, hy, _ => by simp at hy
 | k :: ks, x :: xs, y :: ys, hk, hx, hy, h => by
  simp only [List.all_cons, Bool.and_eq_true, decide_eq_true_eq] at hk
  simp only [Ck, Option.bind_eq_some_iff] at h
  obtain ⟨b, h1, h2⟩ := h
  cases b with
  | false => simp at h2
  | true =>
   simp only [if_true] at h2
   rw [WA hk.1 h1, No hk.2 (by simpa using hx) (by simpa using hy) h2]
theorem XF {P : Program} {k : TypeId} {kt : KT} (hk : Pu P k = some kt) {x y : V} (h : Dx kt x y = some true) : x = y := by
 cases kt with
 | one q =>
  cases q with
  | s =>
   cases x <;> cases y <;> simp only [Dx] at h <;> try (cases h; done)
   simp only [Option.some.injEq] at h
   rw [(Go.MapKept.bytes_beq _ _).1 h]
  | b => cases x <;> cases y <;> simp_all [Dx, Et]
  | i => cases x <;> cases y <;> simp_all [Dx, Et]
 | many ks =>
  obtain ⟨xs, ys, rfl, rfl, h1, h2, h3⟩ := I6 h
  rw [No (Jn hk).2 h1 h2 h3]
theorem Oc {kt : KT} {k z : V} (hs : Dx kt k k = some true) : ∀ (BJ : List (V × V)) (i : Nat), Ed kt k BJ i = some none → Ed kt k (BJ ++ [(k, z)]) i = some (some (i + BJ.length, z))
 | [], i, _ => by simp [Ed, hs]
 | e :: BJ, i, h => by
  simp only [Ed, Option.bind_eq_some_iff] at h
  obtain ⟨b, hb, h⟩ := h
  cases b with
  | true => simp at h
  | false =>
   simp only [Bool.false_eq_true, if_false] at h
   simp only [List.cons_append, Ed, hb, Option.bind_some, Bool.false_eq_true, if_false]
   rw [Oc hs BJ (i + 1) h, List.length_cons]
   congr 3
   omega
theorem UT {c : Cx} {t : TypeId} {H H' : A3} {m k v r : V} (h : J4 c t H m k = some (v, H')) (hl : Ip c.P t H m k false = some r) : Ip c.P t H' m k false = some r := by
 unfold J4 at h
 split at h
 case h_2 => cases h
 rename_i b
 split at h
 case h_2 => cases h
 rename_i BJ hb
 simp only [Option.bind_eq_some_iff] at h
 obtain ⟨q, hq, h⟩ := h
 split at h
 case isFalse => cases h
 rename_i hc
 simp only [Option.bind_eq_some_iff] at h
 obtain ⟨f, hf, h⟩ := h
 obtain ⟨kt, _, hkt⟩ := Jo hq
 have hlt : b < H.length := (List.getElem?_eq_some_iff.1 hb).1
 unfold Ip at hl ⊢
 simp only [hb, hq, Option.bind_some, if_pos (show BS k = true ∧ Dx q.1 k k = some true from ⟨hc.1, hc.2.1⟩), hf] at hl
 cases f with
 | some f =>
  obtain ⟨i, vv⟩ := f
  simp only [Option.some.injEq, Prod.mk.injEq] at h
  obtain ⟨_, rfl⟩ := h
  obtain ⟨n, kk, h1, h2, h3⟩ := Hl BJ 0 i vv hf
  have : i = n := by omega
  subst this
  have hkk := XF hkt h3
  subst hkk
  have hset : BJ.set i (k, vv) = BJ := by
   apply List.ext_getElem?
   intro j
   rw [List.getElem?_set]
   split
   ·rename_i e; subst e; rw [if_pos (List.getElem?_eq_some_iff.1 h2).1, h2]
   ·rfl
  rw [hset]
  have hg : (H.set b (.mp BJ))[b]? = some (.mp BJ) := by rw [Ae, if_pos ⟨rfl, hlt⟩]
  simp only [hg, hq, Option.bind_some, if_pos (show BS k = true ∧ Dx q.1 k k = some true from ⟨hc.1, hc.2.1⟩), hf]
  exact hl
 | none =>
  simp only [Option.bind_eq_some_iff] at h
  obtain ⟨z, hz, h⟩ := h
  split at h
  case isFalse => cases h
  simp only [Option.some.injEq, Prod.mk.injEq] at h
  obtain ⟨_, rfl⟩ := h
  simp only [Option.bind_some, hz, Option.map_some] at hl
  have hg : (H.set b (.mp (BJ ++ [(k, z)])))[b]? = some (.mp (BJ ++ [(k, z)])) := by rw [Ae, if_pos ⟨rfl, hlt⟩]
  simp only [hg, hq, Option.bind_some, if_pos (show BS k = true ∧ Dx q.1 k k = some true from ⟨hc.1, hc.2.1⟩), Oc hc.2.1 BJ 0 hf]
  exact hl
theorem Yl {cx cy : Cx} (hP : cx.P = cy.P) (hx : cx.still = true) (hy : cy.still = true) {ops : Array Oper} {x y : Oper} (hsw : Ia ops x y = true) {S : St} {vx vy : V} {Hx Hy : A3} (h1 : Ea cx ops x S = some (vx, Hx)) (h2 : Ea cy ops y (N2 x.dst (vx, Hx) S) = some (vy, Hy))
    (hk : Gr x = true → DO y = true → ∀ v H', Ea cy ops y S = some (v, H') → C5 S.H H') :
    ∃ H1, Ea cy ops y S = some (vy, H1) ∧ Ea cx ops x (N2 y.dst (vy, H1) S) = some (vx, Hy) := by
  unfold Ia at hsw
  simp only [Bool.and_eq_true, Bool.or_eq_true] at hsw
  obtain ⟨⟨ha, _⟩, hcl⟩ := hsw
  obtain ⟨a1, a2, a3⟩ := Oper.apart_spec ha
  obtain ⟨T, H⟩ := S
  have ey : ∀ H', Ea cy ops y (N2 x.dst (vx, H') { T := T, H := H }) = Ea cy ops y { T := T, H := H' } := by
    intro H'
    unfold N2
    refine Nm fun t ht => ?_
    cases hd : x.dst with
    | none => rfl
    | some d =>
      simp only []
      rw [if_neg (fun (e : t = d) => a1 d hd (e ▸ ht))]
  have ex : ∀ v H', Ea cx ops x (N2 y.dst (v, H') { T := T, H := H }) = Ea cx ops x { T := T, H := H' } := by
    intro v H'
    unfold N2
    refine Nm fun t ht => ?_
    cases hd : y.dst with
    | none => rfl
    | some d =>
      simp only []
      rw [if_neg (fun (e : t = d) => a3 d hd (e ▸ ht))]
  rw [ey] at h2
  rcases hcl with ((hp | hp) | hp) | hp
  · obtain ⟨rfl, k⟩ := QD hx hp h1
    exact ⟨Hy, h2, by rw [ex]; exact k Hy⟩
  · obtain ⟨rfl, k⟩ := QD hy hp h2
    exact ⟨H, k H, by rw [ex]; exact h1⟩
  · obtain ⟨hl, hp⟩ := hp
    obtain ⟨rfl, k⟩ := QC hl h1
    rcases hp with hp | hp
    · obtain ⟨rfl, _⟩ := QC hp h2
      exact ⟨Hy, h2, by rw [ex]; exact h1⟩
    · exact ⟨Hy, h2, by rw [ex]; exact k Hy (hk hl hp _ _ h2)⟩
  · obtain ⟨⟨he, hgx⟩, hgy⟩ := hp
    unfold Oz at he
    split at he
    case h_2 => cases he
    rename_i t ax kx t' ay ky hox hoy
    simp only [Bool.and_eq_true, beq_iff_eq] at he
    obtain ⟨⟨rfl, rfl⟩, rfl⟩ := he
    have g1 : x.guard = none := by unfold MA at hgx; split at hgx; assumption; cases hgx
    have g2 : y.guard = none := by unfold MA at hgy; split at hgy; assumption; cases hgy
    have e1 : ∀ H', Ea cx ops x { T := T, H := H' } = (Ip cx.P t H' (T ax) (T kx) false).map fun v => (v, H') := by
      intro H'
      simp only [Ea, D0, g1, Option.bind_some, if_true, CU, hox, ev]
    have e2 : Ea cy ops y { T := T, H := Hx } = J4 cy t Hx (T ax) (T kx) := by
      simp only [Ea, D0, g2, Option.bind_some, if_true, CU, hoy, ev]
    rw [e1, Option.map_eq_some_iff] at h1
    obtain ⟨r, hr, h1⟩ := h1
    simp only [Prod.mk.injEq] at h1
    obtain ⟨rfl, rfl⟩ := h1
    refine ⟨Hy, h2, ?_⟩
    rw [ex, e1]
    rw [e2] at h2
    rw [hP] at hr ⊢
    rw [UT h2 hr]
    rfl
theorem UL {cx cy : Cx} (hP : cx.P = cy.P) (hn : cx.ntmps = cy.ntmps) (hx : cx.still = true) (hy : cy.still = true) {ops : Array Oper} {x y : Oper} (hsw : Ia ops x y = true) {S S1 S2 : St} (h1 : CW cx ops x S = some S1) (h2 : CW cy ops y S1 = some S2)
  (hk : Gr x = true → DO y = true → ∀ v H', Ea cy ops y S = some (v, H') → C5 S.H H') :
  ∃ S1', CW cy ops y S = some S1' ∧ CW cx ops x S1' = some S2 := by
 rw [EU] at h1 h2
 simp only [Option.bind_eq_some_iff, Prod.exists] at h1 h2
 obtain ⟨vx, Hx, e1, h1⟩ := h1
 obtain ⟨vy, Hy, e2, h2⟩ := h2
 split at h1
 case isFalse => cases h1
 rename_i c1
 split at h2
 case isFalse => cases h2
 rename_i c2
 simp only [Option.some.injEq] at h1 h2
 subst h1
 obtain ⟨H1, k1, k2⟩ := Yl hP hx hy hsw e1 e2 hk
 refine ⟨N2 y.dst (vy, H1) S, ?_, ?_⟩
 ·rw [EU, k1]
  simp only [Option.bind_some]
  rw [if_pos c2]
 ·rw [EU, k2]
  simp only [Option.bind_some]
  rw [if_pos c1, ← h2]
  have ha : Oper.apart ops x y = true := by
   unfold Ia at hsw
   simp only [Bool.and_eq_true] at hsw
   exact hsw.1.1
  obtain ⟨_, a2, _⟩ := Oper.apart_spec ha
  unfold N2
  congr 1
  simp only [St.mk.injEq, and_true]
  cases hdx : x.dst with
  | none => rfl
  | some dx =>
   cases hdy : y.dst with
   | none => rfl
   | some dy =>
    have hne : dy ≠ dx := fun e => a2 dx hdx (by rw [hdy, e])
    funext i
    simp only []
    by_cases hi : i = dx
    ·subst hi
     rw [if_pos rfl, if_neg (fun e => hne e.symm), if_pos rfl]
    ·rw [if_neg hi]
     by_cases hj : i = dy
     ·rw [if_pos hj, if_pos hj]
     ·rw [if_neg hj, if_neg hj, if_neg hi]
def Cg (lo : Nat) (lk : Lk) (H H' : A3) : Prop := H.length ≤ H'.length ∧ ∀ b, b < lo → AV lk b = false → H'[b]? = H[b]?
theorem Cg.refl (lo : Nat) (lk : Lk) (H : A3) : Cg lo lk H H := ⟨Nat.le_refl _, fun _ _ _ => rfl⟩
theorem Cg.trans {lo : Nat} {lk : Lk} {A B C : A3} (h : Cg lo lk A B) (k : Cg lo lk B C) : Cg lo lk A C := ⟨Nat.le_trans h.1 k.1, fun b hb hl => (k.2 b hb hl).trans (h.2 b hb hl)⟩
def Fb (Γ : FuncId → List V → A3 → Lk → Option (V × A3)) : Prop := ∀ k args H lk v H', Γ k args H lk = some (v, H') → Cg H.length lk H H'
theorem QM {lo : Nat} {lk : Lk} {H : A3} (x : List Bp) (hl : lo ≤ H.length) : Cg lo lk H (H ++ x) :=
 ⟨by simp, fun b hb _ => by rw [List.getElem?_append_left (by omega)]⟩
theorem Hs {c : Cx} {H : A3} {b : Nat} {x : Bp} (hm : c.BR b = true) : Cg c.base c.lk H (H.set b x) := by
 refine ⟨by simp, fun y hy hl => ?_⟩
 rw [Ae, if_neg]
 rintro ⟨rfl, _⟩
 unfold Cx.BR at hm
 simp only [Bool.or_eq_true, decide_eq_true_eq] at hm
 rcases hm with hm | hm
 ·omega
 ·rw [hm] at hl; cases hl
theorem MB {lo k : Nat} {lk : Lk} {H H' : A3} {v v' : V} (h : B4 lo k H v = some (v', H')) : Cg lo lk H H' :=
 ⟨by rw [HI lo k H v v' H' h]; exact Nat.le_refl _, fun b hb _ => Jl lo k H v v' H' h b hb⟩
theorem QL {c : Cx} : ∀ (vs : List V) (ms : List Tf) (H : A3) (vs' : List V) (M : List Nat) (H' : A3), Af c ms H vs = some (vs', M, H') → Cg c.base c.lk H H' ∧ H'.length = H.length ∧ (c.calm = true → H' = H)
 | [], ms, H, vs', M, H', h => by
  simp only [Af, Option.some.injEq, Prod.mk.injEq] at h
  obtain ⟨_, _, rfl⟩ := h
  exact ⟨Cg.refl _ _ _, rfl, fun _ => rfl⟩
 | v :: vs, ms, H, vs', M, H', h => by
  simp only [Af, Option.bind_eq_some_iff, Option.map_eq_some_iff, Prod.exists, Prod.mk.injEq] at h
  obtain ⟨v1, M1, Hm, h1, vs2, M2, H2, h2, _, _, rfl⟩ := h
  obtain ⟨k1, l1, c1⟩ := QL vs ms.tail Hm vs2 M2 H2 h2
  have key : Cg c.base c.lk H Hm ∧ Hm.length = H.length ∧ (c.calm = true → Hm = H) := by
   unfold GQ at h1
   cases hmode : ms.headD .Pv with
   | Pv =>
    simp only [hmode, Option.map_eq_some_iff, Prod.exists, Prod.mk.injEq] at h1
    obtain ⟨_, _, _, _, _, rfl⟩ := h1
    exact ⟨Cg.refl _ _ _, rfl, fun _ => rfl⟩
   | exact =>
    simp only [hmode, Option.some.injEq, Prod.mk.injEq] at h1
    obtain ⟨_, _, rfl⟩ := h1
    exact ⟨Cg.refl _ _ _, rfl, fun _ => rfl⟩
   | share =>
    simp only [hmode] at h1
    split at h1
    ·cases h1
    rename_i hc
    simp only [Option.map_eq_some_iff, Prod.exists, Prod.mk.injEq] at h1
    obtain ⟨v1', Hm', hg, _, _, rfl⟩ := h1
    exact ⟨MB hg, HI _ _ _ _ _ _ hg, fun hx => absurd hx hc⟩
  exact ⟨key.1.trans k1, l1.trans key.2.1, fun hx => (c1 hx).trans (key.2.2 hx)⟩
theorem P1 {c : Cx} : ∀ (ps : List (Nat × V)) (H : A3) (ps' : List (Nat × V)) (H' : A3), CM c H ps = some (ps', H') → Cg c.base c.lk H H'
 | [], H, ps', H', h => by
  simp only [CM, Option.some.injEq, Prod.mk.injEq] at h
  obtain ⟨_, rfl⟩ := h
  exact Cg.refl _ _ _
 | (i, v) :: ps, H, ps', H', h => by
  simp only [CM, Option.bind_eq_some_iff, Option.map_eq_some_iff, Prod.exists, Prod.mk.injEq] at h
  obtain ⟨v1, H1, hv, ps2, H3, h2, _, rfl⟩ := h
  refine Cg.trans ?_ (P1 ps H1 ps2 H3 h2)
  unfold Fy at hv
  split at hv
  ·simp only [Option.some.injEq, Prod.mk.injEq] at hv
   obtain ⟨_, rfl⟩ := hv
   exact Cg.refl _ _ _
  split at hv
  ·split at hv
   ·simp only [Option.some.injEq, Prod.mk.injEq] at hv
    obtain ⟨_, rfl⟩ := hv
    exact Cg.refl _ _ _
   ·cases hv
  ·exact MB hv
theorem UQ {c : Cx} {t : TypeId} {H H' : A3} {p x : V} (h : Gw c t H p x = some H') : Cg c.base c.lk H H' := by
 cases p with
 | ptr b off =>
  simp only [Gw] at h
  split at h
  case isFalse => cases h
  rename_i hm
  simp only [Option.bind_eq_some_iff, Prod.exists] at h
  obtain ⟨x1, H1, hx, h⟩ := h
  split at h
  case h_2 => cases h
  split at h
  case isFalse => cases h
  simp only [Option.some.injEq] at h
  subst h
  refine Cg.trans ?_ (Hs hm)
  split at hx
  ·split at hx
   ·split at hx
    ·simp only [Option.some.injEq, Prod.mk.injEq] at hx
     obtain ⟨_, rfl⟩ := hx
     exact Cg.refl _ _ _
    ·cases hx
   ·exact MB hx
  ·simp only [Option.some.injEq, Prod.mk.injEq] at hx
   obtain ⟨_, rfl⟩ := hx
   exact Cg.refl _ _ _
 | _ => simp [Gw] at h
theorem Sv {c : Cx} {st xt : TypeId} {H H' : A3} {s x v : V} (hb : c.base ≤ H.length) (h : DU c st xt H s x = some (v, H')) : Cg c.base c.lk H H' ∧ C5 H H' := by
 unfold DU at h
 simp only [Option.bind_eq_some_iff] at h
 obtain ⟨e, _, sz, _, by_, _, z, _, h⟩ := h
 split at h
 case isFalse => cases h
 simp only [Option.bind_eq_some_iff] at h
 obtain ⟨n, _, xs, _, h⟩ := h
 split at h
 case isFalse => cases h
 have none_ : some (s, H) = some (v, H') → Cg c.base c.lk H H' ∧ C5 H H' := by
  intro h
  simp only [Option.some.injEq, Prod.mk.injEq] at h
  obtain ⟨_, rfl⟩ := h
  exact ⟨Cg.refl _ _ _, C5.refl _⟩
 split at h
 ·split at h
  ·exact none_ h
  ·split at h
   case isFalse => cases h
   simp only [Option.some.injEq, Prod.mk.injEq] at h
   obtain ⟨_, rfl⟩ := h
   exact ⟨QM _ hb, C5.push _ _⟩
 ·split at h
  ·exact none_ h
  ·split at h
   case h_2 => cases h
   rename_i l m' sz' hB
   split at h
   case isFalse => cases h
   rename_i hc
   simp only [Option.some.injEq, Prod.mk.injEq] at h
   obtain ⟨_, rfl⟩ := h
   refine ⟨Hs hc.2.2.2.2, fun b z cs hb => ?_, fun b BJ hb => ?_⟩ <;>
   ·rw [Ae, if_neg]
    ·exact hb
    ·rintro ⟨rfl, _⟩
     rw [hB] at hb
     cases hb
 ·cases h
theorem Y6 {c : Cx} {t : TypeId} {H H' : A3} {m k v : V} (h : V5 c t H m k v = some H') : Cg c.base c.lk H H' := by
 unfold V5 at h
 split at h
 case h_2 => cases h
 split at h
 case h_2 => cases h
 simp only [Option.bind_eq_some_iff] at h
 obtain ⟨q, _, h⟩ := h
 split at h
 case isFalse => cases h
 rename_i hc
 simp only [Option.map_eq_some_iff] at h
 obtain ⟨r, _, rfl⟩ := h
 cases r <;> exact Hs hc.2.2.2
theorem UP {c : Cx} {t : TypeId} {H H' : A3} {m k v : V} (h : J4 c t H m k = some (v, H')) : Cg c.base c.lk H H' := by
 unfold J4 at h
 split at h
 case h_2 => cases h
 split at h
 case h_2 => cases h
 simp only [Option.bind_eq_some_iff] at h
 obtain ⟨q, _, h⟩ := h
 split at h
 case isFalse => cases h
 rename_i hc
 simp only [Option.bind_eq_some_iff] at h
 obtain ⟨r, _, h⟩ := h
 cases r with
 | some r =>
  obtain ⟨i, w⟩ := r
  simp only [Option.some.injEq, Prod.mk.injEq] at h
  obtain ⟨_, rfl⟩ := h
  exact Hs hc.2.2
 | none =>
  simp only [Option.bind_eq_some_iff] at h
  obtain ⟨z, _, h⟩ := h
  split at h
  case isFalse => cases h
  simp only [Option.some.injEq, Prod.mk.injEq] at h
  obtain ⟨_, rfl⟩ := h
  exact Hs hc.2.2
theorem UO {c : Cx} {H H' : A3} {m s v : V} (h : Nn c H m s v = some H') : Cg c.base c.lk H H' := by
 unfold Nn at h
 split at h
 case h_2 => cases h
 split at h
 case h_2 => cases h
 split at h
 case isFalse => cases h
 rename_i hc
 simp only [Option.map_eq_some_iff] at h
 obtain ⟨e, _, rfl⟩ := h
 exact Hs hc.2.2
theorem PM {c : Cx} {o : Oper} {t : TypeId} {n : Nat} {ps : Array (Nat × Operand)} (ho : o.op = .buildSlice t n ps) {S : St} {v : V} {H' : A3} (h : CU c o S = some (v, H')) : Cg c.base c.lk S.H H' := by
 simp only [CU, ho, Option.bind_eq_some_iff, Prod.exists] at h
 obtain ⟨ps1, h1, ps2, H1, h2, e, h3, sz, h4, z, h5, h6⟩ := h
 split at h6
 case isFalse => cases h6
 simp only [Option.map_eq_some_iff, Prod.mk.injEq] at h6
 obtain ⟨cs, h7, rfl, rfl⟩ := h6
 exact P1 _ _ _ _ h2
theorem YQ {c : Cx} (hΓ : Fb c.Γ) {o : Oper} {S : St} {v : V} {H' : A3} (hb : c.base ≤ S.H.length) (h : CU c o S = some (v, H')) :
  Cg c.base c.lk S.H H' ∧ (DO o = true → (EI o = true → c.calm = true) → C5 S.H H') := by
 have push : ∀ x, Cg c.base c.lk S.H (S.H ++ x) ∧ C5 S.H (S.H ++ x) := fun x =>
  ⟨QM _ hb, C5.push _ _⟩
 by_cases hp : IN o = true
 ·by_cases hbs : ∀ t n ps, o.op ≠ .buildSlice t n ps
  ·obtain ⟨T, H⟩ := S
   have h1 := MI (c := c) hp hbs (T := T) (H := H) (H2 := H)
   rw [h] at h1
   simp only [Option.map_some, Option.some.injEq, Prod.mk.injEq, true_and] at h1
   subst h1
   exact ⟨Cg.refl _ _ _, fun _ _ => C5.refl _⟩
  ·obtain ⟨t, n, ps, ho⟩ : ∃ t n ps, o.op = .buildSlice t n ps := Classical.byContradiction fun hx => hbs fun t n ps e => hx ⟨t, n, ps, e⟩
   exact ⟨PM ho h, fun hk => by simp [DO, ho] at hk⟩
 ·unfold IN at hp
  cases ho : o.op <;> simp only [ho, not_true_eq_false] at hp <;> simp only [CU, ho] at h <;> try (cases h; done)
  case alloc t =>
   simp only [Option.bind_eq_some_iff, Option.some.injEq, Prod.mk.injEq] at h
   obtain ⟨sz, _, z, hz, rfl, rfl⟩ := h
   exact ⟨(push _).1, fun _ _ => (push _).2⟩
  case box t x =>
   simp only [Option.bind_eq_some_iff] at h
   obtain ⟨sz, _, w, hw, h⟩ := h
   split at h
   ·simp only [Option.some.injEq, Prod.mk.injEq] at h
    obtain ⟨rfl, rfl⟩ := h
    exact ⟨(push _).1, fun _ _ => (push _).2⟩
   ·cases h
  case load t x =>
   simp only [Option.bind_eq_some_iff, Option.map_eq_some_iff, Prod.mk.injEq] at h
   obtain ⟨p, hp, _, hl, rfl, rfl⟩ := h
   exact ⟨Cg.refl _ _ _, fun _ _ => C5.refl _⟩
  case store t p x =>
   simp only [Option.bind_eq_some_iff, Option.map_eq_some_iff, Prod.mk.injEq] at h
   obtain ⟨P, hp, X, hx, H1, h1, rfl, rfl⟩ := h
   exact ⟨UQ h1, fun hk => by simp [DO, ho] at hk⟩
  case makeSlice t n m =>
   simp only [Option.bind_eq_some_iff] at h
   obtain ⟨N, hn, M, hm, h⟩ := h
   unfold JK at h
   split at h
   case h_2 => cases h
   simp only [Option.bind_eq_some_iff] at h
   obtain ⟨e, he, sz, hsz, by_, hby, z, hz, h⟩ := h
   split at h
   case isFalse => cases h
   simp only [Option.some.injEq, Prod.mk.injEq] at h
   obtain ⟨rfl, rfl⟩ := h
   exact ⟨(push _).1, fun _ _ => (push _).2⟩
  case makeMap t r =>
   cases r with
   | none =>
    simp only [Option.some.injEq, Prod.mk.injEq] at h
    obtain ⟨rfl, rfl⟩ := h
    exact ⟨(push _).1, fun _ _ => (push _).2⟩
   | some r => cases h
  case lookup t x k ok =>
   simp only [Option.bind_eq_some_iff, Option.map_eq_some_iff, Prod.mk.injEq] at h
   obtain ⟨m, _, kv, _, _, _, _, rfl⟩ := h
   exact ⟨Cg.refl _ _ _, fun _ _ => C5.refl _⟩
  case mapUpdate t x k y =>
   simp only [Option.bind_eq_some_iff, Option.map_eq_some_iff, Prod.mk.injEq] at h
   obtain ⟨m, _, kv, _, w, _, H1, h1, _, rfl⟩ := h
   exact ⟨Y6 h1, fun hk => by simp [DO, ho] at hk⟩
  case mapEntry t x k =>
   simp only [Option.bind_eq_some_iff] at h
   obtain ⟨m, _, kv, _, h⟩ := h
   exact ⟨UP h, fun hk => by simp [DO, ho] at hk⟩
  case entryStore t x st y =>
   simp only [Option.bind_eq_some_iff, Option.map_eq_some_iff, Prod.mk.injEq] at h
   obtain ⟨m, _, sv, _, w, _, H1, h1, _, rfl⟩ := h
   exact ⟨UO h1, fun hk => by simp [DO, ho] at hk⟩
  case call k =>
   obtain ⟨callee, args, ats⟩ := k
   cases callee with
   | invoke r n => cases h
   | value f =>
    simp only [] at h
    split at h
    case h_2 => cases h
    rename_i g caps hf
    simp only [Option.bind_eq_some_iff, Prod.exists] at h
    obtain ⟨vs, hvs, as, M, H1, hl, hg⟩ := h
    obtain ⟨k1, k2, k3⟩ := QL _ _ _ _ _ _ hl
    obtain ⟨q1, q2⟩ := hΓ _ _ _ _ _ _ hg
    have hlocked : c.calm = true → ∀ b, b < S.H.length → H'[b]? = S.H[b]? := fun hc b hlt => by
     have hH := k3 hc
     subst hH
     refine q2 b hlt ?_
     rw [Bool.eq_false_iff]
     intro hx
     unfold AV at hx
     rw [List.all_eq_true] at hx
     have := hx _ (List.mem_append.2 (.inr (List.mem_singleton.2 rfl)))
     simp only [Cx.Bw, hc, if_true, Bool.not_eq_true', List.contains_eq_mem, decide_eq_false_iff_not] at this
     exact this (List.mem_append.2 (.inr (List.mem_range.2 hlt)))
    refine ⟨k1.trans ⟨q1, fun b hbb hbl => q2 b (by rw [k2]; omega) ?_⟩, fun _ hcalm => ⟨fun b z cs hB => ?_, fun b BJ hB => ?_⟩⟩
    ·rw [Bool.eq_false_iff] at hbl ⊢
     intro hx
     refine hbl ?_
     unfold AV at hx ⊢
     rw [List.all_eq_true] at hx ⊢
     exact fun l hl => hx l (List.mem_append.2 (.inl hl))
    ·rw [hlocked (hcalm (by simp [EI, ho])) b (List.getElem?_eq_some_iff.1 hB).1]; exact hB
    ·rw [hlocked (hcalm (by simp [EI, ho])) b (List.getElem?_eq_some_iff.1 hB).1]; exact hB
   | builtin b =>
    cases b <;> simp only [not_true_eq_false] at hp <;> try (cases h; done)
    case append =>
     simp only [] at h
     split at h
     case h_2 => cases h
     simp only [Option.bind_eq_some_iff] at h
     obtain ⟨p, hp, q, hq, h⟩ := h
     obtain ⟨k1, k2⟩ := Sv hb h
     exact ⟨k1, fun _ _ => k2⟩
def Cx.BF (c : Cx) (s k : Bool) : Cx := { c with still := s, calm := k }
theorem SP {c : Cx} (hΓ : Fb c.Γ) {ops : Array Oper} {o : Oper} {S : St} {v : V} {H' : A3} (hb : c.base ≤ S.H.length) (h : Ea c ops o S = some (v, H')) :
  Cg c.base c.lk S.H H' ∧ (DO o = true → (EI o = true → c.calm = true) → C5 S.H H') := by
 unfold Ea at h
 simp only [Option.bind_eq_some_iff] at h
 obtain ⟨b, _, h⟩ := h
 cases b with
 | true => exact YQ hΓ hb (by simpa using h)
 | false =>
  simp only [Bool.false_eq_true, if_false, Option.some.injEq, Prod.mk.injEq] at h
  obtain ⟨_, rfl⟩ := h
  exact ⟨Cg.refl _ _ _, fun _ _ => C5.refl _⟩
theorem Ov {c : Cx} (hΓ : Fb c.Γ) {ops : Array Oper} {o : Oper} {S S' : St} (hb : c.base ≤ S.H.length) (h : CW c ops o S = some S') : Cg c.base c.lk S.H S'.H := by
 rw [EU] at h
 simp only [Option.bind_eq_some_iff, Prod.exists] at h
 obtain ⟨v, H', h1, h2⟩ := h
 split at h2
 case isFalse => cases h2
 simp only [Option.some.injEq] at h2
 subst h2
 exact (SP hΓ hb h1).1
theorem PQ {c : Cx} (hΓ : Fb c.Γ) {cf : Nat → Cx} (hcf : ∀ i, ∃ s k, cf i = c.BF s k) {ops : Array Oper} : ∀ (l : List Nat) {S S' : St}, c.base ≤ S.H.length → DT cf ops l S = some S' → Cg c.base c.lk S.H S'.H
 | [], S, S', hb, h => by
  simp only [DT, Option.some.injEq] at h
  subst h
  exact Cg.refl _ _ _
 | i :: l, S, S', hb, h => by
  simp only [DT] at h
  split at h
  ·cases h
  simp only [Option.bind_eq_some_iff] at h
  obtain ⟨S1, h1, h2⟩ := h
  obtain ⟨s, k, hc⟩ := hcf i
  rw [hc] at h1
  have k1 := Ov (c := c.BF s k) hΓ hb h1
  exact Cg.trans k1 (PQ hΓ hcf l (Nat.le_trans hb k1.1) h2)
theorem QJ {lo : Nat} {lk : Lk} {f : St → Option (X × St)} (hf : ∀ S x S', lo ≤ S.H.length → f S = some (x, S') → Cg lo lk S.H S'.H) : ∀ (n : Nat) {S S' : St} {x : X}, lo ≤ S.H.length → EY f n S = some (x, S') → Cg lo lk S.H S'.H
 | 0, S, S', x, hb, h => by simp [EY] at h
 | n + 1, S, S', x, hb, h => by
  simp only [EY] at h
  split at h
  ·rename_i S1 h1
   have k1 := hf _ _ _ hb h1
   exact k1.trans (QJ hf n (Nat.le_trans hb k1.1) h)
  ·exact hf _ _ _ hb h
theorem Da {c : Cx} (hΓ : Fb c.Γ) (n : Nat) : ∀ (b : Code) {S S' : St} {x : X}, c.base ≤ S.H.length → Ak c n b S = some (x, S') → Cg c.base c.lk S.H S'.H
 | .skip, S, S', x, hb, h => by
  simp only [Ak, Option.some.injEq, Prod.mk.injEq] at h
  obtain ⟨_, rfl⟩ := h
  exact Cg.refl _ _ _
 | .region id ops draw, S, S', x, hb, h => by
  simp only [Ak, Option.map_eq_some_iff, Prod.mk.injEq] at h
  obtain ⟨S1, h1, _, rfl⟩ := h
  split at h1
  ·split at h1
   ·exact PQ hΓ (cf := Es c ops) (fun i => ⟨true, _, rfl⟩) _ hb h1
   ·cases h1
  ·exact PQ hΓ (cf := fun _ => c) (fun i => ⟨c.still, c.calm, rfl⟩) _ hb h1
 | .seq p q, S, S', x, hb, h => by
  simp only [Ak] at h
  split at h
  ·rename_i S1 h1
   have k1 := Da hΓ n p hb h1
   exact k1.trans (Da hΓ n q (Nat.le_trans hb k1.1) h)
  ·exact Da hΓ n p hb h
 | .cond y p q, S, S', x, hb, h => by
  simp only [Ak] at h
  split at h
  ·exact Da hΓ n p hb h
  ·exact Da hΓ n q hb h
  ·cases h
 | .block id p, S, S', x, hb, h => by
  simp only [Ak] at h
  split at h
  ·rename_i i S1 h1
   have k1 := Da hΓ n p hb h1
   split at h <;>
   ·simp only [Option.some.injEq, Prod.mk.injEq] at h
    obtain ⟨_, rfl⟩ := h
    exact k1
  ·exact Da hΓ n p hb h
 | .loop p, S, S', x, hb, h => by
  simp only [Ak] at h
  exact QJ (fun S x S' hb h => Da hΓ n p hb h) n hb h
 | .exit id, S, S', x, hb, h => by
  simp only [Ak, Option.some.injEq, Prod.mk.injEq] at h
  obtain ⟨_, rfl⟩ := h
  exact Cg.refl _ _ _
 | .ret, S, S', x, hb, h => by
  simp only [Ak, Option.some.injEq, Prod.mk.injEq] at h
  obtain ⟨_, rfl⟩ := h
  exact Cg.refl _ _ _
 | .label _, _, _, _, _, h => by simp [Ak] at h
 | .goto _, _, _, _, _, h => by simp [Ak] at h
 | .scope _, _, _, _, _, h => by simp [Ak] at h
 | .refuse _, _, _, _, _, h => by simp [Ak] at h
 | .rangeFunc .., _, _, _, _, h => by simp [Ak] at h
def GJ (lo : Nat) (H H' : A3) : Prop := H'.length = H.length ∧ ∀ b, b < lo → H'[b]? = H[b]?
theorem GJ.refl (lo : Nat) (H : A3) : GJ lo H H := ⟨rfl, fun _ _ => rfl⟩
theorem GJ.trans {lo : Nat} {A B C : A3} (h : GJ lo A B) (k : GJ lo B C) : GJ lo A C := ⟨k.1.trans h.1, fun b hb => (k.2 b hb).trans (h.2 b hb)⟩
theorem GJ.kill {lo b : Nat} (H : A3) (hb : ¬ b < lo) : GJ lo H (H.set b .dead) :=
 ⟨by simp, fun x hx => by rw [Ae, if_neg]; rintro ⟨rfl, _⟩; exact hb hx⟩
theorem QY {lo : Nat} {f : A3 × List Bp → V → Option (V × A3 × List Bp)} (hf : ∀ X v v' X', f X v = some (v', X') → GJ lo X.1 X'.1) :
  ∀ (vs : List V) (X : A3 × List Bp) (vs' : List V) (X' : A3 × List Bp), B2.resL f X vs = some (vs', X') → GJ lo X.1 X'.1
 | [], X, vs', X', h => by
  simp only [B2.resL, Option.some.injEq, Prod.mk.injEq] at h
  obtain ⟨_, rfl⟩ := h
  exact GJ.refl _ _
 | v :: vs, X, vs', X', h => by
  simp only [B2.resL, Option.bind_eq_some_iff, Option.map_eq_some_iff, Prod.exists] at h
  obtain ⟨v1, Ha, na, h1, vs2, Hb, nb, h2, h3⟩ := h
  simp only [Prod.mk.injEq] at h3
  obtain ⟨_, rfl⟩ := h3
  exact (hf _ _ _ _ h1).trans (QY hf vs _ _ _ h2)
theorem QZ {th : Bool} {lo d : Nat} : ∀ (k : Nat) (X : A3 × List Bp) (v v' : V) (X' : A3 × List Bp), B2 th lo d k X v = some (v', X') → GJ lo X.1 X'.1
 | 0, X, v, v', X', h => by simp [B2] at h
 | k + 1, X, v, v', X', h => by
  have ih := QY fun X v v' X' h => QZ (th := th) (lo := lo) (d := d) k X v v' X' h
  have same : ∀ {x : V}, some (x, X) = some (v', X') → GJ lo X.1 X'.1 := by
   intro x h
   simp only [Option.some.injEq, Prod.mk.injEq] at h
   obtain ⟨_, rfl⟩ := h
   exact GJ.refl _ _
  cases v with
  | int _ _ => simp only [B2] at h; exact same h
  | bool _ => simp only [B2] at h; exact same h
  | str _ => simp only [B2] at h; exact same h
  | HW => simp only [B2] at h; exact same h
  | Eg => simp only [B2] at h; exact same h
  | ptr b _ =>
   simp only [B2] at h
   split at h
   ·exact same h
   ·cases h
  | FF b =>
   simp only [B2] at h
   split at h
   ·exact same h
   ·cases h
  | lit _ _ _ =>
   simp only [B2] at h
   split at h
   ·exact same h
   ·cases h
  | tl n cs =>
   simp only [B2] at h
   split at h
   ·exact same h
   ·simp only [Option.map_eq_some_iff, Prod.exists, Prod.mk.injEq] at h
    obtain ⟨cs', Ha, na, h1, _, rfl⟩ := h
    exact ih _ _ _ _ h1
  | snap b n cs =>
   simp only [B2] at h
   split at h
   case h_2 => cases h
   split at h
   ·cases h
   rename_i hc
   simp only [Option.bind_eq_some_iff, Prod.exists] at h
   obtain ⟨cs', Ha, na, h1, h⟩ := h
   have k1 := (GJ.kill X.1 (fun hx => hc (.inl hx))).trans (ih _ _ _ _ h1)
   split at h
   ·split at h
    ·simp only [Option.some.injEq, Prod.mk.injEq] at h
     obtain ⟨_, rfl⟩ := h
     exact k1
    ·cases h
   ·simp only [Option.some.injEq, Prod.mk.injEq] at h
    obtain ⟨_, rfl⟩ := h
    exact k1
  | sl b off n =>
   simp only [B2] at h
   split at h
   ·exact same h
   rename_i hlo
   split at h
   case h_2 => cases h
   split at h
   ·cases h
   simp only [Option.bind_eq_some_iff, Prod.exists] at h
   obtain ⟨cs', Ha, na, h1, h⟩ := h
   have k1 := (GJ.kill X.1 hlo).trans (ih _ _ _ _ h1)
   split at h
   ·split at h
    ·simp only [Option.some.injEq, Prod.mk.injEq] at h
     obtain ⟨_, rfl⟩ := h
     exact k1
    ·cases h
   ·simp only [Option.some.injEq, Prod.mk.injEq] at h
    obtain ⟨_, rfl⟩ := h
    exact k1
  | agg cs =>
   simp only [B2, Option.map_eq_some_iff, Prod.exists, Prod.mk.injEq] at h
   obtain ⟨cs', Ha, na, h1, _, rfl⟩ := h
   exact ih _ _ _ _ h1
  | FH cs =>
   simp only [B2, Option.map_eq_some_iff, Prod.exists, Prod.mk.injEq] at h
   obtain ⟨cs', Ha, na, h1, _, rfl⟩ := h
   exact ih _ _ _ _ h1
  | _ => simp [B2] at h
theorem Qj {base : Nat} {H1 H2 : A3} {x : List Bp} (hk : ∀ b, b < base → H2[b]? = H1[b]?) (hl : base ≤ H2.length) {lk : Lk} {H0 : A3} (hb : H0.length = base) (h0 : Cg base lk H0 H1) : Cg base lk H0 (H2.take base ++ x) := by
 have hlen : (H2.take base).length = base := by rw [List.length_take]; omega
 refine ⟨by simp; omega, fun b hlt hu => ?_⟩
 rw [List.getElem?_append_left (by omega), List.getElem?_take_of_lt hlt, hk b hlt, h0.2 b hlt hu]
theorem Hk {P : Program} {rs : List ResultVar} {x : Option (X × St)} {r : List V × A3} (h : KM P rs x = some r) : ∃ e S, x = some (e, S) ∧ (e = .normal ∨ e = .ret) ∧ BB P S.H S.T rs = some r.1 ∧ r.2 = S.H := by
 unfold KM at h
 split at h
 ·simp only [Option.map_eq_some_iff] at h; obtain ⟨vs, h1, rfl⟩ := h; exact ⟨_, _, rfl, .inl rfl, h1, rfl⟩
 ·simp only [Option.map_eq_some_iff] at h; obtain ⟨vs, h1, rfl⟩ := h; exact ⟨_, _, rfl, .inr rfl, h1, rfl⟩
 ·cases h
theorem Ql {c : Cx} (hΓ : Fb c.Γ) {n : Nat} {rs : List ResultVar} {N : Lc} {S : St} {b : Bool} {r : List V × A3} (hb : c.base ≤ S.H.length) (h : N5 c n rs N S b = some r) : Cg c.base c.lk S.H r.2 := by
 obtain ⟨e, S', h1, _, _, h4⟩ := Hk h
 rw [h4]
 exact Da hΓ n _ (S := (S.set N.p (S.T N.z)).set N.q (.bool b)) hb h1
theorem Tw {c : Cx} (hΓ : Fb c.Γ) {n : Nat} {rs : List ResultVar} {body : Code} {S : St} {r : List V × A3} (hb : c.base ≤ S.H.length) (h : J5 c n rs body S = some r) : Cg c.base c.lk S.H r.2 := by
 unfold J5 at h
 split at h
 ·obtain ⟨e, S', h1, _, _, h4⟩ := Hk h
  rw [h4]
  exact Da hΓ n _ hb h1
 ·rename_i N hN
  split at h
  case h_2 => cases h
  rename_i S0 h0
  have k0 := Da hΓ n _ hb h0
  split at h
  case isFalse => cases h
  split at h
  ·exact k0.trans (Ql hΓ (Nat.le_trans hb k0.1) h)
  ·split at h
   case isFalse => cases h
   exact k0.trans (Ql hΓ (Nat.le_trans hb k0.1) h)
  ·cases h
theorem TK (P : Program) (h : Bg) : ∀ n, Fb (DQ P h n)
  | 0 => fun k args H lk v H' hr => by simp [DQ] at hr
  | n + 1 => fun k args H lk v H' hr => by
    have ih := TK P h n
    simp only [DQ] at hr
    split at hr
    case h_2 => cases hr
    rename_i fn hfn
    split at hr
    case h_2 => cases hr
    rename_i body hbody
    split at hr
    case isFalse => cases hr
    simp only [Option.bind_eq_some_iff] at hr
    obtain ⟨q, hex, hl⟩ := hr
    have k1 := Tw (c := { P := P, hints := h, fn := k, ntmps := fn.ntmps, base := H.length, lk := lk, Γ := DQ P h n }) ih (Nat.le_refl _) hex
    unfold D9 at hl
    split at hl
    · split at hl
      case isFalse => cases hl
      simp only [Option.some.injEq, Prod.mk.injEq] at hl
      obtain ⟨_, rfl⟩ := hl
      exact Qj (fun _ _ => rfl) k1.1 rfl k1
    · simp only [Option.map_eq_some_iff, Prod.exists, Prod.mk.injEq] at hl
      obtain ⟨v1, H2, news, h1, _, rfl⟩ := hl
      obtain ⟨q1, q2⟩ := QZ _ _ _ _ _ h1
      simp only [] at q1 q2
      exact Qj q2 (by rw [q1]; exact k1.1) rfl k1
theorem Tk {c : Cx} (hΓ : Fb c.Γ) {cf : Nat → Cx} (hcf : ∀ i, ∃ k, cf i = c.BF true k) {ops : Array Oper} {i : Nat} {y : Oper} (hi : ops[i]? = some y) {r2 : List Nat} {S' : St} :
  ∀ (r1 : List Nat) {S : St}, c.base ≤ S.H.length → DT cf ops (r1 ++ i :: r2) S = some S' →
   (∀ j ∈ r1, ∃ x, ops[j]? = some x ∧ Ia ops x y = true ∧ (Gr x = true → EI y = true → (cf i).calm = true)) → DT cf ops (i :: (r1 ++ r2)) S = some S'
 | [], S, hb, h, _ => h
 | j :: r1, S, hb, h, hj => by
  obtain ⟨x, hx, hsw, hcalm⟩ := hj j (List.mem_cons_self ..)
  simp only [List.cons_append, DT, hx, Option.bind_eq_some_iff] at h
  obtain ⟨S1, h1, h2⟩ := h
  obtain ⟨kj, hcj⟩ := hcf j
  obtain ⟨ki, hci⟩ := hcf i
  have hb1 : c.base ≤ S1.H.length := by
   rw [hcj] at h1
   exact Nat.le_trans hb (Ov (c := c.BF true kj) hΓ hb h1).1
  have h3 := Tk hΓ hcf hi r1 hb1 h2 fun j' hj' => hj j' (List.mem_cons_of_mem _ hj')
  simp only [DT, hi, Option.bind_eq_some_iff] at h3
  obtain ⟨S2, h4, h5⟩ := h3
  obtain ⟨S3, h6, h7⟩ := UL (cx := cf j) (cy := cf i) (by rw [hcj, hci]; rfl) (by rw [hcj, hci]; rfl) (by rw [hcj]; rfl) (by rw [hci]; rfl) hsw h1 h4 (fun hl hk v H' he => by
   have hc : EI y = true → (cf i).calm = true := hcalm hl
   rw [hci] at he hc
   exact (SP (c := c.BF true ki) hΓ hb he).2 hk hc)
  simp only [DT, hi, h6, Option.bind_some, List.cons_append, hx, h7]
  exact h5
def Wz (w : World) (u : Value) (g : Nat) (v : Nat → V) (cs : List V) : Prop :=
 (∃ cc t, w.heap[g]? = some (.cells cc t (0, 0)) ∧ cs.length ≤ cc.size ∧ ∀ (E : AZ) (i : Nat) x, cs[i]? = some x → ∃ y, cc[i]? = some y ∧ AA E x y) ∧
  ∀ (E : AZ) b, E.φ b = g → b < E.n → JQ E.H b → AA E (v b) u
section
variable {c : Cx} {E : AZ} {S : St} {a : Act} {o : Oper}
theorem UU (hs : Cc c E S a) (hm : L9 o = true) {vv : V} {H' : A3} (h : CU c o S = some (vv, H')) : ∃ (v : Nat → V) (sz : Nat) (cs : List V) (u : Value) (cc : Array Value) (t : TypeId),
  (∀ H2, CU c o ⟨S.T, H2⟩ = some (v H2.length, H2 ++ [.cells sz cs])) ∧ (execOp a.eval o).run c.P E.w = .ok (.value u) (E.w.alloc (.cells cc t)) ∧ Wz (E.w.alloc (.cells cc t)) u E.w.heap.size v cs := by
 unfold L9 at hm
 split at hm
 ·rename_i t ho
  unfold CU at h
  simp only [ho, Option.bind_eq_some_iff] at h
  obtain ⟨sz, hsz, z, hz, h⟩ := h
  simp only [Option.some.injEq, Prod.mk.injEq] at h
  obtain ⟨rfl, rfl⟩ := h
  obtain ⟨i, x, v, h1, h2, h3, rfl⟩ := Ij hz
  refine ⟨fun b => .ptr b 0, sz, v.cellsOf, .pointer (some ⟨E.w.heap.size, 0, none⟩), x.cells, t, fun H2 => ?_, ?_, ⟨x.cells, t, ?_, ?_, fun E' i y hy => ?_⟩, fun E' b h1 h2 h3 => ?_⟩
  ·unfold CU
   simp only [ho, hsz, hz, Option.bind_some]
  ·simp [execOp, ho, Instr.alloc, zeroValue, typeInfo, h1, h2, newVar, newRow]
  ·show (E.w.heap.push _)[E.w.heap.size]? = _; simp
  ·obtain ⟨hl, _⟩ := BP _ _ (GB E h3); rw [hl]; simp
  ·obtain ⟨_, hg⟩ := BP _ _ (GB E' h3); simpa using hg i y hy
  ·simp only [AA]; exact ⟨h2, by rw [h1], h3⟩
 ·rename_i t n m ho
  unfold CU at h
  simp only [ho, Option.bind_eq_some_iff] at h
  obtain ⟨N, hn, M, hmm, h⟩ := h
  have hK : ∀ H2, CU c o ⟨S.T, H2⟩ = JK c.P (c.hints.GP c.fn) t H2 N M := fun H2 => by
   unfold CU
   simp only [ho, hn, hmm, Option.bind_some]
  have r1 := B5 hs n _ hn
  have r2 := B5 hs m _ hmm
  unfold JK at h
  split at h
  case h_2 => cases h
  rename_i k l
  simp only [Option.bind_eq_some_iff] at h
  obtain ⟨e, he, sz, hsz, by_, hby, z, hz, h⟩ := h
  split at h
  case isFalse => cases h
  rename_i hc
  have hc' := hc
  obtain ⟨rfl, h0, hb, hzl, hsz0⟩ := hc
  simp only [Option.some.injEq, Prod.mk.injEq] at h
  obtain ⟨rfl, rfl⟩ := h
  simp only [AA] at r1 r2
  have hz' := hz
  obtain ⟨i, x, vv, h1, h2, h3, rfl⟩ := Ij hz
  obtain ⟨i', hi', hsize⟩ := IM hsz
  rw [h1] at hi'
  simp only [Option.some.injEq] at hi'
  subst hi'
  have hbytes : i.bytes = by_ := by unfold C3 at hby; rw [h1] at hby; simpa using hby
  subst hbytes hsize
  have hb2 : k * (i.bytes : Int) + k ≤ 70368744177664 := by rw [Int.mul_add, Int.mul_one] at hb; exact hb
  have hb3 : 0 ≤ k * (i.bytes : Int) := Int.mul_nonneg h0 (by omega)
  have hrun := run_make (P := c.P) E.w t e i x (CA he) h1 h2 .i64 .i64 k k h0 (Int.le_refl _) (by rw [Int.mul_comm]; omega) (by omega)
  have hmr : ∀ E : AZ, AP E (List.replicate k.toNat (vv.cellsOf.map (HK (c.hints.GP c.fn)))).flatten (madeCells x.cells (k.toNat * i.size)).toList := fun E => by
   have := PB (E := E) (JP (kp := c.hints.GP c.fn) (GB E h3)) (by rw [List.length_map, hzl]; exact hsz0) k.toNat
   rw [List.length_map, hzl] at this
   exact this
  refine ⟨fun b => .sl b 0 k.toNat, i.size, (List.replicate k.toNat (vv.cellsOf.map (HK (c.hints.GP c.fn)))).flatten, .slice (some ⟨E.w.heap.size, 0, none⟩) k.toNat k.toNat, madeCells x.cells (k.toNat * i.size), e, fun H2 => ?_, ?_, ⟨madeCells x.cells (k.toNat * i.size), e, ?_, ?_, fun E' i y hy => ?_⟩, fun E' b h1 h2 h3 => ?_⟩
  ·rw [hK]
   unfold JK
   simp only [he, hsz, hby, hz', Option.bind_some]
   rw [if_pos ⟨trivial, h0, hb, hzl, hsz0⟩]
  ·simp only [execOp, ho, r1, r2, hrun, Sem.run_bind, Result.andThen_ok, Sem.run_pure]
  ·show (E.w.heap.push _)[E.w.heap.size]? = _; simp
  ·obtain ⟨hl, _⟩ := BP _ _ (hmr E); rw [hl]; simp
  ·obtain ⟨_, hg⟩ := BP _ _ (hmr E'); simpa using hg i y hy
  ·simp only [AA]; exact ⟨h2, ⟨k.toNat, by rw [h1], Nat.le_refl _⟩, h3⟩
 ·cases hm
def AZ.name (E : AZ) (g : Nat) (Ad : Bp) : AZ :=
  { w := E.w, φ := fun b => if b = E.H.length then g else E.φ b, H := E.H ++ [Ad], lk := E.lk, n := E.n + 1, m := E.m, Bb := E.Bb.filter fun x => decide (x ≠ g) }
theorem CD (E : AZ) (g : Nat) (Ad : Bp) (b : Nat) : (E.name g Ad).H[b]? = if b = E.H.length then some Ad else E.H[b]? := by
 show (E.H ++ [Ad])[b]? = _
 by_cases hb : b = E.H.length
 ·subst hb; simp
 ·rw [if_neg hb]
  rcases Nat.lt_or_ge b E.H.length with hl | hl
  ·rw [List.getElem?_append_left hl]
  ·rw [List.getElem?_eq_none (by simp; omega), List.getElem?_eq_none hl]
theorem Ct (E : AZ) (g : Nat) (Ad : Bp) (b : Nat) : (E.name g Ad).φ b = if b = E.H.length then g else E.φ b := rfl
theorem JN {E : AZ} {g : Nat} {Ad : Bp} {x : Nat} : x ∈ (E.name g Ad).Bb ↔ x ∈ E.Bb ∧ x ≠ g := by
 show x ∈ E.Bb.filter _ ↔ _
 simp [List.mem_filter]
theorem YN {E : AZ} {g sz : Nat} {cs : List V} {lv : Option Nat} {x i : Nat} (h : (E.name g (.cells sz cs)).U lv x i) : E.U lv x i ∨ x = g := by
 rcases h with h | h
 ·exact .inl (.inl (JN.1 h).1)
 cases lv with
 | some lv =>
  obtain ⟨b, h1, h2, h3⟩ := h
  rw [CD] at h3
  rw [Ct] at h1
  by_cases hb : b = E.H.length
  ·rw [if_pos hb] at h1; exact .inr h1.symm
  ·rw [if_neg hb] at h1 h3; exact .inl (.inr ⟨b, h1, h2, h3⟩)
 | none =>
  obtain ⟨b, h1, h3⟩ := h
  rw [CD] at h3
  rw [Ct] at h1
  by_cases hb : b = E.H.length
  ·rw [if_pos hb] at h1; exact .inr h1.symm
  ·rw [if_neg hb] at h1 h3; exact .inl (.inr ⟨b, h1, h3⟩)
theorem P0 {E : AZ} {g sz : Nat} {cs : List V} (hg : g ∈ E.Bb) (hn : E.n = E.H.length) {nb d : Nat} (hnb : nb ≤ E.n) (hd : d ≤ E.m) : CX (E.shrink nb d) ((E.name g (.cells sz cs)).shrink nb d) where
 len := Nat.le_refl _
 lvl := Nat.le_refl _
 cell := by
  intro lv x i u _ _ h1 h3
  refine ⟨h1, fun hu => h3 ?_⟩
  rcases YN (E := E) (lv := lv) hu with h | rfl
  ·exact h
  ·exact .inl hg
 CI := by
  intro b hb hnb2
  have hb : b < nb := hb
  have hne : b ≠ E.H.length := by omega
  refine ⟨by show (E.name g (.cells sz cs)).φ b = E.φ b; rw [Ct, if_neg hne], fun l n z => ?_⟩
  show (E.name g (.cells sz cs)).H[b]? ≠ _
  rw [CD, if_neg hne]
  exact hnb2 l n z
 cells := by
  intro b hb h z ys
  have hb : b < nb := hb
  show (E.name g (.cells sz cs)).H[b]? ≠ _
  rw [CD, if_neg (by omega)]
  exact h z ys
 Br := by
  intro b l n z hb hB
  have hb : b < nb := hb
  have hB : (E.name g (.cells sz cs)).H[b]? = _ := hB
  rw [CD, if_neg (by omega)] at hB
  exact ⟨l, n, hB, Nat.le_refl _, fun _ => ⟨by show (E.name g (.cells sz cs)).φ b = E.φ b; rw [Ct, if_neg (by omega)], fun cc _ hc => ⟨cc, hc, rfl⟩⟩⟩
 fresh := by
  intro b x i u h1 h2 hb hl he
  have hl : live (E.name g (.cells sz cs)).H[b]? := hl
  have he : (E.name g (.cells sz cs)).φ b = x := he
  rw [Ct] at he
  rw [CD] at hl
  by_cases hbb : b = E.H.length
  ·rw [if_pos hbb] at he
   subst he
   exact absurd (.inl hg) h2
  ·rw [if_neg hbb] at he hl
   exact ⟨b, hb, hl, he⟩
theorem PI {E : AZ} {g sz : Nat} {cs : List V} (hg : g ∈ E.Bb) (hn : E.n = E.H.length) {v : V} {u : Value} (h : AA E v u) : AA (E.name g (.cells sz cs)) v u :=
 (CX.grow (E.name g (.cells sz cs)) (n := E.n) (m := E.m) (Nat.le_succ _) (Nat.le_refl _)).rep v u ((P0 hg hn (Nat.le_refl _) (Nat.le_refl _)).rep v u h)
theorem UY {E0 : AZ} {H : A3} (h : B8 c E0 E H) (hb : c.base ≤ H.length) (h0 : E0.n ≤ H.length) {g sz : Nat} {cs : List V} {u : Value} {v : Nat → V} (hp : Wz E.w u g v cs) (hg : g ∈ E.Bb) (hg0 : E0.w.heap.size ≤ g) (hg1 : g ∉ E0.Bb) :
    B8 c E0 (E.name g (.cells sz cs)) (H ++ [.cells sz cs]) ∧ AA (E.name g (.cells sz cs)) (v H.length) u := by
  have hn : E.n = E.H.length := by rw [h.n, h.H]
  obtain ⟨⟨cc, t, p1, p2, p3⟩, p4⟩ := hp
  have hf : ∀ base nb d, base ≤ c.base → nb ≤ E.n → d ≤ E.m → D4 E base nb d → D4 (E.name g (.cells sz cs)) base nb d := by
    intro base nb d hbase hnb hd hf b z xs hlt hB ct tt hc i y w hv hu
    have hne : b ≠ E.H.length := by rw [h.H]; omega
    rw [CD, if_neg hne] at hB
    rw [Ct, if_neg hne] at hc
    exact (P0 hg hn hnb hd).rep _ _ (hf b z xs hlt hB ct tt hc i y w hv hu)
  have hgl := (h.heap.Bb g hg).2
  refine ⟨⟨by show E.H ++ _ = _; rw [h.H], by show E.n + 1 = _; rw [h.n]; simp, h.m, ?_, ?_, fun gr base nb d h1 h2 h3 h4 => hf base nb d h1 (Nat.le_trans h2 h.Ch.len) (by rw [h.m]; exact h3) (h.Hn gr base nb d h1 h2 h3 h4), fun gr base d h1 h3 h4 => (hf base E.n d h1 (Nat.le_refl _) (by rw [h.m]; exact h3) (h.IK gr base d h1 h3 h4)).up (Nat.le_succ _), fun b hb2 hl => ?_⟩, ?_⟩
  · exact
    { lk := h.Ch.lk
      os := h.Ch.os
      tape := h.Ch.tape
      output := h.Ch.output
      size := h.Ch.size
      len := Nat.le_succ_of_le h.Ch.len
      mm := h.Ch.mm
      cell := h.Ch.cell
      block := h.Ch.block
      mono := by
        intro lv x i hl hu
        rcases YN hu with h1 | rfl
        · exact h.Ch.mono lv x i hl h1
        · exact .inr hg0
      CI := by
        intro b hb1 hb2
        obtain ⟨q1, q2⟩ := h.Ch.CI b hb1 hb2
        have hne : b ≠ E.H.length := by rw [h.H]; omega
        refine ⟨by rw [Ct, if_neg hne]; exact q1, fun l n z => ?_⟩
        rw [CD, if_neg hne]
        exact q2 l n z
      cells := by
        intro b hb1 hb2 z xs
        have hne : b ≠ E.H.length := by rw [h.H]; omega
        rw [CD, if_neg hne]
        exact h.Ch.cells b hb1 hb2 z xs
      Br := by
        intro b l n z hb1 hB
        have hne : b ≠ E.H.length := by rw [h.H]; omega
        rw [CD, if_neg hne] at hB
        obtain ⟨k, k1, k2, k3⟩ := h.Ch.Br b l n z hb1 hB
        exact ⟨k, k1, k2, fun e => ⟨by rw [Ct, if_neg hne]; exact (k3 e).1, (k3 e).2⟩⟩
      fresh := by
        intro b hl
        rw [CD] at hl
        rw [Ct]
        by_cases hbb : b = E.H.length
        · rw [if_pos hbb]; exact .inr hg0
        · rw [if_neg hbb] at hl ⊢; exact h.Ch.fresh b hl
      Bb := fun x hx => JN.2 ⟨h.Ch.Bb x hx, fun e => hg1 (e ▸ hx)⟩
      Hr := fun x hx => h.Ch.Hr x (JN.1 hx).1
      H5 := h.Ch.H5 }
  · exact
    { cells := by
        intro b z xs hB
        rw [CD] at hB
        rw [Ct]
        by_cases hbb : b = E.H.length
        · rw [if_pos hbb] at hB ⊢
          simp only [Option.some.injEq, Bp.cells.injEq] at hB
          obtain ⟨rfl, rfl⟩ := hB
          exact ⟨cc, t, p1, p2, fun i y hy => p3 _ i y hy⟩
        · rw [if_neg hbb] at hB ⊢
          obtain ⟨c', t', h1, h2, h3⟩ := h.heap.cells b z xs hB
          exact ⟨c', t', h1, h2, fun i y hy => let ⟨w, h4, h5⟩ := h3 i y hy; ⟨w, h4, PI hg hn h5⟩⟩
      Br := by
        intro b l n z hB
        rw [CD] at hB
        rw [Ct]
        by_cases hbb : b = E.H.length
        · rw [if_pos hbb] at hB; cases hB
        · rw [if_neg hbb] at hB ⊢; exact h.heap.Br b l n z hB
      lvl := by
        intro b l n z hB
        rw [CD] at hB
        by_cases hbb : b = E.H.length
        · rw [if_pos hbb] at hB; cases hB
        · rw [if_neg hbb] at hB; exact h.heap.lvl b l n z hB
      dm := h.heap.dm
      inj := by
        intro b b' h1 h2 he
        rw [CD] at h1 h2
        rw [Ct, Ct] at he
        by_cases hb1 : b = E.H.length <;> by_cases hb2 : b' = E.H.length
        · omega
        · rw [if_pos hb1, if_neg hb2] at he
          rw [if_neg hb2] at h2
          exact absurd he.symm (hgl b' h2)
        · rw [if_neg hb1, if_pos hb2] at he
          rw [if_neg hb1] at h1
          exact absurd he (hgl b h1)
        · rw [if_neg hb1, if_neg hb2] at he
          rw [if_neg hb1] at h1
          rw [if_neg hb2] at h2
          exact h.heap.inj b b' h1 h2 he
      maps := by
        intro b BJ hB
        rw [CD] at hB
        rw [Ct]
        by_cases hbb : b = E.H.length
        · rw [if_pos hbb] at hB; cases hB
        · rw [if_neg hbb] at hB ⊢; exact h.heap.maps b BJ hB
      Bb := by
        intro x hx
        obtain ⟨hx1, hx2⟩ := JN.1 hx
        refine ⟨(h.heap.Bb x hx1).1, fun b hl => ?_⟩
        rw [CD] at hl
        rw [Ct]
        by_cases hbb : b = E.H.length
        · rw [if_pos hbb]; exact fun e => hx2 e.symm
        · rw [if_neg hbb] at hl ⊢; exact (h.heap.Bb x hx1).2 b hl }
  · rw [List.getElem?_append_left (by omega)]
    exact h.kept b hb2 hl
  · refine p4 _ _ ?_ ?_ fun l n z => ?_
    · rw [Ct, if_pos (by rw [h.H])]
    · show H.length < E.n + 1; rw [h.n]; omega
    · rw [CD, if_pos (by rw [h.H])]; simp
end
section
variable {c : Cx} {E : AZ} {S : St} {a : Act} {o : Oper}
theorem Oj (ts : Array Value) (d i : Nat) (v u : Value) : (ts.setIfInBounds d v).getD i u = if i = d ∧ d < ts.size then v else ts.getD i u := by
 simp only [Array.getD_eq_getD_getElem?, Array.getElem?_setIfInBounds]
 by_cases h : d = i
 ·subst h
  by_cases h2 : d < ts.size
  ·simp [h2]
  ·simp [h2]
 ·rw [if_neg h, if_neg (fun e => h e.1.symm)]
theorem Cc.next (hs : Cc c E S a) {E' : AZ} {H' : A3} (ha : B8 c E E' H') {T : Nat → V} {ts : Array Value} {ds : List Deferred} (hT : ∀ i, AA E' (T i) (ts.getD i undef)) (hsz : ts.size = a.tmps.size) : Cc c E' { T, H := H' } { tmps := ts, defers := ds } where
  H := ha.H
  lk := by rw [ha.Ch.lk, hs.lk]
  n := ha.n
  m := by rw [ha.m, hs.m]
  tmps := hT
  size := hsz.trans hs.size
  heap := ha.heap
  base := by have := hs.base; have h1 := hs.n; have h2 := ha.n; have h3 := ha.Ch.len; show _ ≤ H'.length; omega
  Dk := hs.Dk
  deep := hs.deep
theorem Cc.put (hs : Cc c E S a) {E' : AZ} {H' : A3} (ha : B8 c E E' H') {d : Nat} {v : V} {u : Value} (hd : d < c.ntmps) (hr : AA E' v u) : Cc c E' (({ S with H := H' } : St).set d v) (a.put (some d) u) := by
 refine Cc.next hs ha (fun i => ?_) (by simp)
 rw [Oj]
 show AA E' (if i = d then v else S.T i) _
 by_cases h : i = d
 ·rw [if_pos h, if_pos ⟨h, by rw [hs.size]; exact hd⟩]; exact hr
 ·rw [if_neg h, if_neg (fun e => h e.1)]; exact ha.Ch.rep hs.heap _ _ (hs.tmps i)
theorem Cc.stay (hs : Cc c E S a) {E' : AZ} {H' : A3} (ha : B8 c E E' H') : Cc c E' { S with H := H' } a := by
 refine Cc.next (ds := a.defers) hs ha (fun i => ha.Ch.rep hs.heap _ _ (hs.tmps i)) rfl
theorem V0 (hs : Cc c E S a) (hΓ : Ga c.P c.hints c.Γ) (hd : a.defers = []) {S' : St} (h : Iq c o S = some S') {next : Act → World → Prop} {Q : Exit → Act → World → Prop}
  (hn : ∀ E' a', Cc c E' S' a' → B8 c E E' S'.H → a'.defers = [] → next a' E'.w) : o.wp c.P a E.w next Q := by
 unfold Iq at h
 split at h
 ·rename_i hdst
  simp only [Option.map_eq_some_iff, Prod.exists] at h
  obtain ⟨v, H', hop, rfl⟩ := h
  refine VE hs hΓ hop next Q fun E' u ha hr => ?_
  rw [hdst]
  exact hn E' a (Cc.stay hs ha) ha hd
 ·rename_i d hdst
  split at h
  case isFalse => cases h
  rename_i hlt
  simp only [Option.map_eq_some_iff, Prod.exists] at h
  obtain ⟨v, H', hop, rfl⟩ := h
  refine VE hs hΓ hop next Q fun E' u ha hr => ?_
  rw [hdst]
  exact hn E' _ (Cc.put hs ha hlt hr) ha hd
theorem SE (hs : Cc c E S a) {ops : Array Oper} {b : Bool} (h : D0 ops S.T o = some b) : Region.wanted o (yielded ops a.tmps) = b := by
 unfold D0 at h
 unfold Region.wanted
 split at h
 ·rename_i hg
  rw [hg]
  simpa using h
 ·rename_i j want hg
  rw [hg]
  split at h
  ·rename_i t ht
   have hr := hs.tmps t
   simp only [yielded, ht, Option.bind_some]
   split at h
   ·rename_i b' hb
    simp only [Option.some.injEq] at h
    rw [hb] at hr
    simp only [AA] at hr
    have : a.tmps[t]? = some (.bool b') := by
     rw [Array.getD_eq_getD_getElem?] at hr
     cases h2 : a.tmps[t]? with
     | none => rw [h2] at hr; simp [undef] at hr
     | some x => rw [h2] at hr; simp only [Option.getD_some] at hr; rw [hr]
    rw [this]
    simpa using h
   ·rename_i hb
    simp only [Option.some.injEq] at h
    subst h
    rw [hb] at hr
    simp only [AA] at hr
    obtain ⟨vs, hv, hvs⟩ := hr
    simp only [AP] at hvs
    rw [Array.getD_eq_getD_getElem?] at hv
    cases h2 : a.tmps[t]? with
    | none => simp
    | some x =>
     rw [h2] at hv
     simp only [Option.getD_some] at hv
     rw [hv]
     simp
   ·cases h
  ·cases h
theorem MZ (E : AZ) : AA E Ca undef := by
 simp only [Ca, AA]
 exact ⟨#[], rfl, by simp only [AP]⟩
theorem Cc.BF (hs : Cc c E S a) (s k : Bool) : Cc (c.BF s k) E S a := ⟨hs.H, hs.lk, hs.n, hs.m, hs.tmps, hs.size, hs.heap, hs.base, hs.Dk, hs.deep⟩
theorem Cc.V4 {s k : Bool} (hs : Cc (c.BF s k) E S a) : Cc c E S a := ⟨hs.H, hs.lk, hs.n, hs.m, hs.tmps, hs.size, hs.heap, hs.base, hs.Dk, hs.deep⟩
theorem B8.V4 {s k : Bool} {E' : AZ} {H' : A3} (h : B8 (c.BF s k) E E' H') : B8 c E E' H' := ⟨h.H, h.n, h.m, h.Ch, h.heap, h.Hn, h.IK, h.kept⟩
theorem L6 (hs : Cc c E S a) (hΓ : Ga c.P c.hints c.Γ) (hd : a.defers = []) {s k : Bool} {ops : Array Oper} {S' : St} (h : CW (c.BF s k) ops o S = some S') {next : Act → World → Prop} {Q : Exit → Act → World → Prop}
  (hn : ∀ E' a', Cc c E' S' a' → B8 c E E' S'.H → a'.defers = [] → next a' E'.w) :
  if Region.wanted o (yielded ops a.tmps) then o.wp c.P a E.w next Q ∧ (∃ r, CU (c.BF s k) o S = some r) else next (a.put o.dst undef) E.w := by
 unfold CW at h
 simp only [Option.bind_eq_some_iff] at h
 obtain ⟨b, hb, h1⟩ := h
 rw [SE hs hb]
 cases b with
 | true =>
  rw [if_pos rfl] at h1 ⊢
  refine ⟨V0 (c := c.BF s k) (hs.BF s k) hΓ hd h1 fun E1 a1 hs1 ha1 hd1 => hn E1 a1 hs1.V4 ha1.V4 hd1, ?_⟩
  unfold Iq at h1
  split at h1
  ·simp only [Option.map_eq_some_iff] at h1; exact ⟨_, h1.choose_spec.1⟩
  ·split at h1
   ·simp only [Option.map_eq_some_iff] at h1; exact ⟨_, h1.choose_spec.1⟩
   ·cases h1
 | false =>
  simp only [Bool.false_eq_true, if_false] at h1 ⊢
  split at h1
  ·rename_i d hdst
   split at h1
   case isFalse => cases h1
   rename_i hlt
   simp only [Option.some.injEq] at h1
   subst h1
   rw [hdst]
   exact hn E _ (Cc.put hs (B8.refl hs) hlt (MZ E)) (show B8 c E E S.H from B8.refl hs) hd
  ·rename_i hdst
   simp only [Option.some.injEq] at h1
   subst h1
   rw [hdst]
   exact hn E a hs (B8.refl hs) hd
theorem Sq (hs : Cc c E S a) (hΓ : Ga c.P c.hints c.Γ) (hd : a.defers = []) {s k : Bool} {ops : Array Oper} {S' : St} (h : CW (c.BF s k) ops o S = some S') {next : Act → World → Prop} {Q : Exit → Act → World → Prop}
  (hn : ∀ E' a', Cc c E' S' a' → B8 c E E' S'.H → a'.defers = [] → next a' E'.w) :
  if Region.wanted o (yielded ops a.tmps) then o.wp c.P a E.w next Q ∨ (o.asks c.P a E.w ∧ LetsOut Q) else next (a.put o.dst undef) E.w := by
 have := L6 hs hΓ hd h (Q := Q) hn
 split
 ·rename_i hw; rw [if_pos hw] at this; exact .inl this.1
 ·rename_i hw; rw [if_neg hw] at this; exact this
def Dz (a : Act) (ps : List (Nat × Value)) : Act := ps.foldl (fun a p => a.put (some p.1) p.2) a
theorem Fl (a : Act) (p : Nat × Value) (ps : List (Nat × Value)) : Dz a (p :: ps) = Dz (a.put (some p.1) p.2) ps := rfl
theorem Un (a : Act) (ps : List (Nat × Value)) (p : Nat × Value) : Dz a (ps ++ [p]) = (Dz a ps).put (some p.1) p.2 := by simp [Dz]
theorem Jp {dst : Option Nat} {v : Value} : ∀ (ps : List (Nat × Value)) (a : Act), (∀ p ∈ ps, dst ≠ some p.1) → Dz (a.put dst v) ps = (Dz a ps).put dst v
 | [], _, _ => rfl
 | p :: ps, a, h => by
  rw [Fl, Fl, ← Jp ps _ fun q hq => h q (List.mem_cons_of_mem _ hq), Act.put_comm a v p.2]
  intro d hd e
  exact h p (List.mem_cons_self ..) (by rw [hd, e])
theorem Lm {ops : Array Oper} {o : Oper} (hsel : ∀ cs b, o.op ≠ .select cs b) : ∀ (ps : List (Nat × Value)) (a : Act), (∀ p ∈ ps, p.1 ∉ o.looksAt ops) → execOp (Dz a ps).eval o = execOp a.eval o
 | [], _, _ => rfl
 | p :: ps, a, h => by
  rw [Fl, Lm hsel ps _ fun q hq => h q (List.mem_cons_of_mem _ hq)]
  exact execOp_put (ops := ops) o hsel a (some p.1) p.2 fun d hd => by cases hd; exact h p (List.mem_cons_self ..)
theorem My {ops : Array Oper} {o : Oper} : ∀ (ps : List (Nat × Value)) (a : Act), (∀ p ∈ ps, p.1 ∉ o.looksAt ops) → Region.wanted o (yielded ops (Dz a ps).tmps) = Region.wanted o (yielded ops a.tmps)
 | [], _, _ => rfl
 | p :: ps, a, h => by
  rw [Fl, My ps _ fun q hq => h q (List.mem_cons_of_mem _ hq)]
  exact wanted_put o a (some p.1) p.2 fun d hd => by cases hd; exact h p (List.mem_cons_self ..)
theorem LQ : ∀ (ps : List (Nat × Value)) (a : Act) (d : Deferred), Dz { a with defers := d :: a.defers } ps = { Dz a ps with defers := d :: (Dz a ps).defers }
 | [], _, _ => rfl
 | p :: ps, a, d => by
  rw [Fl, Fl, ← LQ ps]
  rfl
theorem cD {ops : Array Oper} {P : Program} {o : Oper} {w : World} (hsel : ∀ cs b, o.op ≠ .select cs b) {ps : List (Nat × Value)} {a : Act} (h1 : ∀ p ∈ ps, p.1 ∉ o.looksAt ops) (h2 : ∀ p ∈ ps, o.dst ≠ some p.1) {next next' : Act → World → Prop} {Q : Exit → Act → World → Prop}
  (hn : ∀ a' w', next a' w' → next' (Dz a' ps) w') (h : o.wp P a w next (fun _ _ _ => False)) : o.wp P (Dz a ps) w next' Q := by
 unfold Oper.wp at *
 rw [Lm hsel ps a h1]
 generalize (execOp a.eval o).run P w = r at *
 have hput : ∀ a v, (Dz a ps).put o.dst v = Dz (a.put o.dst v) ps := fun a v => (Jp ps a h2).symm
 cases r with
 | ok n w' =>
  cases n <;> simp only [Oper.upon] at h ⊢
  case value u => rw [hput]; exact hn _ _ h
  case skip => rw [hput]; exact hn _ _ h
  case defer d => rw [← LQ, hput]; exact hn _ _ h
  case enter f args =>
   refine Calls.mono h fun e w'' he => ?_
   cases e with
   | returned u => simp only [] at he ⊢; rw [hput]; exact hn _ _ he
   | panicked c => exact he.elim
   | outgrown => obtain ⟨_, _, h⟩ := he; exact h.elim
  case row row args => exact Rows.mono h fun u w'' he => by rw [hput]; exact hn _ _ he
 | halt x w' =>
  cases x <;> simp only [Oper.upon] at h
theorem QT {ops : Array Oper} {Q : Exit → Act → World → Prop} {cf : Nat → Cx} (hcf : ∀ i, ∃ s k, cf i = c.BF s k) : ∀ (l : List Nat) {E : AZ} {S : St} {a : Act} (hs : Cc c E S a) (hΓ : Ga c.P c.hints c.Γ) (hd : a.defers = []) {S' : St} (h : DT cf ops l S = some S')
  (hn : ∀ E' a', Cc c E' S' a' → B8 c E E' S'.H → a'.defers = [] → Q .normal a' E'.w), wpOps c.P ops Q l a E.w
 | [], E, S, a, hs, _, hd, S', h, hn => by
  simp only [DT, Option.some.injEq] at h
  subst h
  exact hn E a hs (B8.refl hs) hd
 | i :: rest, E, S, a, hs, hΓ, hd, S', h, hn => by
  simp only [DT] at h
  simp only [wpOps]
  split at h
  ·cases h
  ·rename_i o ho
   simp only [Option.bind_eq_some_iff] at h
   obtain ⟨S1, h1, h2⟩ := h
   obtain ⟨s, k, hc⟩ := hcf i
   rw [hc] at h1
   simp only [ho]
   exact Sq hs hΓ hd h1 fun E1 a1 hs1 ha1 hd1 => QT hcf rest hs1 hΓ hd1 h2 fun E' a' hs' ha' hd' => hn E' a' hs' (ha1.trans ha') hd'
theorem YC {p : Nat → Prop} : ∀ n, p n → ∃ k, p k ∧ ∀ j, p j → k ≤ j := by
 intro n
 induction n using Nat.strongRecOn with
 | _ n ih =>
  intro hn
  by_cases h : ∃ m, m < n ∧ p m
  ·obtain ⟨m, hm, hp⟩ := h
   exact ih m hm hp
  ·exact ⟨n, hn, fun j hj => Nat.le_of_not_lt fun hlt => h ⟨j, hlt, hj⟩⟩
theorem J2 {ops : Array Oper} (h : Lh ops = true) :
  (∀ i, i < ops.size → i ∈ Q1 ops) ∧ (∀ i ∈ Q1 ops, i < ops.size) ∧ (∀ i, i < ops.size → (∀ e ∈ HU ops i, e < i) ∧ ∀ j ∈ (Gy ops).getD i [], ∃ e ∈ HU ops i, e = j ∨ j ∈ (Gy ops).getD e []) ∧ Cj ops (Gy ops) (Q1 ops) = true := by
 unfold Lh at h
 simp only [Bool.and_eq_true, List.all_eq_true, List.mem_range, List.contains_eq_mem, decide_eq_true_eq, List.any_eq_true, Bool.or_eq_true, beq_iff_eq] at h
 obtain ⟨⟨⟨h1, h2⟩, h3⟩, h4⟩ := h
 exact ⟨h1, h2, h3, h4⟩
theorem Ft {ops : Array Oper} {tab : List (List Nat)} : ∀ {l l' : List Nat}, l'.Sublist l → Cj ops tab l = true → Cj ops tab l' = true
 | _, _, .slnil, h => h
 | _, _, .cons a s, h => by
  simp only [Cj, Bool.and_eq_true] at h
  exact Ft s h.2
 | _, _, .cons_cons a s, h => by
  simp only [Cj, Bool.and_eq_true, List.all_eq_true] at h ⊢
  exact ⟨fun i hi => h.1 i (s.subset hi), Ft s h.2⟩
def Nc (ops : Array Oper) (tab : List (List Nat)) (j i : Nat) : Prop :=
 i ≠ j ∧ i ∉ tab.getD j [] ∧ (j ∈ tab.getD i [] ∨ MN ops tab j i = true ∨ ∃ x y, ops[j]? = some x ∧ ops[i]? = some y ∧ Ia ops x y = true ∧ (Gr x = true → EI y = true → K8 ops tab i = true))
theorem QU {ops : Array Oper} {tab : List (List Nat)} {j : Nat} {r : List Nat} (h : Cj ops tab (j :: r) = true) : ∀ i ∈ r, Nc ops tab j i := by
 intro i hi
 simp only [Cj, Bool.and_eq_true, List.all_eq_true] at h
 obtain ⟨q1, q2⟩ := h.1 i hi
 simp only [bne_iff_ne, ne_eq, Bool.not_eq_true', List.contains_eq_mem, decide_eq_false_iff_not] at q1
 refine ⟨q1.1, q1.2, ?_⟩
 simp only [Bool.or_eq_true, List.contains_eq_mem, decide_eq_true_eq] at q2
 rcases q2 with (q2 | q2) | q2
 ·exact .inl q2
 ·exact .inr (.inl q2)
 ·refine .inr (.inr ?_)
  split at q2
  ·rename_i x y hx hy
   simp only [Bool.and_eq_true, Bool.or_eq_true, Bool.not_eq_true'] at q2
   refine ⟨x, y, hx, hy, q2.1, fun hl hc => ?_⟩
   rcases q2.2 with (q3 | q3) | q3
   ·rw [hl] at q3; cases q3
   ·rw [hc] at q3; cases q3
   ·exact q3
  ·cases q2
theorem LM {ops : Array Oper} {tab : List (List Nat)} {i : Nat} {r2 : List Nat} : ∀ {r1 : List Nat}, Cj ops tab (r1 ++ i :: r2) = true → (∀ j ∈ r1, Nc ops tab j i) ∧ ∀ m ∈ r2, Nc ops tab i m
 | [], h => ⟨fun j hj => absurd hj (by simp), QU h⟩
 | j :: r1, h => by
  have h1 := QU h
  simp only [List.cons_append, Cj, Bool.and_eq_true] at h
  obtain ⟨k1, k2⟩ := LM h.2
  refine ⟨fun j' hj' => ?_, k2⟩
  rcases List.mem_cons.1 hj' with rfl | hj'
  ·exact h1 i (by simp)
  ·exact k1 j' hj'
theorem JU {ops : Array Oper} {tab : List (List Nat)} {j m : Nat} (h : MN ops tab j m = true) : ∃ x y d, ops[j]? = some x ∧ ops[m]? = some y ∧ L9 y = true ∧ y.guard = none ∧ y.dst = some d ∧ Oper.apart ops x y = true ∧ Oper.apart ops y x = true ∧ ∀ k, k < ops.size → m ∈ tab.getD k [] → j ∈ tab.getD k [] := by
 unfold MN at h
 split at h
 case h_2 => cases h
 rename_i x y hx hy
 simp only [Bool.and_eq_true, Bool.not_eq_true', List.contains_eq_mem, decide_eq_false_iff_not, List.all_eq_true, List.mem_range, Bool.or_eq_true, decide_eq_true_eq] at h
 obtain ⟨⟨⟨⟨⟨h1, h2⟩, h3⟩, h4⟩, h5⟩, h6⟩ := h
 have hg : y.guard = none := by cases hh : y.guard with | none => rfl | some _ => rw [hh] at h2; cases h2
 obtain ⟨d, hd⟩ : ∃ d, y.dst = some d := by cases hh : y.dst with | some d => exact ⟨d, rfl⟩ | none => rw [hh] at h3; cases h3
 exact ⟨x, y, d, hx, hy, h1, hg, hd, h4, h5, fun k hk hm => (h6 k hk).resolve_left (fun e => e hm)⟩
theorem V2 {ops : Array Oper} {x y : Oper} (h : Ia ops x y = true) : Oper.apart ops x y = true ∧ Oper.apart ops y x = true := by
 unfold Ia at h
 simp only [Bool.and_eq_true] at h
 exact h.1
theorem Nc.apart {ops : Array Oper} {tab : List (List Nat)} {j i : Nat} (h : Nc ops tab j i) (hn : j ∉ tab.getD i []) : ∃ x y, ops[j]? = some x ∧ ops[i]? = some y ∧ Oper.apart ops x y = true ∧ Oper.apart ops y x = true := by
 rcases h.2.2 with h | h | ⟨x, y, h1, h2, h3, _⟩
 ·exact absurd h hn
 ·obtain ⟨x, y, _, h1, h2, _, _, _, h3, h4, _⟩ := JU h
  exact ⟨x, y, h1, h2, h3, h4⟩
 ·exact ⟨x, y, h1, h2, V2 h3⟩
theorem Cm {ops : Array Oper} {tab : List (List Nat)} : ∀ {l : List Nat}, Cj ops tab l = true → l.Nodup
 | [], _ => List.nodup_nil
 | j :: l, h => by
  simp only [Cj, Bool.and_eq_true, List.all_eq_true, bne_iff_ne, ne_eq] at h
  rw [List.nodup_cons]
  exact ⟨fun hx => (h.1 j hx).1.1 rfl, Cm h.2⟩
theorem QQ {ops : Array Oper} {i e : Nat} {o : Oper} (ho : ops[i]? = some o) : e ∈ HU ops i ↔ ∃ d ∈ o.after, Region.binds .any d = true ∧ d.on = e := by
 unfold HU
 rw [ho]
 simp only [List.mem_map, List.mem_filter, Array.mem_toList_iff]
 constructor
 ·rintro ⟨d, ⟨h1, h2⟩, h3⟩; exact ⟨d, h1, h2, h3⟩
 ·rintro ⟨d, h1, h2, h3⟩; exact ⟨d, ⟨h1, h2⟩, h3⟩
theorem G3 {listed : Array Bool} {i : Nat} (h : i < listed.size) (b b' : Bool) : listed.getD i b = listed.getD i b' := by
 simp [Array.getD_eq_getD_getElem?, h]
structure Pd where
 m : Nat
 d : Nat
 u : Value
 g : Nat
structure mF (c : Cx) (ops : Array Oper) (E0 E : AZ) (S : St) (listed : Array Bool) (r : List Nat) (p : Pd) : Prop where
 op : ∃ o, ops[p.m]? = some o ∧ o.guard = none ∧ o.dst = some p.d ∧ ∃ v sz cs, (∀ H2, CU (Es c ops p.m) o ⟨S.T, H2⟩ = some (v H2.length, H2 ++ [.cells sz cs])) ∧ Wz E.w p.u p.g v cs
 Bb : p.g ∈ E.Bb
 new : E0.w.heap.size ≤ p.g
 Ud : p.g ∉ E0.Bb
 mem : p.m ∈ r
 done : listed.getD p.m true = true
 gN : ∀ j ∈ (Gy ops).getD p.m [], j ∉ r
def Ke (ops : Array Oper) (r : List Nat) (m : Nat) : Prop := ∃ r1 r2 b, r = r1 ++ m :: r2 ∧ b ∈ r1 ∧ MN ops (Gy ops) b m = true
theorem JL {α : Type} {x y : α} {l r : List α} (h : x ∈ l ++ r) : x ∈ l ++ y :: r := (List.Sublist.append (List.Sublist.refl l) (List.sublist_cons_self y r)).subset h
theorem IT {α : Type} {x y : α} {l r : List α} (h : x ∈ l ++ y :: r) (hn : x ≠ y) : x ∈ l ++ r := by
 rcases List.mem_append.1 h with h | h
 ·exact List.mem_append_left _ h
 ·rcases List.mem_cons.1 h with h | h
  ·exact absurd h hn
  ·exact List.mem_append_right _ h
theorem Uy {r1 r2 r1' r2' : List Nat} {m : Nat} (hn : (r1 ++ m :: r2).Nodup) (h : r1 ++ m :: r2 = r1' ++ m :: r2') : r1 = r1' ∧ r2 = r2' := by
 induction r1 generalizing r1' with
 | nil =>
  cases r1' with
  | nil => simpa using h
  | cons x xs =>
   simp only [List.nil_append, List.cons_append, List.cons.injEq] at h
   obtain ⟨rfl, h⟩ := h
   simp only [List.nil_append, List.nodup_cons] at hn
   exact absurd (by rw [h]; simp) hn.1
 | cons y ys ih =>
  cases r1' with
  | nil =>
   simp only [List.nil_append, List.cons_append, List.cons.injEq] at h
   obtain ⟨rfl, h⟩ := h
   simp only [List.cons_append, List.nodup_cons] at hn
   exact absurd (by simp) hn.1
  | cons x xs =>
   simp only [List.cons_append, List.cons.injEq] at h
   obtain ⟨rfl, h⟩ := h
   simp only [List.cons_append, List.nodup_cons] at hn
   obtain ⟨h1, h2⟩ := ih hn.2 h
   exact ⟨by rw [h1], h2⟩
theorem cS {cf : Nat → Cx} {ops : Array Oper} {t : Nat} : ∀ (l : List Nat) {S S' : St}, DT cf ops l S = some S' → (∀ j ∈ l, ∀ o, ops[j]? = some o → o.dst ≠ some t) → S'.T t = S.T t
 | [], S, S', h, _ => by simp only [DT, Option.some.injEq] at h; rw [h]
 | j :: l, S, S', h, hj => by
  unfold DT at h
  split at h
  ·cases h
  rename_i o ho
  simp only [Option.bind_eq_some_iff] at h
  obtain ⟨S1, h1, h2⟩ := h
  rw [cS l h2 fun k hk => hj k (List.mem_cons_of_mem _ hk)]
  have hd := hj j (List.mem_cons_self ..) o ho
  rw [EU] at h1
  simp only [Option.bind_eq_some_iff] at h1
  obtain ⟨v, _, h1⟩ := h1
  split at h1
  case isFalse => cases h1
  simp only [Option.some.injEq] at h1
  subst h1
  unfold N2
  cases hh : o.dst with
  | none => rfl
  | some d =>
   show (if t = d then _ else _) = _
   rw [if_neg]
   rintro rfl
   exact hd hh
theorem Vb {cf : Nat → Cx} {ops : Array Oper} : ∀ (l l' : List Nat) {S S' : St}, DT cf ops (l ++ l') S = some S' → ∃ S1, DT cf ops l S = some S1 ∧ DT cf ops l' S1 = some S'
 | [], l', S, S', h => ⟨S, rfl, h⟩
 | j :: l, l', S, S', h => by
  simp only [List.cons_append, DT] at h ⊢
  split at h
  ·cases h
  rename_i o ho
  simp only [Option.bind_eq_some_iff] at h
  obtain ⟨S1, h1, h2⟩ := h
  obtain ⟨S2, h3, h4⟩ := Vb l l' h2
  exact ⟨S2, by simp only [h1, Option.bind_some, h3], h4⟩
theorem PC {cx : Cx} {ops : Array Oper} {o : Oper} {d : Nat} {S S1 : St} (hg : o.guard = none) (hd : o.dst = some d) (h : CW cx ops o S = some S1) : d < cx.ntmps ∧ ∃ v H', CU cx o S = some (v, H') ∧ S1 = ({ S with H := H' } : St).set d v := by
 unfold CW D0 at h
 rw [hg] at h
 simp only [Option.bind_some, if_true] at h
 unfold Iq at h
 rw [hd] at h
 simp only [] at h
 split at h
 case isFalse => cases h
 rename_i hlt
 simp only [Option.map_eq_some_iff, Prod.exists] at h
 obtain ⟨v, H', h1, h2⟩ := h
 exact ⟨hlt, v, H', h1, h2.symm⟩
structure ZF (c : Cx) (ops : Array Oper) (E0 : AZ) (S' : St) (fuel : Nat) (listed : Array Bool) (r : List Nat) (pend : List Pd) (E : AZ) (S : St) (a A : Act) : Prop where
 size : listed.size = ops.size
 count : fuel + pend.length = r.length
 left : ∀ i, i ∈ r ↔ i < ops.size ∧ (listed.getD i true = false ∨ i ∈ pend.map (·.m))
 Gt : Cj ops (Gy ops) r = true
 down : ∀ e, listed.getD e false = true → ∀ j ∈ (Gy ops).getD e [], listed.getD j false = true
 IZ : Cc c E S a
 defers : a.defers = []
 act : A = Dz a (pend.map fun p => (p.d, p.u))
 rest : DT (Es c ops) ops r S = some S'
 after : B8 c E0 E S.H
 Rx : ∀ p ∈ pend, mF c ops E0 E S listed r p
 nodup : (pend.map (·.m)).Nodup
 gs : (pend.map (·.g)).Nodup
theorem ZF.blocked {E0 : AZ} {S' : St} {fuel : Nat} {ops : Array Oper} {listed : Array Bool} {r : List Nat} {pend : List Pd} {A : Act} (h : ZF c ops E0 S' fuel listed r pend E S a A) (hb : ∀ p ∈ pend, Ke ops r p.m) : ∀ (n : Nat) (p : Pd), p ∈ pend → (∃ r1 r2, r = r1 ++ p.m :: r2 ∧ r1.length = n) → ∃ b ∈ r, listed.getD b true = false ∧ ∀ k, k < ops.size → p.m ∈ (Gy ops).getD k [] → b ∈ (Gy ops).getD k [] := by
 intro n
 induction n using Nat.strongRecOn with
 | _ n ih =>
  rintro p hp ⟨r1, r2, hr, hl⟩
  obtain ⟨q1, q2, b, hq, hb1, hb2⟩ := hb p hp
  have hnd := Cm h.Gt
  obtain ⟨rfl, rfl⟩ := Uy (by rw [← hr]; exact hnd) (hr.symm.trans hq)
  obtain ⟨_, _, _, _, _, _, _, _, _, _, hk⟩ := JU hb2
  have hbr : b ∈ r := by rw [hr]; simp [hb1]
  rcases ((h.left b).1 hbr).2 with hl2 | hl2
  ·exact ⟨b, hbr, hl2, hk⟩
  ·obtain ⟨q, hq1, rfl⟩ := List.mem_map.1 hl2
   obtain ⟨s1, s2, rfl⟩ := List.append_of_mem hb1
   obtain ⟨b', h1, h2, h3⟩ := ih s1.length (by rw [← hl]; simp) q hq1 ⟨s1, s2 ++ p.m :: r2, by rw [hr]; simp, rfl⟩
   exact ⟨b', h1, h2, fun k hk1 hk2 => h3 k hk1 (hk k hk1 hk2)⟩
theorem MH {c : Cx} {ops : Array Oper} {o : Oper} {T T' : Nat → V} {H : A3} (h : ∀ t ∈ o.looksAt ops, T t = T' t) : CU c o { T := T, H := H } = CU c o { T := T', H := H } := by
  refine QS c o fun x hx => ?_
  cases x with
  | tmp t =>
    have : t ∈ o.looksAt ops := List.mem_append_left _ (List.mem_filterMap.2 ⟨.tmp t, by simpa using hx, rfl⟩)
    simp only [ev, h t this]
  | _ => rfl
theorem kP {d : Option Nat} {x : V × A3} {S : St} {t : Nat} (h : d ≠ some t) : (N2 d x S).T t = S.T t := by
 unfold N2
 cases d with
 | none => rfl
 | some d =>
  show (if t = d then _ else _) = _
  rw [if_neg]
  rintro rfl
  exact h rfl
theorem ZF.settle {E0 : AZ} {S' : St} {ops : Array Oper} (hK : Fb c.Γ) {listed : Array Bool} {A : Act} {fuel : Nat} {R : World → Prop} : ∀ (n : Nat) {r : List Nat} {pend : List Pd} {E : AZ} {S : St} {a : Act}, pend.length = n → ZF c ops E0 S' fuel listed r pend E S a A →
    (∀ r pend E1 S a, ZF c ops E0 S' fuel listed r pend E1 S a A → (∀ p ∈ pend, Ke ops r p.m) → E1.w = E.w → R E1.w) → R E.w
  | n, r, pend, E, S, a, hlen, h, hR => by
    by_cases hall : ∀ p ∈ pend, Ke ops r p.m
    · exact hR r pend E S a h hall rfl
    have : ∃ p, p ∈ pend ∧ ¬ Ke ops r p.m := Classical.byContradiction fun hx => hall fun p hp => Classical.byContradiction fun hy => hx ⟨p, hp, hy⟩
    obtain ⟨p, hp, hnb⟩ := this
    obtain ⟨pa, pb, rfl⟩ := List.append_of_mem hp
    have hpo := h.Rx p hp
    obtain ⟨o, ho, hog, hod, v, sz, cs, hop, hpd⟩ := hpo.op
    obtain ⟨r1, r2, rfl⟩ := List.append_of_mem hpo.mem
    obtain ⟨p1, p2⟩ := LM h.Gt
    have hnd := Cm h.Gt
    have hbub := Tk (c := c) hK (cf := Es c ops) (fun i => ⟨_, rfl⟩) ho (r2 := r2) r1 h.IZ.base h.rest fun j hj => by
      rcases (p1 j hj).2.2 with h1 | h1 | ⟨x, y, hx, hy, hsw, hc⟩
      · exact absurd (by simp [hj]) (hpo.gN j h1)
      · exact absurd ⟨r1, r2, j, rfl, hj, h1⟩ hnb
      · rw [ho] at hy
        simp only [Option.some.injEq] at hy
        subst hy
        exact ⟨x, hx, hsw, hc⟩
    simp only [DT, ho, Option.bind_eq_some_iff] at hbub
    obtain ⟨S1, g1, g2⟩ := hbub
    obtain ⟨hlt, v1, H1, h1, rfl⟩ := PC hog hod g1
    have hSe : (⟨S.T, S.H⟩ : St) = S := rfl
    have hop1 := hop S.H
    rw [hSe, h1] at hop1
    simp only [Option.some.injEq, Prod.mk.injEq] at hop1
    obtain ⟨rfl, rfl⟩ := hop1
    have hEn : E.n = E.H.length := by rw [h.after.n, h.after.H]
    obtain ⟨ha, hru⟩ := UY h.after h.IZ.base (Nat.le_trans h.after.Ch.len (Nat.le_of_eq h.after.n)) (sz := sz) hpd hpo.Bb hpo.new hpo.Ud
    have hmd : ∀ q ∈ pa ++ pb, q.m ≠ p.m ∧ q.g ≠ p.g ∧ q ∈ pa ++ p :: pb := by
      intro q hq
      have hn1 := h.nodup
      have hn2 := h.gs
      simp only [List.map_append, List.map_cons] at hn1 hn2
      have hmem : q ∈ pa ++ p :: pb := JL hq
      rw [List.nodup_append] at hn1 hn2
      refine ⟨fun e => ?_, fun e => ?_, hmem⟩
      · rcases List.mem_append.1 hq with hq | hq
        · exact hn1.2.2 q.m (List.mem_map_of_mem hq) p.m (List.mem_cons_self ..) e
        · exact (List.nodup_cons.1 hn1.2.1).1 (e ▸ List.mem_map_of_mem hq)
      · rcases List.mem_append.1 hq with hq | hq
        · exact hn2.2.2 q.g (List.mem_map_of_mem hq) p.g (List.mem_cons_self ..) e
        · exact (List.nodup_cons.1 hn2.2.1).1 (e ▸ List.mem_map_of_mem hq)
    have hap : ∀ q ∈ pa ++ pb, ∃ oq, ops[q.m]? = some oq ∧ oq.dst = some q.d ∧ p.d ∉ oq.looksAt ops ∧ oq.dst ≠ some p.d := by
      intro q hq
      obtain ⟨hq1, hq2, hq3⟩ := hmd q hq
      have hqo := h.Rx q hq3
      obtain ⟨oq, e1, e2, e3, _⟩ := hqo.op
      have hqr := hqo.mem
      have hkey : ∃ x y, ops[q.m]? = some x ∧ ops[p.m]? = some y ∧ Oper.apart ops x y = true ∧ Oper.apart ops y x = true := by
        rcases List.mem_append.1 hqr with hq4 | hq4
        · exact (p1 q.m hq4).apart fun e => absurd hqr (hpo.gN _ e)
        · rcases List.mem_cons.1 hq4 with hq4 | hq4
          · exact absurd hq4 hq1
          · obtain ⟨x, y, k1, k2, k3, k4⟩ := (p2 q.m hq4).apart fun e => absurd hpo.mem (hqo.gN _ e)
            exact ⟨y, x, k2, k1, k4, k3⟩
      obtain ⟨x, y, k1, k2, k3, k4⟩ := hkey
      rw [e1] at k1
      rw [ho] at k2
      simp only [Option.some.injEq] at k1 k2
      subst k1 k2
      obtain ⟨_, w2, w3⟩ := Oper.apart_spec k3
      exact ⟨oq, e1, e3, w3 _ hod, fun e => w2 _ e (by rw [hod])⟩
    let E1 := E.name p.g (.cells sz cs)
    have hsim : Cc c E1 (({ S with H := S.H ++ [.cells sz cs] } : St).set p.d (v S.H.length)) (a.put (some p.d) p.u) := by
      refine
        { H := by show E.H ++ _ = S.H ++ _; rw [h.IZ.H]
          lk := h.IZ.lk
          n := by show E.n + 1 = _; rw [h.IZ.n]; show _ = (S.H ++ [_]).length; simp
          m := h.IZ.m
          tmps := fun i => ?_
          size := by rw [← h.IZ.size]; simp [Act.put]
          heap := ha.heap
          base := by show _ ≤ (S.H ++ [_]).length; have := h.IZ.base; simp; omega
          Dk := h.IZ.Dk
          deep := h.IZ.deep }
      show AA E1 (if i = p.d then _ else S.T i) (((a.tmps).setIfInBounds p.d p.u).getD i undef)
      rw [Oj]
      by_cases hi : i = p.d
      · rw [if_pos hi, if_pos ⟨hi, by rw [h.IZ.size]; exact hlt⟩]; exact hru
      · rw [if_neg hi, if_neg (fun e => hi e.1)]; exact PI hpo.Bb hEn (h.IZ.tmps i)
    refine ZF.settle hK (n - 1) (r := r1 ++ r2) (pend := pa ++ pb) (E := E1) (S := ({ S with H := S.H ++ [.cells sz cs] } : St).set p.d (v S.H.length)) (a := a.put (some p.d) p.u) (by simp at hlen ⊢; omega) ?_ fun r' pend' E2 S2 a2 hm hb he => hR r' pend' E2 S2 a2 hm hb he
    have hcount := h.count
    exact
      { size := h.size
        count := by simp at hcount ⊢; omega
        left := fun i => by
          constructor
          · intro hi
            obtain ⟨k1, k2⟩ := (h.left i).1 (JL hi)
            refine ⟨k1, k2.imp id fun k2 => ?_⟩
            obtain ⟨q, hq, rfl⟩ := List.mem_map.1 k2
            refine List.mem_map_of_mem (IT hq ?_)
            rintro rfl
            have := hnd
            rw [List.nodup_append] at this
            rcases List.mem_append.1 hi with hi | hi
            · exact this.2.2 _ hi _ (List.mem_cons_self ..) rfl
            · exact (List.nodup_cons.1 this.2.1).1 hi
          · rintro ⟨k1, k2⟩
            have hne : i ≠ p.m := by
              rintro rfl
              rcases k2 with k2 | k2
              · rw [hpo.done] at k2; cases k2
              · obtain ⟨q, hq, hqe⟩ := List.mem_map.1 k2
                exact (hmd q hq).1 hqe
            refine IT ((h.left i).2 ⟨k1, k2.imp id fun k2 => ?_⟩) hne
            obtain ⟨q, hq, rfl⟩ := List.mem_map.1 k2
            exact List.mem_map_of_mem (JL hq)
        Gt := Ft (by simp) h.Gt
        down := h.down
        IZ := hsim
        defers := h.defers
        act := by
          rw [h.act]
          simp only [List.map_append, List.map_cons]
          unfold Dz
          rw [List.foldl_append, List.foldl_cons, List.foldl_append]
          congr 1
          show (Dz a (pa.map fun p => (p.d, p.u))).put (some p.d) p.u = Dz (a.put (some p.d) p.u) (pa.map fun p => (p.d, p.u))
          refine (Jp _ _ fun q hq => ?_).symm
          obtain ⟨q', hq', rfl⟩ := List.mem_map.1 hq
          obtain ⟨oq, _, e2, _, e4⟩ := hap q' (List.mem_append_left _ hq')
          intro e
          exact e4 (by rw [e2, ← e])
        rest := g2
        after := ha
        Rx := fun q hq => by
          obtain ⟨hq1, hq2, hq3⟩ := hmd q hq
          have hqo := h.Rx q hq3
          obtain ⟨oq, e1, e2, e3, v2, sz2, cs2, e4, e5⟩ := hqo.op
          obtain ⟨oq', f1, f2, f3, _⟩ := hap q hq
          rw [e1] at f1
          simp only [Option.some.injEq] at f1
          subst f1
          refine ⟨⟨oq, e1, e2, e3, v2, sz2, cs2, fun H2 => ?_, e5⟩, JN.2 ⟨hqo.Bb, hq2⟩, hqo.new, hqo.Ud, ?_, hqo.done, fun j hj hjr => hqo.gN j hj (JL hjr)⟩
          · rw [← e4 H2]
            refine (MH (ops := ops) fun t ht => ?_)
            show (if t = p.d then _ else S.T t) = _
            rw [if_neg]
            rintro rfl
            exact f3 ht
          · exact IT hqo.mem hq1
        nodup := by
          have := h.nodup
          simp only [List.map_append, List.map_cons] at this ⊢
          exact this.sublist (by simp)
        gs := by
          have := h.gs
          simp only [List.map_append, List.map_cons] at this ⊢
          exact this.sublist (by simp) }
  termination_by n => n
  decreasing_by simp at hlen; omega
theorem ZF.apart {E0 : AZ} {S' : St} {fuel : Nat} {ops : Array Oper} {listed : Array Bool} {r : List Nat} {pend : List Pd} {A : Act} (h : ZF c ops E0 S' fuel listed r pend E S a A) {i : Nat} {oi : Oper} (hi : ops[i]? = some oi) (hir : i ∈ r) (hil : listed.getD i true = false) (hanc : ∀ p ∈ pend, p.m ∉ (Gy ops).getD i []) : ∀ p ∈ pend, ∃ op, ops[p.m]? = some op ∧ Oper.apart ops op oi = true ∧ Oper.apart ops oi op = true := by
 intro p hp
 have hpo := h.Rx p hp
 obtain ⟨r1, r2, rfl⟩ := List.append_of_mem hir
 obtain ⟨p1, p2⟩ := LM h.Gt
 have hne : p.m ≠ i := by
  intro e
  have := hpo.done
  rw [e, hil] at this
  cases this
 rcases List.mem_append.1 hpo.mem with hm | hm
 ·obtain ⟨x, y, k1, k2, k3, k4⟩ := (p1 p.m hm).apart (hanc p hp)
  rw [hi] at k2
  simp only [Option.some.injEq] at k2
  subst k2
  exact ⟨x, k1, k3, k4⟩
 ·rcases List.mem_cons.1 hm with hm | hm
  ·exact absurd hm hne
  ·have hsz : p.m < listed.size := by
    rcases Nat.lt_or_ge p.m listed.size with hl | hl
    ·exact hl
    ·rw [h.size] at hl
     obtain ⟨o, ho, _⟩ := hpo.op
     exact absurd (Array.getElem?_eq_some_iff.1 ho).1 (Nat.not_lt.2 hl)
   have hna : i ∉ (Gy ops).getD p.m [] := by
    intro e
    have := h.down p.m (by rw [G3 hsz false true]; exact hpo.done) i e
    have hi2 : i < listed.size := by rw [h.size]; exact (Array.getElem?_eq_some_iff.1 hi).1
    rw [G3 hi2 false true, hil] at this
    cases this
   obtain ⟨x, y, k1, k2, k3, k4⟩ := (p2 p.m hm).apart hna
   rw [hi] at k1
   simp only [Option.some.injEq] at k1
   subst k1
   exact ⟨y, k2, k4, k3⟩
theorem Mw {c : Cx} {o : Oper} {S : St} {r : V × A3} (h : CU c o S = some r) : ∀ cs b, o.op ≠ .select cs b := by
 intro cs b e
 unfold CU at h
 simp only [e] at h
 cases h
theorem J3 {ops : Array Oper} {E0 : AZ} (hh0 : CJ E0) {Q : Exit → Act → World → Prop} (hok : Lh ops = true) (hΓ : Ga c.P c.hints c.Γ) (hK : Fb c.Γ) {S' : St} (hn : ∀ E' a', Cc c E' S' a' → B8 c E0 E' S'.H → a'.defers = [] → Q .normal a' E'.w) : ∀ (fuel : Nat) (listed : Array Bool) (r : List Nat) (pend : List Pd) {E : AZ} {S : St} {a A : Act},
    ZF c ops E0 S' fuel listed r pend E S a A → (∀ p ∈ pend, Ke ops r p.m) → wpAny c.P .any ops Q fuel listed A E.w
  | 0, listed, r, pend, E, S, a, A, h, hb => by
    have hun : ∀ i ∈ r, listed.getD i true = false → False := by
      intro i hi hl
      have hnd := Cm h.Gt
      have hle : pend.length + 1 ≤ r.length := by
        have h1 : (i :: pend.map (·.m)).Nodup := by
          refine List.nodup_cons.2 ⟨fun hm => ?_, h.nodup⟩
          obtain ⟨p, hp, rfl⟩ := List.mem_map.1 hm
          have := (h.Rx p hp).done
          rw [hl] at this
          cases this
        have h2 := List.Nodup.length_le_of_subset h1 (l₂ := r) fun x hx => by
          rcases List.mem_cons.1 hx with rfl | hx
          · exact hi
          · obtain ⟨p, hp, rfl⟩ := List.mem_map.1 hx
            exact (h.Rx p hp).mem
        simpa using h2
      have := h.count
      omega
    have hp0 : pend = [] := by
      cases pend with
      | nil => rfl
      | cons p ps =>
        obtain ⟨r1, r2, hr⟩ := List.append_of_mem (h.Rx p (List.mem_cons_self ..)).mem
        obtain ⟨b, hb1, hb2, _⟩ := h.blocked hb _ p (List.mem_cons_self ..) ⟨r1, r2, hr, rfl⟩
        exact (hun b hb1 hb2).elim
    subst hp0
    have hr0 : r = [] := by
      have := h.count
      exact List.eq_nil_of_length_eq_zero (by simp at this; omega)
    subst hr0
    have hrest := h.rest
    simp only [DT, Option.some.injEq] at hrest
    subst hrest
    have hA : A = a := h.act
    subst hA
    refine ⟨?_, hn E A h.IZ h.after h.defers⟩
    rw [List.eq_nil_iff_forall_not_mem]
    intro i hi
    obtain ⟨h1, o, h2, _⟩ := mem_ready.1 hi
    have := (h.left i).2 ⟨(Array.getElem?_eq_some_iff.1 h2).1, .inl h1⟩
    cases this
  | fuel + 1, listed, r, pend, E, S, a, A, h, hb => by
    obtain ⟨s1, s2, s3, s4⟩ := J2 hok
    have hsz := h.size
    refine ⟨fun hnil => ?_, fun i hi => ?_⟩
    · exfalso
      have hex : ∃ x, x ∈ r ∧ listed.getD x true = false := by
        refine Classical.byContradiction fun hx => ?_
        have hnd := Cm h.Gt
        have := List.Nodup.length_le_of_subset hnd (l₂ := pend.map (·.m)) fun x hxr => by
          rcases ((h.left x).1 hxr).2 with h1 | h1
          · exact absurd ⟨x, hxr, h1⟩ hx
          · exact h1
        have hc := h.count
        simp at this
        omega
      obtain ⟨x, hx⟩ := hex
      obtain ⟨m, hm, hmin⟩ := YC (p := fun k => k ∈ r ∧ listed.getD k true = false) x hx
      obtain ⟨hm1, _⟩ := (h.left m).1 hm.1
      have : m ∈ Region.ready .any ops listed := by
        rw [mem_ready]
        refine ⟨hm.2, ops[m], Array.getElem?_eq_getElem hm1, fun e he hb' => ?_⟩
        have hlt := (s3 m hm1).1 e.on ((QQ (Array.getElem?_eq_getElem hm1)).2 ⟨e, he, hb', rfl⟩)
        cases hl : listed.getD e.on true with
        | false => exact absurd (hmin e.on ⟨(h.left e.on).2 ⟨by omega, .inl hl⟩, hl⟩) (by omega)
        | true => rw [G3 (by omega) false true]; exact hl
      rw [hnil] at this
      cases this
    · obtain ⟨h1, o, ho, h2⟩ := mem_ready.1 hi
      have hlt : i < ops.size := (Array.getElem?_eq_some_iff.1 ho).1
      have hir : i ∈ r := (h.left i).2 ⟨hlt, .inl h1⟩
      have hlist : ∀ e ∈ HU ops i, listed.getD e false = true := by
        intro e he
        obtain ⟨d, hd1, hd2, rfl⟩ := (QQ ho).1 he
        exact h2 d hd1 hd2
      have hanc : ∀ j ∈ (Gy ops).getD i [], listed.getD j false = true := by
        intro j hj
        obtain ⟨e, he, hej⟩ := (s3 i hlt).2 j hj
        rcases hej with rfl | hej
        · exact hlist _ he
        · exact h.down e (hlist e he) j hej
      have hancr : ∀ j ∈ (Gy ops).getD i [], j ∉ r := by
        intro j hj hjr
        rcases ((h.left j).1 hjr) with ⟨hjs, hl | hl⟩
        · have h4 := hanc j hj
          rw [G3 (by omega) false true, hl] at h4
          cases h4
        · obtain ⟨p, hp, rfl⟩ := List.mem_map.1 hl
          obtain ⟨r1, r2, hr⟩ := List.append_of_mem hjr
          obtain ⟨b, hb1, hb2, hb3⟩ := h.blocked hb _ p hp ⟨r1, r2, hr, rfl⟩
          have h4 := hanc b (hb3 i hlt hj)
          rw [G3 (by have := ((h.left b).1 hb1).1; omega) false true, hb2] at h4
          cases h4
      have hap := h.apart ho hir h1 fun p hp e => hancr _ e (h.Rx p hp).mem
      have hl1 : ∀ q ∈ pend.map fun p => (p.d, p.u), q.1 ∉ o.looksAt ops := by
        intro q hq
        obtain ⟨p, hp, rfl⟩ := List.mem_map.1 hq
        obtain ⟨op, k1, k2, _⟩ := hap p hp
        obtain ⟨op', e1, _, e3, _⟩ := (h.Rx p hp).op
        rw [e1] at k1
        simp only [Option.some.injEq] at k1
        subst k1
        exact (Oper.apart_spec k2).1 _ e3
      have hl2 : ∀ q ∈ pend.map fun p => (p.d, p.u), o.dst ≠ some q.1 := by
        intro q hq
        obtain ⟨p, hp, rfl⟩ := List.mem_map.1 hq
        obtain ⟨op, k1, k2, _⟩ := hap p hp
        obtain ⟨op', e1, _, e3, _⟩ := (h.Rx p hp).op
        rw [e1] at k1
        simp only [Option.some.injEq] at k1
        subst k1
        exact (Oper.apart_spec k2).2.1 _ e3
      have hl3 : ∀ p ∈ pend, ∀ d, o.dst = some d → ∃ op, ops[p.m]? = some op ∧ d ∉ op.looksAt ops := by
        intro p hp d hd
        obtain ⟨op, k1, _, k2⟩ := hap p hp
        exact ⟨op, k1, (Oper.apart_spec k2).1 d hd⟩
      have hA := h.act
      subst hA
      obtain ⟨r1, r2, rfl⟩ := List.append_of_mem hir
      obtain ⟨p1, p2⟩ := LM h.Gt
      have hnd := Cm h.Gt
      have hir12 : i ∉ r1 ++ r2 := by
        intro hx
        rw [List.nodup_append] at hnd
        rcases List.mem_append.1 hx with hx | hx
        · exact hnd.2.2 _ hx _ (List.mem_cons_self ..) rfl
        · exact (List.nodup_cons.1 hnd.2.1).1 hx
      have hdown : ∀ e, (listed.setIfInBounds i true).getD e false = true → ∀ j ∈ (Gy ops).getD e [], (listed.setIfInBounds i true).getD j false = true := by
        intro e he j hj
        by_cases hx : i = e
        · subst hx
          exact getD_set_true (hanc j hj)
        · rw [getD_set_ne false hx] at he
          exact getD_set_true (h.down e he j hj)
      have hpm : ∀ p ∈ pend, p.m ≠ i := by
        intro p hp e
        have := (h.Rx p hp).done
        rw [e, h1] at this
        cases this
      have hdone : ∀ p ∈ pend, (listed.setIfInBounds i true).getD p.m true = true := by
        intro p hp
        rw [getD_set_ne true (fun e => hpm p hp e.symm)]
        exact (h.Rx p hp).done
      by_cases hcase : ∃ b ∈ r1, MN ops (Gy ops) b i = true
      ·
        obtain ⟨b, hb1, hb2⟩ := hcase
        obtain ⟨_, o', d, _, ho', hmk, hog, hod, _, _, _⟩ := JU hb2
        rw [ho] at ho'
        simp only [Option.some.injEq] at ho'
        subst ho'
        obtain ⟨Sm, q1, q2⟩ := Vb r1 (i :: r2) h.rest
        simp only [DT, ho, Option.bind_eq_some_iff] at q2
        obtain ⟨S1, q2, _⟩ := q2
        obtain ⟨_, v1, H1, q3, _⟩ := PC hog hod q2
        have hT : ∀ t ∈ o.looksAt ops, Sm.T t = S.T t := by
          intro t ht
          refine cS r1 q1 fun j hj oj hoj e => ?_
          obtain ⟨x, y, k1, k2, k3, _⟩ := (p1 j hj).apart fun e => hancr j e (by simp [hj])
          rw [hoj] at k1
          rw [ho] at k2
          simp only [Option.some.injEq] at k1 k2
          subst k1 k2
          exact (Oper.apart_spec k3).1 t e ht
        obtain ⟨c1, e1, e2⟩ : ∃ vv HH, CU (Es c ops i) o S = some (vv, HH) := by
          have := MH (c := Es c ops i) (ops := ops) (o := o) (H := Sm.H) hT
          rw [show (⟨Sm.T, Sm.H⟩ : St) = Sm from rfl, q3] at this
          unfold L9 at hmk
          split at hmk
          · rename_i t hop
            unfold CU at this ⊢
            simp only [hop] at this ⊢
            have t2 := this.symm
            simp only [Option.bind_eq_some_iff] at t2
            obtain ⟨sz, hsz', z, hz, _⟩ := t2
            exact ⟨_, _, by simp only [hsz', hz, Option.bind_some]; rfl⟩
          · rename_i t n m hop
            unfold CU at this ⊢
            simp only [hop] at this ⊢
            have t2 := this.symm
            simp only [Option.bind_eq_some_iff] at t2
            obtain ⟨N, hN, M, hM, t3⟩ := t2
            simp only [hN, hM, Option.bind_some]
            unfold JK at t3 ⊢
            split at t3
            case h_2 => cases t3
            rename_i k l
            simp only [Option.bind_eq_some_iff] at t3
            obtain ⟨e, he, sz, hsz', by_, hby, z, hz, t4⟩ := t3
            split at t4
            case isFalse => cases t4
            rename_i hc
            simp only [he, hsz', hby, hz, Option.bind_some]
            rw [if_pos hc]
            exact ⟨_, _, rfl⟩
          · cases hmk
        obtain ⟨v, sz, cs, u, cc, t, hop, hrun, hpd⟩ := UU (c := Es c ops i) (h.IZ.BF true (K8 ops (Gy ops) i)) hmk e2
        have hsel := Mw e2
        let E1 : AZ := { E with w := E.w.alloc (.cells cc t), Bb := E.w.heap.size :: E.Bb }
        have hsil : Er E E1 cc t :=
          { heap := rfl, os := rfl, tape := rfl, output := rfl, CI := rfl, H := rfl, lk := rfl, nn := rfl, mm := rfl
            Bb := fun g => by
              show g ∈ E.w.heap.size :: E.Bb ↔ g ∈ E.Bb ∨ (g ∈ E.w.heap.size :: E.Bb ∧ g = E.w.heap.size)
              simp only [List.mem_cons]
              constructor
              · rintro (rfl | hg)
                · exact .inr ⟨.inl rfl, rfl⟩
                · exact .inl hg
              · rintro (hg | ⟨hg, _⟩)
                · exact .inr hg
                · exact hg }
        have hafter : B8 c E0 E1 S.H := by
          have hr := hsil.rel h.IZ.heap
          exact h.after.trans
            { H := h.IZ.H, n := h.IZ.n, m := rfl, Ch := hsil.Ch, heap := hr
              Hn := fun _ base nb d _ hn hd hf => hsil.DB hn hd hf h.IZ.heap
              IK := fun _ base d _ hd hf => hsil.DB (Nat.le_refl _) hd hf h.IZ.heap
              kept := fun _ _ _ => by rw [h.IZ.H] }
        have hsim : Cc c E1 S a := ⟨h.IZ.H, h.IZ.lk, h.IZ.n, h.IZ.m, fun j => hsil.Ch.rep h.IZ.heap _ _ (h.IZ.tmps j), h.IZ.size, hafter.heap, h.IZ.base, h.IZ.Dk, h.IZ.deep⟩
        unfold wpOp
        simp only [ho]
        have hw : Region.wanted o (yielded ops (Dz a (pend.map fun p => (p.d, p.u))).tmps) = true := by
          unfold Region.wanted; rw [hog]
        rw [if_pos hw]
        refine .inl ?_
        unfold Oper.wp
        rw [Lm hsel _ a hl1]
        show o.upon c.P _ _ Q ((execOp a.eval o).run (Es c ops i).P E.w)
        rw [hrun, Oper.upon_value]
        rw [hod]
        refine J3 hh0 hok hΓ hK hn fuel (listed.setIfInBounds i true) (r1 ++ i :: r2) (pend ++ [⟨i, d, u, E.w.heap.size⟩]) (E := E1) (S := S) (a := a) ?_ ?_
        · have hlis : (listed.setIfInBounds i true).getD i true = true := by simp [hsz, hlt]
          exact
            { size := by simp [hsz]
              count := by have := h.count; simp at this ⊢; omega
              left := fun x => by
                have hlx := h.left x
                by_cases hx : i = x
                · subst hx
                  exact ⟨fun _ => ⟨hlt, .inr (by simp)⟩, fun _ => by simp⟩
                · rw [getD_set_ne true hx, hlx]
                  simp only [List.map_append, List.map_cons, List.map_nil, List.mem_append, List.mem_singleton]
                  constructor
                  · rintro ⟨k1, k2⟩; exact ⟨k1, k2.imp id .inl⟩
                  · rintro ⟨k1, k2⟩; exact ⟨k1, k2.imp id fun k => k.resolve_right fun e => hx e.symm⟩
              Gt := h.Gt
              down := hdown
              IZ := hsim
              defers := h.defers
              act := by
                rw [List.map_append, List.map_cons, List.map_nil, Un]
              rest := h.rest
              after := hafter
              Rx := fun p hp => by
                rcases List.mem_append.1 hp with hp | hp
                · have hpo := h.Rx p hp
                  obtain ⟨op, k1, k2, k3, v2, sz2, cs2, k4, ⟨cc2, t2, m1, m2⟩, m3⟩ := hpo.op
                  refine ⟨⟨op, k1, k2, k3, v2, sz2, cs2, k4, ⟨cc2, t2, ?_, m2⟩, m3⟩, List.mem_cons_of_mem _ hpo.Bb, hpo.new, hpo.Ud, hpo.mem, hdone p hp, hpo.gN⟩
                  have := hsil.Ch.H5 p.g hpo.Bb (h.IZ.heap.Bb _ hpo.Bb).1
                  rw [this]; exact m1
                · simp only [List.mem_singleton] at hp
                  subst hp
                  exact ⟨⟨o, ho, hog, hod, v, sz, cs, hop, hpd⟩, List.mem_cons_self .., h.after.Ch.size, fun e => absurd (hh0.Bb _ e).1 (Nat.not_lt.2 h.after.Ch.size), hir, hlis, hancr⟩
              nodup := by
                rw [List.map_append, List.map_cons, List.map_nil, List.nodup_append]
                refine ⟨h.nodup, by simp, fun x hx y hy e => ?_⟩
                simp only [List.mem_singleton] at hy
                obtain ⟨p, hp, rfl⟩ := List.mem_map.1 hx
                exact hpm p hp (e.trans hy)
              gs := by
                rw [List.map_append, List.map_cons, List.map_nil, List.nodup_append]
                refine ⟨h.gs, by simp, fun x hx y hy e => ?_⟩
                simp only [List.mem_singleton] at hy
                obtain ⟨p, hp, rfl⟩ := List.mem_map.1 hx
                have := (h.IZ.heap.Bb _ (h.Rx p hp).Bb).1
                rw [e, hy] at this
                exact absurd this (Nat.lt_irrefl _) }
        · intro p hp
          rcases List.mem_append.1 hp with hp | hp
          · exact hb p hp
          · simp only [List.mem_singleton] at hp
            subst hp
            exact ⟨r1, r2, b, rfl, hb1, hb2⟩
      ·
        have hbub := Tk (c := c) hK (cf := Es c ops) (fun i => ⟨_, rfl⟩) ho (r2 := r2) r1 h.IZ.base h.rest fun j hj => by
          rcases (p1 j hj).2.2 with hj2 | hj2 | ⟨x, y, hx, hy, hsw, hc⟩
          · exact absurd (by simp [hj]) (hancr j hj2)
          · exact absurd ⟨j, hj, hj2⟩ hcase
          · rw [ho] at hy
            simp only [Option.some.injEq] at hy
            subst hy
            exact ⟨x, hx, hsw, hc⟩
        simp only [DT, ho, Option.bind_eq_some_iff] at hbub
        obtain ⟨S1, g1, g2⟩ := hbub
        have hg := EU (Es c ops i) ops o S
        rw [g1] at hg
        have hg := hg.symm
        simp only [Option.bind_eq_some_iff] at hg
        obtain ⟨ve, _, hg⟩ := hg
        split at hg
        case isFalse => cases hg
        simp only [Option.some.injEq] at hg
        have key : ∀ E1 a1, Cc c E1 S1 a1 → B8 c E E1 S1.H → a1.defers = [] → wpAny c.P .any ops Q fuel (listed.setIfInBounds i true) (Dz a1 (pend.map fun p => (p.d, p.u))) E1.w := by
          intro E1 a1 hs1 ha1 hd1
          refine ZF.settle (c := c) (E0 := E0) (S' := S') (ops := ops) hK (listed := listed.setIfInBounds i true) (A := Dz a1 (pend.map fun p => (p.d, p.u))) (fuel := fuel) (R := fun w => wpAny c.P .any ops Q fuel (listed.setIfInBounds i true) (Dz a1 (pend.map fun p => (p.d, p.u))) w) pend.length (r := r1 ++ r2) (pend := pend) (E := E1) (S := S1) (a := a1) rfl ?_ fun r' pend' E2 S2 a2 hm hb' he => J3 hh0 hok hΓ hK hn fuel _ r' pend' hm hb'
          exact
            { size := by simp [hsz]
              count := by have := h.count; simp at this ⊢; omega
              left := fun x => by
                have hlx := h.left x
                by_cases hx : i = x
                · subst hx
                  refine ⟨fun hm => absurd hm hir12, ?_⟩
                  rintro ⟨_, hm | hm⟩
                  · simp [hsz, hlt] at hm
                  · obtain ⟨p, hp, e⟩ := List.mem_map.1 hm
                    exact absurd e (hpm p hp)
                · rw [getD_set_ne true hx, ← hlx]
                  simp [List.mem_append, List.mem_cons, Ne.symm hx]
              Gt := Ft (by simp) h.Gt
              down := hdown
              IZ := hs1
              defers := hd1
              act := rfl
              rest := g2
              after := h.after.trans ha1
              Rx := fun p hp => by
                have hpo := h.Rx p hp
                obtain ⟨op, k1, k2, k3, v2, sz2, cs2, k4, ⟨cc2, t2, m1, m2⟩, m3⟩ := hpo.op
                refine ⟨⟨op, k1, k2, k3, v2, sz2, cs2, fun H2 => ?_, ⟨cc2, t2, ?_, m2⟩, m3⟩, ha1.Ch.Bb _ hpo.Bb, hpo.new, hpo.Ud, IT hpo.mem (hpm p hp), hdone p hp, fun j hj hjr => hpo.gN j hj (JL hjr)⟩
                · rw [← k4 H2]
                  refine MH (ops := ops) fun t ht => ?_
                  rw [← hg]
                  refine kP fun e => ?_
                  obtain ⟨op', e1, e2⟩ := hl3 p hp t e
                  rw [k1] at e1
                  simp only [Option.some.injEq] at e1
                  subst e1
                  exact e2 ht
                · rw [ha1.Ch.H5 p.g hpo.Bb (h.IZ.heap.Bb _ hpo.Bb).1]; exact m1
              nodup := h.nodup
              gs := h.gs }
        have hst := L6 h.IZ hΓ h.defers (s := true) (k := K8 ops (Gy ops) i) (o := o) (ops := ops) g1 (next := fun a1 w1 => wpAny c.P .any ops Q fuel (listed.setIfInBounds i true) (Dz a1 (pend.map fun p => (p.d, p.u))) w1) (Q := fun _ _ _ => False) key
        unfold wpOp
        simp only [ho]
        rw [My _ a hl1]
        split
        · rename_i hw
          rw [if_pos hw] at hst
          obtain ⟨hst, r0, hr0⟩ := hst
          exact .inl (cD (Mw hr0) hl1 hl2 (fun a' w' hx => hx) hst)
        · rename_i hw
          rw [if_neg hw] at hst
          rw [← Jp _ a hl2]
          exact hst
def AZ.drew (E : AZ) : AZ := { E with w := { E.w with drawn := E.w.drawn + 1 } }
theorem Fq.drew (E : AZ) : Fq E E.drew where
 lk := rfl
 os := rfl
 tape := rfl
 output := rfl
 size := Nat.le_refl _
 len := Nat.le_refl _
 mm := rfl
 cell := fun _ _ _ h _ => h
 block := fun _ _ _ => rfl
 mono := fun _ _ _ _ h => .inl h
 CI := fun _ _ h => ⟨rfl, h⟩
 cells := fun _ _ h => h
 Br := fun _ _ n _ _ h => ⟨n, h, Nat.le_refl _, fun _ => ⟨rfl, fun c _ hc => ⟨c, hc, rfl⟩⟩⟩
 fresh := fun _ h => .inl ⟨rfl, h⟩
 Bb := fun _ h => h
 Hr := fun _ h => .inl h
 H5 := fun _ _ _ => rfl
theorem B8.drew (hs : Cc c E S a) : B8 c E E.drew S.H where
  H := hs.H
  n := hs.n
  m := rfl
  Ch := Fq.drew E
  heap :=
    { cells := fun b sz cs hb => by
        obtain ⟨x, t, h1, h2, h3⟩ := hs.heap.cells b sz cs hb
        exact ⟨x, t, h1, h2, fun i v hv => let ⟨u, h4, h5⟩ := h3 i v hv; ⟨u, h4, (Fq.drew E).rep hs.heap _ _ h5⟩⟩
      Br := hs.heap.Br
      lvl := hs.heap.lvl
      dm := hs.heap.dm
      inj := hs.heap.inj
      maps := hs.heap.maps
      Bb := hs.heap.Bb }
  Hn := fun _ base nb d _ hnb hd hf b sz cs hlt hB x t hx i v u hv hu => ((Fq.drew E).shrink hs.heap hnb hd).rep _ _ (hf b sz cs hlt hB x t hx i v u hv hu)
  IK := fun _ base d _ hd hf b sz cs hlt hB x t hx i v u hv hu => ((Fq.drew E).shrink hs.heap (Nat.le_refl _) hd).rep _ _ (hf b sz cs hlt hB x t hx i v u hv hu)
  kept := fun _ _ _ => by rw [hs.H]
def X.XI : X → Exit
 | .normal => .normal
 | .exit id => .exit id
 | .ret => .ret
open Classical in
theorem Q6 {P : Program} {Q : Exit → Act → World → Prop} {a : Act} {w : World} {b : Code} (I : Nat → Act → World → Prop) {n : Nat} (h0 : I n a w) (hz : ∀ a w, ¬ I 0 a w)
  (round : ∀ k a w, I (k + 1) a w → b.wp P (Exit.then (I k) Q) a w) : (Code.loop b).wp P Q a w := by
 let μ : Act → World → Nat := fun a w => if h : ∃ k, I k a w then Classical.choose (YC (p := fun k => I k a w) (Classical.choose h) (Classical.choose_spec h)) else 0
 have hμ : ∀ a w (h : ∃ k, I k a w), I (μ a w) a w ∧ ∀ j, I j a w → μ a w ≤ j := by
  intro a w h
  have := Classical.choose_spec (YC (p := fun k => I k a w) (Classical.choose h) (Classical.choose_spec h))
  show I (if h : ∃ k, I k a w then _ else 0) a w ∧ _
  simp only [μ, dif_pos h]
  exact this
 refine wp_loop (fun a w => ∃ k, I k a w) μ ⟨n, h0⟩ fun a w h => ?_
 obtain ⟨h1, h2⟩ := hμ a w h
 obtain ⟨k, hk⟩ : ∃ k, μ a w = k + 1 := by
  cases hm : μ a w with
  | zero => rw [hm] at h1; exact absurd h1 (hz a w)
  | succ k => exact ⟨k, rfl⟩
 rw [hk] at h1 ⊢
 refine wp_mono (round k a w h1) fun e a' w' hq => ?_
 cases e with
 | normal => exact ⟨⟨k, hq⟩, Nat.lt_succ_of_le ((hμ a' w' ⟨k, hq⟩).2 k hq)⟩
 | _ => exact hq
theorem CK (hm : c.P.follows .mixedOrders = true) (hΓ : Ga c.P c.hints c.Γ) (hK : Fb c.Γ) (n : Nat) : ∀ (b : Code) {E : AZ} {S : St} {a : Act} (hs : Cc c E S a) (hd : a.defers = []) {x : X} {S' : St} (h : Ak c n b S = some (x, S')) {Q : Exit → Act → World → Prop}
    (hn : ∀ E' a', Cc c E' S' a' → B8 c E E' S'.H → a'.defers = [] → Q x.XI a' E'.w), b.wp c.P Q a E.w
  | .skip, E, S, a, hs, hd, x, S', h, Q, hn => by
    simp only [Ak, Option.some.injEq, Prod.mk.injEq] at h
    obtain ⟨rfl, rfl⟩ := h
    exact wp_skip (hn E a hs (B8.refl hs) hd)
  | .region id ops draw, E, S, a, hs, hd, x, S', h, Q, hn => by
    cases draw with
    | false =>
      simp only [Ak, Bool.false_eq_true, if_false, Option.map_eq_some_iff, Prod.mk.injEq] at h
      obtain ⟨S1, h1, rfl, rfl⟩ := h
      exact wp_region (QT (fun _ => ⟨c.still, c.calm, rfl⟩) _ hs hΓ hd h1 hn)
    | true =>
      simp only [Ak, if_true, Option.map_eq_some_iff, Prod.mk.injEq] at h
      obtain ⟨S1, h1, rfl, rfl⟩ := h
      split at h1
      case isFalse => cases h1
      rename_i hok
      obtain ⟨s1, s2, s3, s4⟩ := J2 hok
      have ha0 := B8.drew hs
      have hs0 : Cc c E.drew S a := Cc.next (T := S.T) (ts := a.tmps) (ds := a.defers) hs ha0 (fun i => (Fq.drew E).rep hs.heap _ _ (hs.tmps i)) rfl
      refine wp_region_any hm ?_
      have hlen : (Q1 ops).length = ops.size := by
        have hnd := Cm s4
        refine Nat.le_antisymm ?_ ?_
        · have := List.Nodup.length_le_of_subset hnd (l₂ := List.range ops.size) fun i hi => List.mem_range.2 (s2 i hi)
          simpa using this
        · have := List.Nodup.length_le_of_subset (List.nodup_range (n := ops.size)) (l₂ := Q1 ops) fun i hi => s1 i (List.mem_range.1 hi)
          simpa using this
      refine J3 (E0 := E.drew) hs0.heap hok hΓ hK (S' := S1) (fun E' a' hs' ha' hd' => hn E' a' hs' (ha0.trans ha') hd') ops.size (Array.replicate ops.size false) (Q1 ops) [] (E := E.drew) (S := S) (a := a) ?_ (fun p hp => by cases hp)
      have hf : ∀ i, i < ops.size → (Array.replicate ops.size false).getD i true = false := fun i hi => by simp [Array.getD_eq_getD_getElem?, hi]
      exact
        { size := by simp
          count := by simpa using hlen.symm
          left := fun i => ⟨fun hi => ⟨s2 i hi, .inl (hf i (s2 i hi))⟩, fun hi => s1 i hi.1⟩
          Gt := s4
          down := fun e he j hj => by
            exfalso
            simp only [Array.getD_eq_getD_getElem?, Array.getElem?_replicate] at he
            split at he <;> simp at he
          IZ := hs0
          defers := hd
          act := rfl
          rest := h1
          after := B8.refl hs0
          Rx := fun p hp => by cases hp
          nodup := List.nodup_nil
          gs := List.nodup_nil }
  | .seq p q, E, S, a, hs, hd, x, S', h, Q, hn => by
    simp only [Ak] at h
    split at h
    · rename_i S1 h1
      refine wp_seq (CK hm hΓ hK n p hs hd h1 fun E1 a1 hs1 ha1 hd1 => ?_)
      exact CK hm hΓ hK n q hs1 hd1 h fun E' a' hs' ha' hd' => hn E' a' hs' (ha1.trans ha') hd'
    · rename_i hne
      refine wp_seq (CK hm hΓ hK n p hs hd h fun E1 a1 hs1 ha1 hd1 => ?_)
      have := hn E1 a1 hs1 ha1 hd1
      cases x with
      | normal => exact absurd h (hne S')
      | exit i => exact this
      | ret => exact this
  | .cond y p q, E, S, a, hs, hd, x, S', h, Q, hn => by
    simp only [Ak] at h
    split at h
    · rename_i hy
      have hr := B5 hs y _ hy
      simp only [AA] at hr
      exact wp_cond_true hr (CK hm hΓ hK n p hs hd h hn)
    · rename_i hy
      have hr := B5 hs y _ hy
      simp only [AA] at hr
      exact wp_cond_false hr (CK hm hΓ hK n q hs hd h hn)
    · cases h
  | .block id p, E, S, a, hs, hd, x, S', h, Q, hn => by
    simp only [Ak] at h
    split at h
    · rename_i i S1 h1
      refine wp_block (CK hm hΓ hK n p hs hd h1 fun E1 a1 hs1 ha1 hd1 => ?_)
      show if i = id then Q .normal a1 E1.w else Q (.exit i) a1 E1.w
      split at h
      · rename_i hi
        simp only [Option.some.injEq, Prod.mk.injEq] at h
        obtain ⟨rfl, rfl⟩ := h
        rw [if_pos hi]
        exact hn E1 a1 hs1 ha1 hd1
      · rename_i hi
        simp only [Option.some.injEq, Prod.mk.injEq] at h
        obtain ⟨rfl, rfl⟩ := h
        rw [if_neg hi]
        exact hn E1 a1 hs1 ha1 hd1
    · rename_i hne
      refine wp_block (CK hm hΓ hK n p hs hd h fun E1 a1 hs1 ha1 hd1 => ?_)
      have := hn E1 a1 hs1 ha1 hd1
      cases x with
      | normal => exact this
      | exit i => exact absurd h (hne i S')
      | ret => exact this
  | .loop p, E, S, a, hs, hd, x, S', h, Q, hn => by
    simp only [Ak] at h
    refine Q6 (I := fun k a' w' => ∃ E' S1, Cc c E' S1 a' ∧ E'.w = w' ∧ B8 c E E' S1.H ∧ a'.defers = [] ∧ EY (Ak c n p) k S1 = some (x, S')) (n := n)
      ⟨E, S, hs, rfl, B8.refl hs, hd, h⟩ (fun a w => by rintro ⟨E', S1, _, _, _, _, h⟩; simp [EY] at h) ?_
    rintro k a1 w1 ⟨E1, S1, hs1, rfl, ha1, hd1, hit⟩
    simp only [EY] at hit
    split at hit
    · rename_i S2 h2
      refine CK hm hΓ hK n p hs1 hd1 h2 fun E2 a2 hs2 ha2 hd2 => ?_
      exact ⟨E2, S2, hs2, rfl, ha1.trans ha2, hd2, hit⟩
    · rename_i hne
      refine CK hm hΓ hK n p hs1 hd1 hit fun E2 a2 hs2 ha2 hd2 => ?_
      have := hn E2 a2 hs2 (ha1.trans ha2) hd2
      cases x with
      | normal => exact absurd hit (hne S')
      | exit i => exact this
      | ret => exact this
  | .exit id, E, S, a, hs, hd, x, S', h, Q, hn => by
    simp only [Ak, Option.some.injEq, Prod.mk.injEq] at h
    obtain ⟨rfl, rfl⟩ := h
    exact wp_exit (hn E a hs (B8.refl hs) hd)
  | .ret, E, S, a, hs, hd, x, S', h, Q, hn => by
    simp only [Ak, Option.some.injEq, Prod.mk.injEq] at h
    obtain ⟨rfl, rfl⟩ := h
    exact wp_ret (hn E a hs (B8.refl hs) hd)
  | .label _, _, _, _, _, _, _, _, h, _, _ => by simp [Ak] at h
  | .goto _, _, _, _, _, _, _, _, h, _, _ => by simp [Ak] at h
  | .scope _, _, _, _, _, _, _, _, h, _, _ => by simp [Ak] at h
  | .refuse _, _, _, _, _, _, _, _, h, _, _ => by simp [Ak] at h
  | .rangeFunc .., _, _, _, _, _, _, _, h, _, _ => by simp [Ak] at h
end
def AZ.out (E : AZ) (lo : Nat) (lk : Lk) (d : Nat) (H : A3) (news : List Bp) (Ω : List Nat) : AZ :=
  { w := E.w, φ := fun b => if b < lo then E.φ b else E.φ (Ω.getD (b - lo) 0), H := H.take lo ++ news, lk := lk, n := lo + news.length, m := d, Bb := E.Bb }
structure Qp (E : AZ) (lo d : Nat) (lk : Lk) : Prop where
 heap : CJ E
 le : lo ≤ E.H.length
 mD : ∀ lv, lv ≤ d → E.lk.take lv = lk.take lv
 len : lk.length = d
 Dk : ∀ l ∈ lk, ∀ x ∈ l, x < lo
def iF (E : AZ) (d b : Nat) : Prop := (∃ sz cs, E.H[b]? = some (.cells sz cs)) ∨ ∃ l n sz, E.H[b]? = some (.Br l n sz) ∧ d < l
theorem iF.live {E : AZ} {d b : Nat} (h : iF E d b) : live E.H[b]? := by
 rcases h with ⟨_, _, h⟩ | ⟨_, _, _, h, _⟩ <;> (rw [h]; trivial)
structure Fw (E : AZ) (lo d : Nat) (H : A3) (news : List Bp) (Ω F : List Nat) : Prop where
 len : H.length = E.H.length
 Q5 : Ω.length = news.length
 Ud : ∀ b : Nat, b < lo → H[b]? = E.H[b]?
 same : ∀ b : Nat, H[b]? = E.H[b]? ∨ H[b]? = some Bp.dead
 omega : ∀ b : Nat, b ∈ Ω → lo ≤ b ∧ H[b]? = some Bp.dead ∧ iF E d b
 Sk : ∀ b : Nat, b ∈ F → lo ≤ b ∧ H[b]? = some Bp.dead ∧ live E.H[b]?
 nodup : Ω.Nodup
 apart : ∀ b : Nat, b ∈ Ω → b ∉ F
 GO : ∀ (j : Nat) x, news[j]? = some x → ∃ sz cs, x = .cells sz cs
structure Td (news : List Bp) (Ω F : List Nat) (news' : List Bp) (Ω' F' : List Nat) : Prop where
 news : news <+: news'
 om : Ω <+: Ω'
 fr : ∀ b, b ∈ F → b ∈ F'
theorem Td.refl (news : List Bp) (Ω F : List Nat) : Td news Ω F news Ω F := ⟨List.prefix_refl _, List.prefix_refl _, fun _ h => h⟩
theorem Td.trans {n1 n2 n3 : List Bp} {a1 a2 a3 f1 f2 f3 : List Nat} (h : Td n1 a1 f1 n2 a2 f2) (k : Td n2 a2 f2 n3 a3 f3) : Td n1 a1 f1 n3 a3 f3 :=
 ⟨h.news.trans k.news, h.om.trans k.om, fun b hb => k.fr b (h.fr b hb)⟩
theorem Ve {α : Type} {l l' : List α} (h : l <+: l') {i : Nat} {x : α} (hx : l[i]? = some x) : l'[i]? = some x := by
 obtain ⟨t, rfl⟩ := h
 rw [List.getElem?_append_left (List.getElem?_eq_some_iff.1 hx).1]
 exact hx
def iC (E : AZ) (lo d : Nat) (lk : Lk) (news : List Bp) (Ω F : List Nat) : Prop :=
 ∀ (j b sz : Nat) (cs : List V), Ω[j]? = some b → news[j]? = some (.cells sz cs) → ∃ c t, E.w.heap[E.φ b]? = some (.cells c t (0, 0)) ∧ cs.length ≤ c.size ∧
  ∀ Hf nf Ωf Ff, Fw E lo d Hf nf Ωf Ff → Td news Ω F nf Ωf Ff → ∀ (i : Nat) v, cs[i]? = some v → ∃ u, c[i]? = some u ∧ AA (E.out lo lk d Hf nf Ωf) v u
def iE (H : A3) (Ω F Ω' F' : List Nat) : Prop := ∀ b : Nat, b ∈ Ω' ∨ b ∈ F' → b ∈ Ω ∨ b ∈ F ∨ live H[b]?
section
variable {E : AZ} {lo d : Nat} {lk : Lk}
theorem DC (hL : Qp E lo d lk) {H : A3} {news : List Bp} {Ω F : List Nat} (hs : Fw E lo d H news Ω F) (b : Nat) : (E.out lo lk d H news Ω).H[b]? = if b < lo then E.H[b]? else news[b - lo]? := by
 have hl : (H.take lo).length = lo := by rw [List.length_take, hs.len]; have := hL.le; omega
 show (H.take lo ++ news)[b]? = _
 by_cases h : b < lo
 ·rw [if_pos h, List.getElem?_append_left (by omega), List.getElem?_take_of_lt h, hs.Ud b h]
 ·rw [if_neg h, List.getElem?_append_right (by omega), hl]
theorem bE {H : A3} {news : List Bp} {Ω F : List Nat} (hs : Fw E lo d H news Ω F) {j : Nat} {x : Bp} (hx : news[j]? = some x) : ∃ b, Ω[j]? = some b ∧ b ∈ Ω := by
 have hj : j < Ω.length := by rw [hs.Q5]; exact (List.getElem?_eq_some_iff.1 hx).1
 exact ⟨Ω[j], List.getElem?_eq_getElem hj, List.getElem_mem hj⟩
theorem EK (hL : Qp E lo d lk) {H : A3} {news : List Bp} {Ω F : List Nat} (hs : Fw E lo d H news Ω F) {b : Nat} (hl : live (E.out lo lk d H news Ω).H[b]?) :
  (b < lo ∧ (E.out lo lk d H news Ω).φ b = E.φ b ∧ (E.out lo lk d H news Ω).H[b]? = E.H[b]? ∧ live E.H[b]?) ∨
  (∃ b0 sz cs, ¬ b < lo ∧ Ω[b - lo]? = some b0 ∧ b0 ∈ Ω ∧ (E.out lo lk d H news Ω).φ b = E.φ b0 ∧ news[b - lo]? = some (.cells sz cs) ∧ lo ≤ b0 ∧ iF E d b0) := by
 rw [DC hL hs] at hl
 by_cases h : b < lo
 ·rw [if_pos h] at hl
  exact .inl ⟨h, by show (if b < lo then _ else _) = _; rw [if_pos h], by rw [DC hL hs, if_pos h], hl⟩
 ·rw [if_neg h] at hl
  right
  cases hx : news[b - lo]? with
  | none => rw [hx] at hl; exact hl.elim
  | some x =>
   obtain ⟨b0, h1, h2⟩ := bE hs hx
   obtain ⟨sz, cs, rfl⟩ := hs.GO _ _ hx
   obtain ⟨h3, _, h4⟩ := hs.omega b0 h2
   refine ⟨b0, sz, cs, h, h1, h2, ?_, rfl, h3, h4⟩
   show (if b < lo then _ else E.φ (Ω.getD (b - lo) 0)) = _
   rw [if_neg h, List.getD_eq_getElem?_getD, h1]
   rfl
theorem Xx (hL : Qp E lo d lk) {b : Nat} (hb : lo ≤ b) (lv : Nat) : AV (lk.take lv) b = true := by
 unfold AV
 rw [List.all_eq_true]
 intro l hl
 simp only [Bool.not_eq_true', List.contains_eq_mem, decide_eq_false_iff_not]
 intro hm
 have := hL.Dk l (List.mem_of_mem_take hl) b hm
 omega
theorem YU (hL : Qp E lo d lk) {H : A3} {news : List Bp} {Ω F : List Nat} (hs : Fw E lo d H news Ω F) {lv : Nat} (hlv : lv ≤ d) {g i : Nat} (hu : (E.out lo lk d H news Ω).U (some lv) g i) : E.U (some lv) g i := by
 have hu' := hu
 rcases hu with hu | ⟨b, h1, h2, h3⟩
 ·exact .inl hu
 have hl : live (E.out lo lk d H news Ω).H[b]? := by
  split at h3
  ·rename_i he; rw [he]; trivial
  ·rename_i he; rw [he]; trivial
  ·rename_i he; rw [he]; trivial
  ·exact h3.elim
 rcases EK hL hs hl with ⟨p1, p2, p3, p4⟩ | ⟨b0, sz, cs, p1, p2, p3, p4, p5, p6, p7⟩
 ·rw [p3] at h3
  refine .inr ⟨b, by rw [← p2]; exact h1, ?_, h3⟩
  rw [hL.mD lv hlv]
  exact h2
 ·refine .inr ⟨b0, by rw [← p4]; exact h1, by rw [hL.mD lv hlv]; exact Xx hL p6 lv, ?_⟩
  rcases p7 with ⟨_, _, p7⟩ | ⟨l, n, z, p7, p8⟩
  ·rw [p7]; trivial
  ·rw [p7]; exact .inl (Nat.lt_of_le_of_lt hlv p8)
theorem Ug (hL : Qp E lo d lk) {H : A3} {news : List Bp} {Ω F : List Nat} (hs : Fw E lo d H news Ω F) {b : Nat} (hb : b ∈ F) (lv : Option Nat) (i : Nat) : ¬ (E.out lo lk d H news Ω).U lv (E.φ b) i := by
 intro hu
 obtain ⟨h1, _, h2⟩ := hs.Sk b hb
 rcases Qr hu with hu | ⟨b', k1, k2⟩
 ·exact (hL.heap.Bb _ hu).2 b h2 rfl
 rcases EK hL hs k2 with ⟨p1, p2, p3, p4⟩ | ⟨b0, sz, cs, p1, p2, p3, p4, p5, p6, p7⟩
 ·rw [p2] at k1
  have := hL.heap.inj _ _ p4 h2 k1
  omega
 ·rw [p4] at k1
  have := hL.heap.inj _ _ p7.live h2 k1
  subst this
  exact hs.apart _ p3 hb
mutual
theorem Nh {E E2 : AZ} {d : Nat} (hw : E2.w = E.w) (hm : d ≤ E2.m) (hU : ∀ lv g i, lv ≤ d → E2.U (some lv) g i → E.U (some lv) g i) : ∀ (v : V) (u : Value), clean (d + 1) v = true → AA E v u → AA E2 v u
 | .int .., _, _, r => by simpa only [AA] using r
 | .bool _, _, _, r => by simpa only [AA] using r
 | .str _, _, _, r => by simpa only [AA] using r
 | .HW, _, _, r => by simpa only [AA] using r
 | .Eg, _, _, r => by simpa only [AA] using r
 | .ptr .., _, h, _ => by simp [clean] at h
 | .lp .., _, h, _ => by simp [clean] at h
 | .tl .., _, h, _ => by simp [clean] at h
 | .snap .., _, h, _ => by simp [clean] at h
 | .sl .., _, h, _ => by simp [clean] at h
 | .fn .., _, h, _ => by simp [clean] at h
 | .lit lv len cs, _, h, r => by
  simp only [AA] at r ⊢
  simp only [clean, Bool.and_eq_true, Bool.or_eq_true, beq_iff_eq, decide_eq_true_eq] at h
  obtain ⟨hl, A, cap, h1, h2, h3⟩ := r
  have hlv : lv ≤ d := by omega
  refine ⟨Nat.le_trans hlv hm, A, cap, h1, h2, ?_⟩
  rcases h3 with h3 | ⟨g, o, h3, h4⟩
  ·exact .inl h3
  ·exact .inr ⟨g, o, h3, QB hw hm hU lv hlv g o cs h.2 h4⟩
 | .agg cs, _, h, r => by
  simp only [AA] at r ⊢
  simp only [clean] at h
  obtain ⟨vs, h1, h2⟩ := r
  exact ⟨vs, h1, K9 hw hm hU cs _ h h2⟩
 | .FH cs, _, h, r => by
  simp only [AA] at r ⊢
  simp only [clean] at h
  obtain ⟨vs, h1, h2⟩ := r
  exact ⟨vs, h1, K9 hw hm hU cs _ h h2⟩
theorem QB {E E2 : AZ} {d : Nat} (hw : E2.w = E.w) (hm : d ≤ E2.m) (hU : ∀ lv g i, lv ≤ d → E2.U (some lv) g i → E.U (some lv) g i) (lv : Nat) (hlv : lv ≤ d) (g : Nat) : ∀ (o : Nat) (cs : List V), clean.cleanL (d + 1) cs = true → CN E (some lv) g o cs → CN E2 (some lv) g o cs
 | _, [], _, _ => by simp only [CN]
 | o, c :: cs, h, r => by
  simp only [CN] at r ⊢
  simp only [clean.cleanL, Bool.and_eq_true] at h
  obtain ⟨⟨u, h1, h2⟩, h3, h4⟩ := r
  exact ⟨⟨u, by rw [hw]; exact h1, Nh hw hm hU c u h.1 h2⟩, fun hu => h3 (hU lv g o hlv hu), QB hw hm hU lv hlv g (o + 1) cs h.2 h4⟩
theorem K9 {E E2 : AZ} {d : Nat} (hw : E2.w = E.w) (hm : d ≤ E2.m) (hU : ∀ lv g i, lv ≤ d → E2.U (some lv) g i → E.U (some lv) g i) : ∀ (cs : List V) (vs : List Value), clean.cleanL (d + 1) cs = true → AP E cs vs → AP E2 cs vs
 | [], _, _, r => by simpa only [AP] using r
 | c :: cs, _, h, r => by
  simp only [AP] at r ⊢
  simp only [clean.cleanL, Bool.and_eq_true] at h
  obtain ⟨u, us, h1, h2, h3⟩ := r
  exact ⟨u, us, h1, Nh hw hm hU c u h.1 h2, K9 hw hm hU cs us h.2 h3⟩
end
def I3 (E : AZ) (lo d : Nat) (lk : Lk) (H : A3) (news : List Bp) (H2 : A3) (news2 : List Bp) (R : AZ → Prop) : Prop :=
 ∀ Ω F, Fw E lo d H news Ω F → iC E lo d lk news Ω F → ∃ Ω2 F2, Fw E lo d H2 news2 Ω2 F2 ∧ iC E lo d lk news2 Ω2 F2 ∧ Td news Ω F news2 Ω2 F2 ∧ iE H Ω F Ω2 F2 ∧ (∀ b : Nat, H[b]? = some Bp.dead → H2[b]? = some Bp.dead) ∧
  ∀ Hf nf Ωf Ff, Fw E lo d Hf nf Ωf Ff → Td news2 Ω2 F2 nf Ωf Ff → R (E.out lo lk d Hf nf Ωf)
theorem PU {f : A3 × List Bp → V → Option (V × A3 × List Bp)} (hf : ∀ H news v v' H2 news2, f (H, news) v = some (v', (H2, news2)) → (∃ u, AA E v u) → I3 E lo d lk H news H2 news2 fun Z => ∀ u, AA E v u → AA Z v' u) :
  ∀ (vs : List V) (H : A3) (news : List Bp) (vs' : List V) (H2 : A3) (news2 : List Bp), B2.resL f (H, news) vs = some (vs', (H2, news2)) → (∃ us, AP E vs us) → I3 E lo d lk H news H2 news2 (fun Z => ∀ us, AP E vs us → AP Z vs' us) ∧ vs'.length = vs.length
 | [], H, news, vs', H2, news2, h, hex => by
  simp only [B2.resL, Option.some.injEq, Prod.mk.injEq] at h
  obtain ⟨rfl, rfl, rfl⟩ := h
  exact ⟨fun Ω F hs hF => ⟨Ω, F, hs, hF, Td.refl _ _ _, fun b hb => hb.elim .inl fun h => .inr (.inl h), fun _ h => h, fun _ _ _ _ _ _ us hu => by simpa only [AP] using hu⟩, rfl⟩
 | v :: vs, H, news, vs', H2, news2, h, hex => by
  simp only [B2.resL, Option.bind_eq_some_iff, Option.map_eq_some_iff, Prod.exists, Prod.mk.injEq] at h
  obtain ⟨v1, H1, n1, h1, vs2, H3, n3, h2, rfl, rfl, rfl⟩ := h
  obtain ⟨us0, hex⟩ := hex
  simp only [AP] at hex
  obtain ⟨u0, us1, _, hex1, hex2⟩ := hex
  have k1 := hf H news v v1 H1 n1 h1 ⟨u0, hex1⟩
  obtain ⟨k2, l2⟩ := PU hf vs H1 n1 vs2 H3 n3 h2 ⟨us1, hex2⟩
  refine ⟨fun Ω F hs hF => ?_, by simp [l2]⟩
  obtain ⟨Ω1, F1, a1, a2, a3, a4, a5, a6⟩ := k1 Ω F hs hF
  obtain ⟨Ω2, F2, b1, b2, b3, b4, b5, b6⟩ := k2 Ω1 F1 a1 a2
  refine ⟨Ω2, F2, b1, b2, a3.trans b3, fun b hb => ?_, fun b hb => b5 b (a5 b hb), fun Hf nf Ωf Ff hsf hext us hu => ?_⟩
  ·rcases b4 b hb with h | h | h
   ·exact a4 b (.inl h)
   ·exact a4 b (.inr h)
   ·right; right
    rcases a1.same b with hx | hx
    ·rcases hs.same b with hy | hy
     ·rw [hy, ← hx]; exact h
     ·rw [a5 b hy] at h; exact h.elim
    ·rw [hx] at h; exact h.elim
  ·simp only [AP] at hu ⊢
   obtain ⟨u, us', rfl, hu1, hu2⟩ := hu
   exact ⟨u, us', rfl, a6 Hf nf Ωf Ff hsf (b3.trans hext) u hu1, b6 Hf nf Ωf Ff hsf hext us' hu2⟩
theorem Mk {H : A3} {news : List Bp} {R : AZ → Prop} (h : ∀ Hf nf Ωf Ff, Fw E lo d Hf nf Ωf Ff → R (E.out lo lk d Hf nf Ωf)) : I3 E lo d lk H news H news R :=
 fun Ω F hs hF => ⟨Ω, F, hs, hF, Td.refl _ _ _, fun b hb => hb.elim .inl fun h => .inr (.inl h), fun _ h => h, fun Hf nf Ωf Ff hsf _ => h Hf nf Ωf Ff hsf⟩
theorem Fw.kill {H : A3} {news : List Bp} {Ω F : List Nat} (hs : Fw E lo d H news Ω F) {b : Nat} (hb : lo ≤ b) (hl : b < H.length) : Fw E lo d (H.set b .dead) news Ω F where
 len := by simp [hs.len]
 Q5 := hs.Q5
 Ud := fun x hx => by rw [Ae, if_neg (by omega)]; exact hs.Ud x hx
 same := fun x => by
  rw [Ae]
  split
  ·exact .inr rfl
  ·exact hs.same x
 omega := fun x hx => by
  obtain ⟨h1, h2, h3⟩ := hs.omega x hx
  refine ⟨h1, ?_, h3⟩
  rw [Ae]
  split
  ·rfl
  ·exact h2
 Sk := fun x hx => by
  obtain ⟨h1, h2, h3⟩ := hs.Sk x hx
  refine ⟨h1, ?_, h3⟩
  rw [Ae]
  split
  ·rfl
  ·exact h2
 nodup := hs.nodup
 apart := hs.apart
 GO := hs.GO
theorem Ol {H : A3} {b : Nat} (hl : b < H.length) : (H.set b .dead)[b]? = some Bp.dead := by rw [Ae, if_pos ⟨rfl, hl⟩]
theorem Ox (hL : Qp E lo d lk) {th : Bool} {H : A3} {news : List Bp} {b off n sz : Nat} {cs cs' : List V} {H2 : A3} {news2 : List Bp} (hb : lo ≤ b) (hlive : live H[b]?) (hown : iF E d b)
  (hr : I3 E lo d lk (H.set b .dead) news H2 news2 (fun Z => ∀ us, AP E cs us → AP Z cs' us)) (hlen : cs'.length = cs.length)
  (hex : ∃ c t, E.w.heap[E.φ b]? = some (.cells c t (0, 0)) ∧ off + cs.length ≤ c.size ∧ ∀ (i : Nat) v, cs[i]? = some v → ∃ u, c[off + i]? = some u ∧ AA E v u) {v' : V} {X2 : A3 × List Bp}
  (h : (if th then if off = 0 ∧ cs.length = n * sz then some (V.sl (lo + news2.length) 0 n, H2, news2 ++ [Bp.cells sz cs']) else none else some (V.lit 0 n cs', H2, news2)) = some (v', X2)) :
  I3 E lo d lk H news X2.1 X2.2 fun Z => ∀ cap, n ≤ cap → AA Z v' (.slice (some ⟨E.φ b, off, none⟩) n cap) := by
 intro Ω F hs hF
 have hbl : b < H.length := by
  rcases Nat.lt_or_ge b H.length with h | h
  ·exact h
  ·rw [List.getElem?_eq_none h] at hlive; exact hlive.elim
 have hnd : H[b]? ≠ some .dead := fun e => by rw [e] at hlive; exact hlive.elim
 obtain ⟨Ω2, F2, a1, a2, a3, a4, a5, a6⟩ := hr Ω F (hs.kill hb hbl) hF
 have hdead : H2[b]? = some Bp.dead := a5 b (Ol hbl)
 have hnO : b ∉ Ω2 := by
  intro hm
  rcases a4 b (.inl hm) with h | h | h
  ·exact hnd (hs.omega b h).2.1
  ·exact hnd (hs.Sk b h).2.1
  ·rw [Ol hbl] at h; exact h.elim
 have hnF : b ∉ F2 := by
  intro hm
  rcases a4 b (.inr hm) with h | h | h
  ·exact hnd (hs.omega b h).2.1
  ·exact hnd (hs.Sk b h).2.1
  ·rw [Ol hbl] at h; exact h.elim
 have hnew : ∀ x : Nat, x ∈ Ω2 ∨ x ∈ F2 → x ∈ Ω ∨ x ∈ F ∨ live H[x]? := by
  intro x hx
  rcases a4 x hx with h | h | h
  ·exact .inl h
  ·exact .inr (.inl h)
  ·right; right
   rw [Ae] at h
   split at h
   ·exact h.elim
   ·exact h
 have hdd : ∀ x : Nat, H[x]? = some Bp.dead → H2[x]? = some Bp.dead := by
  intro x hx
  refine a5 x ?_
  rw [Ae]
  split
  ·rfl
  ·exact hx
 obtain ⟨c, t, q1, q2, q3⟩ := hex
 have hvs : AP E cs ((c.toList.drop off).take cs.length) := by
  refine Ds _ _ (by simp; omega) fun i v u hi hj => ?_
  have hil : i < cs.length := (List.getElem?_eq_some_iff.1 hi).1
  rw [List.getElem?_take_of_lt hil, List.getElem?_drop, Array.getElem?_toList] at hj
  obtain ⟨u', h1, h2⟩ := q3 i v hi
  rw [hj] at h1
  simp only [Option.some.injEq] at h1
  subst h1
  exact h2
 have hcell : ∀ (i : Nat) u, ((c.toList.drop off).take cs.length)[i]? = some u → c[off + i]? = some u := by
  intro i u hi
  rw [List.getElem?_take] at hi
  split at hi
  ·rw [List.getElem?_drop, Array.getElem?_toList] at hi; exact hi
  ·cases hi
 cases th with
 | false =>
  simp only [Bool.false_eq_true, if_false, Option.some.injEq, Prod.mk.injEq] at h
  obtain ⟨rfl, rfl⟩ := h
  refine ⟨Ω2, b :: F2, ?_, ?_, ⟨a3.news, a3.om, fun x hx => List.mem_cons.2 (.inr (a3.fr x hx))⟩, ?_, hdd, ?_⟩
  ·exact { a1 with
    Sk := fun x hx => by
     rcases List.mem_cons.1 hx with rfl | hx
     ·exact ⟨hb, hdead, hown.live⟩
     ·exact a1.Sk x hx
    apart := fun x hx hm => by
     rcases List.mem_cons.1 hm with rfl | hm
     ·exact hnO hx
     ·exact a1.apart x hx hm }
  ·intro j b0 z zs h1 h2
   obtain ⟨c', t', p1, p2, p3⟩ := a2 j b0 z zs h1 h2
   exact ⟨c', t', p1, p2, fun Hf nf Ωf Ff hsf hext => p3 Hf nf Ωf Ff hsf ⟨hext.news, hext.om, fun x hx => hext.fr x (List.mem_cons.2 (.inr hx))⟩⟩
  ·rintro x (hx | hx)
   ·exact hnew x (.inl hx)
   ·rcases List.mem_cons.1 hx with rfl | hx
    ·exact .inr (.inr hlive)
    ·exact hnew x (.inr hx)
  ·intro Hf nf Ωf Ff hsf hext cap hcap
   have hx2 : Td news2 Ω2 F2 nf Ωf Ff := ⟨hext.news, hext.om, fun x hx => hext.fr x (List.mem_cons.2 (.inr hx))⟩
   simp only [AA]
   refine ⟨Nat.zero_le _, _, cap, rfl, hcap, .inr ⟨_, _, rfl, ?_⟩⟩
   refine Gv (a6 Hf nf Ωf Ff hsf hx2 _ hvs) (fun i u hi => ?_) fun i _ => Ug hL hsf (hext.fr b (List.mem_cons.2 (.inl rfl))) _ _
   show E.w.cell? _ = _
   rw [cell_of_row _ _ _ _ _ _ q1]
   exact hcell i u hi
 | true =>
  simp only [if_true] at h
  split at h
  case isFalse => cases h
  rename_i hc
  obtain ⟨rfl, hcl⟩ := hc
  simp only [Option.some.injEq, Prod.mk.injEq] at h
  obtain ⟨rfl, rfl⟩ := h
  refine ⟨Ω2 ++ [b], F2, ?_, ?_, ⟨a3.news.trans (List.prefix_append _ _), a3.om.trans (List.prefix_append _ _), a3.fr⟩, ?_, hdd, ?_⟩
  ·exact { a1 with
    Q5 := by simp [a1.Q5]
    omega := fun x hx => by
     rcases List.mem_append.1 hx with hx | hx
     ·exact a1.omega x hx
     ·simp only [List.mem_singleton] at hx; subst hx; exact ⟨hb, hdead, hown⟩
    nodup := by
     rw [List.nodup_append]
     refine ⟨a1.nodup, by simp, fun x hx y hy => ?_⟩
     simp only [List.mem_singleton] at hy
     subst hy
     rintro rfl
     exact hnO hx
    apart := fun x hx hm => by
     rcases List.mem_append.1 hx with hx | hx
     ·exact a1.apart x hx hm
     ·simp only [List.mem_singleton] at hx; subst hx; exact hnF hm
    GO := fun j x hx => by
     rcases Nat.lt_or_ge j news2.length with hj | hj
     ·rw [List.getElem?_append_left hj] at hx; exact a1.GO j x hx
     ·rw [List.getElem?_append_right hj] at hx
      obtain ⟨h1, h2⟩ := List.getElem?_eq_some_iff.1 hx
      simp only [List.length_singleton] at h1
      have hz : j - news2.length = 0 := by omega
      simp only [hz, List.getElem_cons_zero] at h2
      exact ⟨_, _, h2.symm⟩ }
  ·intro j b0 z zs h1 h2
   rcases Nat.lt_or_ge j news2.length with hj | hj
   ·rw [List.getElem?_append_left hj] at h2
    rw [List.getElem?_append_left (by rw [a1.Q5]; exact hj)] at h1
    obtain ⟨c', t', p1, p2, p3⟩ := a2 j b0 z zs h1 h2
    exact ⟨c', t', p1, p2, fun Hf nf Ωf Ff hsf hext => p3 Hf nf Ωf Ff hsf ⟨(List.prefix_append _ _).trans hext.news, (List.prefix_append _ _).trans hext.om, hext.fr⟩⟩
   ·rw [List.getElem?_append_right hj] at h2
    rw [List.getElem?_append_right (by rw [a1.Q5]; exact hj)] at h1
    obtain ⟨hlt, h2⟩ := List.getElem?_eq_some_iff.1 h2
    obtain ⟨_, h1⟩ := List.getElem?_eq_some_iff.1 h1
    simp only [List.length_singleton] at hlt
    have hz : j - news2.length = 0 := by omega
    have hz' : j - Ω2.length = 0 := by rw [a1.Q5]; omega
    simp only [hz, List.getElem_cons_zero, Bp.cells.injEq] at h2
    simp only [hz', List.getElem_cons_zero] at h1
    obtain ⟨rfl, rfl⟩ := h2
    subst h1
    refine ⟨c, t, q1, by rw [hlen]; omega, fun Hf nf Ωf Ff hsf hext i v hv => ?_⟩
    have hx2 : Td news2 Ω2 F2 nf Ωf Ff := ⟨(List.prefix_append _ _).trans hext.news, (List.prefix_append _ _).trans hext.om, hext.fr⟩
    obtain ⟨_, hg⟩ := BP _ _ (a6 Hf nf Ωf Ff hsf hx2 _ hvs)
    obtain ⟨u, k1, k2⟩ := hg i v hv
    have := hcell i u k1
    rw [Nat.zero_add] at this
    exact ⟨u, this, k2⟩
  ·rintro x (hx | hx)
   ·rcases List.mem_append.1 hx with hx | hx
    ·exact hnew x (.inl hx)
    ·simp only [List.mem_singleton] at hx; subst hx; exact .inr (.inr hlive)
   ·exact hnew x (.inr hx)
  ·intro Hf nf Ωf Ff hsf hext cap hcap
   have hj : nf[news2.length]? = some (.cells sz cs') := Ve hext.news (by simp)
   have hjΩ : Ωf[news2.length]? = some b := Ve hext.om (by rw [← a1.Q5]; simp)
   have hlt : ¬ lo + news2.length < lo := by omega
   simp only [AA]
   refine ⟨?_, ⟨cap, ?_, hcap⟩, fun l k z => ?_⟩
   ·show lo + news2.length < lo + nf.length
    have := (List.getElem?_eq_some_iff.1 hj).1
    omega
   ·show _ = Value.slice (some ⟨if lo + news2.length < lo then _ else E.φ (Ωf.getD (lo + news2.length - lo) 0), _, _⟩) _ _
    rw [if_neg hlt, Nat.add_sub_cancel_left, List.getD_eq_getElem?_getD, hjΩ]
    rfl
   ·rw [DC hL hsf, if_neg hlt, Nat.add_sub_cancel_left, hj]
    simp
end
section
variable {E : AZ} {lo d : Nat} {lk : Lk}
theorem PV (hL : Qp E lo d lk) (th : Bool) : ∀ (k : Nat) (H : A3) (news : List Bp) (v v' : V) (H2 : A3) (news2 : List Bp), B2 th lo (d + 1) k (H, news) v = some (v', (H2, news2)) → (∃ u, AA E v u) →
  I3 E lo d lk H news H2 news2 fun Z => ∀ u, AA E v u → AA Z v' u
 | 0, H, news, v, v', H2, news2, h, _ => by simp [B2] at h
 | k + 1, H, news, v, v', H2, news2, h, hrep => by
  have ihL := PU (E := E) (lo := lo) (d := d) (lk := lk) fun H news v v' H2 news2 h hx => PV hL th k H news v v' H2 news2 h hx
  have same : (v', (H2, news2)) = (v, (H, news)) → (∀ Hf nf Ωf Ff, Fw E lo d Hf nf Ωf Ff → ∀ u, AA E v u → AA (E.out lo lk d Hf nf Ωf) v u) → I3 E lo d lk H news H2 news2 fun Z => ∀ u, AA E v u → AA Z v' u := by
   intro e hr
   simp only [Prod.mk.injEq] at e
   obtain ⟨rfl, rfl, rfl⟩ := e
   exact Mk hr
  have mono : ∀ {H : A3} {news : List Bp} {H2 : A3} {news2 : List Bp} {R R' : AZ → Prop}, I3 E lo d lk H news H2 news2 R → (∀ Hf nf Ωf Ff, Fw E lo d Hf nf Ωf Ff → R (E.out lo lk d Hf nf Ωf) → R' (E.out lo lk d Hf nf Ωf)) → I3 E lo d lk H news H2 news2 R' := by
   intro H news H2 news2 R R' h hr Ω F hs hF
   obtain ⟨Ω2, F2, a1, a2, a3, a4, a5, a6⟩ := h Ω F hs hF
   exact ⟨Ω2, F2, a1, a2, a3, a4, a5, fun Hf nf Ωf Ff hsf hx => hr Hf nf Ωf Ff hsf (a6 Hf nf Ωf Ff hsf hx)⟩
  cases v with
  | int _ _ => simp only [B2, Option.some.injEq] at h; exact same h.symm fun _ _ _ _ _ u r => by simpa only [AA] using r
  | bool _ => simp only [B2, Option.some.injEq] at h; exact same h.symm fun _ _ _ _ _ u r => by simpa only [AA] using r
  | str _ => simp only [B2, Option.some.injEq] at h; exact same h.symm fun _ _ _ _ _ u r => by simpa only [AA] using r
  | HW => simp only [B2, Option.some.injEq] at h; exact same h.symm fun _ _ _ _ _ u r => by simpa only [AA] using r
  | Eg => simp only [B2, Option.some.injEq] at h; exact same h.symm fun _ _ _ _ _ u r => by simpa only [AA] using r
  | lp _ _ _ => simp [B2] at h
  | fn _ _ => simp [B2] at h
  | ptr b off =>
   simp only [B2] at h
   split at h
   case isFalse => cases h
   rename_i hb
   simp only [Option.some.injEq] at h
   refine same h.symm fun Hf nf Ωf Ff hsf u r => ?_
   simp only [AA] at r ⊢
   obtain ⟨_, r2, r3⟩ := r
   refine ⟨by show b < lo + nf.length; omega, ?_, fun l n z => ?_⟩
   ·rw [r2]; show _ = Value.pointer (some ⟨if b < lo then E.φ b else _, off, none⟩); rw [if_pos hb]
   ·rw [DC hL hsf, if_pos hb]; exact r3 l n z
  | FF b =>
   simp only [B2] at h
   split at h
   case isFalse => cases h
   rename_i hb
   simp only [Option.some.injEq] at h
   refine same h.symm fun Hf nf Ωf Ff hsf u r => ?_
   simp only [AA] at r ⊢
   obtain ⟨_, r2, r3⟩ := r
   refine ⟨by show b < lo + nf.length; omega, ?_, fun l n z => ?_⟩
   ·rw [r2]; show _ = Value.map (some (if b < lo then E.φ b else _)); rw [if_pos hb]
   ·rw [DC hL hsf, if_pos hb]; exact r3 l n z
  | lit lv n cs =>
   simp only [B2] at h
   split at h
   ·rename_i hc
    simp only [Option.some.injEq] at h
    exact same h.symm fun Hf nf Ωf Ff hsf u r => Nh (E := E) (E2 := E.out lo lk d Hf nf Ωf) (d := d) rfl (Nat.le_refl _) (fun lv g i hlv hu => YU hL hsf hlv hu) _ u hc r
   ·cases h
  | tl n cs =>
   simp only [B2] at h
   split at h
   ·rename_i h0
    simp only [Option.some.injEq, Prod.mk.injEq] at h
    obtain ⟨rfl, rfl, rfl⟩ := h
    refine Mk fun Hf nf Ωf Ff hsf u r => ?_
    simp only [AA] at r
    obtain ⟨A, rfl, hA⟩ := r
    cases th with
    | true =>
     simp only [if_true, AA]
     exact ⟨A, by rw [h0], .inl trivial⟩
    | false =>
     simp only [Bool.false_eq_true, if_false, AA]
     exact ⟨Nat.zero_le _, A, n, by rw [h0], by omega, .inl trivial⟩
   rename_i h0
   simp only [Option.map_eq_some_iff, Prod.exists, Prod.mk.injEq] at h
   obtain ⟨cs', H1, n1, h1, rfl, rfl, rfl⟩ := h
   have hx : ∃ us, AP E cs us := by
    obtain ⟨u, r⟩ := hrep
    simp only [AA] at r
    obtain ⟨A, rfl, hA⟩ := r
    rcases hA with hA | ⟨g, o, hA, hr⟩
    ·exact absurd hA h0
    ·exact ⟨_, DL fun i v hi => let ⟨u, a1, a2, _⟩ := CQ _ _ hr i v hi; ⟨u, a1, a2⟩⟩
   obtain ⟨ih, l⟩ := ihL cs H news cs' H1 n1 h1 hx
   refine mono ih fun Hf nf Ωf Ff hsf hR u r => ?_
   simp only [AA] at r ⊢
   obtain ⟨A, rfl, hA⟩ := r
   refine ⟨Nat.zero_le _, A, n, rfl, Nat.le_refl _, ?_⟩
   rcases hA with hA | ⟨g, o, hA, hr⟩
   ·exact .inl hA
   ·refine .inr ⟨g, o, hA, GS (E := E) (fun i v hi => let ⟨u, a1, a2, _⟩ := CQ _ _ hr i v hi; ⟨u, a1, a2⟩) hR l rfl fun i hi hu => ?_⟩
    obtain ⟨u', _, _, a3⟩ := CQ _ _ hr i _ (List.getElem?_eq_getElem hi)
    exact a3 (YU hL hsf (Nat.zero_le _) hu)
  | snap b n cs =>
   simp only [B2] at h
   split at h
   case h_2 => cases h
   rename_i l m sz hb
   split at h
   ·cases h
   rename_i hc
   simp only [not_or, Nat.not_lt, Decidable.not_not] at hc
   obtain ⟨hlo, rfl, hl⟩ := hc
   simp only [Option.bind_eq_some_iff, Prod.exists] at h
   obtain ⟨cs', H1, n1, h1, h2⟩ := h
   intro Ω F hs hF
   have hEb : E.H[b]? = some (.Br l m sz) := by
    rcases hs.same b with h | h
    ·rw [← h]; exact hb
    ·rw [hb] at h; cases h
   obtain ⟨u0, hu0⟩ := hrep
   simp only [AA] at hu0
   obtain ⟨_, ⟨A, cap0, hu0, hcap0, ⟨g, o, hA, _, hr⟩, hcur⟩, _⟩ := hu0
   obtain ⟨_, hcur⟩ := hcur _ _ _ hEb
   obtain ⟨hA', c, t, hrow, _⟩ := hcur rfl
   rw [hA] at hA'
   simp only [Option.some.injEq, Addr.mk.injEq, and_true] at hA'
   obtain ⟨rfl, rfl⟩ := hA'
   obtain ⟨ih, hlen⟩ := ihL cs _ news cs' H1 n1 h1 ⟨_, DL fun i v hi => let ⟨u, a1, a2, _⟩ := CQ _ _ hr i v hi; ⟨u, a1, a2⟩⟩
   have hget : ∀ (i : Nat) v, cs[i]? = some v → ∃ u, c[0 + i]? = some u ∧ AA E v u := by
    intro i v hi
    obtain ⟨u, k1, k2, _⟩ := CQ _ _ hr i v hi
    rw [cell_of_row _ _ _ _ _ _ hrow] at k1
    exact ⟨u, k1, k2⟩
   have hcs : 0 + cs.length ≤ c.size := by
    rcases Nat.eq_zero_or_pos cs.length with h0 | h0
    ·omega
    ·obtain ⟨u, k1, _⟩ := hget (cs.length - 1) _ (List.getElem?_eq_getElem (by omega))
     have := (Array.getElem?_eq_some_iff.1 k1).1
     omega
   have h2' : (if th then if 0 = 0 ∧ cs.length = m * sz then some (V.sl (lo + n1.length) 0 m, H1, n1 ++ [Bp.cells sz cs']) else none else some (V.lit 0 m cs', H1, n1)) = some (v', (H2, news2)) := by
    rw [← h2]
    simp
   have := Ox (E := E) (off := 0) (n := m) hL hlo (by rw [hb]; trivial) (.inr ⟨l, m, sz, hEb, hl⟩) ih hlen ⟨c, t, hrow, hcs, hget⟩ h2'
   refine mono (R' := fun Z => ∀ u, AA E _ u → AA Z v' u) this (fun Hf nf Ωf Ff hsf hR u r => ?_) Ω F hs hF
   simp only [AA] at r
   obtain ⟨_, ⟨A2, cap, rfl, hcap, _, hcur2⟩, _⟩ := r
   obtain ⟨_, hcur2⟩ := hcur2 _ _ _ hEb
   obtain ⟨rfl, _⟩ := hcur2 rfl
   exact hR cap hcap
  | sl b off n =>
   simp only [B2] at h
   split at h
   ·rename_i hb
    simp only [Option.some.injEq] at h
    refine same h.symm fun Hf nf Ωf Ff hsf u r => ?_
    simp only [AA] at r ⊢
    obtain ⟨_, ⟨cap, r1, r2⟩, r3⟩ := r
    refine ⟨by show b < lo + nf.length; omega, ⟨cap, ?_, r2⟩, fun l n z => ?_⟩
    ·rw [r1]; show _ = Value.slice (some ⟨if b < lo then E.φ b else _, off, none⟩) _ _; rw [if_pos hb]
    ·rw [DC hL hsf, if_pos hb]; exact r3 l n z
   rename_i hlo
   split at h
   case h_2 => cases h
   rename_i sz cs hb
   split at h
   ·cases h
   rename_i hc
   simp only [Option.bind_eq_some_iff, Prod.exists] at h
   obtain ⟨cs', H1, n1, h1, h2⟩ := h
   intro Ω F hs hF
   have hEb : E.H[b]? = some (.cells sz cs) := by
    rcases hs.same b with h | h
    ·rw [← h]; exact hb
    ·rw [hb] at h; cases h
   have hcl : ((cs.drop off).take (n * sz)).length = n * sz := by simp; omega
   obtain ⟨c, t, hrow, hcs, hget⟩ := hL.heap.cells b sz cs hEb
   have hget2 : ∀ (i : Nat) v, ((cs.drop off).take (n * sz))[i]? = some v → ∃ u, c[off + i]? = some u ∧ AA E v u := by
    intro i v hi
    rw [List.getElem?_take] at hi
    split at hi
    ·rw [List.getElem?_drop] at hi; exact hget _ v hi
    ·cases hi
   obtain ⟨ih, hlen⟩ := ihL _ _ news cs' H1 n1 h1 ⟨_, DL (g := E.φ b) (o := off) fun i v hi => let ⟨u, a1, a2⟩ := hget2 i v hi; ⟨u, by rw [cell_of_row _ _ _ _ _ _ hrow]; exact a1, a2⟩⟩
   have h2' : (if th then if off = 0 ∧ ((cs.drop off).take (n * sz)).length = n * sz then some (V.sl (lo + n1.length) 0 n, H1, n1 ++ [Bp.cells sz cs']) else none else some (V.lit 0 n cs', H1, n1)) = some (v', (H2, news2)) := by
    cases th with
    | false => exact h2
    | true =>
     simp only [if_true] at h2 ⊢
     split at h2
     ·rename_i hx
      rw [if_pos ⟨hx.1, hcl⟩]; exact h2
     ·cases h2
   have := Ox (E := E) (off := off) (n := n) hL (by omega) (by rw [hb]; trivial) (.inl ⟨sz, cs, hEb⟩) ih hlen ⟨c, t, hrow, by rw [hcl]; omega, hget2⟩ h2'
   refine mono (R' := fun Z => ∀ u, AA E _ u → AA Z v' u) this (fun Hf nf Ωf Ff hsf hR u r => ?_) Ω F hs hF
   simp only [AA] at r
   obtain ⟨_, ⟨cap, rfl, hcap⟩, _⟩ := r
   exact hR cap hcap
  | agg cs =>
   simp only [B2, Option.map_eq_some_iff, Prod.exists, Prod.mk.injEq] at h
   obtain ⟨cs', H1, n1, h1, rfl, rfl, rfl⟩ := h
   obtain ⟨ih, l⟩ := ihL cs H news cs' H1 n1 h1 (by
    obtain ⟨u, r⟩ := hrep
    simp only [AA] at r
    obtain ⟨vs, _, hr⟩ := r
    exact ⟨_, hr⟩)
   refine mono ih fun Hf nf Ωf Ff hsf hR u r => ?_
   simp only [AA] at r ⊢
   obtain ⟨vs, hv, hr⟩ := r
   exact ⟨vs, hv, hR _ hr⟩
  | FH cs =>
   simp only [B2, Option.map_eq_some_iff, Prod.exists, Prod.mk.injEq] at h
   obtain ⟨cs', H1, n1, h1, rfl, rfl, rfl⟩ := h
   obtain ⟨ih, l⟩ := ihL cs H news cs' H1 n1 h1 (by
    obtain ⟨u, r⟩ := hrep
    simp only [AA] at r
    obtain ⟨vs, _, hr⟩ := r
    exact ⟨_, hr⟩)
   refine mono ih fun Hf nf Ωf Ff hsf hR u r => ?_
   simp only [AA] at r ⊢
   obtain ⟨vs, hv, hr⟩ := r
   exact ⟨vs, hv, hR _ hr⟩
end
theorem CX.fW (E : AZ) (L : List Nat) (hd : E.m ≤ E.lk.length) : CX E { E with lk := E.lk ++ [L] } where
 len := Nat.le_refl _
 lvl := Nat.le_refl _
 CI := fun _ _ h => ⟨rfl, h⟩
 cells := fun _ _ h => h
 Br := fun _ l n _ _ h => ⟨l, n, h, Nat.le_refl _, fun _ => ⟨rfl, fun c _ hc => ⟨c, hc, rfl⟩⟩⟩
 cell := by
  intro lv g i u hlv _ h1 h3
  refine ⟨h1, fun hu => h3 ?_⟩
  cases lv with
  | none => exact hu
  | some lv =>
   have hle : lv ≤ E.lk.length := Nat.le_trans hlv hd
   rcases hu with hu | ⟨b, p1, p2, p3⟩
   ·exact .inl hu
   refine .inr ⟨b, p1, ?_, p3⟩
   have : (E.lk ++ [L]).take lv = E.lk.take lv := List.take_append_of_le_length hle
   rw [← this]
   exact p2
 fresh := fun b _ _ _ _ _ hb hl he => ⟨b, hb, hl, he⟩
theorem D4.lock {E : AZ} {L : List Nat} {base nb d : Nat} (hd : d ≤ E.lk.length) (h : D4 E base nb d) : D4 (E.lock L) base nb d :=
 fun b sz cs hlt hB c t hc i v u hv hu => (CX.fW (E.shrink nb d) L hd).rep v u (h b sz cs hlt hB c t hc i v u hv hu)
theorem D4.all {E : AZ} (hh : CJ E) (base : Nat) : D4 E base E.n E.m := by
 intro b sz cs hlt hB c t hc i v u hv hu
 obtain ⟨c', t', h1, _, h2⟩ := hh.cells b sz cs hB
 rw [hc] at h1
 simp only [Option.some.injEq, Obj.cells.injEq] at h1
 obtain ⟨rfl, _⟩ := h1
 obtain ⟨u', h3, h4⟩ := h2 i v hv
 rw [hu] at h3
 simp only [Option.some.injEq] at h3
 subst h3
 exact h4
section
variable {E : AZ} {lo d : Nat} {lk : Lk}
theorem HL {H : A3} {news : List Bp} {Ω : List Nat} {b : Nat} (hb : b < lo) : (E.out lo lk d H news Ω).φ b = E.φ b := by
 show (if b < lo then _ else _) = _; rw [if_pos hb]
theorem QK (hL : Qp E lo d lk) {H : A3} {news : List Bp} {Ω F : List Nat} (hs : Fw E lo d H news Ω F) {nb d' : Nat} (hnb : nb ≤ lo) (hd : d' ≤ d) : CX (E.shrink nb d') ((E.out lo lk d H news Ω).shrink nb d') where
 len := Nat.le_refl _
 lvl := Nat.le_refl _
 cell := by
  intro lv g i u hlv haw h1 h3
  refine ⟨h1, fun hu => h3 ?_⟩
  cases lv with
  | some l => exact YU hL hs (Nat.le_trans hlv hd) hu
  | none =>
   have hu0 : (E.out lo lk d H news Ω).U none g i := hu
   rcases hu0 with hu0 | ⟨b, h4, h5⟩
   ·exact .inl hu0
   have hl : live (E.out lo lk d H news Ω).H[b]? := by
    split at h5
    ·rename_i he; rw [he]; trivial
    ·rename_i he; rw [he]; trivial
    ·rename_i he; rw [he]; trivial
    ·exact h5.elim
   rcases EK hL hs hl with ⟨p1, p2, p3, p4⟩ | ⟨b0, sz, cs, p1, p2, p3, p4, p5, p6, p7⟩
   ·rw [p3] at h5
    exact .inr ⟨b, p2.symm.trans h4, h5⟩
   ·exact absurd (p4.symm.trans h4) (haw rfl b0 (Nat.le_trans hnb p6) p7.live)
 CI := by
  intro b hb hn
  have hb : b < nb := hb
  refine ⟨HL (H := H) (news := news) (lk := lk) (d := d) (by omega), fun l n z => ?_⟩
  show (E.out lo lk d H news Ω).H[b]? ≠ _
  rw [DC hL hs, if_pos (by omega)]
  exact hn l n z
 cells := by
  intro b hb hn z cs
  have hb : b < nb := hb
  show (E.out lo lk d H news Ω).H[b]? ≠ _
  rw [DC hL hs, if_pos (by omega)]
  exact hn z cs
 Br := by
  intro b l n sz hb hB
  have hb : b < nb := hb
  have hB : (E.out lo lk d H news Ω).H[b]? = _ := hB
  rw [DC hL hs, if_pos (by omega)] at hB
  exact ⟨l, n, hB, Nat.le_refl _, fun _ => ⟨HL (H := H) (news := news) (lk := lk) (d := d) (by omega), fun c _ hc => ⟨c, hc, rfl⟩⟩⟩
 fresh := by
  intro b g i u h1 _ hb hl he
  rcases EK hL hs hl with ⟨p1, p2, p3, p4⟩ | ⟨b0, sz, cs, p1, p2, p3, p4, p5, p6, p7⟩
  ·exact ⟨b, hb, p4, p2.symm.trans he⟩
  ·exact ⟨b0, Nat.le_trans hnb p6, p7.live, p4.symm.trans he⟩
end
section
variable {c : Cx} {E0 E' : AZ} {L : List Nat} {Hc : A3}
structure Qo (c : Cx) (E0 E' : AZ) (L : List Nat) (Hc : A3) : Prop where
 VV : CJ E0
 n0 : E0.n = E0.H.length
 m0 : E0.m = E0.lk.length
 base : c.base = E0.n
 lk : c.lk = E0.lk ++ [L]
 Dk : ∀ l ∈ E0.lk, ∀ x ∈ l, x < E0.n
 after : B8 c (E0.lock L) E' Hc
theorem Qo.last (h : Qo c E0 E' L Hc) : Qp E' E0.n E0.m E0.lk where
 heap := h.after.heap
 le := by
  have h1 := h.after.n
  have h2 := h.after.H
  have h3 : E0.n ≤ E'.n := h.after.Ch.len
  rw [h2, ← h1]; exact h3
 mD := by
  intro lv hlv
  have h1 : E'.lk = E0.lk ++ [L] := h.after.Ch.lk
  rw [h1]
  exact List.take_append_of_le_length (by rw [← h.m0]; exact hlv)
 len := h.m0.symm
 Dk := h.Dk
theorem Qo.fresh (h : Qo c E0 E' L Hc) {b : Nat} (hb : E0.n ≤ b) (hl : live E'.H[b]?) : E0.w.heap.size ≤ E'.φ b := by
 rcases h.after.Ch.fresh b hl with ⟨_, h2⟩ | h2
 ·have h2 : live E0.H[b]? := h2
  rw [List.getElem?_eq_none (by rw [← h.n0]; exact hb)] at h2
  exact h2.elim
 ·exact h2
theorem Qo.lvl (h : Qo c E0 E' L Hc) {b l n sz : Nat} (hb : b < E0.n) (hB : E'.H[b]? = some (.Br l n sz)) : l ≤ E0.m := by
 obtain ⟨k, h1, _⟩ := h.after.Ch.Br b l n sz hb hB
 rw [h.m0]
 exact h.VV.lvl b l k sz h1
theorem WT (hD : Qo c E0 E' L Hc) (hg : c.hints.grow c.fn = false) {th : Bool} {v v' : V} {u : Value} {H2 : A3} {news : List Bp} (hr : AA E' v u) (h : B2 th E0.n (E0.m + 1) BU (Hc, []) v = some (v', (H2, news))) :
    ∃ E1, E1.w = E'.w ∧ Tc c.hints c.fn L E0 E1 (H2.take E0.n ++ news) ∧ AA E1 v' u := by
  have hL := hD.last
  have hHc : E'.H = Hc := hD.after.H
  have hev := hD.after.Ch
  have hs0 : Fw E' E0.n E0.m Hc [] [] [] :=
    { len := by rw [hHc], Q5 := rfl, Ud := fun b _ => by rw [hHc], same := fun b => .inl (by rw [hHc]), omega := fun b hb => (by cases hb), Sk := fun b hb => (by cases hb), nodup := List.nodup_nil, apart := fun b hb => (by cases hb), GO := fun j x hx => by simp at hx }
  obtain ⟨Ω, F, hs, hF, _, _, _, hrep⟩ := PV (lk := E0.lk) hL th BU Hc [] v v' H2 news h ⟨u, hr⟩ [] [] hs0 (fun j b sz cs h1 _ => by simp at h1)
  let E1 := E'.out E0.n E0.lk E0.m H2 news Ω
  have hlen : (H2.take E0.n).length = E0.n := by rw [List.length_take, hs.len]; have := hL.le; omega
  have hf0 : D4 E' E0.n E0.n E0.m := hD.after.Hn hg _ _ _ (by rw [hD.base]; exact Nat.le_refl _) (Nat.le_refl _) (Nat.le_succ _) (D4.lock (by rw [hD.m0]; exact Nat.le_refl _) (D4.all hD.VV _))
  have hgrow : CX (E1.shrink E0.n E0.m) E1 := CX.grow E1 (Nat.le_add_right _ _) (Nat.le_refl _)
  have hrel : CJ E1 :=
    { cells := by
        intro b sz cs hB
        by_cases hb : b < E0.n
        · have hB' := hB
          rw [DC hL hs, if_pos hb] at hB'
          obtain ⟨c', t, h1, h2, h3⟩ := hL.heap.cells b sz cs hB'
          refine ⟨c', t, ?_, h2, fun i v hv => ?_⟩
          · show E'.w.heap[(E'.out E0.n E0.lk E0.m H2 news Ω).φ b]? = _
            rw [HL hb]; exact h1
          · obtain ⟨u, h4, _⟩ := h3 i v hv
            exact ⟨u, h4, hgrow.rep _ _ ((QK hL hs (Nat.le_refl _) (Nat.le_refl _)).rep _ _ (hf0 b sz cs hb hB' c' t h1 i v u hv h4))⟩
        · rcases EK hL hs (b := b) (by rw [hB]; trivial) with ⟨p1, _⟩ | ⟨b0, sz', cs', p1, p2, p3, p4, p5, p6, p7⟩
          · exact absurd p1 hb
          · rw [DC hL hs, if_neg hb, p5] at hB
            simp only [Option.some.injEq, Bp.cells.injEq] at hB
            obtain ⟨rfl, rfl⟩ := hB
            obtain ⟨c', t, h1, h2, h3⟩ := hF _ _ _ _ p2 p5
            refine ⟨c', t, ?_, h2, h3 H2 news Ω F hs (Td.refl _ _ _)⟩
            show E'.w.heap[(E'.out E0.n E0.lk E0.m H2 news Ω).φ b]? = _
            rw [p4]; exact h1
      Br := by
        intro b l n sz hB
        by_cases hb : b < E0.n
        · rw [DC hL hs, if_pos hb] at hB
          obtain ⟨c', t, h1, h2⟩ := hL.heap.Br b l n sz hB
          refine ⟨c', t, ?_, h2⟩
          show E'.w.heap[(E'.out E0.n E0.lk E0.m H2 news Ω).φ b]? = _
          rw [HL hb]; exact h1
        · rw [DC hL hs, if_neg hb] at hB
          obtain ⟨_, _, hx⟩ := hs.GO _ _ hB
          cases hx
      lvl := by
        intro b l n sz hB
        by_cases hb : b < E0.n
        · rw [DC hL hs, if_pos hb] at hB
          have := hD.lvl hb hB
          rw [hD.m0] at this
          exact this
        · rw [DC hL hs, if_neg hb] at hB
          obtain ⟨_, _, hx⟩ := hs.GO _ _ hB
          cases hx
      dm := by show E0.m ≤ E0.lk.length; rw [hD.m0]; exact Nat.le_refl _
      maps := by
        intro b BJ hB
        by_cases hb : b < E0.n
        · rw [DC hL hs, if_pos hb] at hB
          obtain ⟨h1, h2⟩ := hL.heap.maps b BJ hB
          refine ⟨?_, h2⟩
          show E'.w.heap[(E'.out E0.n E0.lk E0.m H2 news Ω).φ b]? = _
          rw [HL hb]; exact h1
        · rw [DC hL hs, if_neg hb] at hB
          obtain ⟨_, _, hx⟩ := hs.GO _ _ hB
          cases hx
      inj := by
        intro b b' h1 h2 he
        rcases EK hL hs h1 with ⟨p1, p2, p3, p4⟩ | ⟨b0, sz, cs, p1, p2, p3, p4, p5, p6, p7⟩ <;>
        rcases EK hL hs h2 with ⟨q1, q2, q3, q4⟩ | ⟨b0', sz', cs', q1, q2, q3, q4, q5, q6, q7⟩
        · exact hL.heap.inj _ _ p4 q4 (by rw [← p2, ← q2]; exact he)
        · have := hL.heap.inj _ _ p4 q7.live (by rw [← p2, ← q4]; exact he)
          omega
        · have := hL.heap.inj _ _ p7.live q4 (by rw [← p4, ← q2]; exact he)
          omega
        · have := hL.heap.inj _ _ p7.live q7.live (by rw [← p4, ← q4]; exact he)
          subst this
          have h5 := (List.getElem?_eq_some_iff.1 p2)
          have h6 := (List.getElem?_eq_some_iff.1 q2)
          obtain ⟨i1, e1⟩ := h5
          obtain ⟨i2, e2⟩ := h6
          have := (List.getElem_inj (h₀ := i1) (h₁ := i2) hs.nodup).1 (e1.trans e2.symm)
          omega
      Bb := fun g hg => ⟨(hL.heap.Bb g hg).1, fun b hl => by
        rcases EK hL hs hl with ⟨p1, p2, p3, p4⟩ | ⟨b0, sz, cs, p1, p2, p3, p4, p5, p6, p7⟩
        · rw [p2]; exact (hL.heap.Bb g hg).2 _ p4
        · rw [p4]; exact (hL.heap.Bb g hg).2 _ p7.live⟩ }
  have hold : ∀ b, b < E0.n → E1.H[b]? = E'.H[b]? := fun b hb => by
    show (E'.out E0.n E0.lk E0.m H2 news Ω).H[b]? = _
    rw [DC hL hs, if_pos hb]
  refine ⟨E1, rfl, ⟨rfl, ?_, ?_, hrel, ?_, (fun h => by rw [hg] at h; cases h), ?_⟩, hrep H2 news Ω F hs (Td.refl _ _ _) u hr⟩
  · show E0.n + news.length = (H2.take E0.n ++ news).length
    rw [List.length_append, hlen]
  · exact
    { lk := rfl
      os := hev.os
      tape := hev.tape
      output := hev.output
      size := hev.size
      len := Nat.le_add_right _ _
      mm := rfl
      cell := hev.cell
      block := hev.block
      mono := by
        intro lv g i hlv hu
        rcases hu with hu | hu
        · exact hev.mono lv g i hlv (.inl hu)
        cases lv with
        | some l =>
          obtain ⟨b, h1, h2, h3⟩ := hu
          have hl : live E1.H[b]? := by
            split at h3
            · rename_i he; rw [AZ.Eb] at he; rw [he]; trivial
            · rename_i he; rw [AZ.Eb] at he; rw [he]; trivial
            · rename_i he; rw [AZ.Eb] at he; rw [he]; trivial
            · exact h3.elim
          rcases EK hL hs hl with ⟨p1, p2, p3, p4⟩ | ⟨b0, sz, cs, p1, p2, p3, p4, p5, p6, p7⟩
          · refine hev.mono (some l) g i hlv (.inr ⟨b, by rw [← p2]; exact h1, ?_, ?_⟩)
            · have : E'.lk = E0.lk ++ [L] := hev.lk
              rw [this]; exact h2
            · rw [AZ.Eb, hold b p1] at h3; exact h3
          · right
            rw [← h1, AZ.LG]
            show _ ≤ (E'.out E0.n E0.lk E0.m H2 news Ω).φ b
            rw [p4]
            exact hD.fresh p6 p7.live
        | none =>
          obtain ⟨b, h1, h3⟩ := hu
          have hl : live E1.H[b]? := by
            split at h3
            · rename_i he; rw [AZ.Eb] at he; rw [he]; trivial
            · rename_i he; rw [AZ.Eb] at he; rw [he]; trivial
            · rename_i he; rw [AZ.Eb] at he; rw [he]; trivial
            · exact h3.elim
          rcases EK hL hs hl with ⟨p1, p2, p3, p4⟩ | ⟨b0, sz, cs, p1, p2, p3, p4, p5, p6, p7⟩
          · refine hev.mono none g i hlv (.inr ⟨b, by rw [← p2]; exact h1, ?_⟩)
            rw [AZ.Eb, hold b p1] at h3; exact h3
          · right
            rw [← h1, AZ.LG]
            show _ ≤ (E'.out E0.n E0.lk E0.m H2 news Ω).φ b
            rw [p4]
            exact hD.fresh p6 p7.live
      CI := by
        intro b hb hn
        obtain ⟨h1, h2⟩ := hev.CI b hb hn
        refine ⟨(HL (H := H2) (news := news) (lk := E0.lk) (d := E0.m) hb).trans h1, fun l n z => ?_⟩
        rw [AZ.Eb, hold b hb]
        exact h2 l n z
      cells := by
        intro b hb hn z cs
        rw [AZ.Eb, hold b hb]
        exact hev.cells b hb hn z cs
      Br := by
        intro b l n sz hb hB
        rw [AZ.Eb, hold b hb] at hB
        obtain ⟨k, h1, h2, h3⟩ := hev.Br b l n sz hb hB
        exact ⟨k, h1, h2, fun e => ⟨(HL (H := H2) (news := news) (lk := E0.lk) (d := E0.m) hb).trans (h3 e).1, (h3 e).2⟩⟩
      fresh := by
        intro b hl
        rcases EK hL hs hl with ⟨p1, p2, p3, p4⟩ | ⟨b0, sz, cs, p1, p2, p3, p4, p5, p6, p7⟩
        · rcases hev.fresh b p4 with ⟨h1, h2⟩ | h1
          · exact .inl ⟨p2.trans h1, h2⟩
          · exact .inr (by rw [AZ.LG]; show _ ≤ (E'.out E0.n E0.lk E0.m H2 news Ω).φ b; rw [p2]; exact h1)
        · exact .inr (by rw [AZ.LG]; show _ ≤ (E'.out E0.n E0.lk E0.m H2 news Ω).φ b; rw [p4]; exact hD.fresh p6 p7.live)
      Bb := hev.Bb
      Hr := hev.Hr
      H5 := hev.H5 }
  · intro _ base nb d' hbase hnb hd hf
    have hf1 := hD.after.Hn hg base nb d' (by rw [hD.base]; exact hbase) hnb (Nat.le_succ_of_le hd) (D4.lock (L := L) (by rw [← hD.m0]; exact hd) hf)
    intro b sz cs hlt hB c' t hc i v u hv hu
    have hb : b < E0.n := Nat.lt_of_lt_of_le hlt hbase
    rw [hold b hb] at hB
    have hc : E'.w.heap[(E'.out E0.n E0.lk E0.m H2 news Ω).φ b]? = _ := hc
    rw [HL hb] at hc
    exact (QK hL hs hnb hd).rep v u (hf1 b sz cs hlt hB c' t hc i v u hv hu)
  · intro b hb hk
    rw [hold b hb, hHc]
    exact hD.after.kept b (by rw [hD.base]; exact hb) (by rw [hD.lk]; exact hk)
end
def FY (d : Nat) : Bp → Bp
 | .Br l n sz => .Br (min l d) n sz
 | .cells sz cs => if cs.all (BT (d + 1)) then .cells sz cs else .dead
 | x => x
theorem Ye (d : Nat) : MP (d + 1) = FY d := by funext x; cases x <;> rfl
theorem US {d : Nat} {x : Option Bp} : live (x.map (FY d)) → live x := by
 cases x with
 | none => exact id
 | some x => cases x with
  | cells sz cs => intro _; trivial
  | _ => exact id
def AZ.grown (E : AZ) (lo : Nat) (lk : Lk) (d : Nat) : AZ := { w := E.w, φ := E.φ, H := E.H.take lo ++ (E.H.drop lo).map (FY d), lk := lk, n := E.n, m := d, Bb := E.Bb }
section
variable {c : Cx} {E0 E' : AZ} {L : List Nat} {Hc : A3}
theorem Hq (E : AZ) (lo : Nat) (lk : Lk) (d : Nat) (hlo : lo ≤ E.H.length) (b : Nat) : (E.grown lo lk d).H[b]? = if b < lo then E.H[b]? else (E.H[b]?).map (FY d) := by
 have hl : (E.H.take lo).length = lo := by rw [List.length_take]; omega
 show (E.H.take lo ++ (E.H.drop lo).map (FY d))[b]? = _
 by_cases h : b < lo
 ·rw [if_pos h, List.getElem?_append_left (by omega), List.getElem?_take_of_lt h]
 ·rw [if_neg h, List.getElem?_append_right (by omega), hl, List.getElem?_map, List.getElem?_drop]
  congr 2
  omega
theorem Gq {E : AZ} {lo : Nat} {lk : Lk} {d : Nat} (hlo : lo ≤ E.H.length) {b : Nat} : live (E.grown lo lk d).H[b]? → live E.H[b]? := by
 rw [Hq E lo lk d hlo]
 split
 ·exact id
 ·exact US
theorem G4 {E : AZ} {lo : Nat} {lk : Lk} {d : Nat} (hlo : lo ≤ E.H.length) {b sz : Nat} {cs : List V} (h : (E.grown lo lk d).H[b]? = some (.cells sz cs)) : E.H[b]? = some (.cells sz cs) ∧ (¬ b < lo → cs.all (BT (d + 1)) = true) := by
 rw [Hq E lo lk d hlo] at h
 split at h
 ·rename_i hb; exact ⟨h, fun x => absurd hb x⟩
 ·cases hx : E.H[b]? with
  | none => rw [hx] at h; simp at h
  | some x =>
   rw [hx] at h
   cases x with
   | cells z es =>
    simp only [Option.map_some, FY, Option.some.injEq] at h
    split at h
    ·rename_i hc
     cases h
     exact ⟨rfl, fun _ => hc⟩
    ·cases h
   | Br _ _ _ => simp [FY] at h
   | mp _ => simp [FY] at h
   | dead => simp [FY] at h
theorem Ou {E : AZ} {lo : Nat} {lk : Lk} {d : Nat} (hlo : lo ≤ E.H.length) {b : Nat} {BJ : List (V × V)} (h : (E.grown lo lk d).H[b]? = some (.mp BJ)) : E.H[b]? = some (.mp BJ) := by
 rw [Hq E lo lk d hlo] at h
 split at h
 ·exact h
 ·cases hx : E.H[b]? with
  | none => rw [hx] at h; simp at h
  | some x =>
   rw [hx] at h
   cases x with
   | cells z es =>
    simp only [Option.map_some, FY, Option.some.injEq] at h
    split at h <;> cases h
   | Br _ _ _ => simp [FY] at h
   | mp _ => simpa [FY] using h
   | dead => simp [FY] at h
theorem GY {E : AZ} {lo : Nat} {lk : Lk} {d : Nat} (hlo : lo ≤ E.H.length) {b l n sz : Nat} (h : (E.grown lo lk d).H[b]? = some (.Br l n sz)) : ∃ l0, E.H[b]? = some (.Br l0 n sz) ∧ l ≤ l0 ∧ (b < lo → l = l0) ∧ (¬ b < lo → l ≤ d) := by
 rw [Hq E lo lk d hlo] at h
 split at h
 ·rename_i hb
  exact ⟨l, h, Nat.le_refl _, fun _ => rfl, fun x => absurd hb x⟩
 ·rename_i hb
  cases hx : E.H[b]? with
  | none => rw [hx] at h; simp at h
  | some x =>
   rw [hx] at h
   cases x with
   | Br l0 n0 sz0 =>
    simp only [Option.map_some, FY, Option.some.injEq, Bp.Br.injEq] at h
    obtain ⟨rfl, rfl, rfl⟩ := h
    exact ⟨l0, rfl, Nat.min_le_left _ _, fun x => absurd x hb, fun _ => Nat.min_le_right _ _⟩
   | cells _ _ =>
    simp only [Option.map_some, FY, Option.some.injEq] at h
    split at h <;> cases h
   | mp _ => simp [FY] at h
   | dead => simp [FY] at h
theorem VS {E : AZ} {lo : Nat} {lk L : Lk} {d : Nat} (hlo : lo ≤ E.H.length) (hlk : E.lk = L) {lv : Nat} {g i : Nat} (h : ({ E.grown lo lk d with lk := L } : AZ).U (some lv) g i) : E.U (some lv) g i := by
 rcases h with h | ⟨b, h1, h2, h3⟩
 ·exact .inl h
 refine .inr ⟨b, h1, by rw [hlk]; exact h2, ?_⟩
 have h3 : match (E.grown lo lk d).H[b]? with
  | some (.cells _ _) | some (.mp _) => True
  | some (.Br l n sz) => lv < l ∨ n * sz ≤ i
  | _ => False := h3
 split at h3
 ·rename_i he
  rw [(G4 hlo he).1]; trivial
 ·rename_i he
  rw [Ou hlo he]; trivial
 ·rename_i he
  obtain ⟨l0, h4, h5, _⟩ := GY hlo he
  rw [h4]
  rcases h3 with h3 | h3
  ·exact .inl (Nat.lt_of_lt_of_le h3 h5)
  ·exact .inr h3
 ·exact h3.elim
theorem VR {E : AZ} {lo : Nat} {lk : Lk} {d : Nat} (hlo : lo ≤ E.H.length) {g i : Nat} (h : (E.grown lo lk d).U none g i) : E.U none g i := by
 rcases h with h | ⟨b, h1, h3⟩
 ·exact .inl h
 refine .inr ⟨b, h1, ?_⟩
 split at h3
 ·rename_i he
  rw [(G4 hlo he).1]; trivial
 ·rename_i he
  rw [Ou hlo he]; trivial
 ·rename_i he
  obtain ⟨l0, h4, _⟩ := GY hlo he
  rw [h4]
  exact h3
 ·exact h3.elim
theorem Su {E : AZ} {lo : Nat} {lk : Lk} {d d' : Nat} (hlo : lo ≤ E.H.length) (hlk : ∀ lv, lv ≤ d → E.lk.take lv = lk.take lv) (hd : d' ≤ d) : CX (E.shrink E.n d') ((E.grown lo lk d).shrink E.n d') where
 len := Nat.le_refl _
 lvl := Nat.le_refl _
 cell := by
  intro lv g i u hlv _ h1 h3
  refine ⟨h1, fun hu => h3 ?_⟩
  cases lv with
  | some l =>
   have hl : l ≤ d := Nat.le_trans hlv hd
   refine VS (E := E) (lo := lo) (lk := lk) (d := d) (L := E.lk) hlo rfl ?_
   rcases hu with hu | ⟨b, p1, p2, p3⟩
   ·exact .inl hu
   refine .inr ⟨b, p1, ?_, p3⟩
   show AV (E.lk.take l) b = true
   rw [hlk l hl]; exact p2
  | none => exact VR (lk := lk) (d := d) hlo hu
 CI := by
  intro b hb hn
  refine ⟨rfl, fun l n z hx => ?_⟩
  obtain ⟨l0, h, _⟩ := GY (lk := lk) (d := d) hlo hx
  exact hn l0 n z h
 cells := by
  intro b hb hn z cs hx
  exact hn z cs (G4 (lk := lk) (d := d) hlo hx).1
 Br := by
  intro b l n sz hb hB
  obtain ⟨l0, h, _⟩ := GY (lk := lk) (d := d) hlo hB
  exact ⟨l0, n, h, Nat.le_refl _, fun _ => ⟨rfl, fun c _ hc => ⟨c, hc, rfl⟩⟩⟩
 fresh := fun b g i u _ _ hb hl he => ⟨b, hb, Gq (lk := lk) (d := d) hlo hl, he⟩
theorem Sy (hD : Qo c E0 E' L Hc) (hg : c.hints.grow c.fn = true) {v : V} {u : Value} (hr : AA E' v u) (hv : BT (E0.m + 1) v = true) :
    ∃ E1, E1.w = E'.w ∧ Tc c.hints c.fn L E0 E1 (Hc.take E0.n ++ (Hc.drop E0.n).map (FY E0.m)) ∧ AA E1 v u := by
  have hL := hD.last
  have hHc : E'.H = Hc := hD.after.H
  have hev := hD.after.Ch
  have hlo := hL.le
  have hnH : E'.n = E'.H.length := by rw [hHc]; exact hD.after.n
  let E1 := E'.grown E0.n E0.lk E0.m
  have hk : ∀ d', d' ≤ E0.m → CX (E'.shrink E'.n d') (E1.shrink E'.n d') := fun d' hd => Su hlo hL.mD hd
  have hk1 : CX (E'.shrink E'.n E0.m) E1 := hk E0.m (Nat.le_refl _)
  have hfAll : D4 E' E0.n E'.n E0.m := hD.after.IK hg _ _ (by rw [hD.base]; exact Nat.le_refl _) (Nat.le_succ _) (D4.lock (by rw [hD.m0]; exact Nat.le_refl _) (D4.all hD.VV _))
  have hrel : CJ E1 :=
    { cells := by
        intro b sz cs hB
        obtain ⟨hB', hcl⟩ := G4 hlo hB
        obtain ⟨c', t, h1, h2, h3⟩ := hL.heap.cells b sz cs hB'
        refine ⟨c', t, h1, h2, fun i v hv => ?_⟩
        obtain ⟨u, h4, h5⟩ := h3 i v hv
        refine ⟨u, h4, hk1.rep _ _ ?_⟩
        by_cases hb : b < E0.n
        · exact hfAll b sz cs hb hB' c' t h1 i v u hv h4
        · refine Gf v u ?_ h5
          have := hcl hb
          rw [List.all_eq_true] at this
          exact this v (List.mem_of_getElem? hv)
      Br := by
        intro b l n sz hB
        obtain ⟨l0, h, _⟩ := GY hlo hB
        exact hL.heap.Br b l0 n sz h
      lvl := by
        intro b l n sz hB
        obtain ⟨l0, h, _, h1, h2⟩ := GY hlo hB
        show l ≤ E0.lk.length
        rw [← hD.m0]
        by_cases hb : b < E0.n
        · rw [h1 hb]; exact hD.lvl hb h
        · exact h2 hb
      dm := by show E0.m ≤ E0.lk.length; rw [hD.m0]; exact Nat.le_refl _
      inj := fun b b' h1 h2 he => hL.heap.inj b b' (Gq hlo h1) (Gq hlo h2) he
      maps := fun b BJ hB => hL.heap.maps b BJ (Ou hlo hB)
      Bb := fun g hg => ⟨(hL.heap.Bb g hg).1, fun b hl => (hL.heap.Bb g hg).2 b (Gq hlo hl)⟩ }
  have hold : ∀ b, b < E0.n → E1.H[b]? = E'.H[b]? := fun b hb => by
    show (E'.grown E0.n E0.lk E0.m).H[b]? = _
    rw [Hq _ _ _ _ hlo, if_pos hb]
  refine ⟨E1, rfl, ⟨?_, ?_, ?_, hrel, (fun h => by rw [hg] at h; cases h), ?_, ?_⟩, hk1.rep _ _ (Gf v u hv hr)⟩
  · show E'.H.take _ ++ (E'.H.drop _).map _ = _
    rw [hHc]
  · show E'.n = _
    rw [hnH, hHc]
    simp
    rw [hHc] at hlo
    omega
  · exact
    { lk := rfl
      os := hev.os
      tape := hev.tape
      output := hev.output
      size := hev.size
      len := hev.len
      mm := rfl
      cell := hev.cell
      block := hev.block
      mono := by
        intro lv g i hlv hu
        refine hev.mono lv g i hlv ?_
        cases lv with
        | some l => exact VS (E := E') (lo := E0.n) (lk := E0.lk) (d := E0.m) (L := E0.lk ++ [L]) hlo hev.lk hu
        | none => exact VR (lk := E0.lk) (d := E0.m) hlo hu
      CI := by
        intro b hb hn
        obtain ⟨h1, h2⟩ := hev.CI b hb hn
        refine ⟨h1, fun l n z => ?_⟩
        rw [AZ.Eb, hold b hb]
        exact h2 l n z
      cells := by
        intro b hb hn z cs
        rw [AZ.Eb, hold b hb]
        exact hev.cells b hb hn z cs
      Br := by
        intro b l n sz hb hB
        rw [AZ.Eb, hold b hb] at hB
        exact hev.Br b l n sz hb hB
      fresh := fun b hl => hev.fresh b (Gq (lk := E0.lk) (d := E0.m) hlo hl)
      Bb := hev.Bb
      Hr := hev.Hr
      H5 := hev.H5 }
  · intro _ base d' hbase hd hf
    have hf1 := hD.after.IK hg base d' (by rw [hD.base]; exact hbase) (Nat.le_succ_of_le hd) (D4.lock (L := L) (by rw [← hD.m0]; exact hd) hf)
    intro b sz cs hlt hB c' t hc i v u hv hu
    exact (hk d' hd).rep v u (hf1 b sz cs hlt (G4 (lk := E0.lk) (d := E0.m) hlo hB).1 c' t hc i v u hv hu)
  · intro b hb hkk
    rw [hold b hb, hHc]
    exact hD.after.kept b (by rw [hD.base]; exact hb) (by rw [hD.lk]; exact hkk)
theorem WW {P : Program} {E : AZ} (hh : CJ E) {t : TypeId} {p v : V} {u : Value} (hp : AA E p u) (h : G5 P t E.H p = some v) :
  ∃ ad x, u = .pointer (some ad) ∧ (loadVar t ad).run P E.w = .ok x E.w ∧ AA E v x := by
 unfold G5 at h
 split at h
 ·split at h
  case h_2 => simp at h
  rename_i b off _ sz cs hb
  simp only [AA] at hp
  obtain ⟨_, hp, _⟩ := hp
  obtain ⟨x, h1, h2⟩ := LS (P := P) (o := 0) (SK hh hb) h
  rw [Nat.zero_add] at h1
  exact ⟨_, x, hp, h1, h2⟩
 ·simp only [AA] at hp
  obtain ⟨_, g, o, hp, hr⟩ := hp
  obtain ⟨x, h1, h2⟩ := LS (P := P) (o := o) (fun i v hi => by
   obtain ⟨u, h1, h2, _⟩ := CQ _ _ hr i v hi
   exact ⟨u, h1, h2⟩) h
  exact ⟨_, x, hp, h1, h2⟩
 ·simp at h
theorem IW {P : Program} {E : AZ} (hh : CJ E) {T : Nat → V} {ts : Array Value} (hT : ∀ i, AA E (T i) (ts.getD i undef)) : ∀ (l : List ResultVar) (vs : List V), BB P E.H T l = some vs →
  ∃ us, (l.mapM (m := Sem) fun (r : ResultVar) => match r with
   | .tmp t => pure (ts.getD t undef)
   | .cell a t => do loadVar t (← asAddr (ts.getD a undef))).run P E.w = .ok us E.w ∧ AP E vs us
 | [], vs, h => by
  simp only [BB, Option.some.injEq] at h
  subst h
  exact ⟨[], by simp, by simp only [AP]⟩
 | .tmp t :: l, vs, h => by
  simp only [BB, Option.map_eq_some_iff] at h
  obtain ⟨ws, hw, rfl⟩ := h
  obtain ⟨us, h1, h2⟩ := IW hh hT l ws hw
  refine ⟨ts.getD t undef :: us, ?_, ?_⟩
  ·simp only [List.mapM_cons, Sem.run_bind, Sem.run_pure, Result.andThen_ok, h1]
  ·simp only [AP]; exact ⟨_, us, rfl, hT t, h2⟩
 | .cell a t :: l, vs, h => by
  simp only [BB, Option.bind_eq_some_iff, Option.map_eq_some_iff] at h
  obtain ⟨v, hv, ws, hw, rfl⟩ := h
  obtain ⟨us, h1, h2⟩ := IW hh hT l ws hw
  obtain ⟨ad, x, k1, k2, k3⟩ := WW (P := P) hh (hT a) hv
  refine ⟨x :: us, ?_, ?_⟩
  ·have ha : (asAddr (ts.getD a undef)).run P E.w = .ok ad E.w := by rw [k1]; rfl
   simp only [List.mapM_cons, Sem.run_bind, Sem.run_pure, Result.andThen_ok, ha, k2, h1]
  ·simp only [AP]; exact ⟨_, us, rfl, k3, h2⟩
theorem TI {P : Program} {E : AZ} (hh : CJ E) {T : Nat → V} {ts : Array Value} (hT : ∀ i, AA E (T i) (ts.getD i undef)) {fn : Func} {vs : List V} (h : BB P E.H T fn.results.toList = some vs) :
  ∃ u, (results fn ts).run P E.w = .ok u E.w ∧ AA E (Dd vs) u := by
 obtain ⟨us, h1, h2⟩ := IW (P := P) hh hT _ _ h
 obtain ⟨hl, hg⟩ := BP _ _ h2
 refine ⟨if h : us.toArray.size = 1 then us.toArray[0] else .tuple us.toArray, ?_, ?_⟩
 ·unfold results
  rw [Array.mapM_eq_mapM_toList]
  simp only [Sem.run_bind, Sem.run_map, Sem.run_pure]
  exact congrArg (fun r : Result (List Value) => (r.andThen fun a w' => Result.ok a.toArray w').andThen fun a w' => Result.ok (if h : a.size = 1 then a[0] else Value.tuple a) w') h1
 ·match us, hl, hg, h2 with
  | [], hl, hg, h2 =>
   have : vs = [] := List.eq_nil_of_length_eq_zero hl
   subst this
   simp only [Dd, AA]
   exact ⟨#[], rfl, by simp only [AP]⟩
  | [u], hl, hg, h2 =>
   obtain ⟨v, rfl⟩ := List.length_eq_one_iff.1 hl
   simp only [AP] at h2
   obtain ⟨u', us', h3, h4, h5⟩ := h2
   simp only [List.cons.injEq] at h3
   obtain ⟨rfl, _⟩ := h3
   simpa [Dd] using h4
  | u1 :: u2 :: us, hl, hg, h2 =>
   have : Dd vs = .FH vs := by
    match vs, hl with
    | v1 :: v2 :: vs, _ => rfl
   rw [this]
   simp only [AA]
   exact ⟨(u1 :: u2 :: us).toArray, by simp, h2⟩
end
theorem Vy {E : AZ} {vs : List V} {us : List Value} (h : AP E vs us) (n : Nat) (i : Nat) : AA E (Il vs i) ((us.toArray ++ Array.replicate n undef).getD i undef) := by
 obtain ⟨hl, hg⟩ := BP _ _ h
 unfold Il
 rw [List.getD_eq_getElem?_getD, Array.getD_eq_getD_getElem?, Array.getElem?_append]
 by_cases hi : i < us.length
 ·rw [if_pos (by simpa using hi)]
  have hv : i < vs.length := by omega
  obtain ⟨u, h1, h2⟩ := hg i _ (List.getElem?_eq_getElem hv)
  rw [List.getElem?_eq_getElem hv, List.getElem?_toArray, h1]
  exact h2
 ·rw [if_neg (by simpa using hi), List.getElem?_eq_none (by omega)]
  rw [Array.getElem?_replicate]
  split
  ·exact MZ E
  ·exact MZ E
theorem Pz {b : Code} {N : Lc} (h : Ef b = some N) : b = .seq N.R0 (.seq (.seq (.region N.i #[N.o1, N.o2] false) (.cond (.tmp N.q) N.A .skip)) N.B) ∧
  N.o1.dst = some N.p ∧ N.o1.op = .move (.tmp N.z) ∧ N.o1.guard = none ∧ N.o2.dst = some N.q ∧ N.o2.op = .binOp .eql N.t (.tmp N.p) (.const (.slice none 0 0)) N.t2 ∧ N.o2.guard = none := by
 unfold Ef at h
 split at h
 case h_2 => cases h
 rename_i R0 i ops q' A B
 unfold Ub at h
 split at h
 case h_2 => cases h
 rename_i o1 o2 hops
 split at h
 case h_2 => cases h
 rename_i p z q t p' t2 h1 h2 h3 h4 h5 h6
 split at h
 case isFalse => cases h
 rename_i hpq
 obtain ⟨rfl, rfl⟩ := hpq
 simp only [Option.some.injEq] at h
 subst h
 have : ops = #[o1, o2] := by
  apply Array.toList_inj.1
  rw [hops]
 subst this
 exact ⟨rfl, h1, h2, h3, h4, h5, h6⟩
theorem UR {E : AZ} {x : V} {u : Value} {n : Nat} (hr : AA E x u) (hn : CZ x = some n) : ∃ A cap, u = .slice A n cap ∧ (n ≠ 0 → A ≠ none) := by
 cases x with
 | lit lv len cs =>
  simp only [CZ, Option.some.injEq] at hn
  subst hn
  simp only [AA] at hr
  obtain ⟨_, A, cap, h1, _, h3⟩ := hr
  refine ⟨A, cap, h1, fun h => ?_⟩
  rcases h3 with h3 | ⟨g, o, h3, _⟩
  ·exact absurd h3 h
  ·rw [h3]; simp
 | tl len cs =>
  simp only [CZ, Option.some.injEq] at hn
  subst hn
  simp only [AA] at hr
  obtain ⟨A, h1, h3⟩ := hr
  refine ⟨A, _, h1, fun h => ?_⟩
  rcases h3 with h3 | ⟨g, o, h3, _⟩
  ·exact absurd h3 h
  ·rw [h3]; simp
 | snap b len cs =>
  simp only [CZ, Option.some.injEq] at hn
  subst hn
  simp only [AA] at hr
  obtain ⟨_, ⟨A, cap, h1, _, ⟨g, o, h3, _⟩, _⟩, _⟩ := hr
  exact ⟨A, cap, h1, fun _ => by rw [h3]; simp⟩
 | sl b off len =>
  simp only [CZ, Option.some.injEq] at hn
  subst hn
  simp only [AA] at hr
  obtain ⟨_, ⟨cap, h1, _⟩, _⟩ := hr
  exact ⟨_, cap, h1, fun _ => by simp⟩
 | _ => simp [CZ] at hn
theorem Wm {P : Program} (w : World) {t e : TypeId} (A : Option Addr) (n c : Nat) (ht : P.underlying t = some (.slice e)) : (binOp .eql t (.slice A n c) (.slice none 0 0)).run P w = .ok (.bool A.isNone) w := by
 cases A with
 | none =>
  have h : ∀ d : Nat, (Op.equalIn (d + 1) t (.slice none n c) (.slice none 0 0)).run P w = .ok true w := fun d => by
   simp [Op.equalIn, run_underlying ht]
  simp only [binOp]
  simp [Op.equal, Op.maxDepth, h 9999]
 | some a =>
  have h : ∀ d : Nat, (Op.equalIn (d + 1) t (.slice (some a) n c) (.slice none 0 0)).run P w = .ok false w := fun d => by
   simp [Op.equalIn, run_underlying ht]
  simp only [binOp]
  simp [Op.equal, Op.maxDepth, h 9999]
theorem SS {c : Cx} (hm : c.P.follows .mixedOrders = true) (hΓ : Ga c.P c.hints c.Γ) (hK : Fb c.Γ) {n : Nat} {rs : List ResultVar} {b : Code} {E : AZ} {S : St} {a : Act} (hs : Cc c E S a) (hd : a.defers = []) {r : List V × A3} (h : J5 c n rs b S = some r) {Q : Exit → Act → World → Prop}
  (hn : ∀ E' a' S' (x : X), Cc c E' S' a' → B8 c E E' S'.H → a'.defers = [] → (x = .normal ∨ x = .ret) → BB c.P S'.H S'.T rs = some r.1 → r.2 = S'.H → Q x.XI a' E'.w) : b.wp c.P Q a E.w := by
 unfold J5 at h
 split at h
 ·obtain ⟨x, S1, h1, h2, h3, h4⟩ := Hk h
  exact CK hm hΓ hK n b hs hd h1 fun E' a' hs' ha' hd' => hn E' a' S1 x hs' ha' hd' h2 h3 h4
 ·rename_i N hN
  obtain ⟨rfl, k1, k2, k3, k4, k5, k6⟩ := Pz hN
  split at h
  case h_2 => cases h
  rename_i S0 h0
  split at h
  case isFalse => cases h
  rename_i hc
  obtain ⟨hp, hq, hpq, hel⟩ := hc
  refine wp_seq (CK hm hΓ hK n N.R0 hs hd h0 fun E1 a1 hs1 ha1 hd1 => ?_)
  obtain ⟨len, hlen⟩ : ∃ len, CZ (S0.T N.z) = some len := by
   cases hh : CZ (S0.T N.z) with
   | none => rw [hh] at h; cases h
   | some len => exact ⟨len, rfl⟩
  obtain ⟨A, cap, hu, hA⟩ := UR (hs1.tmps N.z) hlen
  obtain ⟨e, he⟩ := Option.isSome_iff_exists.1 hel
  have hin : N5 c n rs N S0 A.isNone = some r := by
   rw [hlen] at h
   cases len with
   | zero =>
    simp only [] at h
    split at h
    case isFalse => cases h
    rename_i hsame
    cases A with
    | none => exact hsame.trans h
    | some _ => exact h
   | succ m =>
    cases A with
    | none => exact absurd rfl (hA (by omega))
    | some _ => exact h
  obtain ⟨x, S2, h1, h2, h3, h4⟩ := Hk hin
  have hu0 : a1.eval (.tmp N.z) = .slice A len cap := hu
  refine wp_seq (wp_seq (wp_region ?_))
  show wpOps c.P #[N.o1, N.o2] _ [0, 1] a1 E1.w
  have hg1 : (#[N.o1, N.o2] : Array Oper)[0]? = some N.o1 := rfl
  have hg2 : (#[N.o1, N.o2] : Array Oper)[1]? = some N.o2 := rfl
  simp only [wpOps, hg1, hg2]
  have hw1 : ∀ y : Nat → Option Bool, Region.wanted N.o1 y = true := fun y => by unfold Region.wanted; rw [k3]
  have hw2 : ∀ y : Nat → Option Bool, Region.wanted N.o2 y = true := fun y => by unfold Region.wanted; rw [k6]
  rw [if_pos (hw1 _)]
  refine .inl ?_
  have hs2 : Cc c E1 (S0.set N.p (S0.T N.z)) (a1.put (some N.p) (a1.eval (.tmp N.z))) := Cc.put (H' := S0.H) hs1 (B8.refl hs1) hp (hs1.tmps N.z)
  have hrun1 : (execOp a1.eval N.o1).run c.P E1.w = .ok (.value (a1.eval (.tmp N.z))) E1.w := by simp only [execOp, k2]; rfl
  unfold Oper.wp
  rw [hrun1, Oper.upon_value, k1]
  rw [if_pos (hw2 _)]
  refine .inl ?_
  have hev : (a1.put (some N.p) (a1.eval (.tmp N.z))).eval (.tmp N.p) = .slice A len cap := by
   have hlt : N.p < a1.tmps.size := by rw [hs1.size]; exact hp
   show ((a1.tmps).setIfInBounds N.p (a1.eval (.tmp N.z))).getD N.p undef = _
   rw [Oj, if_pos ⟨rfl, hlt⟩, hu0]
  have hrun2 : (execOp (a1.put (some N.p) (a1.eval (.tmp N.z))).eval N.o2).run c.P E1.w = .ok (.value (.bool A.isNone)) E1.w := by
   have hc2 : (a1.put (some N.p) (a1.eval (.tmp N.z))).eval (.const (.slice none 0 0)) = .slice none 0 0 := rfl
   simp only [execOp, k5, hev, hc2]
   have hguard : eqGuard .eql N.t (.tmp N.p) (.const (.slice none 0 0)) (.slice A len cap) (.slice none 0 0) = pure () := rfl
   simp only [hguard, Sem.run_bind, Sem.run_pure, Result.andThen_ok, Wm E1.w A len cap (CA he)]
  rw [hrun2, Oper.upon_value, k4]
  have hs3 : Cc c E1 ((S0.set N.p (S0.T N.z)).set N.q (.bool A.isNone)) ((a1.put (some N.p) (a1.eval (.tmp N.z))).put (some N.q) (.bool A.isNone)) := Cc.put (H' := S0.H) (S := S0.set N.p (S0.T N.z)) hs2 (show B8 c E1 E1 S0.H from B8.refl hs1) hq (by simp only [AA])
  have hfin : ∀ E' a', Cc c E' S2 a' → B8 c E1 E' S2.H → a'.defers = [] → Q x.XI a' E'.w := fun E' a' hs' ha' hd' => hn E' a' S2 x hs' (ha1.trans ha') hd' h2 h3 h4
  have hcond : ((a1.put (some N.p) (a1.eval (.tmp N.z))).put (some N.q) (.bool A.isNone)).eval (.tmp N.q) = .bool A.isNone := by
   have := hs3.tmps N.q
   have hT : ((S0.set N.p (S0.T N.z)).set N.q (.bool A.isNone)).T N.q = .bool A.isNone := if_pos rfl
   rw [hT] at this
   simp only [AA] at this
   exact this
  cases hb : A.isNone with
  | true =>
   rw [hb] at h1 hs3 hcond
   simp only [if_true] at h1
   refine wp_cond_true hcond ?_
   simp only [Ak] at h1
   split at h1
   ·rename_i S3 h5
    refine CK (c := c) hm hΓ hK n N.A hs3 hd1 h5 fun E' a' hs' ha' hd' => ?_
    exact CK (c := c) hm hΓ hK n N.B hs' hd' h1 fun E'' a'' hs'' ha'' hd'' => hfin E'' a'' hs'' (ha'.trans ha'') hd''
   ·rename_i hne
    refine CK (c := c) hm hΓ hK n N.A hs3 hd1 h1 fun E' a' hs' ha' hd' => ?_
    have := hfin E' a' hs' ha' hd'
    cases x with
    | normal => exact absurd h1 (hne S2)
    | exit i => exact this
    | ret => exact this
  | false =>
   rw [hb] at h1 hs3 hcond
   simp only [Bool.false_eq_true, if_false] at h1
   refine wp_cond_false hcond (wp_skip ?_)
   exact CK (c := c) hm hΓ hK n N.B hs3 hd1 h1 hfin
theorem MU (P : Program) (hfol : P.follows .mixedOrders = true) (h : Bg) : ∀ n, Ga P h (DQ P h n)
  | 0 => ⟨fun k args H lk r hr => by simp [DQ] at hr, fun k args H lk L v H' hr => by simp [DQ] at hr⟩
  | n + 1 => by
    have ih := MU P hfol h n
    refine ⟨fun k args H lk r hr => ?_, fun k args H lk L v H' hr E0 us hH hlk hn hm hh hlocks hrep => ?_⟩
    · simp only [DQ] at hr
      split at hr
      case h_2 => cases hr
      rename_i fn hfn
      split at hr
      case h_2 => cases hr
      rename_i body hbody
      split at hr
      case isFalse => cases hr
      rename_i hc
      exact ⟨fn, hfn, by rw [hbody]; rfl, hc.2⟩
    · simp only [DQ] at hr
      split at hr
      case h_2 => cases hr
      rename_i fn hfn
      split at hr
      case h_2 => cases hr
      rename_i body hbody
      split at hr
      case isFalse => cases hr
      rename_i hc
      obtain ⟨hlen, hname⟩ := hc
      subst hH hlk
      let c : Cx := { P := P, hints := h, fn := k, ntmps := fn.ntmps, base := E0.H.length, lk := E0.lk ++ [L], Γ := DQ P h n }
      have hal : args.length = us.length := (BP _ _ hrep).1
      have hs : Cc c (E0.lock L) { T := Il args, H := E0.H } { tmps := us.toArray ++ Array.replicate (fn.ntmps - us.toArray.size) undef, defers := [] } :=
        { H := rfl
          lk := rfl
          n := hn
          m := by show E0.m + 1 = (E0.lk ++ [L]).length; rw [hm]; simp
          tmps := fun i => Vy hrep _ i
          size := by simp; show us.length + (fn.ntmps - us.length) = fn.ntmps; omega
          heap := hh.lock L
          base := Nat.le_refl _
          Dk := hlocks
          deep := by show 0 < (E0.lk ++ [L]).length; simp }
      simp only [Option.bind_eq_some_iff] at hr
      obtain ⟨q, hex, hl⟩ := hr
      refine calls_of_wp hfn hbody ?_
      refine SS (c := c) hfol ih (TK P h n) hs rfl hex fun E' a' S x hs' ha' hd' hx hvs hq => ?_
      rw [hq] at hl
      rw [← hs'.H] at hvs
      obtain ⟨u0, hu0, hr0⟩ := TI (P := P) hs'.heap hs'.tmps hvs
      have hD : Qo c E0 E' L S.H :=
        { VV := hh, n0 := hn, m0 := hm, base := hn.symm, lk := rfl
          Dk := fun l hl x hx => by rw [hn]; exact hlocks l (List.mem_append.2 (.inl hl)) x hx
          after := ha' }
      have hdl : (E0.lk ++ [L]).length = E0.m + 1 := by rw [hm]; simp
      have key : ∃ E1 : AZ, E1.w = E'.w ∧ Tc h k L E0 E1 H' ∧ AA E1 v u0 := by
        unfold D9 at hl
        split at hl
        · rename_i hg
          split at hl
          case isFalse => cases hl
          rename_i hcl
          simp only [Option.some.injEq, Prod.mk.injEq] at hl
          obtain ⟨rfl, rfl⟩ := hl
          rw [hdl] at hcl
          obtain ⟨E1, k1, k2, k3⟩ := Sy hD hg hr0 hcl
          refine ⟨E1, k1, ?_, k3⟩
          rw [← hn, hdl, Ye]
          exact k2
        · rename_i hg
          simp only [Option.map_eq_some_iff, Prod.exists, Prod.mk.injEq] at hl
          obtain ⟨v1, H2, news, h1, rfl, rfl⟩ := hl
          rw [hdl, ← hn] at h1
          obtain ⟨E1, k1, k2, k3⟩ := WT hD (by simpa using hg) hr0 h1
          exact ⟨E1, k1, by rw [← hn]; exact k2, k3⟩
      obtain ⟨E1, k1, k2, k3⟩ := key
      rcases hx with rfl | rfl
      · exact ⟨hd', u0, hu0, E1, k1, k2, k3⟩
      · exact ⟨hd', u0, hu0, E1, k1, k2, k3⟩
abbrev cE := FuncId → List V → A3 → Lk → Option (V × A3)
def dO (Γ Γ' : cE) : Prop := ∀ k a H lk r, Γ k a H lk = some r → Γ' k a H lk = some r
def Cx.at (c : Cx) (Γ : cE) : Cx := { c with Γ := Γ }
theorem kE {c : Cx} {Γ : cE} (hG : dO c.Γ Γ) {o : Oper} {S : St} {r : V × A3} (h : CU c o S = some r) : CU (c.at Γ) o S = some r := by
 by_cases hc : EI o = true
 ·unfold EI at hc
  split at hc
  case h_2 => cases hc
  rename_i f args ats ho
  simp only [CU, ho] at h ⊢
  split at h
  case h_2 => cases h
  rename_i g caps hf
  simp only [Option.bind_eq_some_iff, Prod.exists] at h
  obtain ⟨vs, hvs, as, M, H1, hl, hg⟩ := h
  simp only [hf, hvs, Option.bind_some]
  have : Af (c.at Γ) (c.hints.Cs g) S.H (vs ++ caps) = Af c (c.hints.Cs g) S.H (vs ++ caps) := by
   have : ∀ (vs : List V) (ms : List Tf) (H : A3), Af (c.at Γ) ms H vs = Af c ms H vs := by
    intro vs
    induction vs with
    | nil => intro ms H; rfl
    | cons v vs ih =>
     intro ms H
     simp only [Af]
     have : GQ (c.at Γ) (ms.headD .Pv) H v = GQ c (ms.headD .Pv) H v := rfl
     rw [this]
     congr 1
     funext r
     rw [ih]
   exact this _ _ _
  show (Af (c.at Γ) (c.hints.Cs g) S.H (vs ++ caps)).bind _ = _
  rw [this, hl]
  exact hG _ _ _ _ _ hg
 ·have : CU (c.at Γ) o S = CU c o S := by
   have em : ∀ (ps : List (Nat × V)) (H : A3), CM (c.at Γ) H ps = CM c H ps := by
    intro ps
    induction ps with
    | nil => intro H; rfl
    | cons p ps ih =>
     intro H
     obtain ⟨i, v⟩ := p
     simp only [CM]
     have : Fy (c.at Γ) H v = Fy c H v := rfl
     rw [this]
     congr 1
     funext r
     rw [ih]
   obtain ⟨dst, op, ty, pos, aft, gd⟩ := o
   cases op <;> try rfl
   case buildSlice t n ps =>
    simp only [CU]
    congr 1
    funext ps
    rw [em]
    rfl
   case makeMap t r => cases r <;> rfl
   case call k =>
    obtain ⟨callee, args, ats⟩ := k
    cases callee with
    | value f => exact absurd rfl hc
    | builtin b => cases b <;> rfl
    | invoke r n => rfl
  rw [this]
  exact h
theorem Sp {c : Cx} {Γ : cE} (hG : dO c.Γ Γ) {ops : Array Oper} {o : Oper} {S S' : St} (h : CW c ops o S = some S') : CW (c.at Γ) ops o S = some S' := by
 rw [EU] at h ⊢
 simp only [Option.bind_eq_some_iff, Prod.exists] at h
 obtain ⟨v, H', h1, h2⟩ := h
 unfold Ea at h1
 simp only [Option.bind_eq_some_iff] at h1
 obtain ⟨b, hb, h1⟩ := h1
 have : Ea (c.at Γ) ops o S = some (v, H') := by
  unfold Ea
  rw [hb, Option.bind_some]
  cases b with
  | true => simp only [if_true] at h1 ⊢; exact kE hG h1
  | false => simpa using h1
 rw [this]
 exact h2
theorem Uf {Γ : cE} {cf : Nat → Cx} (hG : ∀ i, dO (cf i).Γ Γ) {ops : Array Oper} : ∀ (l : List Nat) {S S' : St}, DT cf ops l S = some S' → DT (fun i => (cf i).at Γ) ops l S = some S'
 | [], S, S', h => h
 | i :: l, S, S', h => by
  simp only [DT] at h ⊢
  split at h
  ·cases h
  simp only [Option.bind_eq_some_iff] at h
  obtain ⟨S1, h1, h2⟩ := h
  rw [Sp (hG i) h1]
  exact Uf hG l h2
theorem LA {f g : St → Option (X × St)} (hfg : ∀ S r, f S = some r → g S = some r) : ∀ {n m : Nat}, n ≤ m → ∀ {S : St} {r : X × St}, EY f n S = some r → EY g m S = some r
 | 0, m, _, S, r, h => by simp [EY] at h
 | n + 1, 0, hnm, S, r, h => by omega
 | n + 1, m + 1, hnm, S, r, h => by
  simp only [EY] at h ⊢
  split at h
  ·rename_i S1 h1
   rw [hfg _ _ h1]
   exact LA hfg (by omega) h
  ·rename_i hne
   rw [hfg _ _ h]
   split
   ·rename_i S1 he
    simp only [Option.some.injEq] at he
    subst he
    exact absurd h (hne S1)
   ·rfl
theorem Dn {c : Cx} {Γ : cE} (hG : dO c.Γ Γ) {n m : Nat} (hnm : n ≤ m) : ∀ (b : Code) {S : St} {r : X × St}, Ak c n b S = some r → Ak (c.at Γ) m b S = some r
 | .skip, S, r, h => h
 | .region id ops draw, S, r, h => by
  simp only [Ak, Option.map_eq_some_iff] at h ⊢
  obtain ⟨S1, h1, rfl⟩ := h
  refine ⟨S1, ?_, rfl⟩
  split at h1
  ·rename_i hd
   rw [if_pos hd]
   split at h1
   ·rename_i hok
    rw [if_pos hok]
    exact Uf (cf := Es c ops) (fun _ => hG) _ h1
   ·cases h1
  ·rename_i hd
   rw [if_neg hd]
   exact Uf (cf := fun _ => c) (fun _ => hG) _ h1
 | .seq p q, S, r, h => by
  simp only [Ak] at h ⊢
  split at h
  ·rename_i S1 h1
   rw [Dn hG hnm p h1]
   exact Dn hG hnm q h
  ·rename_i hne
   rw [Dn hG hnm p h]
   split
   ·rename_i S1 he
    simp only [Option.some.injEq] at he
    subst he
    exact absurd h (hne S1)
   ·rfl
 | .cond y p q, S, r, h => by
  simp only [Ak] at h ⊢
  split at h
  ·exact Dn hG hnm p h
  ·exact Dn hG hnm q h
  ·cases h
 | .block id p, S, r, h => by
  simp only [Ak] at h ⊢
  split at h
  ·rename_i i S1 h1
   rw [Dn hG hnm p h1]
   exact h
  ·rename_i hne
   rw [Dn hG hnm p h]
   split
   ·rename_i i S1 he
    simp only [Option.some.injEq] at he
    subst he
    exact absurd h (hne i S1)
   ·rfl
 | .loop p, S, r, h => by
  simp only [Ak] at h ⊢
  exact LA (fun S r h => Dn hG hnm p h) hnm h
 | .exit id, S, r, h => h
 | .ret, S, r, h => h
 | .label _, _, _, h => by simp [Ak] at h
 | .goto _, _, _, h => by simp [Ak] at h
 | .scope _, _, _, h => by simp [Ak] at h
 | .refuse _, _, _, h => by simp [Ak] at h
 | .rangeFunc .., _, _, h => by simp [Ak] at h
theorem Xt {P : Program} {rs : List ResultVar} {x y : Option (X × St)} (h : ∀ r, x = some r → y = some r) {r : List V × A3} (hr : KM P rs x = some r) : KM P rs y = some r := by
 obtain ⟨e, S, h1, h2, h3, h4⟩ := Hk hr
 rw [h _ h1]
 obtain ⟨vs, H⟩ := r
 simp only [] at h3 h4
 subst h4
 rcases h2 with rfl | rfl
 ·simp only [KM, h3, Option.map_some]
 ·simp only [KM, h3, Option.map_some]
theorem XH {c : Cx} {Γ : cE} (hG : dO c.Γ Γ) {n m : Nat} (hnm : n ≤ m) {rs : List ResultVar} {b : Code} {S : St} {r : List V × A3} (h : J5 c n rs b S = some r) : J5 (c.at Γ) m rs b S = some r := by
 unfold J5 at h ⊢
 have hw : ∀ N S bb r, N5 c n rs N S bb = some r → N5 (c.at Γ) m rs N S bb = some r := fun N S bb r hr => Xt (fun q hq => Dn hG hnm _ hq) hr
 cases hN : Ef b with
 | none =>
  rw [hN] at h
  simp only [] at h ⊢
  exact Xt (fun q hq => Dn hG hnm _ hq) h
 | some N =>
  rw [hN] at h
  simp only [] at h ⊢
  split at h
  case h_2 => cases h
  rename_i S0 h0
  rw [Dn hG hnm _ h0]
  simp only []
  split at h
  case isFalse => cases h
  rename_i hc
  have hc' : N.p < (c.at Γ).ntmps ∧ N.q < (c.at Γ).ntmps ∧ N.p ≠ N.q ∧ (Ax (c.at Γ).P N.t).isSome = true := hc
  rw [if_pos hc']
  split at h
  ·exact hw _ _ _ _ h
  ·split at h
   case isFalse => cases h
   rename_i hs
   have h2 := hw _ _ _ _ h
   have h1 := hw _ _ _ _ (hs.trans h)
   rw [if_pos (h1.trans h2.symm)]
   exact h2
  ·cases h
theorem S7 (P : Program) (h : Bg) : ∀ {n m : Nat}, n ≤ m → dO (DQ P h n) (DQ P h m)
  | 0, m, _, k, a, H, lk, r, hr => by simp [DQ] at hr
  | n + 1, 0, hnm, _, _, _, _, _, _ => by omega
  | n + 1, m + 1, hnm, k, a, H, lk, r, hr => by
    have ih : dO (DQ P h n) (DQ P h m) := S7 P h (by omega)
    simp only [DQ] at hr ⊢
    split at hr
    case h_2 => cases hr
    rename_i fn hfn
    split at hr
    case h_2 => cases hr
    rename_i body hbody
    split at hr
    case isFalse => cases hr
    rename_i hc
    simp only [hbody, hc, and_self, if_true]
    simp only [Option.bind_eq_some_iff] at hr ⊢
    obtain ⟨q, h1, h2⟩ := hr
    exact ⟨q, XH (c := { P := P, hints := h, fn := k, ntmps := fn.ntmps, base := H.length, lk := lk, Γ := DQ P h n }) ih (by omega : n ≤ m) h1, h2⟩
open Classical in
noncomputable def Al (P : Program) (h : Bg) : cE := fun k a H lk =>
 if hx : ∃ n r, DQ P h n k a H lk = some r then some (Classical.choose (Classical.choose_spec hx)) else none
theorem NV {P : Program} {h : Bg} {n : Nat} {k : FuncId} {a : List V} {H : A3} {lk : Lk} {r : V × A3} (hr : DQ P h n k a H lk = some r) : Al P h k a H lk = some r := by
 have hx : ∃ n r, DQ P h n k a H lk = some r := ⟨n, r, hr⟩
 unfold Al
 rw [dif_pos hx]
 have h1 := Classical.choose_spec (Classical.choose_spec hx)
 have h2 := S7 P h (Nat.le_max_left n (Classical.choose hx)) _ _ _ _ _ hr
 have h3 := S7 P h (Nat.le_max_right n (Classical.choose hx)) _ _ _ _ _ h1
 rw [← h3, h2]
theorem S6 {P : Program} {h : Bg} {k : FuncId} {a : List V} {H : A3} {lk : Lk} {r : V × A3} (hr : Al P h k a H lk = some r) : ∃ n, DQ P h n k a H lk = some r := by
 unfold Al at hr
 split at hr
 ·rename_i hx
  simp only [Option.some.injEq] at hr
  exact ⟨_, hr ▸ Classical.choose_spec (Classical.choose_spec hx)⟩
 ·cases hr
theorem Uq (P : Program) (hfol : P.follows .mixedOrders = true) (h : Bg) : Ga P h (Al P h) where
 body := fun k args H lk r hr => let ⟨n, hn⟩ := S6 hr; (MU P hfol h n).body k args H lk r hn
 run := fun k args H lk L v H' hr => let ⟨n, hn⟩ := S6 hr; (MU P hfol h n).run k args H lk L v H' hn
theorem bD {P : Program} {h : Bg} {c : Cx} (hc : c.Γ = Al P h) {o : Oper} {S : St} {r : V × A3} (hr : CU c o S = some r) : ∃ n, CU (c.at (DQ P h n)) o S = some r := by
 by_cases hcl : EI o = true
 ·have hh := hr
  unfold EI at hcl
  split at hcl
  case h_2 => cases hcl
  rename_i f args ats ho
  simp only [CU, ho] at hr
  split at hr
  case h_2 => cases hr
  rename_i g caps hf
  simp only [Option.bind_eq_some_iff, Prod.exists] at hr
  obtain ⟨vs, hvs, as, M, H1, hl, hg⟩ := hr
  rw [hc] at hg
  obtain ⟨n, hn⟩ := S6 hg
  refine ⟨n, ?_⟩
  have : ∀ (vs : List V) (ms : List Tf) (H : A3), Af (c.at (DQ P h n)) ms H vs = Af c ms H vs := by
   intro vs
   induction vs with
   | nil => intro ms H; rfl
   | cons v vs ih =>
    intro ms H
    simp only [Af]
    have : GQ (c.at (DQ P h n)) (ms.headD .Pv) H v = GQ c (ms.headD .Pv) H v := rfl
    rw [this]
    congr 1
    funext r
    rw [ih]
  simp only [CU, ho, hf, hvs, Option.bind_some]
  show (Af (c.at (DQ P h n)) (c.hints.Cs g) S.H (vs ++ caps)).bind _ = _
  rw [this, hl]
  exact hn
 ·refine ⟨0, ?_⟩
  have em : ∀ (ps : List (Nat × V)) (H : A3), CM (c.at (DQ P h 0)) H ps = CM c H ps := by
   intro ps
   induction ps with
   | nil => intro H; rfl
   | cons p ps ih =>
    intro H
    obtain ⟨i, v⟩ := p
    simp only [CM]
    have : Fy (c.at (DQ P h 0)) H v = Fy c H v := rfl
    rw [this]
    congr 1
    funext r
    rw [ih]
  have : CU (c.at (DQ P h 0)) o S = CU c o S := by
   obtain ⟨dst, op, ty, pos, aft, gd⟩ := o
   cases op <;> try rfl
   case buildSlice t n ps =>
    simp only [CU]
    congr 1
    funext ps
    rw [em]
    rfl
   case makeMap t r => cases r <;> rfl
   case call k =>
    obtain ⟨callee, args, ats⟩ := k
    cases callee with
    | value f => exact absurd rfl hcl
    | builtin b => cases b <;> rfl
    | invoke r n => rfl
  rw [this]
  exact hr
theorem UK {P : Program} {h : Bg} {c : Cx} (hc : c.Γ = Al P h) {ops : Array Oper} {o : Oper} {S S' : St} (hr : CW c ops o S = some S') : ∃ n, ∀ m, n ≤ m → CW (c.at (DQ P h m)) ops o S = some S' := by
 rw [EU] at hr
 simp only [Option.bind_eq_some_iff, Prod.exists] at hr
 obtain ⟨v, H', h1, h2⟩ := hr
 unfold Ea at h1
 simp only [Option.bind_eq_some_iff] at h1
 obtain ⟨b, hb, h1⟩ := h1
 have key : ∃ n, Ea (c.at (DQ P h n)) ops o S = some (v, H') := by
  unfold Ea
  simp only [hb, Option.bind_some]
  cases b with
  | true => simp only [if_true] at h1 ⊢; exact bD hc h1
  | false => exact ⟨0, by simpa using h1⟩
 obtain ⟨n, hn⟩ := key
 refine ⟨n, fun m hm => ?_⟩
 have : CW (c.at (DQ P h n)) ops o S = some S' := by
  rw [EU, hn]
  exact h2
 exact Sp (c := c.at (DQ P h n)) (S7 P h hm) this
theorem PO {P : Program} {h : Bg} {cf : Nat → Cx} (hc : ∀ i, (cf i).Γ = Al P h) {ops : Array Oper} : ∀ (l : List Nat) {S S' : St}, DT cf ops l S = some S' → ∃ n, ∀ m, n ≤ m → DT (fun i => (cf i).at (DQ P h m)) ops l S = some S'
 | [], S, S', hr => ⟨0, fun _ _ => hr⟩
 | i :: l, S, S', hr => by
  simp only [DT] at hr
  split at hr
  ·cases hr
  rename_i o ho
  simp only [Option.bind_eq_some_iff] at hr
  obtain ⟨S1, h1, h2⟩ := hr
  obtain ⟨n1, k1⟩ := UK (hc i) h1
  obtain ⟨n2, k2⟩ := PO hc l h2
  refine ⟨max n1 n2, fun m hm => ?_⟩
  simp only [DT, ho, k1 m (by omega), Option.bind_some]
  exact k2 m (by omega)
theorem QI {F : Nat → St → Option (X × St)} {f : St → Option (X × St)} (hf : ∀ S r, f S = some r → ∃ n, ∀ m, n ≤ m → F m S = some r) : ∀ (j : Nat) {S : St} {r : X × St}, EY f j S = some r → ∃ n, ∀ m, n ≤ m → EY (F m) j S = some r
 | 0, S, r, h => by simp [EY] at h
 | j + 1, S, r, h => by
  simp only [EY] at h
  split at h
  ·rename_i S1 h1
   obtain ⟨n1, k1⟩ := hf _ _ h1
   obtain ⟨n2, k2⟩ := QI hf j h
   refine ⟨max n1 n2, fun m hm => ?_⟩
   simp only [EY, k1 m (by omega)]
   exact k2 m (by omega)
  ·rename_i hne
   obtain ⟨n1, k1⟩ := hf _ _ h
   refine ⟨n1, fun m hm => ?_⟩
   simp only [EY, k1 m hm]
   split
   ·rename_i S1 he
    simp only [Option.some.injEq] at he
    subst he
    exact absurd h (hne S1)
   ·rfl
theorem ET {P : Program} {h : Bg} {c : Cx} (hc : c.Γ = Al P h) (j : Nat) : ∀ (b : Code) {S : St} {r : X × St}, Ak c j b S = some r → ∃ n, ∀ m, n ≤ m → Ak (c.at (DQ P h m)) m b S = some r
 | .skip, S, r, hr => ⟨0, fun _ _ => hr⟩
 | .region id ops draw, S, r, hr => by
  simp only [Ak, Option.map_eq_some_iff] at hr ⊢
  obtain ⟨S1, h1, rfl⟩ := hr
  split at h1
  ·rename_i hd
   split at h1
   ·rename_i hok
    obtain ⟨n, k⟩ := PO (cf := Es c ops) (fun _ => hc) _ h1
    exact ⟨n, fun m hm => ⟨S1, by rw [if_pos hd, if_pos hok]; exact k m hm, rfl⟩⟩
   ·cases h1
  ·rename_i hd
   obtain ⟨n, k⟩ := PO (cf := fun _ => c) (fun _ => hc) _ h1
   exact ⟨n, fun m hm => ⟨S1, by rw [if_neg hd]; exact k m hm, rfl⟩⟩
 | .seq p q, S, r, hr => by
  simp only [Ak] at hr ⊢
  split at hr
  ·rename_i S1 h1
   obtain ⟨n1, k1⟩ := ET hc j p h1
   obtain ⟨n2, k2⟩ := ET hc j q hr
   refine ⟨max n1 n2, fun m hm => ?_⟩
   rw [k1 m (by omega)]
   exact k2 m (by omega)
  ·rename_i hne
   obtain ⟨n1, k1⟩ := ET hc j p hr
   refine ⟨n1, fun m hm => ?_⟩
   rw [k1 m hm]
   split
   ·rename_i S1 he
    simp only [Option.some.injEq] at he
    subst he
    exact absurd hr (hne S1)
   ·rfl
 | .cond y p q, S, r, hr => by
  simp only [Ak] at hr ⊢
  split at hr
  ·exact ET hc j p hr
  ·exact ET hc j q hr
  ·cases hr
 | .block id p, S, r, hr => by
  simp only [Ak] at hr ⊢
  split at hr
  ·rename_i i S1 h1
   obtain ⟨n1, k1⟩ := ET hc j p h1
   refine ⟨n1, fun m hm => ?_⟩
   rw [k1 m hm]
   exact hr
  ·rename_i hne
   obtain ⟨n1, k1⟩ := ET hc j p hr
   refine ⟨n1, fun m hm => ?_⟩
   rw [k1 m hm]
   split
   ·rename_i i S1 he
    simp only [Option.some.injEq] at he
    subst he
    exact absurd hr (hne i S1)
   ·rfl
 | .loop p, S, r, hr => by
  simp only [Ak] at hr ⊢
  obtain ⟨n, k⟩ := QI (F := fun m => Ak (c.at (DQ P h m)) m p) (fun S r h => ET hc j p h) j hr
  exact ⟨max n j, fun m hm => LA (fun _ _ h => h) (by omega) (k m (by omega))⟩
 | .exit id, S, r, hr => ⟨0, fun _ _ => hr⟩
 | .ret, S, r, hr => ⟨0, fun _ _ => hr⟩
 | .label _, _, _, h => by simp [Ak] at h
 | .goto _, _, _, h => by simp [Ak] at h
 | .scope _, _, _, h => by simp [Ak] at h
 | .refuse _, _, _, h => by simp [Ak] at h
 | .rangeFunc .., _, _, h => by simp [Ak] at h
open Classical in
noncomputable def Dj (c : Cx) (b : Code) (S : St) : Option (X × St) :=
 if hx : ∃ n r, Ak c n b S = some r then some (Classical.choose (Classical.choose_spec hx)) else none
theorem C2 {c : Cx} {n : Nat} {b : Code} {S : St} {r : X × St} (hr : Ak c n b S = some r) : Dj c b S = some r := by
 have hx : ∃ n r, Ak c n b S = some r := ⟨n, r, hr⟩
 unfold Dj
 rw [dif_pos hx]
 have h1 := Classical.choose_spec (Classical.choose_spec hx)
 have h2 := Dn (c := c) (Γ := c.Γ) (fun _ _ _ _ _ h => h) (Nat.le_max_left n (Classical.choose hx)) b hr
 have h3 := Dn (c := c) (Γ := c.Γ) (fun _ _ _ _ _ h => h) (Nat.le_max_right n (Classical.choose hx)) b h1
 rw [← h3, h2]
theorem Dy {c : Cx} {b : Code} {S : St} {r : X × St} (hr : Dj c b S = some r) : ∃ n, ∀ m, n ≤ m → Ak c m b S = some r := by
 unfold Dj at hr
 split at hr
 ·rename_i hx
  simp only [Option.some.injEq] at hr
  exact ⟨_, fun m hm => Dn (c := c) (Γ := c.Γ) (fun _ _ _ _ _ h => h) hm b (hr ▸ Classical.choose_spec (Classical.choose_spec hx))⟩
 ·cases hr
theorem Hj {c : Cx} {b : Code} {S : St} {x : Option (X × St)} (h1 : ∀ r, x = some r → Dj c b S = some r) (h2 : ∀ n r, Ak c n b S = some r → x = some r) : Dj c b S = x := by
 cases he : Dj c b S with
 | none =>
  cases x with
  | none => rfl
  | some r => rw [h1 r rfl] at he; cases he
 | some r =>
  obtain ⟨n, hn⟩ := Dy he
  exact (h2 n r (hn n (Nat.le_refl _))).symm
section
variable {c : Cx} {S : St}
theorem Tv : Dj c .skip S = some (.normal, S) := C2 (n := 0) rfl
theorem Tt (id : Nat) : Dj c (.exit id) S = some (.exit id, S) := C2 (n := 0) rfl
theorem WB : Dj c .ret S = some (.ret, S) := C2 (n := 0) rfl
theorem R1 (id : Nat) (ops : Array Oper) : Dj c (.region id ops false) S = (DT (fun _ => c) ops (List.range ops.size) S).map fun S' => (.normal, S') :=
 Hj (fun r h => C2 (n := 0) (by simpa only [Ak, Bool.false_eq_true, if_false] using h)) fun n r h => by simpa only [Ak, Bool.false_eq_true, if_false] using h
theorem Ts (id : Nat) (ops : Array Oper) : Dj c (.region id ops true) S = if Lh ops then (DT (Es c ops) ops (Q1 ops) S).map fun S' => (.normal, S') else none := by
 refine Hj (fun r h => C2 (n := 0) ?_) fun n r h => ?_
 ·simp only [Ak, if_true]
  split at h
  ·rename_i hd; rw [if_pos hd]; exact h
  ·cases h
 ·simp only [Ak, if_true] at h
  split
  ·rename_i hd; rw [if_pos hd] at h; exact h
  ·rename_i hd; rw [if_neg hd] at h; exact h
def TV (x : Option (X × St)) (k : St → Option (X × St)) : Option (X × St) :=
 match x with
 | some (.normal, S) => k S
 | r => r
theorem WC (p q : Code) : Dj c (.seq p q) S = TV (Dj c p S) fun S' => Dj c q S' := by
 refine Hj (fun r h => ?_) fun n r h => ?_
 ·unfold TV at h
  split at h
  ·rename_i S1 h1
   obtain ⟨n1, k1⟩ := Dy h1
   obtain ⟨n2, k2⟩ := Dy h
   refine C2 (n := max n1 n2) ?_
   simp only [Ak, k1 _ (Nat.le_max_left ..), k2 _ (Nat.le_max_right ..)]
  ·rename_i hne
   obtain ⟨n1, k1⟩ := Dy h
   refine C2 (n := n1) ?_
   simp only [Ak, k1 _ (Nat.le_refl _)]
   split
   ·rename_i S1 he
    simp only [Option.some.injEq] at he
    subst he
    exact absurd h (hne S1)
   ·rfl
 ·simp only [Ak] at h
  split at h
  ·rename_i S1 h1
   rw [C2 h1]
   exact C2 h
  ·rename_i hne
   rw [C2 h]
   obtain ⟨x, S1⟩ := r
   cases x with
   | normal => exact absurd h (hne S1)
   | exit i => rfl
   | ret => rfl
theorem Tr (y : Operand) (p q : Code) : Dj c (.cond y p q) S = match ev S.T y with
  | some (.bool true) => Dj c p S
  | some (.bool false) => Dj c q S
  | _ => none := by
 refine Hj (fun r h => ?_) fun n r h => ?_
 ·split at h
  ·rename_i hy
   obtain ⟨n, k⟩ := Dy h
   exact C2 (n := n) (by simp only [Ak, hy, k n (Nat.le_refl _)])
  ·rename_i hy
   obtain ⟨n, k⟩ := Dy h
   exact C2 (n := n) (by simp only [Ak, hy, k n (Nat.le_refl _)])
  ·cases h
 ·simp only [Ak] at h
  split at h
  ·rename_i hy; simp only [hy]; exact C2 h
  ·rename_i hy; simp only [hy]; exact C2 h
  ·cases h
theorem SR (id : Nat) (p : Code) : Dj c (.block id p) S = match Dj c p S with
  | some (.exit i, S') => if i = id then some (.normal, S') else some (.exit i, S')
  | r => r := by
 refine Hj (fun r h => ?_) fun n r h => ?_
 ·split at h
  ·rename_i i S1 h1
   obtain ⟨n, k⟩ := Dy h1
   exact C2 (n := n) (by simp only [Ak, k n (Nat.le_refl _)]; exact h)
  ·rename_i hne
   obtain ⟨n, k⟩ := Dy h
   refine C2 (n := n) ?_
   simp only [Ak, k n (Nat.le_refl _)]
   split
   ·rename_i i S1 he
    simp only [Option.some.injEq] at he
    subst he
    exact absurd h (hne i S1)
   ·rfl
 ·simp only [Ak] at h
  split at h
  ·rename_i i S1 h1
   rw [C2 h1]
   exact h
  ·rename_i hne
   rw [C2 h]
   obtain ⟨x, S1⟩ := r
   cases x with
   | normal => rfl
   | exit i => exact absurd h (hne i S1)
   | ret => rfl
theorem Tu (p : Code) : Dj c (.loop p) S = TV (Dj c p S) fun S' => Dj c (.loop p) S' := by
 refine Hj (fun r h => ?_) fun n r h => ?_
 ·unfold TV at h
  split at h
  ·rename_i S1 h1
   obtain ⟨n1, k1⟩ := Dy h1
   obtain ⟨n2, k2⟩ := Dy h
   refine C2 (n := max n1 n2 + 1) ?_
   have h3 := k2 (max n1 n2) (Nat.le_max_right ..)
   simp only [Ak] at h3
   simp only [Ak, EY, k1 (max n1 n2 + 1) (by omega)]
   exact LA (fun S r h => Dn (c := c) (Γ := c.Γ) (fun _ _ _ _ _ h => h) (Nat.le_succ _) p h) (Nat.le_refl _) h3
  ·rename_i hne
   obtain ⟨n1, k1⟩ := Dy h
   refine C2 (n := n1 + 1) ?_
   simp only [Ak, EY, k1 (n1 + 1) (Nat.le_succ _)]
   split
   ·rename_i S1 he
    simp only [Option.some.injEq] at he
    subst he
    exact absurd h (hne S1)
   ·rfl
 ·simp only [Ak] at h
  cases n with
  | zero => simp [EY] at h
  | succ n =>
   simp only [EY] at h
   split at h
   ·rename_i S1 h1
    rw [C2 h1]
    refine C2 (n := n + 1) ?_
    simp only [Ak]
    exact LA (fun _ _ h => h) (Nat.le_succ _) h
   ·rename_i hne
    rw [C2 h]
    obtain ⟨x, S1⟩ := r
    cases x with
    | normal => exact absurd h (hne S1)
    | exit i => rfl
    | ret => rfl
end
noncomputable def Aw (P : Program) (h : Bg) (k ntmps base : Nat) (lk : Lk) : Cx := { P := P, hints := h, fn := k, ntmps := ntmps, base := base, lk := lk, Γ := Al P h }
def iN (P : Program) (h : Bg) (k base d : Nat) (rs : List ResultVar) (x : Option (X × St)) : Option (V × A3) :=
 match x with
 | some (.normal, S) | some (.ret, S) => (BB P S.H S.T rs).bind fun vs => D9 h k base d (Dd vs) S.H
 | _ => none
theorem Up {P : Program} {h : Bg} {k : FuncId} {fn : Func} {body : Code} (hfn : P.funcs[k]? = some fn) (hb : fn.body = some body) {args : List V} {H : A3} {lk : Lk} (hns : Ef body = none) (hlen : args.length ≤ fn.ntmps) (hname : (fn.name == "runtime.NumGoroutine") = false) {r : V × A3}
    (hr : iN P h k H.length lk.length fn.results.toList (Dj (Aw P h k fn.ntmps H.length lk) body { T := Il args, H := H }) = some r) : Al P h k args H lk = some r := by
  have main : ∀ x S, Dj (Aw P h k fn.ntmps H.length lk) body { T := Il args, H := H } = some (x, S) → (x = .normal ∨ x = .ret) → ((BB P S.H S.T fn.results.toList).bind fun vs => D9 h k H.length lk.length (Dd vs) S.H) = some r → Al P h k args H lk = some r := by
    intro x S hx hxx hl
    obtain ⟨n, hn⟩ := Dy hx
    obtain ⟨m, hm⟩ := ET (P := P) (h := h) rfl n body (hn n (Nat.le_refl _))
    refine NV (n := m + 1) ?_
    simp only [DQ, hfn, hb]
    rw [if_pos ⟨hlen, hname⟩]
    have := hm m (Nat.le_refl _)
    unfold Cx.at Aw at this
    simp only [] at this
    unfold J5
    rw [hns]
    simp only []
    rw [this]
    rcases hxx with rfl | rfl
    · simp only [KM]
      simp only [Option.bind_eq_some_iff] at hl
      obtain ⟨vs, h1, h2⟩ := hl
      simp only [h1, Option.map_some, Option.bind_some, h2]
    · simp only [KM]
      simp only [Option.bind_eq_some_iff] at hl
      obtain ⟨vs, h1, h2⟩ := hl
      simp only [h1, Option.map_some, Option.bind_some, h2]
  unfold iN at hr
  split at hr
  · rename_i S hx; exact main _ S hx (.inl rfl) hr
  · rename_i S hx; exact main _ S hx (.inr rfl) hr
  · cases hr
def GV (c : Cx) (b : Code) (S : St) (Q : X → St → Prop) : Prop := ∃ x S', Dj c b S = some (x, S') ∧ Q x S'
def Rf (k : St → Prop) (Q : X → St → Prop) (x : X) (S : St) : Prop := match x with | .normal => k S | x => Q x S
def Cb (T : Nat → V) (d : Nat) (v : V) : Nat → V := fun i => if i = d then v else T i
theorem NZ (T : Nat → V) (d : Nat) (v : V) (i : Nat) : Cb T d v i = if i = d then v else T i := rfl
def MK (c : Cx) (ops : Array Oper) : List (Bool × Bool × Oper) → St → Option St
 | [], S => some S
 | (s, k, o) :: l, S => (CW (c.BF s k) ops o S).bind fun S' => MK c ops l S'
def BO (c : Cx) (ops : Array Oper) (l : List (Bool × Bool × Oper)) (S : St) (Q : St → Prop) : Prop := ∃ S', MK c ops l S = some S' ∧ Q S'
def iA (x : Option (V × A3)) (Q : V → A3 → Prop) : Prop := ∃ v H, x = some (v, H) ∧ Q v H
def hZ {α : Type} (x : Option α) (Q : α → Prop) : Prop := ∃ v, x = some v ∧ Q v
def H6 (c : Cx) (op : Op) (S : St) : Option (V × A3) := CU c ⟨none, op, 0, "", #[], none⟩ S
theorem Rr (c : Cx) (o : Oper) (S : St) : CU c o S = H6 c o.op S := rfl
theorem ZB {α : Type} (a : α) (Q : α → Prop) : hZ (some a) Q = Q a := by
 apply propext
 simp [hZ]
section
variable {c : Cx} {ops : Array Oper} {S : St} {Q : X → St → Prop}
theorem V9 {x : X} : (∃ x' S', some (x, S) = some (x', S') ∧ Q x' S') ↔ Q x S := by
 constructor
 ·rintro ⟨x', S', h, hq⟩
  simp only [Option.some.injEq, Prod.mk.injEq] at h
  obtain ⟨rfl, rfl⟩ := h
  exact hq
 ·exact fun h => ⟨_, _, rfl, h⟩
theorem ZA : GV c .skip S Q = Q .normal S := by
 apply propext; unfold GV; rw [Tv]; exact V9
theorem Z8 (id : Nat) : GV c (.exit id) S Q = Q (.exit id) S := by
 apply propext; unfold GV; rw [Tt]; exact V9
theorem cA : GV c .ret S Q = Q .ret S := by
 apply propext; unfold GV; rw [WB]; exact V9
theorem Vv (p q : Code) : GV c (.seq p q) S Q = GV c p S (Rf (fun S' => GV c q S' Q) Q) := by
 apply propext
 unfold GV
 simp only [WC, TV]
 constructor
 ·rintro ⟨x, S', h, hq⟩
  split at h
  ·rename_i S1 h1
   exact ⟨.normal, S1, h1, x, S', h, hq⟩
  ·rename_i hne
   refine ⟨x, S', h, ?_⟩
   cases x with
   | normal => exact absurd h (hne S')
   | exit i => exact hq
   | ret => exact hq
 ·rintro ⟨x, S', h, hq⟩
  rw [h]
  cases x with
  | normal => exact hq
  | exit i => exact ⟨_, _, rfl, hq⟩
  | ret => exact ⟨_, _, rfl, hq⟩
def gK (v : V) (A B : Prop) : Prop := match v with | .bool true => A | .bool false => B | _ => False
theorem Wv (b : Bool) (A B : Prop) : gK (.bool b) A B = if b then A else B := by cases b <;> rfl
theorem Z6 (y : Operand) (p q : Code) : GV c (.cond y p q) S Q = hZ (ev S.T y) fun v => gK v (GV c p S Q) (GV c q S Q) := by
 apply propext
 unfold GV
 simp only [Tr, hZ]
 constructor
 ·rintro ⟨x, S', h, hq⟩
  split at h
  ·rename_i hy; exact ⟨_, hy, x, S', h, hq⟩
  ·rename_i hy; exact ⟨_, hy, x, S', h, hq⟩
  ·cases h
 ·rintro ⟨v, hv, h⟩
  rw [hv]
  unfold gK at h
  split at h
  ·exact h
  ·exact h
  ·exact h.elim
theorem Ww (id : Nat) (p : Code) : GV c (.block id p) S Q = GV c p S fun x S' => match x with | .exit i => if i = id then Q .normal S' else Q (.exit i) S' | x => Q x S' := by
 apply propext
 unfold GV
 simp only [SR]
 constructor
 ·rintro ⟨x, S', h, hq⟩
  split at h
  ·rename_i i S1 h1
   refine ⟨_, _, h1, ?_⟩
   split at h <;>
   ·rename_i hi
    simp only [Option.some.injEq, Prod.mk.injEq] at h
    obtain ⟨rfl, rfl⟩ := h
    simp only [hi, if_true, if_false]
    exact hq
  ·rename_i hne
   refine ⟨x, S', h, ?_⟩
   cases x with
   | normal => exact hq
   | exit i => exact absurd h (hne i S')
   | ret => exact hq
 ·rintro ⟨x, S', h, hq⟩
  rw [h]
  cases x with
  | normal => exact ⟨_, _, rfl, hq⟩
  | exit i =>
   simp only [] at hq ⊢
   split at hq
   ·rename_i hi; rw [if_pos hi]; exact ⟨_, _, rfl, hq⟩
   ·rename_i hi; rw [if_neg hi]; exact ⟨_, _, rfl, hq⟩
  | ret => exact ⟨_, _, rfl, hq⟩
theorem LZ {b : Code} {Q' : X → St → Prop} (h : GV c b S Q) (hq : ∀ x S, Q x S → Q' x S) : GV c b S Q' :=
 let ⟨x, S', h1, h2⟩ := h; ⟨x, S', h1, hq _ _ h2⟩
theorem Z9 {p : Code} (I : Nat → St → Prop) : ∀ (n : Nat) {S : St}, I n S → (∀ k S, k ≤ n → I k S → GV c p S (Rf (fun S' => ∃ j, j < k ∧ I j S') Q)) → GV c (.loop p) S Q := by
 intro n
 induction n using Nat.strongRecOn with
 | _ n ih =>
  intro S h0 hstep
  obtain ⟨x, S1, h1, h2⟩ := hstep n S (Nat.le_refl _) h0
  unfold GV
  rw [Tu, h1]
  unfold Rf at h2
  cases x with
  | normal =>
   obtain ⟨j, hj, hI⟩ := h2
   exact ih j hj hI fun k S hk hI => hstep k S (by omega) hI
  | exit i => exact ⟨_, _, rfl, h2⟩
  | ret => exact ⟨_, _, rfl, h2⟩
theorem Ru {cf : Nat → Cx} {fl : Nat → Bool × Bool} (hcf : ∀ i, cf i = c.BF (fl i).1 (fl i).2) : ∀ (l : List Nat) (l' : List (Bool × Bool × Oper)) (S : St), (l.map fun i => (ops[i]?).map fun o => ((fl i).1, (fl i).2, o)) = l'.map some → DT cf ops l S = MK c ops l' S
 | [], l', S, h => by
  cases l' with
  | nil => rfl
  | cons x l' => simp at h
 | i :: l, l', S, h => by
  cases l' with
  | nil => simp at h
  | cons x l' =>
   simp only [List.map_cons, List.cons.injEq] at h
   obtain ⟨h1, h2⟩ := h
   cases ho : ops[i]? with
   | none => rw [ho] at h1; cases h1
   | some o =>
    rw [ho] at h1
    simp only [Option.map_some, Option.some.injEq] at h1
    subst h1
    simp only [DT, ho, MK, hcf i]
    congr 1
    funext S'
    exact Ru hcf l l' S' h2
def Ul (ops : Array Oper) : List (Bool × Bool × Oper) := ops.toList.map fun o => (false, false, o)
theorem Wj (l : List Oper) : (List.range l.length).map (fun i => l[i]?) = l.map some := by
 apply List.ext_getElem?
 intro i
 simp only [List.getElem?_map]
 by_cases h : i < l.length
 ·simp [h]
 ·rw [List.getElem?_eq_none (by simp; omega), List.getElem?_eq_none (by omega)]
  rfl
theorem V8 (hc : c.still = false ∧ c.calm = false) (id : Nat) (ops : Array Oper) : GV c (.region id ops false) S Q = BO c ops (Ul ops) S (Q .normal) := by
 have h1 : DT (fun _ => c) ops (List.range ops.size) S = MK c ops (Ul ops) S := by
  refine Ru (fl := fun _ => (false, false)) (fun i => ?_) _ _ _ ?_
  ·unfold Cx.BF
   cases c
   simp only [Cx.mk.injEq, true_and] at hc ⊢
   exact ⟨hc.1, hc.2, trivial⟩
  ·have := Wj ops.toList
   unfold Ul
   rw [List.map_map]
   have h2 := congrArg (List.map (Option.map fun o => (false, false, o))) this
   simp only [List.map_map] at h2
   simpa [Function.comp_def] using h2
 apply propext
 unfold GV BO
 rw [R1, h1]
 constructor
 ·rintro ⟨x, S', h, hq⟩
  simp only [Option.map_eq_some_iff, Prod.mk.injEq] at h
  obtain ⟨S1, h1, rfl, rfl⟩ := h
  exact ⟨S1, h1, hq⟩
 ·rintro ⟨S', h, hq⟩
  exact ⟨.normal, S', by rw [h]; rfl, hq⟩
def XE (ops : Array Oper) (l : List (Nat × Bool)) : Bool := Lh ops && Q1 ops == l.map (·.1) && (l.all fun x => K8 ops (Gy ops) x.1 == x.2)
def Qx (ops : Array Oper) (l : List (Nat × Bool)) : List (Bool × Bool × Oper) := l.filterMap fun x => (ops[x.1]?).map fun o => (true, x.2, o)
theorem Z7 {id : Nat} (l : List (Nat × Bool)) (h : XE ops l = true) (hq : BO c ops (Qx ops l) S (Q .normal)) : GV c (.region id ops true) S Q := by
 unfold XE at h
 simp only [Bool.and_eq_true, beq_iff_eq, List.all_eq_true] at h
 obtain ⟨⟨hok, hord⟩, hcalm⟩ := h
 obtain ⟨S', h1, h2⟩ := hq
 refine ⟨.normal, S', ?_, h2⟩
 rw [Ts, if_pos hok, hord]
 have hlt : ∀ x ∈ l, x.1 < ops.size := by
  intro x hx
  refine (J2 hok).2.1 x.1 ?_
  rw [hord]
  exact List.mem_map.2 ⟨x, hx, rfl⟩
 have : DT (Es c ops) ops (l.map (·.1)) S = MK c ops (Qx ops l) S := by
  refine Ru (fl := fun i => (true, K8 ops (Gy ops) i)) (fun i => rfl) _ _ _ ?_
  clear h1 hord
  unfold Qx
  induction l with
  | nil => rfl
  | cons x l ih =>
   have hx := hlt x (List.mem_cons_self ..)
   have hcx := hcalm x (List.mem_cons_self ..)
   have ih := ih (fun y hy => hcalm y (List.mem_cons_of_mem _ hy)) (fun y hy => hlt y (List.mem_cons_of_mem _ hy))
   simp only [List.map_cons, List.filterMap_cons, Array.getElem?_eq_getElem hx, Option.map_some, hcx, List.cons.injEq, true_and]
   exact ih
 rw [this, h1]
 rfl
theorem cC (Q : St → Prop) : BO c ops [] S Q = Q S := by
 apply propext; simp [BO, MK]
theorem ZD {s k : Bool} {d : Nat} {op : Op} {ty : TypeId} {pos : String} {aft : Array Edge} {l : List (Bool × Bool × Oper)} {Q : St → Prop} :
  BO c ops ((s, k, ⟨some d, op, ty, pos, aft, none⟩) :: l) S Q = (d < c.ntmps ∧ iA (H6 (c.BF s k) op S) fun v H => BO c ops l ⟨Cb S.T d v, H⟩ Q) := by
 apply propext
 unfold BO iA
 simp only [MK, CW, D0, Option.bind_some, if_true, Iq]
 constructor
 ·rintro ⟨S', h, hq⟩
  simp only [Option.bind_eq_some_iff] at h
  obtain ⟨S1, h1, h2⟩ := h
  split at h1
  case isFalse => cases h1
  rename_i hd
  simp only [Option.map_eq_some_iff, Prod.exists] at h1
  obtain ⟨v, H, h3, rfl⟩ := h1
  exact ⟨hd, v, H, h3, S', h2, hq⟩
 ·rintro ⟨hd, v, H, h3, S', h2, hq⟩
  refine ⟨S', ?_, hq⟩
  have hd' : d < (c.BF s k).ntmps := hd
  rw [if_pos hd', Rr, h3]
  exact h2
theorem ZC {s k : Bool} {op : Op} {ty : TypeId} {pos : String} {aft : Array Edge} {l : List (Bool × Bool × Oper)} {Q : St → Prop} :
  BO c ops ((s, k, ⟨none, op, ty, pos, aft, none⟩) :: l) S Q = iA (H6 (c.BF s k) op S) fun v H => BO c ops l ⟨S.T, H⟩ Q := by
 apply propext
 unfold BO iA
 simp only [MK, CW, D0, Option.bind_some, if_true, Iq]
 constructor
 ·rintro ⟨S', h, hq⟩
  simp only [Option.bind_eq_some_iff, Option.map_eq_some_iff, Prod.exists] at h
  obtain ⟨S1, ⟨v, H, h3, rfl⟩, h2⟩ := h
  exact ⟨v, H, h3, S', h2, hq⟩
 ·rintro ⟨v, H, h3, S', h2, hq⟩
  refine ⟨S', ?_, hq⟩
  rw [Rr, h3]
  exact h2
def Ow (ops : Array Oper) (T : Nat → V) (j : Nat) (w : Bool) : Option Bool :=
 ((ops[j]?).bind (·.dst)).bind fun t => match T t with
  | .bool b => some (b == w)
  | .FH [] => some false
  | _ => none
theorem Qm {s k : Bool} {d : Nat} {op : Op} {ty : TypeId} {pos : String} {aft : Array Edge} {j : Nat} {w : Bool} {l : List (Bool × Bool × Oper)} {Q : St → Prop} :
  BO c ops ((s, k, ⟨some d, op, ty, pos, aft, some (j, w)⟩) :: l) S Q = (d < c.ntmps ∧ hZ (Ow ops S.T j w) fun b => if b then iA (H6 (c.BF s k) op S) fun v H => BO c ops l ⟨Cb S.T d v, H⟩ Q else BO c ops l ⟨Cb S.T d Ca, S.H⟩ Q) := by
 have hw : D0 ops S.T ⟨some d, op, ty, pos, aft, some (j, w)⟩ = Ow ops S.T j w := by
  unfold D0 Ow
  simp only []
  cases (ops[j]?).bind (·.dst) <;> rfl
 apply propext
 unfold BO iA hZ
 simp only [MK, CW, hw, Iq]
 constructor
 ·rintro ⟨S', h, hq⟩
  simp only [Option.bind_eq_some_iff] at h
  obtain ⟨S1, ⟨b, hb, h1⟩, h2⟩ := h
  cases b with
  | true =>
   simp only [if_true] at h1
   split at h1
   case isFalse => cases h1
   rename_i hd
   simp only [Option.map_eq_some_iff, Prod.exists] at h1
   obtain ⟨v, H, h3, rfl⟩ := h1
   exact ⟨hd, true, hb, by rw [if_pos rfl]; exact ⟨v, H, h3, S', h2, hq⟩⟩
  | false =>
   simp only [Bool.false_eq_true, if_false] at h1
   split at h1
   case isFalse => cases h1
   rename_i hd
   simp only [Option.some.injEq] at h1
   subst h1
   exact ⟨hd, false, hb, by rw [if_neg (by simp)]; exact ⟨S', h2, hq⟩⟩
 ·rintro ⟨hd, b, hb, h⟩
  have hd' : d < (c.BF s k).ntmps := hd
  cases b with
  | true =>
   rw [if_pos rfl] at h
   obtain ⟨v, H, h3, S', h2, hq⟩ := h
   refine ⟨S', ?_, hq⟩
   simp only [hb, Option.bind_some, if_true, if_pos hd', Rr, h3]
   exact h2
  | false =>
   rw [if_neg (by simp)] at h
   obtain ⟨S', h2, hq⟩ := h
   refine ⟨S', ?_, hq⟩
   simp only [hb, Option.bind_some, Bool.false_eq_true, if_false, if_pos hd']
   exact h2
theorem YS (x : Operand) : H6 c (.move x) S = (ev S.T x).map fun v => (v, S.H) := rfl
theorem Ue (x : Operand) : H6 c (.assign x) S = (ev S.T x).map fun v => (v, S.H) := rfl
def Vd (v : V) (x y : Option V) : Option V := match v with | .bool true => x | .bool false => y | _ => none
theorem Uk (x y : Option V) : Vd (.bool true) x y = x := rfl
theorem T9 (x y : Option V) : Vd (.bool false) x y = y := rfl
theorem T7 (a x y : Operand) : H6 c (.pick a x y) S = ((ev S.T a).bind fun v => Vd v (ev S.T x) (ev S.T y)).map fun v => (v, S.H) := by
 unfold H6 CU Vd
 simp only []
 cases ev S.T a with
 | none => rfl
 | some v =>
  cases v with
  | bool b => cases b <;> rfl
  | _ => rfl
theorem Wb (t : TypeId) : H6 c (.alloc t) S = (B3 c.P t).bind fun sz => (BI c.P t).bind fun z => some (.ptr S.H.length 0, S.H ++ [.cells sz z]) := rfl
theorem Va (t : TypeId) (x : Operand) : H6 c (.box t x) S = (B3 c.P t).bind fun sz => (ev S.T x).bind fun v => if v.cellsOf.all V.Bh then some (.ptr S.H.length 0, S.H ++ [.cells sz v.cellsOf]) else none := rfl
theorem Wd (t : TypeId) (ps : Array (Nat × Operand)) : H6 c (.build t ps) S = (Qz S.T ps.toList).bind fun ps => (BI c.P t).bind fun z => (El c.P t).bind fun pl => ((E5 (fun i => pl[i]?) z ps).map .agg).map fun v => (v, S.H) := rfl
theorem JS (t : TypeId) (a : Operand) : H6 c (.load t a) S = (ev S.T a).bind fun v => (G5 c.P t S.H v).map fun v => (v, S.H) := rfl
theorem MJ (t : TypeId) (a x : Operand) : H6 c (.store t a x) S = (ev S.T a).bind fun p => (ev S.T x).bind fun v => (Gw c t S.H p v).map fun H => (Ca, H) := rfl
def Tl (v : V) : Option V := match v with | .ptr b off => some (.ptr b off) | .lp lv cs off => some (.lp lv cs off) | _ => none
theorem Rt (x : Operand) : H6 c (.nilCheck x) S = (ev S.T x).bind fun v => (Tl v).map fun v => (v, S.H) := by
 unfold H6 CU Tl
 simp only []
 cases ev S.T x with
 | none => rfl
 | some v => cases v <;> rfl
theorem Wc (op : BinOp) (t x y) (t2) : H6 c (.binOp op t x y t2) S = (ev S.T x).bind fun a => (ev S.T y).bind fun b => (Pl c.P op t a b).map fun v => (v, S.H) := rfl
theorem YT (op : UnOp) (t x) : H6 c (.unOp op t x) S = (ev S.T x).bind fun a => (lO op a).map fun v => (v, S.H) := rfl
theorem Rs (f : FuncId) (caps : Array Operand) : H6 c (.makeFunc (.func f) #[] caps) S = (KC S.T caps.toList).bind fun vs => some (.fn f vs, S.H) := rfl
def aZ (v : V) (off : Nat) : Option V := match v with | .ptr b o => some (.ptr b (o + off)) | .lp lv cs o => some (.lp lv cs (o + off)) | _ => none
theorem Q0 (s : TypeId) (x : Operand) (f : Nat) : H6 c (.fieldAddr s x f) S = (AW c.P s f).bind fun off => (ev S.T x).bind fun v => (aZ v off).map fun v => (v, S.H) := by
 unfold H6 CU aZ
 simp only []
 cases AW c.P s f with
 | none => rfl
 | some off =>
  simp only [Option.bind_some]
  cases ev S.T x with
  | none => rfl
  | some v => cases v <;> rfl
def asInt (v : V) : Option Int := match v with | .int _ n => some n | _ => none
def Pt (d sz : Nat) (v : V) (n : Int) : Option V := (CZ v).bind fun len => if 0 ≤ n ∧ n < len then
 match v with
 | .lit lv _ cs => some (.lp lv cs (n.toNat * sz))
 | .tl _ cs => some (.lp 0 cs (n.toNat * sz))
 | .snap _ _ cs => some (.lp d cs (n.toNat * sz))
 | .sl b off _ => some (.ptr b (off + n.toNat * sz))
 | _ => none
 else none
theorem D1 (t : TypeId) (x i : Operand) : H6 c (.indexAddr t x i) S = (Ax c.P t).bind fun e => (B3 c.P e).bind fun sz => (ev S.T x).bind fun v => (ev S.T i).bind fun w => (asInt w).bind fun n => (Pt c.d sz v n).map fun v => (v, S.H) := by
 unfold H6 CU asInt Pt
 simp only []
 cases Ax c.P t with
 | none => rfl
 | some e =>
  simp only [Option.bind_some]
  cases B3 c.P e with
  | none => rfl
  | some sz =>
   simp only [Option.bind_some]
   cases ev S.T x with
   | none => rfl
   | some v =>
    simp only [Option.bind_some]
    cases ev S.T i with
    | none => rfl
    | some w =>
     cases w with
     | int k n =>
      simp only [Option.bind_some]
      cases CZ v with
      | none => rfl
      | some len =>
       simp only [Option.bind_some]
       split
       ·cases v <;> rfl
       ·rfl
     | _ => rfl
theorem K4 (t : TypeId) (n m : Operand) : H6 c (.makeSlice t n m) S = (ev S.T n).bind fun a => (ev S.T m).bind fun b => JK c.P (c.hints.GP c.fn) t S.H a b := rfl
def Z0 (v : V) (i : Nat) : Option V := match v with | .FH vs => vs[i]? | _ => none
theorem T6 (x : Operand) (i : Nat) : H6 c (.extract x i) S = (ev S.T x).bind fun v => (Z0 v i).map fun v => (v, S.H) := by
 unfold H6 CU Z0
 simp only []
 cases ev S.T x with
 | none => rfl
 | some v => cases v <;> rfl
def Oe (v : V) : Option (FuncId × List V) := match v with | .fn g caps => some (g, caps) | _ => none
theorem FQ (f : Operand) (args : Array Operand) (ats : Array TypeId) : H6 c (.call ⟨.value f, args, ats⟩) S = (ev S.T f).bind fun fv => (Oe fv).bind fun g => (KC S.T args.toList).bind fun vs =>
  (Af c (c.hints.Cs g.1) S.H (vs ++ g.2)).bind fun r => c.Γ g.1 r.1 r.2.2 (c.lk ++ [c.Bw g.1 r.2.1 r.2.2]) := by
 unfold H6 CU Oe
 simp only []
 cases ev S.T f with
 | none => rfl
 | some v => cases v <;> rfl
def fK (v : V) (isStr : Bool) : Option Nat := match v with | .str s => if isStr then some s.size else none | v => if isStr then none else CZ v
def HY (P : Program) (t : TypeId) : Option Bool := match P.underlying t with | some .string => some true | some (.slice _) => some false | _ => none
theorem bC (x : Operand) (t : TypeId) : H6 c (.call ⟨.builtin .len, #[x], #[t]⟩) S = (HY c.P t).bind fun b => (ev S.T x).bind fun v => (fK v b).map fun n => (.int .i64 n, S.H) := by
 unfold H6 CU HY fK
 simp only [List.getElem?_toArray, List.getElem?_cons_zero]
 cases c.P.underlying t with
 | none => rfl
 | some d =>
  cases d with
  | string =>
   simp only [Option.bind_some, if_true]
   cases ev S.T x with
   | none => rfl
   | some v => cases v <;> rfl
  | slice e =>
   simp only [Option.bind_some, Bool.false_eq_true, if_false]
   cases ev S.T x with
   | none => rfl
   | some v =>
    simp only [Option.bind_some]
    cases v <;> simp [CZ]
  | _ => rfl
theorem PN (a b : Operand) (st xt : TypeId) : H6 c (.call ⟨.builtin .append, #[a, b], #[st, xt]⟩) S = (ev S.T a).bind fun x => (ev S.T b).bind fun y => DU c st xt S.H x y := rfl
theorem Qa {P : Program} {h : Bg} {k : FuncId} {fn : Func} {body : Code} (hfn : P.funcs[k]? = some fn) (hb : fn.body = some body) {args : List V} {H : A3} {lk : Lk} {n : Nat} (hn : fn.ntmps = n) (hns : Ef body = none) (hlen : args.length ≤ n) (hname : (fn.name == "runtime.NumGoroutine") = false) {rs : Array ResultVar} (hrs : fn.results = rs) {r : V × A3}
  (hr : GV (Aw P h k n H.length lk) body ⟨Il args, H⟩ fun x S => (x = .normal ∨ x = .ret) ∧ ((BB P S.H S.T rs.toList).bind fun vs => D9 h k H.length lk.length (Dd vs) S.H) = some r) : Al P h k args H lk = some r := by
 subst hn hrs
 obtain ⟨x, S, h1, h2, h3⟩ := hr
 refine Up hfn hb hns hlen hname ?_
 rw [h1]
 rcases h2 with rfl | rfl
 ·exact h3
 ·exact h3
end
end Go.Proofs.YtphpkphklegfeaaGreat.K
