/-
  Calls: what is handed over, what comes back. No conditions.
-/
import Derived.Test.YtblodpbcinkehaaKg
set_option linter.unusedVariables false
set_option linter.unusedSimpArgs false
namespace Go.Proofs.Ytblodpbcinkehaa.K

theorem Evo.unlock {E0 E1 : Env} {L : List Nat} (h : Evo (E0.lock L) (E1.lock L)) (hd : E0.m ≤ E0.lk.length) : Evo E0 E1 := by
  have hlk : E1.lk = E0.lk := List.append_cancel_right (bs := [L]) h.lk
  have hU : ∀ (E : Env) lv g i, lvOk E.lk.length lv → ((E.lock L).U lv g i ↔ E.U lv g i) := by
    intro E lv g i hl
    cases lv with
    | none => rfl
    | some lv =>
      have : (E.lk ++ [L]).take lv = E.lk.take lv := List.take_append_of_le_length hl
      show (g ∈ E.hid ∨ Wr _ _ ((E.lk ++ [L]).take lv) lv g i) ↔ (g ∈ E.hid ∨ Wr _ _ (E.lk.take lv) lv g i)
      rw [this]
      exact Iff.rfl
  have hanti : ∀ g i, (E0.lock L).U (some (E0.lock L).lk.length) g i → E0.U (some E0.lk.length) g i := by
    intro g i hu
    refine (hU E0 (some E0.lk.length) g i (Nat.le_refl _)).1 (Env.U_anti ?_ hu)
    simp
  exact
  { lk := hlk
    os := h.os
    tape := h.tape
    output := h.output
    size := h.size
    len := h.len
    mm := by have := h.mm; simpa [Env.lock] using this
    cell := fun g i u hc hu => h.cell g i u hc fun hx => hu (hanti g i hx)
    block := fun g hg hu => h.block g hg fun i hx => hu i (hanti g i hx)
    mono := fun lv g i hl hx => by
      rcases h.mono lv g i (hl.up (by simp)) ((hU E1 lv g i (by rw [hlk]; exact hl)).2 hx) with h' | h'
      · exact .inl ((hU E0 lv g i hl).1 h')
      · exact .inr h'
    phi := h.phi
    cells := h.cells
    bld := h.bld
    fresh := h.fresh
    hid := h.hid
    hidF := h.hidF
    hidW := h.hidW }

/-- What a call leaves, in its caller's eyes. -/
structure Back (h : Hints) (k : FuncId) (L : List Nat) (E0 E1 : Env) (H' : Heap) : Prop where
  H : E1.H = H'
  n : E1.n = H'.length
  evo : Evo (E0.lock L) (E1.lock L)
  heap : RelH E1
  forN : h.grow k = false → ∀ base nb d, base ≤ E0.n → nb ≤ E0.n → d ≤ E0.m → RelF E0 base nb d → RelF E1 base nb d
  forG : h.grow k = true → ∀ base d, base ≤ E0.n → d ≤ E0.m → RelF E0 base E0.n d → RelF E1 base E1.n d
  kept : ∀ b, b < E0.n → unlocked (E0.lk ++ [L]) b = false → E1.H[b]? = E0.H[b]?

/-- A call that returns, and how. -/
def Rets (R : Value → World → Prop) : Ending → World → Prop
  | .returned v, w => R v w
  | _, _ => False

structure CallOk (P : Program) (h : Hints) (Γ : FuncId → List V → Heap → Lk → Option (V × Heap)) : Prop where
  body : ∀ k args H lk r, Γ k args H lk = some r → ∃ fn, P.funcs[k]? = some fn ∧ fn.body.isNone = false ∧ (fn.name == "runtime.NumGoroutine") = false
  run : ∀ k args H lk L v H', Γ k args H (lk ++ [L]) = some (v, H') → ∀ (E0 : Env) us, E0.H = H → E0.lk = lk → E0.n = H.length → E0.m = lk.length → RelH E0 → (∀ l ∈ lk ++ [L], ∀ x ∈ l, x < H.length) →
    RepVs (E0.lock L) args us → Calls P k us.toArray E0.w (Rets fun u w' => ∃ E1 : Env, E1.w = w' ∧ Back h k L E0 E1 H' ∧ RepV E1 v u)

theorem lend_lt_list {H : Heap} {f : V → Option (V × List Nat)} (hf : ∀ v v' M, f v = some (v', M) → ∀ x ∈ M, x < H.length) :
    ∀ (vs vs' : List V) (M : List Nat), lendV.lendL f vs = some (vs', M) → ∀ x ∈ M, x < H.length
  | [], vs', M, h => by
    simp only [lendV.lendL, Option.some.injEq, Prod.mk.injEq] at h
    obtain ⟨rfl, rfl⟩ := h
    intro x hx; cases hx
  | v :: vs, vs', M, h => by
    simp only [lendV.lendL, Option.bind_eq_some_iff, Option.map_eq_some_iff, Prod.exists, Prod.mk.injEq] at h
    obtain ⟨v1, M1, h1, vs2, M2, h2, rfl, rfl⟩ := h
    intro x hx
    rcases List.mem_append.1 hx with hx | hx
    · exact hf v v1 M1 h1 x hx
    · exact lend_lt_list hf vs vs2 M2 h2 x hx
theorem lend_lt (lv : Nat) (H : Heap) : ∀ (k : Nat) (v v' : V) (M : List Nat), lendV lv H k v = some (v', M) → ∀ x ∈ M, x < H.length
  | 0, v, v', M, h => by simp [lendV] at h
  | k + 1, v, v', M, h => by
    have ih := lend_lt_list fun v v' M h => lend_lt lv H k v v' M h
    have none_ : ∀ M, M = ([] : List Nat) → ∀ x ∈ M, x < H.length := by rintro M rfl x hx; cases hx
    cases v with
    | int _ _ => simp only [lendV, Option.some.injEq, Prod.mk.injEq] at h; exact none_ _ h.2.symm
    | bool _ => simp only [lendV, Option.some.injEq, Prod.mk.injEq] at h; exact none_ _ h.2.symm
    | str _ => simp only [lendV, Option.some.injEq, Prod.mk.injEq] at h; exact none_ _ h.2.symm
    | nilp => simp only [lendV, Option.some.injEq, Prod.mk.injEq] at h; exact none_ _ h.2.symm
    | nilfn => simp only [lendV, Option.some.injEq, Prod.mk.injEq] at h; exact none_ _ h.2.symm
    | ptr _ _ => simp only [lendV, Option.some.injEq, Prod.mk.injEq] at h; exact none_ _ h.2.symm
    | mref _ => simp only [lendV, Option.some.injEq, Prod.mk.injEq] at h; exact none_ _ h.2.symm
    | lp _ _ _ => simp only [lendV, Option.some.injEq, Prod.mk.injEq] at h; exact none_ _ h.2.symm
    | lit _ _ _ => simp only [lendV, Option.some.injEq, Prod.mk.injEq] at h; exact none_ _ h.2.symm
    | fn _ _ => simp only [lendV, Option.some.injEq, Prod.mk.injEq] at h; exact none_ _ h.2.symm
    | tup _ => simp [lendV] at h
    | tl n cs =>
      simp only [lendV, Option.map_eq_some_iff, Prod.exists, Prod.mk.injEq] at h
      obtain ⟨cs', M1, h1, rfl, rfl⟩ := h
      exact ih cs cs' M1 h1
    | snap b n cs =>
      simp only [lendV, Option.map_eq_some_iff, Prod.exists, Prod.mk.injEq] at h
      obtain ⟨cs', M1, h1, rfl, rfl⟩ := h
      exact ih cs cs' M1 h1
    | pre b m0 n cs =>
      simp only [lendV, Option.map_eq_some_iff, Prod.exists, Prod.mk.injEq] at h
      obtain ⟨cs', M1, h1, rfl, rfl⟩ := h
      exact ih cs cs' M1 h1
    | sl b off n =>
      simp only [lendV] at h
      split at h
      case h_2 => cases h
      rename_i sz cs hb
      split at h
      · cases h
      simp only [Option.map_eq_some_iff, Prod.exists, Prod.mk.injEq] at h
      obtain ⟨cs', M1, h1, rfl, rfl⟩ := h
      intro x hx
      rcases List.mem_cons.1 hx with rfl | hx
      · exact (List.getElem?_eq_some_iff.1 hb).1
      · exact ih _ cs' M1 h1 x hx
    | agg cs =>
      simp only [lendV, Option.map_eq_some_iff, Prod.exists, Prod.mk.injEq] at h
      obtain ⟨cs', M1, h1, rfl, rfl⟩ := h
      exact ih cs cs' M1 h1

section
variable {c : Cx} {E : Env} {S : St} {a : Act} {o : Oper}

theorem After.lk {E' : Env} {H' : Heap} (hs : Sim c E S a) (h : After c E E' H') : E'.lk = c.lk := by rw [h.evo.lk, hs.lk]

theorem lendArgs_sound (hs : Sim c E S a) : ∀ (vs : List V) (ms : List Mode) (H : Heap) (vs' : List V) (M : List Nat) (H1 : Heap) (E1 : Env), lendArgs c ms H vs = some (vs', M, H1) → After c E E1 H → E1.w = E.w →
    After c E (E1.heap H1) H1 ∧ H1.length = H.length ∧ (∀ x ∈ M, x < H.length) ∧ ∀ L, (∀ x ∈ M, x ∈ L) → Evo (E1.lock L) ((E1.heap H1).lock L) ∧ ∀ us, RepVs E1 vs us → RepVs ((E1.heap H1).lock L) vs' us
  | [], ms, H, vs', M, H1, E1, h, h0, hw => by
    simp only [lendArgs, Option.some.injEq, Prod.mk.injEq] at h
    obtain ⟨rfl, rfl, rfl⟩ := h
    have : E1.heap H = E1 := by rw [← h0.H]; rfl
    rw [this]
    refine ⟨h0, rfl, ?_, fun L _ => ⟨Evo.refl _, fun us hu => by simpa only [RepVs] using hu⟩⟩
    intro x hx; cases hx
  | v :: vs, ms, H, vs', M, H1, E1, h, h0, hw => by
    simp only [lendArgs, Option.bind_eq_some_iff, Option.map_eq_some_iff, Prod.exists, Prod.mk.injEq] at h
    obtain ⟨v1, M1, Hm, h1, vs2, M2, H2, h2, rfl, rfl, rfl⟩ := h
    have hmm : E1.lk.length = E1.m := by rw [h0.m, hs.m, After.lk hs h0]
    have key : ∀ (Em : Env), Em = E1.heap Hm → After c E Em Hm → Hm.length = H.length → (∀ x ∈ M1, x < H.length) → (∀ L, (∀ x ∈ M1, x ∈ L) → Evo (E1.lock L) (Em.lock L) ∧ ∀ u, RepV E1 v u → RepV (Em.lock L) v1 u) → (∀ us, RepVs E1 vs us → RepVs Em vs us) →
        After c E (E1.heap H2) H2 ∧ H2.length = H.length ∧ (∀ x ∈ M1 ++ M2, x < H.length) ∧ ∀ L, (∀ x ∈ M1 ++ M2, x ∈ L) → Evo (E1.lock L) ((E1.heap H2).lock L) ∧ ∀ us, RepVs E1 (v :: vs) us → RepVs ((E1.heap H2).lock L) (v1 :: vs2) us := by
      rintro Em rfl ha hl hM1 hL hvs
      obtain ⟨p1, p2, p3, p4⟩ := lendArgs_sound hs vs ms.tail Hm vs2 M2 H2 (E1.heap Hm) h2 ha hw
      simp only [Env.heap_heap] at p1 p4
      refine ⟨p1, p2.trans hl, fun x hx => ?_, fun L hM => ?_⟩
      · rcases List.mem_append.1 hx with hx | hx
        · exact hM1 x hx
        · rw [← hl]; exact p3 x hx
      · obtain ⟨q1, q2⟩ := hL L fun x hx => hM x (List.mem_append.2 (.inl hx))
        obtain ⟨r1, r2⟩ := p4 L fun x hx => hM x (List.mem_append.2 (.inr hx))
        refine ⟨q1.trans r1, fun us hu => ?_⟩
        simp only [RepVs] at hu ⊢
        obtain ⟨u, us', rfl, hu1, hu2⟩ := hu
        exact ⟨u, us', rfl, r1.rep (ha.heap.lock L) _ _ (q2 u hu1), r2 us' (hvs us' hu2)⟩
    have hsame : E1.heap H = E1 := by rw [← h0.H]; rfl
    unfold lendArg at h1
    cases hmode : ms.headD .lent with
    | lent =>
      simp only [hmode, Option.map_eq_some_iff, Prod.exists, Prod.mk.injEq] at h1
      obtain ⟨v1', M1', hl, rfl, rfl, rfl⟩ := h1
      have hd : c.d = E1.lk.length := by rw [After.lk hs h0]; rfl
      rw [hd, ← h0.H] at hl
      refine key E1 hsame.symm h0 rfl (by rw [← h0.H]; exact lend_lt _ _ _ _ _ _ hl) (fun L hM => ⟨Evo.refl _, fun u hu => lend_sound hmm h0.heap depthK v v1' M1' hl hM u hu⟩) (fun us hu => hu)
    | exact =>
      simp only [hmode, Option.some.injEq, Prod.mk.injEq] at h1
      obtain ⟨rfl, rfl, rfl⟩ := h1
      exact key E1 hsame.symm h0 rfl (fun x hx => by cases hx) (fun L _ => ⟨Evo.refl _, fun u hu => (Keeps.locks E1 L h0.heap.dm).rep v u hu⟩) (fun us hu => hu)
    | part =>
      simp only [hmode, Option.some.injEq, Prod.mk.injEq] at h1
      obtain ⟨rfl, rfl, rfl⟩ := h1
      exact key E1 hsame.symm h0 rfl (fun x hx => by cases hx) (fun L _ => ⟨Evo.refl _, fun u hu => partA_rep _ _ ((Keeps.locks E1 L h0.heap.dm).rep v u hu)⟩) (fun us hu => hu)
    | share =>
      simp only [hmode] at h1
      split at h1
      · cases h1
      simp only [Option.map_eq_some_iff, Prod.exists, Prod.mk.injEq] at h1
      obtain ⟨v1', Hm', hg, rfl, rfl, rfl⟩ := h1
      obtain ⟨g1, g2, g3, g4⟩ := give_after' hs h0 hg
      refine key (E1.heap Hm') rfl g1 g4 (fun x hx => by cases hx) (fun L _ => ?_) (fun us hu => g2.repVs h0.heap _ _ hu)
      obtain ⟨k1, k2, k3⟩ := give_sound c.base depthK (E1.lock L) v v1' Hm' (by rw [Env.lock_H, h0.H]; exact hg) (h0.heap.lock L)
      refine ⟨k1, fun u hu => ?_⟩
      have := k3 u ((Keeps.locks E1 L h0.heap.dm).rep v u hu)
      exact (Keeps.grow ((E1.lock L).heap Hm') (n := 0) (m := 0) (Nat.zero_le _) (Nat.zero_le _)).rep _ _ this

/-- What an operation does, whatever follows. -/
def Does (c : Cx) (E : Env) (a : Act) (o : Oper) (v : V) (H' : Heap) : Prop :=
  ∀ (next : Act → World → Prop) (Q : Exit → Act → World → Prop), (∀ E' u, After c E E' H' → RepV E' v u → next (a.put o.dst u) E'.w) → o.wp c.P a E.w next Q

theorem Makes.does {v : V} {H' : Heap} (h : Makes c E a o v H') : Does c E a o v H' := by
  intro next Q hn
  obtain ⟨E', ha, h⟩ := h
  unfold Oper.wp
  rcases h with ⟨u, h1, h2⟩ | ⟨h1, h2⟩
  · rw [h1]; exact hn E' u ha h2
  · rw [h1]; exact hn E' undef ha h2

theorem Back.lk {h : Hints} {k : FuncId} {L : List Nat} {E0 E1 : Env} {H' : Heap} (hb : Back h k L E0 E1 H') : E1.lk = E0.lk := List.append_cancel_right (bs := [L]) hb.evo.lk

/-- Foreign blocks that are locked stay as they are. -/
theorem RelF.locked {h : Hints} {k : FuncId} {L : List Nat} {E0 E1 : Env} {H' : Heap} (hb : Back h k L E0 E1 H') (hh : RelH E0) {base nb d : Nat} (hbase : base ≤ E0.n) (hL : ∀ b, b < base → b ∈ L) (hnb : nb ≤ E0.n) (hd : d ≤ E0.m) (hf : RelF E0 base nb d) : RelF E1 base nb d := by
  have hev := hb.evo.unlock hh.dm
  intro b sz cs hlt hB c t hc i v u hv hu
  have hbn : b < E0.n := Nat.lt_of_lt_of_le hlt hbase
  have hlock : unlocked (E0.lk ++ [L]) b = false := by
    rw [Bool.eq_false_iff]
    intro hx
    unfold unlocked at hx
    rw [List.all_eq_true] at hx
    have := hx L (by simp)
    simp [hL b hlt] at this
  rw [hb.kept b hbn hlock] at hB
  have hphi := (hev.phi b hbn (fun l n z => by rw [hB]; simp)).1
  rw [hphi] at hc
  have hblk : E1.w.heap[E0.φ b]? = E0.w.heap[E0.φ b]? := by
    obtain ⟨c0, t0, h1, _, _⟩ := hh.cells b sz cs hB
    have := hb.evo.block (E0.φ b) (Array.getElem?_eq_some_iff.1 h1).1 fun i => by
      have := not_U_locked hh hB (hL b hlt) i
      simpa using this
    exact this
  rw [hblk] at hc
  exact (hev.shrink hh hnb hd).rep v u (hf b sz cs hlt hB c t hc i v u hv hu)

theorem does_call (hs : Sim c E S a) (hΓ : CallOk c.P c.hints c.Γ) {v : V} {H' : Heap} (hc : isCall o = true) (h : opK c o S = some (v, H')) : Does c E a o v H' := by
  unfold isCall at hc
  split at hc
  case h_2 => cases hc
  rename_i f args ats ho
  simp only [opK, ho] at h
  split at h
  case h_2 => cases h
  rename_i g caps hf
  simp only [Option.bind_eq_some_iff, Prod.exists] at h
  obtain ⟨vs, hvs, as, M, H1, hl, hg⟩ := h
  intro next Q hn
  have hrf := rep_ev hs f _ hf
  simp only [RepV] at hrf
  obtain ⟨cv, hcv, hcr⟩ := hrf
  have hrv := rep_evL hs _ _ hvs
  have hargs : RepVs E (vs ++ caps) ((args.toList.map a.eval) ++ cv.toList) := repVs_append hrv hcr
  obtain ⟨ha, hlen, hM, hL⟩ := lendArgs_sound hs _ _ _ _ _ _ E hl (After.refl hs) rfl
  let L := c.locksFor g M H1
  have hML : ∀ x ∈ M, x ∈ L := by
    intro x hx
    show x ∈ c.locksFor g M H1
    unfold Cx.locksFor
    split
    · exact List.mem_append.2 (.inl hx)
    · split
      · exact List.mem_append.2 (.inl hx)
      · exact hx
  have hLlt : ∀ x ∈ L, x < H1.length := by
    intro x hx
    have hx : x ∈ c.locksFor g M H1 := hx
    unfold Cx.locksFor at hx
    have hMl : ∀ x ∈ M, x < H1.length := by rw [hlen]; exact hM
    have hbl : c.base ≤ H1.length := by rw [hlen]; exact hs.base
    split at hx
    · rcases List.mem_append.1 hx with hx | hx
      · exact hMl x hx
      · simpa using hx
    · split at hx
      · rcases List.mem_append.1 hx with hx | hx
        · exact hMl x hx
        · have := List.mem_range.1 hx
          omega
      · exact hMl x hx
  obtain ⟨hev, hrep⟩ := hL L hML
  have hlk1 : (E.heap H1).lk = c.lk := hs.lk
  obtain ⟨fn, hfn, hbody, hname⟩ := hΓ.body _ _ _ _ _ hg
  have hrun := hΓ.run g as H1 c.lk L v H' hg (E.heap H1) _ rfl hlk1 ha.n (by rw [ha.m, hs.m]) ha.heap (by
    intro l hl x hx
    rcases List.mem_append.1 hl with hl | hl
    · rw [hlen]; exact Nat.lt_of_lt_of_le (hs.locks l hl x hx) hs.base
    · simp only [List.mem_singleton] at hl
      subst hl
      exact hLlt x hx) (hrep _ hargs)
  have hexec : (execOp a.eval o).run c.P E.w = .ok (.enter g (((args.toList.map a.eval) ++ cv.toList).toArray)) E.w := by
    have hA : (args.map a.eval) ++ cv = (((args.toList.map a.eval) ++ cv.toList)).toArray := by
      apply Array.ext'; simp
    simp only [execOp, ho, resolve, hcv, Deferred.ofValue, Sem.run_bind, Sem.run_pure, Result.andThen_ok, invoke, callFunc, run_program, hfn, hname, hbody, hA]
    simp
  unfold Oper.wp
  rw [hexec]
  refine Calls.mono hrun ?_
  intro e w' hR
  cases e with
  | returned u =>
    obtain ⟨E1, rfl, hb, hr⟩ := hR
    refine hn E1 u (ha.trans (E'' := E1) ⟨hb.H, hb.n, ?_, hb.evo.unlock ha.heap.dm, hb.heap, ?_, ?_, ?_⟩) hr
    · have := (hb.evo.unlock ha.heap.dm).mm; exact this
    · intro hgf base nb d hbase hnb hd hrf
      have hb0 : base ≤ (E.heap H1).n := by rw [ha.n, hlen]; exact Nat.le_trans hbase hs.base
      cases hgk : c.hints.grow g with
      | false => exact hb.forN hgk base nb d hb0 hnb hd hrf
      | true =>
        refine RelF.locked hb ha.heap hb0 (fun b hlt => ?_) hnb hd hrf
        show b ∈ c.locksFor g M H1
        unfold Cx.locksFor
        split
        · refine List.mem_append.2 (.inr (List.mem_range.2 ?_))
          rw [hlen]; have := hs.base; omega
        · rw [hgk, hgf]
          simp only [Bool.not_false, Bool.and_self, if_true]
          exact List.mem_append.2 (.inr (List.mem_range.2 (by omega)))
    · intro hgf base d hbase hd hrf
      have hb0 : base ≤ (E.heap H1).n := by rw [ha.n, hlen]; exact Nat.le_trans hbase hs.base
      cases hgk : c.hints.grow g with
      | false => exact (hb.forN hgk base _ d hb0 (Nat.le_refl _) hd hrf).up (hb.evo.unlock ha.heap.dm).len
      | true => exact hb.forG hgk base d hb0 hd hrf
    · intro b hbl hbk
      rw [← hb.H]
      refine hb.kept b ?_ ?_
      · rw [ha.n, hlen]; have := hs.base; omega
      · rw [hlk1]
        rw [Bool.eq_false_iff] at hbk ⊢
        intro hx
        refine hbk ?_
        unfold unlocked at hx ⊢
        rw [List.all_eq_true] at hx ⊢
        exact fun l hl => hx l (List.mem_append.2 (.inl hl))
  | panicked _ => exact hR.elim
  | outgrown => exact hR.elim

theorem does_op (hs : Sim c E S a) (hΓ : CallOk c.P c.hints c.Γ) {v : V} {H' : Heap} (h : opK c o S = some (v, H')) : Does c E a o v H' := by
  cases hc : isCall o with
  | false => exact (makes_op hs hc h).does
  | true => exact does_call hs hΓ hc h

end

end Go.Proofs.Ytblodpbcinkehaa.K
