/-
  What a call leaves, in its caller's eyes; and the runs of functions. No conditions.
-/
import Derived.Test.YtblodpbcinkehaaKj
set_option linter.unusedVariables false
set_option linter.unusedSimpArgs false
namespace Go.Proofs.Ytblodpbcinkehaa.K

section
variable {E : Env} {lo d : Nat} {lk : Lk}

/-- A current snapshot of somebody else's passes a call's end as it is. -/
theorem pre_out (hL : Last E lo d lk) {Hf : Heap} {nf : List Blk} {Ωf Ff : List Nat} (hsf : Shape E lo d Hf nf Ωf Ff) {b m n l sz : Nat} {cs : List V} {u : Value} (hlo : b < lo) (hEb : E.H[b]? = some (.bld l m sz)) (hcl : clean.cleanL (d + 1) cs = true)
    (r : RepV E (.pre b m n cs) u) : RepV (E.out lo lk d Hf nf Ωf) (.pre b m n cs) u := by
  have hget : (E.out lo lk d Hf nf Ωf).H[b]? = E.H[b]? := by rw [out_get hL hsf, if_pos hlo]
  have hphi : (E.out lo lk d Hf nf Ωf).φ b = E.φ b := by show (if b < lo then _ else _) = _; rw [if_pos hlo]
  simp only [RepV] at r ⊢
  obtain ⟨_, ⟨A, cap, r1, r2, ⟨g, o, r3, r4, r5⟩, r6⟩, r7⟩ := r
  obtain ⟨hA, _⟩ := (r6 _ _ _ hEb).2 rfl
  have hg : g = E.φ b := by rw [r3] at hA; simp only [Option.some.injEq, Addr.mk.injEq] at hA; exact hA.1
  refine ⟨by show b < lo + nf.length; omega, ⟨A, cap, r1, r2, ⟨g, o, r3, fun _ b' hb' hl => ?_, ?_⟩, fun l' n' z hx => ?_⟩, fun z c => by rw [hget]; exact r7 z c⟩
  · have h2 : (E.out lo lk d Hf nf Ωf).H.length = lo + nf.length := by
      show (Hf.take lo ++ nf).length = _
      rw [List.length_append, List.length_take, hsf.len]
      have := hL.le
      omega
    have h1 : lo + nf.length ≤ b' := hb'
    rw [List.getElem?_eq_none (by omega)] at hl
    exact hl.elim
  · have key : ∀ (o : Nat) (cs : List V), clean.cleanL (d + 1) cs = true → RepL E none g o cs → RepL (E.out lo lk d Hf nf Ωf) none g o cs := by
      intro o cs
      induction cs generalizing o with
      | nil => intro _ _; simp only [RepL]
      | cons c cs ih =>
        intro h r
        simp only [clean.cleanL, Bool.and_eq_true] at h
        simp only [RepL] at r ⊢
        obtain ⟨⟨u, k1, k2⟩, k3, k4⟩ := r
        refine ⟨⟨u, k1, clean_to (E := E) (E2 := E.out lo lk d Hf nf Ωf) (d := d) rfl (Nat.le_refl _) (fun lv g i hlv hu => out_U hL hsf hlv hu) c u h.1 k2⟩, fun hu => ?_, ih _ h.2 k4⟩
        rcases hu with hu | ⟨b', p1, p2⟩
        · exact k3 (.inl hu)
        · have hlv : live (E.out lo lk d Hf nf Ωf).H[b']? := by
            split at p2
            · rename_i he; rw [he]; trivial
            · rename_i he; rw [he]; trivial
            · rename_i he; rw [he]; trivial
            · exact p2.elim
          rcases out_live hL hsf hlv with ⟨q1, q2, q3, q4⟩ | ⟨b0, z, zs, q1, q2, q3, q4, q5, q6, q7⟩
          · exact k3 (.inr ⟨b', by rw [← q2]; exact p1, by rw [q3] at p2; exact p2⟩)
          · rw [q4, hg] at p1
            have := hL.heap.inj _ _ q7.live (by rw [hEb]; trivial) p1
            omega
    exact key o cs hcl r5
  · rw [hget] at hx
    obtain ⟨p1, p2⟩ := r6 l' n' z hx
    refine ⟨p1, fun e => ?_⟩
    obtain ⟨p3, c, t, p4⟩ := p2 e
    exact ⟨by rw [hphi]; exact p3, c, t, by rw [hphi]; exact p4⟩

theorem resV_sound (hL : Last E lo d lk) (th : Bool) : ∀ (k : Nat) (H : Heap) (news : List Blk) (v v' : V) (H2 : Heap) (news2 : List Blk), resV th lo (d + 1) k (H, news) v = some (v', (H2, news2)) → (∃ u, RepV E v u) →
    Handed E lo d lk H news H2 news2 fun Z => ∀ u, RepV E v u → RepV Z v' u
  | 0, H, news, v, v', H2, news2, h, _ => by simp [resV] at h
  | k + 1, H, news, v, v', H2, news2, h, hrep => by
    have ihL := resL_sound (E := E) (lo := lo) (d := d) (lk := lk) fun H news v v' H2 news2 h hx => resV_sound hL th k H news v v' H2 news2 h hx
    have same : (v', (H2, news2)) = (v, (H, news)) → (∀ Hf nf Ωf Ff, Shape E lo d Hf nf Ωf Ff → ∀ u, RepV E v u → RepV (E.out lo lk d Hf nf Ωf) v u) → Handed E lo d lk H news H2 news2 fun Z => ∀ u, RepV E v u → RepV Z v' u := by
      intro e hr
      simp only [Prod.mk.injEq] at e
      obtain ⟨rfl, rfl, rfl⟩ := e
      exact handed_same hr
    have mono : ∀ {H : Heap} {news : List Blk} {H2 : Heap} {news2 : List Blk} {R R' : Env → Prop}, Handed E lo d lk H news H2 news2 R → (∀ Hf nf Ωf Ff, Shape E lo d Hf nf Ωf Ff → R (E.out lo lk d Hf nf Ωf) → R' (E.out lo lk d Hf nf Ωf)) → Handed E lo d lk H news H2 news2 R' := by
      intro H news H2 news2 R R' h hr Ω F hs hF
      obtain ⟨Ω2, F2, a1, a2, a3, a4, a5, a6⟩ := h Ω F hs hF
      exact ⟨Ω2, F2, a1, a2, a3, a4, a5, fun Hf nf Ωf Ff hsf hx => hr Hf nf Ωf Ff hsf (a6 Hf nf Ωf Ff hsf hx)⟩
    cases v with
    | int _ _ => simp only [resV, Option.some.injEq] at h; exact same h.symm fun _ _ _ _ _ u r => by simpa only [RepV] using r
    | bool _ => simp only [resV, Option.some.injEq] at h; exact same h.symm fun _ _ _ _ _ u r => by simpa only [RepV] using r
    | str _ => simp only [resV, Option.some.injEq] at h; exact same h.symm fun _ _ _ _ _ u r => by simpa only [RepV] using r
    | nilp => simp only [resV, Option.some.injEq] at h; exact same h.symm fun _ _ _ _ _ u r => by simpa only [RepV] using r
    | nilfn => simp only [resV, Option.some.injEq] at h; exact same h.symm fun _ _ _ _ _ u r => by simpa only [RepV] using r
    | lp _ _ _ => simp [resV] at h
    | fn _ _ => simp [resV] at h
    | ptr b off =>
      simp only [resV] at h
      split at h
      case isFalse => cases h
      rename_i hb
      simp only [Option.some.injEq] at h
      refine same h.symm fun Hf nf Ωf Ff hsf u r => ?_
      simp only [RepV] at r ⊢
      obtain ⟨_, r2, r3⟩ := r
      refine ⟨by show b < lo + nf.length; omega, ?_, fun l n z => ?_⟩
      · rw [r2]; show _ = Value.pointer (some ⟨if b < lo then E.φ b else _, off, none⟩); rw [if_pos hb]
      · rw [out_get hL hsf, if_pos hb]; exact r3 l n z
    | mref b =>
      simp only [resV] at h
      split at h
      case isFalse => cases h
      rename_i hb
      simp only [Option.some.injEq] at h
      refine same h.symm fun Hf nf Ωf Ff hsf u r => ?_
      simp only [RepV] at r ⊢
      obtain ⟨_, r2, r3⟩ := r
      refine ⟨by show b < lo + nf.length; omega, ?_, fun l n z => ?_⟩
      · rw [r2]; show _ = Value.map (some (if b < lo then E.φ b else _)); rw [if_pos hb]
      · rw [out_get hL hsf, if_pos hb]; exact r3 l n z
    | lit lv n cs =>
      simp only [resV] at h
      split at h
      · rename_i hc
        simp only [Option.some.injEq] at h
        exact same h.symm fun Hf nf Ωf Ff hsf u r => clean_to (E := E) (E2 := E.out lo lk d Hf nf Ωf) (d := d) rfl (Nat.le_refl _) (fun lv g i hlv hu => out_U hL hsf hlv hu) _ u hc r
      · cases h
    | tl n cs =>
      simp only [resV] at h
      split at h
      · rename_i h0
        simp only [Option.some.injEq, Prod.mk.injEq] at h
        obtain ⟨rfl, rfl, rfl⟩ := h
        refine handed_same fun Hf nf Ωf Ff hsf u r => ?_
        simp only [RepV] at r
        obtain ⟨A, rfl, hA⟩ := r
        cases th with
        | true =>
          simp only [if_true, RepV]
          exact ⟨A, by rw [h0], .inl trivial⟩
        | false =>
          simp only [Bool.false_eq_true, if_false, RepV]
          exact ⟨Nat.zero_le _, A, n, by rw [h0], by omega, .inl trivial⟩
      rename_i h0
      simp only [Option.map_eq_some_iff, Prod.exists, Prod.mk.injEq] at h
      obtain ⟨cs', H1, n1, h1, rfl, rfl, rfl⟩ := h
      have hx : ∃ us, RepVs E cs us := by
        obtain ⟨u, r⟩ := hrep
        simp only [RepV] at r
        obtain ⟨A, rfl, hA⟩ := r
        rcases hA with hA | ⟨g, o, hA, hr⟩
        · exact absurd hA h0
        · exact ⟨_, repVs_cells fun i v hi => let ⟨u, a1, a2, _⟩ := repL_get _ _ hr i v hi; ⟨u, a1, a2⟩⟩
      obtain ⟨ih, l⟩ := ihL cs H news cs' H1 n1 h1 hx
      refine mono ih fun Hf nf Ωf Ff hsf hR u r => ?_
      simp only [RepV] at r ⊢
      obtain ⟨A, rfl, hA⟩ := r
      refine ⟨Nat.zero_le _, A, n, rfl, Nat.le_refl _, ?_⟩
      rcases hA with hA | ⟨g, o, hA, hr⟩
      · exact .inl hA
      · refine .inr ⟨g, o, hA, repVs_of_row (E := E) (fun i v hi => let ⟨u, a1, a2, _⟩ := repL_get _ _ hr i v hi; ⟨u, a1, a2⟩) hR l rfl fun i hi hu => ?_⟩
        obtain ⟨u', _, _, a3⟩ := repL_get _ _ hr i _ (List.getElem?_eq_getElem hi)
        exact a3 (out_U hL hsf (Nat.zero_le _) hu)
    | snap b n cs =>
      simp only [resV] at h
      split at h
      case h_2 => cases h
      rename_i l m sz hb
      split at h
      · cases h
      rename_i hc
      simp only [not_or, Nat.not_lt, Decidable.not_not] at hc
      obtain ⟨hlo, rfl, hl⟩ := hc
      simp only [Option.bind_eq_some_iff, Prod.exists] at h
      obtain ⟨cs', H1, n1, h1, h2⟩ := h
      intro Ω F hs hF
      have hEb : E.H[b]? = some (.bld l m sz) := by
        rcases hs.same b with h | h
        · rw [← h]; exact hb
        · rw [hb] at h; cases h
      obtain ⟨u0, hu0⟩ := hrep
      simp only [RepV] at hu0
      obtain ⟨_, ⟨A, cap0, hu0, hcap0, ⟨g, o, hA, _, hr⟩, hcur⟩, _⟩ := hu0
      obtain ⟨_, hcur⟩ := hcur _ _ _ hEb
      obtain ⟨hA', c, t, hrow, _⟩ := hcur rfl
      rw [hA] at hA'
      simp only [Option.some.injEq, Addr.mk.injEq, and_true] at hA'
      obtain ⟨rfl, rfl⟩ := hA'
      obtain ⟨ih, hlen⟩ := ihL cs _ news cs' H1 n1 h1 ⟨_, repVs_cells fun i v hi => let ⟨u, a1, a2, _⟩ := repL_get _ _ hr i v hi; ⟨u, a1, a2⟩⟩
      have hget : ∀ (i : Nat) v, cs[i]? = some v → ∃ u, c[0 + i]? = some u ∧ RepV E v u := by
        intro i v hi
        obtain ⟨u, k1, k2, _⟩ := repL_get _ _ hr i v hi
        rw [cell_of_row _ _ _ _ _ _ hrow] at k1
        exact ⟨u, k1, k2⟩
      have hcs : 0 + cs.length ≤ c.size := by
        rcases Nat.eq_zero_or_pos cs.length with h0 | h0
        · omega
        · obtain ⟨u, k1, _⟩ := hget (cs.length - 1) _ (List.getElem?_eq_getElem (by omega))
          have := (Array.getElem?_eq_some_iff.1 k1).1
          omega
      have h2' : (if th then if 0 = 0 ∧ cs.length = m * sz then some (V.sl (lo + n1.length) 0 m, H1, n1 ++ [Blk.cells sz cs']) else none else some (V.lit 0 m cs', H1, n1)) = some (v', (H2, news2)) := by
        rw [← h2]
        simp
      have := handed_own (E := E) (off := 0) (n := m) hL hlo (by rw [hb]; trivial) (.inr ⟨l, m, sz, hEb, hl⟩) ih hlen ⟨c, t, hrow, hcs, hget⟩ h2'
      refine mono (R' := fun Z => ∀ u, RepV E _ u → RepV Z v' u) this (fun Hf nf Ωf Ff hsf hR u r => ?_) Ω F hs hF
      simp only [RepV] at r
      obtain ⟨_, ⟨A2, cap, rfl, hcap, _, hcur2⟩, _⟩ := r
      obtain ⟨_, hcur2⟩ := hcur2 _ _ _ hEb
      obtain ⟨rfl, _⟩ := hcur2 rfl
      exact hR cap hcap
    | pre b m0 n cs =>
      simp only [resV] at h
      split at h
      case h_2 => cases h
      rename_i l m sz hb
      split at h
      · cases h
      rename_i hm
      simp only [Decidable.not_not] at hm
      subst hm
      split at h
      · rename_i hlo
        split at h
        case isFalse => cases h
        rename_i hcl
        simp only [Option.some.injEq, Prod.mk.injEq] at h
        obtain ⟨rfl, rfl, rfl⟩ := h
        intro Ω F hs hF
        have hEb : E.H[b]? = some (.bld l m sz) := by rw [← hs.old b hlo]; exact hb
        exact handed_same (R := fun Z => ∀ u, RepV E (.pre b m n cs) u → RepV Z (.pre b m n cs) u) (fun Hf nf Ωf Ff hsf u r => pre_out hL hsf hlo hEb hcl r) Ω F hs hF
      rename_i hlo
      split at h
      · cases h
      rename_i hl
      simp only [Option.bind_eq_some_iff, Prod.exists] at h
      obtain ⟨cs', H1, n1, h1, h2⟩ := h
      intro Ω F hs hF
      have hEb : E.H[b]? = some (.bld l m sz) := by
        rcases hs.same b with h | h
        · rw [← h]; exact hb
        · rw [hb] at h; cases h
      obtain ⟨u0, hu0⟩ := hrep
      simp only [RepV] at hu0
      obtain ⟨_, ⟨A, cap0, hu0, hcap0, ⟨g, o, hA, _, hr⟩, hcur⟩, _⟩ := hu0
      obtain ⟨_, hcur⟩ := hcur _ _ _ hEb
      obtain ⟨hA', c, t, hrow⟩ := hcur rfl
      rw [hA] at hA'
      simp only [Option.some.injEq, Addr.mk.injEq, and_true] at hA'
      obtain ⟨rfl, rfl⟩ := hA'
      obtain ⟨ih, hlen⟩ := ihL cs _ news cs' H1 n1 h1 ⟨_, repVs_cells fun i v hi => let ⟨u, a1, a2, _⟩ := repL_get _ _ hr i v hi; ⟨u, a1, a2⟩⟩
      have hget : ∀ (i : Nat) v, cs[i]? = some v → ∃ u, c[0 + i]? = some u ∧ RepV E v u := by
        intro i v hi
        obtain ⟨u, k1, k2, _⟩ := repL_get _ _ hr i v hi
        rw [cell_of_row _ _ _ _ _ _ hrow] at k1
        exact ⟨u, k1, k2⟩
      have hcs : 0 + cs.length ≤ c.size := by
        rcases Nat.eq_zero_or_pos cs.length with h0 | h0
        · omega
        · obtain ⟨u, k1, _⟩ := hget (cs.length - 1) _ (List.getElem?_eq_getElem (by omega))
          have := (Array.getElem?_eq_some_iff.1 k1).1
          omega
      have h2' : (if th then if 0 = 0 ∧ cs.length = n * sz then some (V.sl (lo + n1.length) 0 n, H1, n1 ++ [Blk.cells sz cs']) else none else some (V.lit 0 n cs', H1, n1)) = some (v', (H2, news2)) := by
        rw [← h2]
        simp
      have := handed_own (E := E) (off := 0) (n := n) hL (Nat.not_lt.1 hlo) (by rw [hb]; trivial) (.inr ⟨l, m, sz, hEb, Nat.not_lt.1 hl⟩) ih hlen ⟨c, t, hrow, hcs, hget⟩ h2'
      refine mono (R' := fun Z => ∀ u, RepV E _ u → RepV Z v' u) this (fun Hf nf Ωf Ff hsf hR u r => ?_) Ω F hs hF
      simp only [RepV] at r
      obtain ⟨_, ⟨A2, cap, rfl, hcap, _, hcur2⟩, _⟩ := r
      obtain ⟨_, hcur2⟩ := hcur2 _ _ _ hEb
      obtain ⟨rfl, _⟩ := hcur2 rfl
      exact hR cap hcap
    | sl b off n =>
      simp only [resV] at h
      split at h
      · rename_i hb
        simp only [Option.some.injEq] at h
        refine same h.symm fun Hf nf Ωf Ff hsf u r => ?_
        simp only [RepV] at r ⊢
        obtain ⟨_, ⟨cap, r1, r2⟩, r3⟩ := r
        refine ⟨by show b < lo + nf.length; omega, ⟨cap, ?_, r2⟩, fun l n z => ?_⟩
        · rw [r1]; show _ = Value.slice (some ⟨if b < lo then E.φ b else _, off, none⟩) _ _; rw [if_pos hb]
        · rw [out_get hL hsf, if_pos hb]; exact r3 l n z
      rename_i hlo
      split at h
      case h_2 => cases h
      rename_i sz cs hb
      split at h
      · cases h
      rename_i hc
      simp only [Option.bind_eq_some_iff, Prod.exists] at h
      obtain ⟨cs', H1, n1, h1, h2⟩ := h
      intro Ω F hs hF
      have hEb : E.H[b]? = some (.cells sz cs) := by
        rcases hs.same b with h | h
        · rw [← h]; exact hb
        · rw [hb] at h; cases h
      have hcl : ((cs.drop off).take (n * sz)).length = n * sz := by simp; omega
      obtain ⟨c, t, hrow, hcs, hget⟩ := hL.heap.cells b sz cs hEb
      have hget2 : ∀ (i : Nat) v, ((cs.drop off).take (n * sz))[i]? = some v → ∃ u, c[off + i]? = some u ∧ RepV E v u := by
        intro i v hi
        rw [List.getElem?_take] at hi
        split at hi
        · rw [List.getElem?_drop] at hi; exact hget _ v hi
        · cases hi
      obtain ⟨ih, hlen⟩ := ihL _ _ news cs' H1 n1 h1 ⟨_, repVs_cells (g := E.φ b) (o := off) fun i v hi => let ⟨u, a1, a2⟩ := hget2 i v hi; ⟨u, by rw [cell_of_row _ _ _ _ _ _ hrow]; exact a1, a2⟩⟩
      have h2' : (if th then if off = 0 ∧ ((cs.drop off).take (n * sz)).length = n * sz then some (V.sl (lo + n1.length) 0 n, H1, n1 ++ [Blk.cells sz cs']) else none else some (V.lit 0 n cs', H1, n1)) = some (v', (H2, news2)) := by
        cases th with
        | false => exact h2
        | true =>
          simp only [if_true] at h2 ⊢
          split at h2
          · rename_i hx
            rw [if_pos ⟨hx.1, hcl⟩]; exact h2
          · cases h2
      have := handed_own (E := E) (off := off) (n := n) hL (by omega) (by rw [hb]; trivial) (.inl ⟨sz, cs, hEb⟩) ih hlen ⟨c, t, hrow, by rw [hcl]; omega, hget2⟩ h2'
      refine mono (R' := fun Z => ∀ u, RepV E _ u → RepV Z v' u) this (fun Hf nf Ωf Ff hsf hR u r => ?_) Ω F hs hF
      simp only [RepV] at r
      obtain ⟨_, ⟨cap, rfl, hcap⟩, _⟩ := r
      exact hR cap hcap
    | agg cs =>
      simp only [resV, Option.map_eq_some_iff, Prod.exists, Prod.mk.injEq] at h
      obtain ⟨cs', H1, n1, h1, rfl, rfl, rfl⟩ := h
      obtain ⟨ih, l⟩ := ihL cs H news cs' H1 n1 h1 (by
        obtain ⟨u, r⟩ := hrep
        simp only [RepV] at r
        obtain ⟨vs, _, hr⟩ := r
        exact ⟨_, hr⟩)
      refine mono ih fun Hf nf Ωf Ff hsf hR u r => ?_
      simp only [RepV] at r ⊢
      obtain ⟨vs, hv, hr⟩ := r
      exact ⟨vs, hv, hR _ hr⟩
    | tup cs =>
      simp only [resV, Option.map_eq_some_iff, Prod.exists, Prod.mk.injEq] at h
      obtain ⟨cs', H1, n1, h1, rfl, rfl, rfl⟩ := h
      obtain ⟨ih, l⟩ := ihL cs H news cs' H1 n1 h1 (by
        obtain ⟨u, r⟩ := hrep
        simp only [RepV] at r
        obtain ⟨vs, _, hr⟩ := r
        exact ⟨_, hr⟩)
      refine mono ih fun Hf nf Ωf Ff hsf hR u r => ?_
      simp only [RepV] at r ⊢
      obtain ⟨vs, hv, hr⟩ := r
      exact ⟨vs, hv, hR _ hr⟩

end

end Go.Proofs.Ytblodpbcinkehaa.K
