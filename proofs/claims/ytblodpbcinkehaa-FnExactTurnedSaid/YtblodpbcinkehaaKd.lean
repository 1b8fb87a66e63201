/-
  Lists that are given up or lent: what they stand for stays. No conditions.
-/
import Derived.Test.YtblodpbcinkehaaKc
set_option linter.unusedVariables false
set_option linter.unusedSimpArgs false
namespace Go.Proofs.Ytblodpbcinkehaa.K

/-- The same world with another canonical heap. -/
def Env.heap (E : Env) (H : Heap) : Env := { E with H := H }
@[simp] theorem Env.heap_H (E : Env) (H : Heap) : (E.heap H).H = H := rfl
@[simp] theorem Env.heap_w (E : Env) (H : Heap) : (E.heap H).w = E.w := rfl
@[simp] theorem Env.heap_phi (E : Env) (H : Heap) : (E.heap H).φ = E.φ := rfl
@[simp] theorem Env.heap_n (E : Env) (H : Heap) : (E.heap H).n = E.n := rfl
@[simp] theorem Env.heap_m (E : Env) (H : Heap) : (E.heap H).m = E.m := rfl
@[simp] theorem Env.heap_hid (E : Env) (H : Heap) : (E.heap H).hid = E.hid := rfl
@[simp] theorem Env.heap_lk (E : Env) (H : Heap) : (E.heap H).lk = E.lk := rfl
@[simp] theorem Env.heap_heap (E : Env) (H H' : Heap) : (E.heap H).heap H' = E.heap H' := rfl
theorem Env.heap_self (E : Env) : E.heap E.H = E := rfl

theorem set_get (H : Heap) (b c : Nat) (x : Blk) : (H.set b x)[c]? = if b = c ∧ b < H.length then some x else H[c]? := by
  rw [List.getElem?_set]
  by_cases h : b = c
  · subst h
    by_cases h2 : b < H.length
    · simp [h2]
    · simp [h2]
  · simp [h]

theorem Evo.kill (E : Env) (b : Nat) : Evo E (E.heap (E.H.set b .dead)) where
  lk := rfl
  os := rfl
  tape := rfl
  output := rfl
  size := Nat.le_refl _
  len := Nat.le_refl _
  mm := rfl
  cell := fun _ _ _ h _ => h
  block := fun _ _ _ => rfl
  mono := by
    intro lv g i _ hu
    refine .inl ?_
    rcases hu with hu | hu
    · exact .inl hu
    refine .inr ?_
    cases lv with
    | some lv =>
      obtain ⟨b', h1, h2, h3⟩ := hu
      refine ⟨b', h1, h2, ?_⟩
      simp only [Env.heap_H, set_get] at h3
      by_cases hb : b = b' ∧ b < E.H.length
      · rw [if_pos hb] at h3; exact h3.elim
      · rw [if_neg hb] at h3; exact h3
    | none =>
      obtain ⟨b', h1, h3⟩ := hu
      refine ⟨b', h1, ?_⟩
      simp only [Env.heap_H, set_get] at h3
      by_cases hb : b = b' ∧ b < E.H.length
      · rw [if_pos hb] at h3; exact h3.elim
      · rw [if_neg hb] at h3; exact h3
  phi := by
    intro b' hb' hn
    refine ⟨rfl, fun l n sz => ?_⟩
    simp only [Env.heap_H, set_get]
    split
    · simp
    · exact hn l n sz
  cells := by
    intro b' hb' hn sz cs
    simp only [Env.heap_H, set_get]
    split
    · simp
    · exact hn sz cs
  bld := by
    intro b' l n' sz' hb' h
    simp only [Env.heap_H, set_get] at h
    split at h
    · cases h
    · exact ⟨n', h, Nat.le_refl _, fun _ => ⟨rfl, fun c t hc => ⟨c, hc, rfl⟩⟩⟩
  fresh := by
    intro b' h
    refine .inl ⟨rfl, ?_⟩
    simp only [Env.heap_H, set_get] at h
    split at h
    · exact h.elim
    · exact h
  hid := fun _ h => h
  hidF := fun _ h => .inl h
  hidW := fun _ _ _ => rfl

theorem RelH.kill {E : Env} (h : RelH E) (b : Nat) : RelH (E.heap (E.H.set b .dead)) where
  cells := by
    intro b' sz cs hb
    simp only [Env.heap_H, set_get] at hb
    split at hb
    · cases hb
    · obtain ⟨c, t, h1, h2, h3⟩ := h.cells b' sz cs hb
      exact ⟨c, t, h1, h2, fun i v hv => let ⟨u, h4, h5⟩ := h3 i v hv; ⟨u, h4, (Evo.kill E b).rep h v u h5⟩⟩
  bld := by
    intro b' l n sz hb
    simp only [Env.heap_H, set_get] at hb
    split at hb
    · cases hb
    · exact h.bld b' l n sz hb
  lvl := by
    intro b' l n sz hb
    simp only [Env.heap_H, set_get] at hb
    split at hb
    · cases hb
    · exact h.lvl b' l n sz hb
  dm := h.dm
  maps := by
    intro b' kvs hb
    simp only [Env.heap_H, set_get] at hb
    split at hb
    · cases hb
    · exact h.maps b' kvs hb
  inj := by
    intro b1 b2 h1 h2 he
    simp only [Env.heap_H, set_get] at h1 h2
    refine h.inj b1 b2 ?_ ?_ he
    · split at h1
      · exact h1.elim
      · exact h1
    · split at h2
      · exact h2.elim
      · exact h2
  hid := fun g hg => ⟨(h.hid g hg).1, fun b' hl => (h.hid g hg).2 b' (by
    simp only [Env.heap_H, set_get] at hl
    split at hl
    · exact hl.elim
    · exact hl)⟩

theorem U_live {E : Env} {lv : Option Nat} {g i : Nat} (h : E.U lv g i) : g ∈ E.hid ∨ ∃ b, E.φ b = g ∧ live E.H[b]? := by
  rcases h with h | h
  · exact .inl h
  refine .inr ?_
  cases lv with
  | some lv =>
    obtain ⟨b, h1, h2, h3⟩ := h
    refine ⟨b, h1, ?_⟩
    split at h3
    · rename_i he; rw [he]; trivial
    · rename_i he; rw [he]; trivial
    · rename_i he; rw [he]; trivial
    · exact h3.elim
  | none =>
    obtain ⟨b, h1, h3⟩ := h
    refine ⟨b, h1, ?_⟩
    split at h3
    · rename_i he; rw [he]; trivial
    · rename_i he; rw [he]; trivial
    · rename_i he; rw [he]; trivial
    · exact h3.elim

/-- The memory of a block that is dead is not written any more. -/
theorem not_U_dead {E : Env} (hh : RelH E) {b : Nat} (hl : live E.H[b]?) {E' : Env} {k : Nat} (hmono : ∀ lv g i, lvOk k lv → E'.U lv g i → (E.heap (E.H.set b .dead)).U lv g i ∨ E.w.heap.size ≤ g) (hs : E.φ b < E.w.heap.size) (lv : Option Nat) (hlv : lvOk k lv) (i : Nat) : ¬ E'.U lv (E.φ b) i := by
  intro hu
  rcases hmono _ _ _ hlv hu with h | h
  · rcases U_live h with h | ⟨b', h1, hl'⟩
    · exact (hh.hid _ h).2 b hl rfl
    simp only [Env.heap_H, Env.heap_phi, set_get] at h1 hl'
    split at hl'
    · exact hl'.elim
    · rename_i hne
      have := hh.inj b' b hl' hl h1
      subst this
      refine hne ⟨rfl, ?_⟩
      rcases Nat.lt_or_ge b' E.H.length with h | h
      · exact h
      · rw [List.getElem?_eq_none h] at hl; exact hl.elim
  · exact absurd hs (Nat.not_lt.2 h)

theorem repVs_cells {E : Env} {cs : List V} {g o : Nat} (h : ∀ (i : Nat) v, cs[i]? = some v → ∃ u, E.w.cell? ⟨g, o + i, none⟩ = some u ∧ RepV E v u) :
    RepVs E cs ((List.range cs.length).map fun i => (E.w.cell? ⟨g, o + i, none⟩).getD undef) := by
  refine repVs_of_get _ _ (by simp) fun i v u hi hj => ?_
  obtain ⟨u', h1, h2⟩ := h i v hi
  have hl : i < cs.length := by
    rcases Nat.lt_or_ge i cs.length with h | h
    · exact h
    · rw [List.getElem?_eq_none h] at hi; cases hi
  simp only [List.getElem?_map, List.getElem?_range hl, Option.map_some, Option.some.injEq, h1, Option.getD_some] at hj
  subst hj
  exact h2

theorem repL_of_vs {E : Env} {lv : Option Nat} {g o : Nat} {cs : List V} {us : List Value} (h : RepVs E cs us) (hc : ∀ (i : Nat) u, us[i]? = some u → E.w.cell? ⟨g, o + i, none⟩ = some u) (hu : ∀ i, i < cs.length → ¬ E.U lv g (o + i)) : RepL E lv g o cs := by
  refine repL_of_get _ _ fun i v hi => ?_
  obtain ⟨hl, hg⟩ := repVs_get _ _ h
  obtain ⟨u, h1, h2⟩ := hg i v hi
  have hil : i < cs.length := by
    rcases Nat.lt_or_ge i cs.length with h | h
    · exact h
    · rw [List.getElem?_eq_none h] at hi; cases hi
  exact ⟨u, hc i u h1, h2, hu i hil⟩

mutual
theorem clean_rep {E : Env} {d n : Nat} : ∀ (v : V) (u : Value), clean (d + 1) v = true → RepV E v u → RepV (E.shrink n d) v u
  | .int .., _, _, r => by simpa only [RepV] using r
  | .bool _, _, _, r => by simpa only [RepV] using r
  | .str _, _, _, r => by simpa only [RepV] using r
  | .nilp, _, _, r => by simpa only [RepV] using r
  | .nilfn, _, _, r => by simpa only [RepV] using r
  | .ptr .., _, h, _ => by simp [clean] at h
  | .lp .., _, h, _ => by simp [clean] at h
  | .tl .., _, h, _ => by simp [clean] at h
  | .snap .., _, h, _ => by simp [clean] at h
  | .sl .., _, h, _ => by simp [clean] at h
  | .fn .., _, h, _ => by simp [clean] at h
  | .lit lv len cs, _, h, r => by
    simp only [RepV] at r ⊢
    simp only [clean, Bool.and_eq_true, Bool.or_eq_true, beq_iff_eq, decide_eq_true_eq] at h
    obtain ⟨hl, A, cap, h1, h2, h3⟩ := r
    refine ⟨by show lv ≤ d; omega, A, cap, h1, h2, ?_⟩
    rcases h3 with h3 | ⟨g, o, h3, h4⟩
    · exact .inl h3
    · exact .inr ⟨g, o, h3, clean_repL (some lv) g o cs h.2 h4⟩
  | .agg cs, _, h, r => by
    simp only [RepV] at r ⊢
    simp only [clean] at h
    obtain ⟨vs, h1, h2⟩ := r
    exact ⟨vs, h1, clean_repVs cs _ h h2⟩
  | .tup cs, _, h, r => by
    simp only [RepV] at r ⊢
    simp only [clean] at h
    obtain ⟨vs, h1, h2⟩ := r
    exact ⟨vs, h1, clean_repVs cs _ h h2⟩
theorem clean_repL {E : Env} {d n : Nat} (lv : Option Nat) (g : Nat) : ∀ (o : Nat) (cs : List V), clean.cleanL (d + 1) cs = true → RepL E lv g o cs → RepL (E.shrink n d) lv g o cs
  | _, [], _, _ => by simp only [RepL]
  | o, c :: cs, h, r => by
    simp only [RepL] at r ⊢
    simp only [clean.cleanL, Bool.and_eq_true] at h
    obtain ⟨⟨u, h1, h2⟩, h3, h4⟩ := r
    exact ⟨⟨u, h1, clean_rep c u h.1 h2⟩, h3, clean_repL lv g (o + 1) cs h.2 h4⟩
theorem clean_repVs {E : Env} {d n : Nat} : ∀ (cs : List V) (vs : List Value), clean.cleanL (d + 1) cs = true → RepVs E cs vs → RepVs (E.shrink n d) cs vs
  | [], _, _, r => by simpa only [RepVs] using r
  | c :: cs, _, h, r => by
    simp only [RepVs] at r ⊢
    simp only [clean.cleanL, Bool.and_eq_true] at h
    obtain ⟨u, us, h1, h2, h3⟩ := r
    exact ⟨u, us, h1, clean_rep c u h.1 h2, clean_repVs cs us h.2 h3⟩
end

mutual
theorem cleanG_rep {E : Env} {d : Nat} : ∀ (v : V) (u : Value), cleanG (d + 1) v = true → RepV E v u → RepV (E.shrink E.n d) v u
  | .int .., _, _, r => by simpa only [RepV] using r
  | .bool _, _, _, r => by simpa only [RepV] using r
  | .str _, _, _, r => by simpa only [RepV] using r
  | .nilp, _, _, r => by simpa only [RepV] using r
  | .nilfn, _, _, r => by simpa only [RepV] using r
  | .ptr .., _, _, r => by simp only [RepV] at r ⊢; exact r
  | .mref .., _, _, r => by simp only [RepV] at r ⊢; exact r
  | .sl .., _, _, r => by simp only [RepV] at r ⊢; exact r
  | .lp .., _, h, _ => by simp [cleanG] at h
  | .tl len cs, _, h, r => by
    simp only [RepV] at r ⊢
    simp only [cleanG] at h
    obtain ⟨A, h1, h3⟩ := r
    refine ⟨A, h1, ?_⟩
    rcases h3 with h3 | ⟨g, o, h3, h4⟩
    · exact .inl h3
    · exact .inr ⟨g, o, h3, cleanG_repL (some 0) g o cs h h4⟩
  | .snap b len cs, _, h, r => by
    simp only [RepV] at r ⊢
    simp only [cleanG] at h
    obtain ⟨hb, ⟨A, cap, h1, h2, ⟨g, o, h3, ha, h4⟩, h5⟩, h6⟩ := r
    exact ⟨hb, ⟨A, cap, h1, h2, ⟨g, o, h3, ha, cleanG_repL none g o cs h h4⟩, h5⟩, h6⟩
  | .lit lv len cs, _, h, r => by
    simp only [RepV] at r ⊢
    simp only [cleanG, Bool.and_eq_true, Bool.or_eq_true, beq_iff_eq, decide_eq_true_eq] at h
    obtain ⟨hl, A, cap, h1, h2, h3⟩ := r
    refine ⟨by show lv ≤ d; omega, A, cap, h1, h2, ?_⟩
    rcases h3 with h3 | ⟨g, o, h3, h4⟩
    · exact .inl h3
    · exact .inr ⟨g, o, h3, cleanG_repL (some lv) g o cs h.2 h4⟩
  | .agg cs, _, h, r => by
    simp only [RepV] at r ⊢
    simp only [cleanG] at h
    obtain ⟨vs, h1, h2⟩ := r
    exact ⟨vs, h1, cleanG_repVs cs _ h h2⟩
  | .tup cs, _, h, r => by
    simp only [RepV] at r ⊢
    simp only [cleanG] at h
    obtain ⟨vs, h1, h2⟩ := r
    exact ⟨vs, h1, cleanG_repVs cs _ h h2⟩
  | .fn f cs, _, h, r => by
    simp only [RepV] at r ⊢
    simp only [cleanG] at h
    obtain ⟨vs, h1, h2⟩ := r
    exact ⟨vs, h1, cleanG_repVs cs _ h h2⟩
theorem cleanG_repL {E : Env} {d : Nat} (lv : Option Nat) (g : Nat) : ∀ (o : Nat) (cs : List V), cleanG.cleanGL (d + 1) cs = true → RepL E lv g o cs → RepL (E.shrink E.n d) lv g o cs
  | _, [], _, _ => by simp only [RepL]
  | o, c :: cs, h, r => by
    simp only [RepL] at r ⊢
    simp only [cleanG.cleanGL, Bool.and_eq_true] at h
    obtain ⟨⟨u, h1, h2⟩, h3, h4⟩ := r
    exact ⟨⟨u, h1, cleanG_rep c u h.1 h2⟩, h3, cleanG_repL lv g (o + 1) cs h.2 h4⟩
theorem cleanG_repVs {E : Env} {d : Nat} : ∀ (cs : List V) (vs : List Value), cleanG.cleanGL (d + 1) cs = true → RepVs E cs vs → RepVs (E.shrink E.n d) cs vs
  | [], _, _, r => by simpa only [RepVs] using r
  | c :: cs, _, h, r => by
    simp only [RepVs] at r ⊢
    simp only [cleanG.cleanGL, Bool.and_eq_true] at h
    obtain ⟨u, us, h1, h2, h3⟩ := r
    exact ⟨u, us, h1, cleanG_rep c u h.1 h2, cleanG_repVs cs us h.2 h3⟩
end

/-- What giving up comes to: what is given up names no block from 'lo' on, and was lent by nobody. -/
def Given (E : Env) (v : V) (H' : Heap) (v' : V) : Prop :=
  Evo E (E.heap H') ∧ RelH (E.heap H') ∧ ∀ u, RepV E v u → RepV ((E.heap H').shrink 0 0) v' u

theorem give_list {f : Heap → V → Option (V × Heap)} (hf : ∀ E v v' H', f E.H v = some (v', H') → RelH E → Given E v H' v') :
    ∀ (vs : List V) (E : Env) (vs' : List V) (H' : Heap), giveV.giveL f E.H vs = some (vs', H') → RelH E →
      Evo E (E.heap H') ∧ RelH (E.heap H') ∧ (∀ us, RepVs E vs us → RepVs ((E.heap H').shrink 0 0) vs' us) ∧ vs'.length = vs.length
  | [], E, vs', H', h, hh => by
    simp only [giveV.giveL, Option.some.injEq, Prod.mk.injEq] at h
    obtain ⟨rfl, rfl⟩ := h
    exact ⟨Evo.refl E, hh, fun us hu => by simpa only [RepVs] using hu, rfl⟩
  | v :: vs, E, vs', H', h, hh => by
    simp only [giveV.giveL, Option.bind_eq_some_iff, Option.map_eq_some_iff, Prod.exists] at h
    obtain ⟨v1, H1, h1, vs2, H2, h2, h3⟩ := h
    simp only [Prod.mk.injEq] at h3
    obtain ⟨rfl, rfl⟩ := h3
    obtain ⟨e1, r1, p1⟩ := hf E v v1 H1 h1 hh
    obtain ⟨e2, r2, p2, l2⟩ := give_list hf vs (E.heap H1) vs2 H2 h2 r1
    simp only [Env.heap_heap] at e2 r2 p2
    refine ⟨e1.trans e2, r2, fun us hu => ?_, by simp [l2]⟩
    simp only [RepVs] at hu ⊢
    obtain ⟨u, us', rfl, hu1, hu2⟩ := hu
    exact ⟨u, us', rfl, (e2.shrink r1 (n := 0) (m := 0) (Nat.zero_le _) (Nat.zero_le _)).rep _ _ (p1 u hu1), p2 us' (e1.repVs hh _ _ hu2)⟩

theorem give_sound (lo : Nat) : ∀ (k : Nat) (E : Env) (v v' : V) (H' : Heap), giveV lo k E.H v = some (v', H') → RelH E → Given E v H' v'
  | 0, E, v, v', H', h, _ => by simp [giveV] at h
  | k + 1, E, v, v', H', h, hh => by
    have same : (v', H') = (v, E.H) → (∀ u, RepV E v u → RepV (E.shrink 0 0) v u) → Given E v H' v' := by
      intro e hr
      simp only [Prod.mk.injEq] at e
      obtain ⟨rfl, rfl⟩ := e
      exact ⟨Evo.refl E, hh, hr⟩
    have ihf := fun (E : Env) (v v' : V) (H' : Heap) (h : giveV lo k E.H v = some (v', H')) hh => give_sound lo k E v v' H' h hh
    have ih := give_list ihf
    cases v with
    | int _ _ => simp only [giveV, Option.some.injEq] at h; exact same h.symm fun u r => by simpa only [RepV] using r
    | bool _ => simp only [giveV, Option.some.injEq] at h; exact same h.symm fun u r => by simpa only [RepV] using r
    | str _ => simp only [giveV, Option.some.injEq] at h; exact same h.symm fun u r => by simpa only [RepV] using r
    | nilp => simp only [giveV, Option.some.injEq] at h; exact same h.symm fun u r => by simpa only [RepV] using r
    | nilfn => simp only [giveV, Option.some.injEq] at h; exact same h.symm fun u r => by simpa only [RepV] using r
    | ptr _ _ => simp [giveV] at h
    | mref _ => simp [giveV] at h
    | lp _ _ _ => simp [giveV] at h
    | fn _ _ => simp [giveV] at h
    | pre _ _ _ _ => simp [giveV] at h
    | tup _ => simp [giveV] at h
    | lit lv n cs =>
      simp only [giveV] at h
      split at h
      · rename_i hc
        simp only [Option.some.injEq] at h
        exact same h.symm fun u r => clean_rep _ u hc r
      · cases h
    | tl n cs =>
      simp only [giveV, Option.map_eq_some_iff, Prod.exists, Prod.mk.injEq] at h
      obtain ⟨cs', H1, h1, rfl, rfl⟩ := h
      obtain ⟨e, r, p, l⟩ := ih cs E cs' H1 h1 hh
      refine ⟨e, r, fun u hu => ?_⟩
      simp only [RepV] at hu ⊢
      obtain ⟨A, rfl, hA⟩ := hu
      refine ⟨Nat.le_refl _, A, n, rfl, Nat.le_refl _, ?_⟩
      rcases hA with hA | ⟨g, o, hA, hr⟩
      · exact .inl hA
      · refine .inr ⟨g, o, hA, ?_⟩
        have hg := repL_get _ _ hr
        have hvs := repVs_cells (E := E) (cs := cs) (g := g) (o := o) fun i v hi => let ⟨u, a1, a2, _⟩ := hg i v hi; ⟨u, a1, a2⟩
        refine repL_of_vs (p _ hvs) (fun i u hi => ?_) (fun i hi => ?_)
        · have hil : i < cs.length := by
            rcases Nat.lt_or_ge i cs.length with h | h
            · exact h
            · rw [List.getElem?_eq_none (by simp; omega)] at hi; cases hi
          simp only [List.getElem?_map, List.getElem?_range hil, Option.map_some, Option.some.injEq] at hi
          obtain ⟨u', a1, _, _⟩ := hg i _ (List.getElem?_eq_getElem hil)
          rw [a1] at hi
          subst hi
          exact a1
        · obtain ⟨u', a1, _, a3⟩ := hg i _ (List.getElem?_eq_getElem (by omega))
          exact ((e.keeps hh).cell (some 0) g (o + i) u' (Nat.zero_le _) (fun e => by cases e) a1 a3).2
    | snap b n cs =>
      simp only [giveV] at h
      split at h
      case h_2 => cases h
      rename_i l m sz hb
      split at h
      · cases h
      rename_i hcond
      simp only [not_or, Decidable.not_not] at hcond
      obtain ⟨_, rfl⟩ := hcond
      simp only [Option.map_eq_some_iff, Prod.exists, Prod.mk.injEq] at h
      obtain ⟨cs', H1, h1, rfl, rfl⟩ := h
      have hk := Evo.kill E b
      obtain ⟨e, r, p, l⟩ := ih cs (E.heap (E.H.set b .dead)) cs' H1 h1 (hh.kill b)
      simp only [Env.heap_heap] at e r p
      refine ⟨hk.trans e, r, fun u hu => ?_⟩
      simp only [RepV] at hu ⊢
      obtain ⟨_, ⟨A, cap, rfl, hc, ⟨g, o, hA, _, hr⟩, hcur⟩, _⟩ := hu
      obtain ⟨hA', c0, t0, hrow, _⟩ := (hcur _ _ _ hb).2 rfl
      rw [hA] at hA'
      simp only [Option.some.injEq, Addr.mk.injEq, and_true] at hA'
      obtain ⟨rfl, rfl⟩ := hA'
      refine ⟨Nat.le_refl _, A, cap, rfl, hc, .inr ⟨E.φ b, 0, hA, ?_⟩⟩
      have hg := repL_get _ _ hr
      have hex : ∀ (i : Nat) v, cs[i]? = some v → ∃ u, E.w.cell? ⟨E.φ b, 0 + i, none⟩ = some u ∧ RepV (E.heap (E.H.set b .dead)) v u := fun i v hi => let ⟨u, a1, a2, _⟩ := hg i v hi; ⟨u, a1, hk.rep hh _ _ a2⟩
      have hvs := repVs_cells (E := E.heap (E.H.set b .dead)) hex
      refine repL_of_vs (p _ hvs) (fun i u hi => ?_) (fun i hi => ?_)
      · have hil : i < cs.length := by
          rcases Nat.lt_or_ge i cs.length with h | h
          · exact h
          · rw [List.getElem?_eq_none (by simp only [List.length_map, List.length_range]; exact h)] at hi; cases hi
        simp only [List.getElem?_map, List.getElem?_range hil, Option.map_some, Option.some.injEq] at hi
        obtain ⟨u', a1, _⟩ := hex i _ (List.getElem?_eq_getElem hil)
        simp only [Env.heap_w] at hi ⊢
        rw [a1] at hi
        simp only [Option.getD_some] at hi
        subst hi
        exact a1
      · show ¬ (E.heap H1).U (some 0) (E.φ b) _
        refine not_U_dead (E' := E.heap H1) hh (b := b) (by rw [hb]; trivial) e.mono ?_ _ (Nat.zero_le _) _
        exact Array.getElem?_eq_some_iff.1 hrow |>.1
    | sl b off n =>
      simp only [giveV] at h
      split at h
      case h_2 => cases h
      rename_i sz cs hb
      split at h
      · cases h
      rename_i hlen
      simp only [Option.map_eq_some_iff, Prod.exists, Prod.mk.injEq] at h
      obtain ⟨cs', H1, h1, rfl, rfl⟩ := h
      have hk := Evo.kill E b
      obtain ⟨e, r, p, l⟩ := ih _ (E.heap (E.H.set b .dead)) cs' H1 h1 (hh.kill b)
      simp only [Env.heap_heap] at e r p
      refine ⟨hk.trans e, r, fun u hu => ?_⟩
      simp only [RepV] at hu ⊢
      obtain ⟨_, ⟨cap, rfl, hc⟩, _⟩ := hu
      refine ⟨Nat.le_refl _, _, cap, rfl, hc, .inr ⟨E.φ b, off, rfl, ?_⟩⟩
      obtain ⟨cc, t, q1, q2, q3⟩ := hh.cells b sz cs hb
      have hex : ∀ (i : Nat) v, ((cs.drop off).take (n * sz))[i]? = some v → ∃ u, E.w.cell? ⟨E.φ b, off + i, none⟩ = some u ∧ RepV (E.heap (E.H.set b .dead)) v u := by
        intro i v hi
        rw [List.getElem?_take] at hi
        split at hi
        · rw [List.getElem?_drop] at hi
          obtain ⟨u, k1, k2⟩ := q3 _ v hi
          exact ⟨u, by rw [cell_of_row _ _ _ _ _ _ q1]; exact k1, hk.rep hh _ _ k2⟩
        · cases hi
      have hvs := repVs_cells (E := E.heap (E.H.set b .dead)) hex
      refine repL_of_vs (p _ hvs) (fun i u hi => ?_) (fun i hi => ?_)
      · have hil : i < ((cs.drop off).take (n * sz)).length := by
          rcases Nat.lt_or_ge i ((cs.drop off).take (n * sz)).length with h | h
          · exact h
          · rw [List.getElem?_eq_none (by simp only [List.length_map, List.length_range]; exact h)] at hi; cases hi
        simp only [List.getElem?_map, List.getElem?_range hil, Option.map_some, Option.some.injEq] at hi
        obtain ⟨u', a1, _⟩ := hex i _ (List.getElem?_eq_getElem hil)
        simp only [Env.heap_w] at hi ⊢
        rw [a1] at hi
        simp only [Option.getD_some] at hi
        subst hi
        exact a1
      · show ¬ (E.heap H1).U (some 0) (E.φ b) _
        refine not_U_dead (E' := E.heap H1) hh (b := b) (by rw [hb]; trivial) e.mono ?_ _ (Nat.zero_le _) _
        exact Array.getElem?_eq_some_iff.1 q1 |>.1
    | agg cs =>
      simp only [giveV, Option.map_eq_some_iff, Prod.exists, Prod.mk.injEq] at h
      obtain ⟨cs', H1, h1, rfl, rfl⟩ := h
      obtain ⟨e, r, p, l⟩ := ih cs E cs' H1 h1 hh
      refine ⟨e, r, fun u hu => ?_⟩
      simp only [RepV] at hu ⊢
      obtain ⟨vs, hv, hr⟩ := hu
      exact ⟨vs, hv, p _ hr⟩

theorem give_shape_list {f : Heap → V → Option (V × Heap)} (hf : ∀ H v v' H', f H v = some (v', H') → H'.length = H.length ∧ ∀ (b sz : Nat) (cs : List V), H'[b]? = some (Blk.cells sz cs) → H[b]? = some (Blk.cells sz cs)) :
    ∀ (vs : List V) (H : Heap) (vs' : List V) (H' : Heap), giveV.giveL f H vs = some (vs', H') → H'.length = H.length ∧ ∀ (b sz : Nat) (cs : List V), H'[b]? = some (Blk.cells sz cs) → H[b]? = some (Blk.cells sz cs)
  | [], H, vs', H', h => by
    simp only [giveV.giveL, Option.some.injEq, Prod.mk.injEq] at h
    obtain ⟨_, rfl⟩ := h
    exact ⟨rfl, fun _ _ _ h => h⟩
  | v :: vs, H, vs', H', h => by
    simp only [giveV.giveL, Option.bind_eq_some_iff, Option.map_eq_some_iff, Prod.exists, Prod.mk.injEq] at h
    obtain ⟨v1, H1, h1, vs2, H2, h2, _, rfl⟩ := h
    obtain ⟨l1, c1⟩ := hf H v v1 H1 h1
    obtain ⟨l2, c2⟩ := give_shape_list hf vs H1 vs2 H2 h2
    exact ⟨l2.trans l1, fun b sz cs h => c1 b sz cs (c2 b sz cs h)⟩
theorem kill_cells (H : Heap) (b : Nat) : (H.set b .dead).length = H.length ∧ ∀ (x sz : Nat) (cs : List V), (H.set b .dead)[x]? = some (Blk.cells sz cs) → H[x]? = some (Blk.cells sz cs) := by
  refine ⟨by simp, fun x sz cs h => ?_⟩
  rw [set_get] at h
  split at h
  · cases h
  · exact h
theorem give_shape (lo : Nat) : ∀ (k : Nat) (H : Heap) (v v' : V) (H' : Heap), giveV lo k H v = some (v', H') → H'.length = H.length ∧ ∀ (b sz : Nat) (cs : List V), H'[b]? = some (Blk.cells sz cs) → H[b]? = some (Blk.cells sz cs)
  | 0, H, v, v', H', h => by simp [giveV] at h
  | k + 1, H, v, v', H', h => by
    have same : (v', H') = (v, H) → H'.length = H.length ∧ ∀ (b sz : Nat) (cs : List V), H'[b]? = some (Blk.cells sz cs) → H[b]? = some (Blk.cells sz cs) := by
      intro e
      simp only [Prod.mk.injEq] at e
      obtain ⟨_, rfl⟩ := e
      exact ⟨rfl, fun _ _ _ h => h⟩
    have ih := give_shape_list fun (H : Heap) (v v' : V) (H' : Heap) (h : giveV lo k H v = some (v', H')) => give_shape lo k H v v' H' h
    cases v with
    | int _ _ => simp only [giveV, Option.some.injEq] at h; exact same h.symm
    | bool _ => simp only [giveV, Option.some.injEq] at h; exact same h.symm
    | str _ => simp only [giveV, Option.some.injEq] at h; exact same h.symm
    | nilp => simp only [giveV, Option.some.injEq] at h; exact same h.symm
    | nilfn => simp only [giveV, Option.some.injEq] at h; exact same h.symm
    | ptr _ _ => simp [giveV] at h
    | mref _ => simp [giveV] at h
    | lp _ _ _ => simp [giveV] at h
    | fn _ _ => simp [giveV] at h
    | pre _ _ _ _ => simp [giveV] at h
    | tup _ => simp [giveV] at h
    | lit lv n cs =>
      simp only [giveV] at h
      split at h
      · simp only [Option.some.injEq] at h; exact same h.symm
      · cases h
    | tl n cs =>
      simp only [giveV, Option.map_eq_some_iff, Prod.exists, Prod.mk.injEq] at h
      obtain ⟨cs', H1, h1, _, rfl⟩ := h
      exact ih cs H cs' H1 h1
    | snap b n cs =>
      simp only [giveV] at h
      split at h
      case h_2 => cases h
      split at h
      · cases h
      simp only [Option.map_eq_some_iff, Prod.exists, Prod.mk.injEq] at h
      obtain ⟨cs', H1, h1, _, rfl⟩ := h
      obtain ⟨l1, c1⟩ := ih cs _ cs' H1 h1
      obtain ⟨l2, c2⟩ := kill_cells H b
      exact ⟨l1.trans l2, fun x sz cs h => c2 x sz cs (c1 x sz cs h)⟩
    | sl b off n =>
      simp only [giveV] at h
      split at h
      case h_2 => cases h
      split at h
      · cases h
      simp only [Option.map_eq_some_iff, Prod.exists, Prod.mk.injEq] at h
      obtain ⟨cs', H1, h1, _, rfl⟩ := h
      obtain ⟨l1, c1⟩ := ih _ _ cs' H1 h1
      obtain ⟨l2, c2⟩ := kill_cells H b
      exact ⟨l1.trans l2, fun x sz cs h => c2 x sz cs (c1 x sz cs h)⟩
    | agg cs =>
      simp only [giveV, Option.map_eq_some_iff, Prod.exists, Prod.mk.injEq] at h
      obtain ⟨cs', H1, h1, _, rfl⟩ := h
      exact ih cs H cs' H1 h1
theorem give_length (lo k : Nat) (H : Heap) (v v' : V) (H' : Heap) (h : giveV lo k H v = some (v', H')) : H'.length = H.length := (give_shape lo k H v v' H' h).1
theorem give_cells (lo k : Nat) (H : Heap) (v v' : V) (H' : Heap) (h : giveV lo k H v = some (v', H')) (b sz : Nat) (cs : List V) (hb : H'[b]? = some (.cells sz cs)) : H[b]? = some (.cells sz cs) := (give_shape lo k H v v' H' h).2 b sz cs hb

theorem RepL.up {E : Env} {lv lv' g o : Nat} {cs : List V} (hl : lv ≤ lv') (h : RepL E (some lv) g o cs) : RepL E (some lv') g o cs :=
  repL_of_get _ _ fun i v hi => let ⟨u, a1, a2, a3⟩ := repL_get _ _ h i v hi; ⟨u, a1, a2, fun hu => a3 (Env.U_anti hl hu)⟩

/-- What nobody may write, no list of the call's own depth need keep clear of. -/
theorem RepL.all {E : Env} (hh : RelH E) {lv g o : Nat} {cs : List V} (hl : E.lk.length ≤ lv) (h : RepL E none g o cs) : RepL E (some lv) g o cs :=
  repL_of_get _ _ fun i v hi => let ⟨u, a1, a2, a3⟩ := repL_get _ _ h i v hi; ⟨u, a1, a2, fun hu => a3 (hh.sub hl hu)⟩

/-- The callee's view: the same memory, one more list of locks. -/
def Env.lock (E : Env) (L : List Nat) : Env := { E with lk := E.lk ++ [L], m := E.m + 1 }
@[simp] theorem Env.lock_H (E : Env) (L : List Nat) : (E.lock L).H = E.H := rfl
@[simp] theorem Env.lock_w (E : Env) (L : List Nat) : (E.lock L).w = E.w := rfl
@[simp] theorem Env.lock_phi (E : Env) (L : List Nat) : (E.lock L).φ = E.φ := rfl
@[simp] theorem Env.lock_lk (E : Env) (L : List Nat) : (E.lock L).lk = E.lk ++ [L] := rfl

theorem RelH.lock {E : Env} (h : RelH E) (L : List Nat) : RelH (E.lock L) where
  cells := fun b sz cs hb => let ⟨c, t, h1, h2, h3⟩ := h.cells b sz cs hb; ⟨c, t, h1, h2, fun i v hv => let ⟨u, h4, h5⟩ := h3 i v hv; ⟨u, h4, (Keeps.locks E L h.dm).rep v u h5⟩⟩
  bld := h.bld
  lvl := fun b l n sz hb => by have := h.lvl b l n sz hb; simp only [Env.lock_lk, List.length_append, List.length_singleton]; omega
  dm := by have := h.dm; simp only [Env.lock_lk, List.length_append, List.length_singleton]; show E.m + 1 ≤ _; omega
  inj := h.inj
  maps := h.maps
  hid := h.hid

theorem not_U_locked {E : Env} (hh : RelH E) {b sz : Nat} {cs : List V} (hb : E.H[b]? = some (.cells sz cs)) {L : List Nat} (hL : b ∈ L) (i : Nat) : ¬ (E.lock L).U (some (E.lk.length + 1)) (E.φ b) i := by
  intro hu
  have hu' := hu
  rcases hu' with hu' | ⟨b', h1, h2, h3⟩
  · exact (hh.hid _ hu').2 b (by rw [hb]; trivial) rfl
  rcases U_live hu with hu2 | ⟨b2, k1, k2⟩
  · exact (hh.hid _ hu2).2 b (by rw [hb]; trivial) rfl
  have e1 := hh.inj b2 b k2 (by rw [hb]; trivial) k1
  subst e1
  have hl : live E.H[b']? := by
    simp only [Env.lock_H] at h3
    split at h3
    · rename_i heq; rw [heq]; trivial
    · rename_i heq; rw [heq]; trivial
    · rename_i heq; rw [heq]; trivial
    · exact h3.elim
  have := hh.inj b' b2 hl k2 h1
  subst this
  simp only [Env.lock_lk] at h2
  rw [List.take_of_length_le (by simp)] at h2
  unfold unlocked at h2
  rw [List.all_eq_true] at h2
  have := h2 L (by simp)
  simp [hL] at this

theorem repVs_of_row {E E' : Env} {cs : List V} {g o : Nat} (hex : ∀ (i : Nat) v, cs[i]? = some v → ∃ u, E.w.cell? ⟨g, o + i, none⟩ = some u ∧ RepV E v u) {cs' : List V}
    (hp : ∀ us, RepVs E cs us → RepVs E' cs' us) (hl : cs'.length = cs.length) (hw : E'.w = E.w) {lv : Option Nat} (hu : ∀ i, i < cs.length → ¬ E'.U lv g (o + i)) : RepL E' lv g o cs' := by
  refine repL_of_vs (hp _ (repVs_cells hex)) (fun i u hi => ?_) (fun i hi => hu i (by omega))
  have hil : i < cs.length := by
    rcases Nat.lt_or_ge i cs.length with h | h
    · exact h
    · rw [List.getElem?_eq_none (by simp only [List.length_map, List.length_range]; exact h)] at hi; cases hi
  simp only [List.getElem?_map, List.getElem?_range hil, Option.map_some, Option.some.injEq] at hi
  obtain ⟨u', a1, _⟩ := hex i _ (List.getElem?_eq_getElem hil)
  rw [a1] at hi
  simp only [Option.getD_some] at hi
  subst hi
  rw [hw]
  exact a1

theorem lend_list {E : Env} {f : V → Option (V × List Nat)} {L : List Nat} (hf : ∀ v v' M, f v = some (v', M) → (∀ x ∈ M, x ∈ L) → ∀ u, RepV E v u → RepV (E.lock L) v' u) :
    ∀ (vs vs' : List V) (M : List Nat), lendV.lendL f vs = some (vs', M) → (∀ x ∈ M, x ∈ L) → (∀ us, RepVs E vs us → RepVs (E.lock L) vs' us) ∧ vs'.length = vs.length
  | [], vs', M, h, _ => by
    simp only [lendV.lendL, Option.some.injEq, Prod.mk.injEq] at h
    obtain ⟨rfl, rfl⟩ := h
    exact ⟨fun us hu => by simpa only [RepVs] using hu, rfl⟩
  | v :: vs, vs', M, h, hM => by
    simp only [lendV.lendL, Option.bind_eq_some_iff, Option.map_eq_some_iff, Prod.exists, Prod.mk.injEq] at h
    obtain ⟨v1, M1, h1, vs2, M2, h2, rfl, rfl⟩ := h
    obtain ⟨p, l⟩ := lend_list hf vs vs2 M2 h2 (fun x hx => hM x (by simp [hx]))
    refine ⟨fun us hu => ?_, by simp [l]⟩
    simp only [RepVs] at hu ⊢
    obtain ⟨u, us', rfl, hu1, hu2⟩ := hu
    exact ⟨u, us', rfl, hf v v1 M1 h1 (fun x hx => hM x (by simp [hx])) u hu1, p us' hu2⟩

theorem lend_sound {E : Env} (hm : E.lk.length = E.m) (hh : RelH E) {L : List Nat} : ∀ (k : Nat) (v v' : V) (M : List Nat), lendV (E.lk.length + 1) E.H k v = some (v', M) → (∀ x ∈ M, x ∈ L) → ∀ u, RepV E v u → RepV (E.lock L) v' u
  | 0, v, v', M, h, _ => by simp [lendV] at h
  | k + 1, v, v', M, h, hM => by
    intro u hu
    have hup : RepV (E.lock L) v u := (Keeps.locks E L hh.dm).rep v u hu
    have ih := lend_list (E := E) (L := L) (f := lendV (E.lk.length + 1) E.H k) fun v v' M h hM => lend_sound hm hh k v v' M h hM
    cases v with
    | int _ _ => simp only [lendV, Option.some.injEq, Prod.mk.injEq] at h; obtain ⟨rfl, rfl⟩ := h; exact hup
    | bool _ => simp only [lendV, Option.some.injEq, Prod.mk.injEq] at h; obtain ⟨rfl, rfl⟩ := h; exact hup
    | str _ => simp only [lendV, Option.some.injEq, Prod.mk.injEq] at h; obtain ⟨rfl, rfl⟩ := h; exact hup
    | nilp => simp only [lendV, Option.some.injEq, Prod.mk.injEq] at h; obtain ⟨rfl, rfl⟩ := h; exact hup
    | nilfn => simp only [lendV, Option.some.injEq, Prod.mk.injEq] at h; obtain ⟨rfl, rfl⟩ := h; exact hup
    | ptr _ _ => simp only [lendV, Option.some.injEq, Prod.mk.injEq] at h; obtain ⟨rfl, rfl⟩ := h; exact hup
    | mref _ => simp only [lendV, Option.some.injEq, Prod.mk.injEq] at h; obtain ⟨rfl, rfl⟩ := h; exact hup
    | lp _ _ _ => simp only [lendV, Option.some.injEq, Prod.mk.injEq] at h; obtain ⟨rfl, rfl⟩ := h; exact hup
    | lit _ _ _ => simp only [lendV, Option.some.injEq, Prod.mk.injEq] at h; obtain ⟨rfl, rfl⟩ := h; exact hup
    | fn _ _ => simp only [lendV, Option.some.injEq, Prod.mk.injEq] at h; obtain ⟨rfl, rfl⟩ := h; exact hup
    | tup _ => simp [lendV] at h
    | tl n cs =>
      simp only [lendV, Option.map_eq_some_iff, Prod.exists, Prod.mk.injEq] at h
      obtain ⟨cs', M1, h1, rfl, rfl⟩ := h
      obtain ⟨p, l⟩ := ih cs cs' M1 h1 hM
      simp only [RepV] at hu ⊢
      obtain ⟨A, rfl, hA⟩ := hu
      refine ⟨by show _ ≤ E.m + 1; omega, A, n, rfl, Nat.le_refl _, ?_⟩
      rcases hA with hA | ⟨g, o, hA, hr⟩
      · exact .inl hA
      · refine .inr ⟨g, o, hA, RepL.up (Nat.zero_le _) <| repVs_of_row (fun i v hi => let ⟨u, a1, a2, _⟩ := repL_get _ _ hr i v hi; ⟨u, a1, a2⟩) p l rfl fun i hi => ?_⟩
        obtain ⟨u', a1, _, a3⟩ := repL_get _ _ hr i _ (List.getElem?_eq_getElem hi)
        exact ((Keeps.locks E L hh.dm).cell (some 0) g (o + i) u' (Nat.zero_le _) (fun e => by cases e) a1 a3).2
    | snap b n cs =>
      simp only [lendV, Option.map_eq_some_iff, Prod.exists, Prod.mk.injEq] at h
      obtain ⟨cs', M1, h1, rfl, rfl⟩ := h
      obtain ⟨p, l⟩ := ih cs cs' M1 h1 hM
      simp only [RepV] at hu ⊢
      obtain ⟨_, ⟨A, cap, rfl, hc, ⟨g, o, hA, haw, hr⟩, _⟩, _⟩ := hu
      refine ⟨by show _ ≤ E.m + 1; omega, A, cap, rfl, hc, .inr ⟨g, o, hA, RepL.all (hh.lock L) (by simp) (repVs_of_row (fun i v hi => let ⟨u, a1, a2, _⟩ := repL_get _ _ hr i v hi; ⟨u, a1, a2⟩) p l rfl fun i hi => ?_)⟩⟩
      obtain ⟨u', a1, _, a3⟩ := repL_get _ _ hr i _ (List.getElem?_eq_getElem hi)
      exact ((Keeps.locks E L hh.dm).cell none g (o + i) u' trivial (fun _ => haw (by omega)) a1 a3).2
    | pre b m0 n cs =>
      simp only [lendV, Option.map_eq_some_iff, Prod.exists, Prod.mk.injEq] at h
      obtain ⟨cs', M1, h1, rfl, rfl⟩ := h
      obtain ⟨p, l⟩ := ih cs cs' M1 h1 hM
      simp only [RepV] at hu ⊢
      obtain ⟨_, ⟨A, cap, rfl, hc, ⟨g, o, hA, haw, hr⟩, _⟩, _⟩ := hu
      refine ⟨by show _ ≤ E.m + 1; omega, A, cap, rfl, hc, .inr ⟨g, o, hA, RepL.all (hh.lock L) (by simp) (repVs_of_row (fun i v hi => let ⟨u, a1, a2, _⟩ := repL_get _ _ hr i v hi; ⟨u, a1, a2⟩) p l rfl fun i hi => ?_)⟩⟩
      obtain ⟨u', a1, _, a3⟩ := repL_get _ _ hr i _ (List.getElem?_eq_getElem hi)
      exact ((Keeps.locks E L hh.dm).cell none g (o + i) u' trivial (fun _ => haw (by omega)) a1 a3).2
    | sl b off n =>
      simp only [lendV] at h
      split at h
      case h_2 => cases h
      rename_i sz cs hb
      split at h
      · cases h
      simp only [Option.map_eq_some_iff, Prod.exists, Prod.mk.injEq] at h
      obtain ⟨cs', M1, h1, rfl, rfl⟩ := h
      obtain ⟨p, l⟩ := ih _ cs' M1 h1 (fun x hx => hM x (by simp [hx]))
      simp only [RepV] at hu ⊢
      obtain ⟨_, ⟨cap, rfl, hc⟩, _⟩ := hu
      refine ⟨by show _ ≤ E.m + 1; omega, _, cap, rfl, hc, .inr ⟨E.φ b, off, rfl, ?_⟩⟩
      obtain ⟨cc, t, q1, q2, q3⟩ := hh.cells b sz cs hb
      refine repVs_of_row (fun i v hi => ?_) p l rfl fun i hi => not_U_locked hh hb (hM b (by simp)) _
      rw [List.getElem?_take] at hi
      split at hi
      · rw [List.getElem?_drop] at hi
        obtain ⟨u, k1, k2⟩ := q3 _ v hi
        exact ⟨u, by rw [cell_of_row _ _ _ _ _ _ q1]; exact k1, k2⟩
      · cases hi
    | agg cs =>
      simp only [lendV, Option.map_eq_some_iff, Prod.exists, Prod.mk.injEq] at h
      obtain ⟨cs', M1, h1, rfl, rfl⟩ := h
      obtain ⟨p, l⟩ := ih cs cs' M1 h1 hM
      simp only [RepV] at hu ⊢
      obtain ⟨vs, hv, hr⟩ := hu
      exact ⟨vs, hv, p _ hr⟩

/-! ### Snapshots of which parts may be given back -/
theorem partV_rep {E : Env} : ∀ (v : V) (u : Value), RepV E v u → RepV E (partV v) u
  | .snap b n cs, u, h => by
    simp only [partV, RepV] at h ⊢
    obtain ⟨hb, ⟨A, cap, h1, h2, h3, h5⟩, h6⟩ := h
    refine ⟨hb, ⟨A, cap, h1, h2, h3, fun l m sz hm => ⟨(h5 l m sz hm).1, fun e => ?_⟩⟩, h6⟩
    obtain ⟨q1, c, t, q2, _⟩ := (h5 l m sz hm).2 e
    exact ⟨q1, c, t, q2⟩
  | .int .., _, h | .bool _, _, h | .str _, _, h | .nilp, _, h | .nilfn, _, h | .ptr .., _, h | .lp .., _, h | .tl .., _, h | .pre .., _, h | .sl .., _, h | .fn .., _, h | .lit .., _, h | .agg _, _, h | .tup _, _, h | .mref _, _, h => h
theorem partVs_rep {E : Env} : ∀ (cs : List V) (us : List Value), RepVs E cs us → RepVs E (cs.map partV) us
  | [], us, h => h
  | c :: cs, us, h => by
    simp only [List.map_cons, RepVs] at h ⊢
    obtain ⟨u, us', rfl, h1, h2⟩ := h
    exact ⟨u, us', rfl, partV_rep c u h1, partVs_rep cs us' h2⟩
theorem partA_rep {E : Env} (v : V) (u : Value) (h : RepV E v u) : RepV E (partA v) u := by
  cases v with
  | agg cs =>
    simp only [partA, RepV] at h ⊢
    obtain ⟨vs, h1, h2⟩ := h
    exact ⟨vs, h1, partVs_rep _ _ h2⟩
  | _ => exact partV_rep _ _ h

end Go.Proofs.Ytblodpbcinkehaa.K
