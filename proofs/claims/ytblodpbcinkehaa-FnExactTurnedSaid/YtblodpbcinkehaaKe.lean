/-
  The operations that make or write memory. No conditions.
-/
import Derived.Test.YtblodpbcinkehaaKd
import Derived.Laws.Alloc2
import Derived.Laws.MakeOwn
import Derived.Laws.AppendOwn
import Derived.Great.BuildSlice
set_option linter.unusedVariables false
set_option linter.unusedSimpArgs false
namespace Go.Proofs.Ytblodpbcinkehaa.K

theorem rep_cells {E : Env} {x : V} {u : Value} (h : RepV E x u) (ht : ∀ vs, x ≠ .tup vs) : RepVs E x.cellsOf u.cells.toList := by
  cases x with
  | agg cs => simp only [RepV] at h; obtain ⟨vs, rfl, hr⟩ := h; exact hr
  | tup vs => exact absurd rfl (ht vs)
  | _ =>
    have h' := h
    simp only [V.cellsOf, RepVs]
    refine ⟨u, [], ?_, h, rfl⟩
    simp only [RepV] at h'
    first
      | (subst h'; rfl)
      | (obtain ⟨_, h1, _⟩ := h'; subst h1; rfl)
      | (obtain ⟨_, ⟨_, h1, _⟩, _⟩ := h'; subst h1; rfl)
      | (obtain ⟨_, _, _, h1, _⟩ := h'; subst h1; rfl)
      | (obtain ⟨_, ⟨_, _, h1, _⟩, _⟩ := h'; subst h1; rfl)

theorem rep_oneCell {E : Env} {x : V} {u : Value} (h : RepV E x u) (hc : x.isCell = true) : u.oneCell' = true := by
  cases x with
  | agg cs => simp [V.isCell] at hc
  | tup vs => simp [V.isCell] at hc
  | _ =>
    have h' := h
    simp only [RepV] at h'
    first
      | (subst h'; rfl)
      | (obtain ⟨_, h1, _⟩ := h'; subst h1; rfl)
      | (obtain ⟨_, ⟨_, h1, _⟩, _⟩ := h'; subst h1; rfl)
      | (obtain ⟨_, _, _, h1, _⟩ := h'; subst h1; rfl)
      | (obtain ⟨_, ⟨_, _, h1, _⟩, _⟩ := h'; subst h1; rfl)

/-- A new block. -/
structure Pushed (E E' : Env) (c : Array Value) (t : TypeId) (blk : Blk) : Prop where
  heap : E'.w.heap = E.w.heap.push (.cells c t (0, 0))
  os : E'.w.os = E.w.os
  tape : E'.w.tape = E.w.tape
  output : E'.w.output = E.w.output
  phi : ∀ b, E'.φ b = if b = E.H.length then E.w.heap.size else E.φ b
  H : E'.H = E.H ++ [blk]
  lk : E'.lk = E.lk
  n : E'.n = E.n + 1
  m : E'.m = E.m
  hid : E'.hid = E.hid
  n0 : E.n = E.H.length

theorem Pushed.getH {E E' : Env} {c : Array Value} {t : TypeId} {blk : Blk} (h : Pushed E E' c t blk) (b : Nat) : E'.H[b]? = if b = E.H.length then some blk else E.H[b]? := by
  rw [h.H]
  by_cases hb : b = E.H.length
  · subst hb; simp
  · rw [if_neg hb]
    rcases Nat.lt_or_ge b E.H.length with hl | hl
    · rw [List.getElem?_append_left hl]
    · rw [List.getElem?_eq_none (by simp; omega), List.getElem?_eq_none hl]
theorem Pushed.getW {E E' : Env} {c : Array Value} {t : TypeId} {blk : Blk} (h : Pushed E E' c t blk) (g : Nat) : E'.w.heap[g]? = if g = E.w.heap.size then some (.cells c t (0, 0)) else E.w.heap[g]? := by
  rw [h.heap, Array.getElem?_push]

theorem Pushed.evo {E E' : Env} {c : Array Value} {t : TypeId} {blk : Blk} (h : Pushed E E' c t blk) : Evo E E' where
  lk := h.lk
  os := h.os
  tape := h.tape
  output := h.output
  size := by rw [h.heap]; simp
  len := by rw [h.n]; omega
  mm := h.m
  cell := by
    intro g i u hc _
    have hg := cell_lt hc
    simp only [World.cell?, h.getW g] at hc ⊢
    rw [if_neg (by simp at hg; omega)]
    exact hc
  block := by
    intro g hg _
    rw [h.getW g, if_neg (by omega)]
  mono := by
    intro lv g i _ hu
    rcases hu with hu | hu
    · exact .inl (.inl (by rw [h.hid] at hu; exact hu))
    cases lv with
    | some lv =>
      obtain ⟨b, h1, h2, h3⟩ := hu
      rw [h.lk] at h2
      rw [h.getH b] at h3
      rw [h.phi b] at h1
      by_cases hb : b = E.H.length
      · rw [if_pos hb] at h1; right; omega
      · rw [if_neg hb] at h1 h3
        exact .inl (.inr ⟨b, h1, h2, h3⟩)
    | none =>
      obtain ⟨b, h1, h3⟩ := hu
      rw [h.getH b] at h3
      rw [h.phi b] at h1
      by_cases hb : b = E.H.length
      · rw [if_pos hb] at h1; right; omega
      · rw [if_neg hb] at h1 h3
        exact .inl (.inr ⟨b, h1, h3⟩)
  phi := by
    intro b hb hn
    have : b ≠ E.H.length := by have := h.n0; omega
    refine ⟨by rw [h.phi b, if_neg this], fun l n sz => ?_⟩
    rw [h.getH b, if_neg this]
    exact hn l n sz
  cells := by
    intro b hb hn sz cs
    have : b ≠ E.H.length := by have := h.n0; omega
    rw [h.getH b, if_neg this]
    exact hn sz cs
  bld := by
    intro b l n' sz' hb hB
    have hne : b ≠ E.H.length := by have := h.n0; omega
    rw [h.getH b, if_neg hne] at hB
    refine ⟨n', hB, Nat.le_refl _, fun _ => ⟨by rw [h.phi b, if_neg hne], fun c' t' hc => ⟨c', ?_, rfl⟩⟩⟩
    rw [h.getW]
    split
    · rename_i he
      have := Array.getElem?_eq_some_iff.1 hc |>.1
      omega
    · exact hc
  fresh := by
    intro b hl
    rw [h.getH b] at hl
    rw [h.phi b]
    by_cases hb : b = E.H.length
    · rw [if_pos hb]; exact .inr (Nat.le_refl _)
    · rw [if_neg hb] at hl ⊢; exact .inl ⟨rfl, hl⟩
  hid := fun g hg => by rw [h.hid]; exact hg
  hidF := fun g hg => .inl (by rw [h.hid] at hg; exact hg)
  hidW := fun g _ hl => by rw [h.getW g, if_neg (by omega)]

theorem Pushed.rel {E E' : Env} {c : Array Value} {t : TypeId} {blk : Blk} (h : Pushed E E' c t blk) (hh : RelH E)
    (hc : ∀ sz cs, blk = .cells sz cs → cs.length ≤ c.size ∧ ∀ (i : Nat) v, cs[i]? = some v → ∃ u, c[i]? = some u ∧ RepV E v u) (hb : ∀ l n sz, blk = .bld l n sz → n * sz ≤ c.size ∧ l ≤ E.lk.length) (hm : ∀ kvs, blk ≠ .mp kvs := by intro _ e; cases e) : RelH E' where
  cells := by
    intro b sz cs hB
    rw [h.getH b] at hB
    rw [h.phi b]
    split at hB
    · rename_i he
      rw [if_pos he, h.getW, if_pos rfl]
      simp only [Option.some.injEq] at hB
      obtain ⟨h1, h2⟩ := hc sz cs hB
      exact ⟨c, t, rfl, h1, fun i v hv => let ⟨u, h3, h4⟩ := h2 i v hv; ⟨u, h3, h.evo.rep hh v u h4⟩⟩
    · rename_i he
      obtain ⟨c', t', h1, h2, h3⟩ := hh.cells b sz cs hB
      rw [if_neg he, h.getW, if_neg (by have := Array.getElem?_eq_some_iff.1 h1 |>.1; omega)]
      exact ⟨c', t', h1, h2, fun i v hv => let ⟨u, h4, h5⟩ := h3 i v hv; ⟨u, h4, h.evo.rep hh v u h5⟩⟩
  dm := by rw [h.m, h.lk]; exact hh.dm
  lvl := by
    intro b l n sz hB
    rw [h.getH b] at hB
    rw [h.lk]
    split at hB
    · simp only [Option.some.injEq] at hB
      exact (hb l n sz hB).2
    · exact hh.lvl b l n sz hB
  bld := by
    intro b l n sz hB
    rw [h.getH b] at hB
    rw [h.phi b]
    split at hB
    · rename_i he
      rw [if_pos he, h.getW, if_pos rfl]
      simp only [Option.some.injEq] at hB
      exact ⟨c, t, rfl, (hb l n sz hB).1⟩
    · rename_i he
      obtain ⟨c', t', h1, h2⟩ := hh.bld b l n sz hB
      rw [if_neg he, h.getW, if_neg (by have := Array.getElem?_eq_some_iff.1 h1 |>.1; omega)]
      exact ⟨c', t', h1, h2⟩
  maps := by
    intro b kvs hB
    rw [h.getH b] at hB
    rw [h.phi b]
    split at hB
    · simp only [Option.some.injEq] at hB
      exact absurd hB (hm kvs)
    · rename_i he
      obtain ⟨h1, h2⟩ := hh.maps b kvs hB
      rw [if_neg he, h.getW, if_neg (by have := Array.getElem?_eq_some_iff.1 h1 |>.1; omega)]
      exact ⟨h1, h2⟩
  inj := by
    have hlt : ∀ b, live E.H[b]? → E.φ b < E.w.heap.size := by
      intro b hl
      cases hB : E.H[b]? with
      | none => rw [hB] at hl; exact hl.elim
      | some x =>
        cases x with
        | cells sz cs => obtain ⟨_, _, h1, _⟩ := hh.cells b sz cs hB; exact Array.getElem?_eq_some_iff.1 h1 |>.1
        | bld l n sz => obtain ⟨_, _, h1, _⟩ := hh.bld b l n sz hB; exact Array.getElem?_eq_some_iff.1 h1 |>.1
        | mp kvs => exact Array.getElem?_eq_some_iff.1 (hh.maps b kvs hB).1 |>.1
        | dead => rw [hB] at hl; exact hl.elim
    intro b b' h1 h2 he
    rw [h.getH] at h1 h2
    rw [h.phi, h.phi] at he
    by_cases hb : b = E.H.length <;> by_cases hb' : b' = E.H.length
    · omega
    · rw [if_pos hb, if_neg hb'] at he
      rw [if_neg hb'] at h2
      have := hlt b' h2
      omega
    · rw [if_neg hb, if_pos hb'] at he
      rw [if_neg hb] at h1
      have := hlt b h1
      omega
    · rw [if_neg hb, if_neg hb'] at he
      rw [if_neg hb] at h1
      rw [if_neg hb'] at h2
      exact hh.inj b b' h1 h2 he
  hid := fun g hg => by
    rw [h.hid] at hg
    obtain ⟨h1, h2⟩ := hh.hid g hg
    refine ⟨by rw [h.heap, Array.size_push]; omega, fun b hl => ?_⟩
    rw [h.getH] at hl
    rw [h.phi]
    by_cases hb : b = E.H.length
    · rw [if_pos hb]; omega
    · rw [if_neg hb] at hl ⊢; exact h2 b hl

theorem live_lt {E : Env} (hh : RelH E) {b : Nat} (hl : live E.H[b]?) : E.φ b < E.w.heap.size := by
  cases hB : E.H[b]? with
  | none => rw [hB] at hl; exact hl.elim
  | some x =>
    cases x with
    | cells sz cs => obtain ⟨_, _, h1, _⟩ := hh.cells b sz cs hB; exact Array.getElem?_eq_some_iff.1 h1 |>.1
    | bld l n sz => obtain ⟨_, _, h1, _⟩ := hh.bld b l n sz hB; exact Array.getElem?_eq_some_iff.1 h1 |>.1
    | mp kvs => exact Array.getElem?_eq_some_iff.1 (hh.maps b kvs hB).1 |>.1
    | dead => rw [hB] at hl; exact hl.elim

/-- Foreign blocks hold nothing that is this call's own. -/
def RelF (E : Env) (base nb d : Nat) : Prop :=
  ∀ b sz cs, b < base → E.H[b]? = some (.cells sz cs) → ∀ c t, E.w.heap[E.φ b]? = some (.cells c t (0, 0)) → ∀ (i : Nat) v u, cs[i]? = some v → c[i]? = some u → RepV (E.shrink nb d) v u
theorem RelF.up {E : Env} {base nb nb' d : Nat} (h : RelF E base nb d) (hn : nb ≤ nb') : RelF E base nb' d :=
  fun b sz cs h1 h2 c t h3 i v u h4 h5 => (Keeps.grow (E.shrink nb' d) hn (Nat.le_refl _)).rep v u (h b sz cs h1 h2 c t h3 i v u h4 h5)

theorem Pushed.foreign {E E' : Env} {c : Array Value} {t : TypeId} {blk : Blk} (h : Pushed E E' c t blk) {base nb d : Nat} (hb : base ≤ E.n) (hnb : nb ≤ E.n) (hd : d ≤ E.m) (hf : RelF E base nb d) (hh : RelH E) : RelF E' base nb d := by
  intro b sz cs hlt hB c' t' hc i v u hv hu
  have hne : b ≠ E.H.length := by have := h.n0; omega
  rw [h.getH, if_neg hne] at hB
  rw [h.phi, if_neg hne, h.getW] at hc
  split at hc
  · rename_i he
    have := live_lt hh (b := b) (by rw [hB]; trivial)
    omega
  · exact (h.evo.shrink hh hnb hd).rep v u (hf b sz cs hlt hB c' t' hc i v u hv hu)

/-- A row written in place: of a block of cells, or behind what a builder holds. -/
structure Wrote (E E' : Env) (b : Nat) (c c' : Array Value) (t : TypeId) (blk : Blk) : Prop where
  w : E'.w = E.w.setRow (E.φ b) c'
  row : E.w.heap[E.φ b]? = some (.cells c t (0, 0))
  size : c'.size = c.size
  phi : E'.φ = E.φ
  H : E'.H = E.H.set b blk
  lk : E'.lk = E.lk
  n : E'.n = E.n
  m : E'.m = E.m
  hid : E'.hid = E.hid
  n0 : E.n = E.H.length
  free : unlocked E.lk b = true
  nohid : E.φ b ∉ E.hid
  kind : (∃ sz cs cs', E.H[b]? = some (.cells sz cs) ∧ blk = .cells sz cs') ∨ (∃ l n n' sz, E.H[b]? = some (.bld l n sz) ∧ blk = .bld l n' sz ∧ n < n' ∧ ∀ i, i < n * sz → c'[i]? = c[i]?)

theorem Wrote.lt {E E' : Env} {b : Nat} {c c' : Array Value} {t : TypeId} {blk : Blk} (h : Wrote E E' b c c' t blk) : b < E.H.length := by
  rcases Nat.lt_or_ge b E.H.length with hl | hl
  · exact hl
  · rcases h.kind with ⟨_, _, _, hb, _⟩ | ⟨_, _, _, _, hb, _⟩ <;> (rw [List.getElem?_eq_none hl] at hb; cases hb)
theorem Wrote.getH {E E' : Env} {b : Nat} {c c' : Array Value} {t : TypeId} {blk : Blk} (h : Wrote E E' b c c' t blk) (x : Nat) : E'.H[x]? = if b = x then some blk else E.H[x]? := by
  rw [h.H, set_get]
  simp [h.lt]
theorem Wrote.getW {E E' : Env} {b : Nat} {c c' : Array Value} {t : TypeId} {blk : Blk} (h : Wrote E E' b c c' t blk) (g : Nat) : E'.w.heap[g]? = if g = E.φ b then some (.cells c' t (0, 0)) else E.w.heap[g]? := by
  rw [h.w]
  by_cases hg : g = E.φ b
  · subst hg; rw [if_pos rfl]; exact setRow_heap _ _ _ _ _ _ h.row
  · rw [if_neg hg]; exact setRow_other _ _ _ _ hg

theorem Wrote.evo {E E' : Env} {b : Nat} {c c' : Array Value} {t : TypeId} {blk : Blk} (h : Wrote E E' b c c' t blk) : Evo E E' where
  lk := h.lk
  os := by rw [h.w]; rfl
  tape := by rw [h.w]; rfl
  output := by rw [h.w]; rfl
  size := by rw [h.w]; simp
  len := by rw [h.n]; exact Nat.le_refl _
  mm := h.m
  cell := by
    intro g i u hc hu
    simp only [World.cell?, h.getW g] at hc ⊢
    by_cases hg : g = E.φ b
    · subst hg
      rw [if_pos rfl]
      rw [h.row] at hc
      simp only [Option.isSome_none, Bool.false_eq_true, if_false] at hc ⊢
      rcases h.kind with ⟨sz, cs, cs', hb, _⟩ | ⟨l, n, n', sz, hb, _, _, hk⟩
      · refine absurd (.inr ⟨b, rfl, unlocked_take _ h.free, ?_⟩) hu
        rw [hb]; trivial
      · rcases Nat.lt_or_ge i (n * sz) with hi | hi
        · rw [hk i hi]; exact hc
        · refine absurd (.inr ⟨b, rfl, unlocked_take _ h.free, ?_⟩) hu
          rw [hb]; exact .inr hi
    · rw [if_neg hg]; exact hc
  block := by
    intro g hg hu
    rw [h.getW g]
    split
    · rename_i he
      subst he
      rcases h.kind with ⟨sz, cs, cs', hb, _⟩ | ⟨l, n, n', sz, hb, _, _, hk⟩
      · refine absurd (.inr ⟨b, rfl, unlocked_take _ h.free, ?_⟩) (hu 0)
        rw [hb]; trivial
      · refine absurd (.inr ⟨b, rfl, unlocked_take _ h.free, ?_⟩) (hu (n * sz))
        rw [hb]; exact .inr (Nat.le_refl _)
    · rfl
  mono := by
    intro lv g i _ hu
    rcases hu with hu | hu
    · exact .inl (.inl (by rw [h.hid] at hu; exact hu))
    cases lv with
    | some lv =>
      obtain ⟨x, h1, h2, h3⟩ := hu
      rw [h.lk] at h2
      rw [h.phi] at h1
      rw [h.getH x] at h3
      refine .inl (.inr ⟨x, h1, h2, ?_⟩)
      by_cases hb : b = x
      · subst hb
        rw [if_pos rfl] at h3
        rcases h.kind with ⟨sz, cs, cs', hb, rfl⟩ | ⟨l, n, n', sz, hb, rfl, hn, hk⟩
        · rw [hb]; trivial
        · rw [hb]
          rcases h3 with h3 | h3
          · exact .inl h3
          · exact .inr (Nat.le_trans (Nat.mul_le_mul_right _ (Nat.le_of_lt hn)) h3)
      · rw [if_neg hb] at h3; exact h3
    | none =>
      obtain ⟨x, h1, h3⟩ := hu
      rw [h.phi] at h1
      rw [h.getH x] at h3
      refine .inl (.inr ⟨x, h1, ?_⟩)
      by_cases hb : b = x
      · subst hb
        rw [if_pos rfl] at h3
        rcases h.kind with ⟨sz, cs, cs', hb, rfl⟩ | ⟨l, n, n', sz, hb, rfl, hn, hk⟩
        · rw [hb]; trivial
        · rw [hb]
          exact Nat.le_trans (Nat.mul_le_mul_right _ (Nat.le_of_lt hn)) h3
      · rw [if_neg hb] at h3; exact h3
  phi := by
    intro x hx hn
    refine ⟨by rw [h.phi], fun l n sz => ?_⟩
    rw [h.getH x]
    split
    · rename_i hb
      subst hb
      rcases h.kind with ⟨sz, cs, cs', hb, rfl⟩ | ⟨l, n, n', sz, hb, rfl, _, hk⟩
      · simp
      · exact absurd hb (hn _ _ _)
    · exact hn l n sz
  cells := by
    intro x hx hn sz cs
    rw [h.getH x]
    split
    · rename_i hb
      subst hb
      rcases h.kind with ⟨sz, cs, cs', hb, rfl⟩ | ⟨l, n, n', sz, hb, rfl, _, hk⟩
      · exact absurd hb (hn _ _)
      · simp
    · exact hn sz cs
  bld := by
    intro x l n' sz' hx hB
    rw [h.getH x] at hB
    by_cases hb : b = x
    · subst hb
      rw [if_pos rfl] at hB
      simp only [Option.some.injEq] at hB
      rcases h.kind with ⟨sz, cs, cs', hb, rfl⟩ | ⟨l, n, n2, sz, hb, rfl, hn, hk⟩
      · cases hB
      · simp only [Blk.bld.injEq] at hB
        obtain ⟨rfl, rfl, rfl⟩ := hB
        exact ⟨n, hb, Nat.le_of_lt hn, fun e => absurd e (Nat.ne_of_lt hn)⟩
    · rw [if_neg hb] at hB
      refine ⟨n', hB, Nat.le_refl _, fun _ => ⟨by rw [h.phi], fun c2 t2 hc => ?_⟩⟩
      rw [h.getW]
      split
      · rename_i he
        rw [he, h.row] at hc
        simp only [Option.some.injEq, Obj.cells.injEq] at hc
        obtain ⟨rfl, rfl, _⟩ := hc
        exact ⟨c', rfl, h.size⟩
      · exact ⟨c2, hc, rfl⟩
  fresh := by
    intro x hl
    rw [h.getH x] at hl
    rw [h.phi]
    refine .inl ⟨rfl, ?_⟩
    by_cases hb : b = x
    · subst hb
      rcases h.kind with ⟨_, _, _, hb, _⟩ | ⟨_, _, _, _, hb, _⟩ <;> (rw [hb]; trivial)
    · rw [if_neg hb] at hl; exact hl
  hid := fun g hg => by rw [h.hid]; exact hg
  hidF := fun g hg => .inl (by rw [h.hid] at hg; exact hg)
  hidW := fun g hg _ => by rw [h.getW g, if_neg (fun e => h.nohid (by rw [← e]; exact hg))]

theorem Wrote.rel {E E' : Env} {b : Nat} {c c' : Array Value} {t : TypeId} {blk : Blk} (h : Wrote E E' b c c' t blk) (hh : RelH E)
    (hc : ∀ sz cs, blk = .cells sz cs → cs.length ≤ c'.size ∧ ∀ (i : Nat) v, cs[i]? = some v → ∃ u, c'[i]? = some u ∧ RepV E v u) (hb : ∀ l n sz, blk = .bld l n sz → n * sz ≤ c'.size) : RelH E' where
  cells := by
    intro x sz cs hB
    rw [h.getH x] at hB
    rw [h.phi]
    by_cases hx : b = x
    · subst hx
      rw [if_pos rfl] at hB
      simp only [Option.some.injEq] at hB
      obtain ⟨h1, h2⟩ := hc sz cs hB
      rw [h.getW, if_pos rfl]
      exact ⟨c', t, rfl, h1, fun i v hv => let ⟨u, h3, h4⟩ := h2 i v hv; ⟨u, h3, h.evo.rep hh v u h4⟩⟩
    · rw [if_neg hx] at hB
      obtain ⟨c2, t2, h1, h2, h3⟩ := hh.cells x sz cs hB
      have hne : E.φ x ≠ E.φ b := fun e => hx (hh.inj b x (by rcases h.kind with ⟨_, _, _, hb, _⟩ | ⟨_, _, _, _, hb, _⟩ <;> (rw [hb]; trivial)) (by rw [hB]; trivial) e.symm)
      rw [h.getW, if_neg hne]
      exact ⟨c2, t2, h1, h2, fun i v hv => let ⟨u, h4, h5⟩ := h3 i v hv; ⟨u, h4, h.evo.rep hh v u h5⟩⟩
  dm := by rw [h.m, h.lk]; exact hh.dm
  lvl := by
    intro x l n sz hB
    rw [h.getH x] at hB
    rw [h.lk]
    by_cases hx : b = x
    · subst hx
      rw [if_pos rfl] at hB
      simp only [Option.some.injEq] at hB
      rcases h.kind with ⟨sz, cs, cs', hk, rfl⟩ | ⟨l, n, n2, sz, hk, rfl, hn, _⟩
      · cases hB
      · simp only [Blk.bld.injEq] at hB
        obtain ⟨rfl, rfl, rfl⟩ := hB
        exact hh.lvl _ _ _ _ hk
    · rw [if_neg hx] at hB
      exact hh.lvl x l n sz hB
  bld := by
    intro x l n sz hB
    rw [h.getH x] at hB
    rw [h.phi]
    by_cases hx : b = x
    · subst hx
      rw [if_pos rfl] at hB
      simp only [Option.some.injEq] at hB
      rw [h.getW, if_pos rfl]
      exact ⟨c', t, rfl, hb l n sz hB⟩
    · rw [if_neg hx] at hB
      obtain ⟨c2, t2, h1, h2⟩ := hh.bld x l n sz hB
      have hne : E.φ x ≠ E.φ b := fun e => hx (hh.inj b x (by rcases h.kind with ⟨_, _, _, hb, _⟩ | ⟨_, _, _, _, hb, _⟩ <;> (rw [hb]; trivial)) (by rw [hB]; trivial) e.symm)
      rw [h.getW, if_neg hne]
      exact ⟨c2, t2, h1, h2⟩
  maps := by
    intro x kvs hB
    rw [h.getH x] at hB
    rw [h.phi]
    by_cases hx : b = x
    · subst hx
      rw [if_pos rfl] at hB
      simp only [Option.some.injEq] at hB
      rcases h.kind with ⟨sz, cs, cs', hk, rfl⟩ | ⟨l, n, n2, sz, hk, rfl, hn, _⟩
      · cases hB
      · cases hB
    · rw [if_neg hx] at hB
      obtain ⟨h1, h2⟩ := hh.maps x kvs hB
      have hne : E.φ x ≠ E.φ b := fun e => hx (hh.inj b x (by rcases h.kind with ⟨_, _, _, hb, _⟩ | ⟨_, _, _, _, hb, _⟩ <;> (rw [hb]; trivial)) (by rw [hB]; trivial) e.symm)
      rw [h.getW, if_neg hne]
      exact ⟨h1, h2⟩
  inj := by
    have hl : live E.H[b]? := by rcases h.kind with ⟨_, _, _, hb, _⟩ | ⟨_, _, _, _, hb, _⟩ <;> (rw [hb]; trivial)
    intro x y h1 h2 he
    rw [h.getH] at h1 h2
    rw [h.phi] at he
    refine hh.inj x y ?_ ?_ he
    · by_cases hx : b = x
      · subst hx; exact hl
      · rw [if_neg hx] at h1; exact h1
    · by_cases hx : b = y
      · subst hx; exact hl
      · rw [if_neg hx] at h2; exact h2
  hid := fun g hg => by
    rw [h.hid] at hg
    obtain ⟨h1, h2⟩ := hh.hid g hg
    refine ⟨by rw [h.w]; simpa using h1, fun x hl => ?_⟩
    rw [h.getH] at hl
    rw [h.phi]
    by_cases hx : b = x
    · subst hx; exact fun e => h.nohid (e ▸ hg)
    · rw [if_neg hx] at hl; exact h2 x hl

theorem Wrote.foreign {E E' : Env} {b : Nat} {c c' : Array Value} {t : TypeId} {blk : Blk} (h : Wrote E E' b c c' t blk) {base nb d : Nat} (hnb : nb ≤ E.n) (hd : d ≤ E.m) (hf : RelF E base nb d) (hh : RelH E)
    (hn : ∀ sz cs, blk = .cells sz cs → b < base → ∀ (i : Nat) v u, cs[i]? = some v → c'[i]? = some u → RepV (E.shrink nb d) v u) : RelF E' base nb d := by
  intro x sz cs hlt hB c2 t2 hc i v u hv hu
  rw [h.getH] at hB
  rw [h.phi, h.getW] at hc
  by_cases hx : b = x
  · subst hx
    rw [if_pos rfl] at hB hc
    simp only [Option.some.injEq, Obj.cells.injEq] at hB hc
    obtain ⟨rfl, _, _⟩ := hc
    exact (h.evo.shrink hh hnb hd).rep v u (hn sz cs hB hlt i v u hv hu)
  · rw [if_neg hx] at hB
    have hne : E.φ x ≠ E.φ b := fun e => hx (hh.inj b x (by rcases h.kind with ⟨_, _, _, hb, _⟩ | ⟨_, _, _, _, hb, _⟩ <;> (rw [hb]; trivial)) (by rw [hB]; trivial) e.symm)
    rw [if_neg hne] at hc
    exact (h.evo.shrink hh hnb hd).rep v u (hf x sz cs hlt hB c2 t2 hc i v u hv hu)

/-- A builder that moves to a new row. -/
structure Moved (E E' : Env) (b l k k' sz : Nat) (c : Array Value) (t : TypeId) : Prop where
  heap : E'.w.heap = E.w.heap.push (.cells c t (0, 0))
  os : E'.w.os = E.w.os
  tape : E'.w.tape = E.w.tape
  output : E'.w.output = E.w.output
  phi : ∀ x, E'.φ x = if x = b then E.w.heap.size else E.φ x
  H : E'.H = E.H.set b (.bld l k' sz)
  lk : E'.lk = E.lk
  n : E'.n = E.n
  m : E'.m = E.m
  hid : E'.hid = E.hid
  was : E.H[b]? = some (.bld l k sz)
  lt : k < k'
  size : k' * sz ≤ c.size

theorem Moved.getH {E E' : Env} {b l n n' sz : Nat} {c : Array Value} {t : TypeId} (h : Moved E E' b l n n' sz c t) (x : Nat) : E'.H[x]? = if b = x then some (.bld l n' sz) else E.H[x]? := by
  have hl : b < E.H.length := by
    rcases Nat.lt_or_ge b E.H.length with hl | hl
    · exact hl
    · have := h.was; rw [List.getElem?_eq_none hl] at this; cases this
  rw [h.H, set_get]
  simp [hl]
theorem Moved.getW {E E' : Env} {b l n n' sz : Nat} {c : Array Value} {t : TypeId} (h : Moved E E' b l n n' sz c t) (g : Nat) : E'.w.heap[g]? = if g = E.w.heap.size then some (.cells c t (0, 0)) else E.w.heap[g]? := by
  rw [h.heap, Array.getElem?_push]

theorem Moved.evo {E E' : Env} {b l n n' sz : Nat} {c : Array Value} {t : TypeId} (h : Moved E E' b l n n' sz c t) : Evo E E' where
  lk := h.lk
  os := h.os
  tape := h.tape
  output := h.output
  size := by rw [h.heap]; simp
  len := by rw [h.n]; exact Nat.le_refl _
  mm := h.m
  cell := by
    intro g i u hc _
    have hg := cell_lt hc
    simp only [World.cell?, h.getW g] at hc ⊢
    rw [if_neg (by simp at hg; omega)]
    exact hc
  block := by
    intro g hg _
    rw [h.getW g, if_neg (by omega)]
  mono := by
    intro lv g i _ hu
    rcases hu with hu | hu
    · exact .inl (.inl (by rw [h.hid] at hu; exact hu))
    cases lv with
    | some lv =>
      obtain ⟨x, h1, h2, h3⟩ := hu
      rw [h.lk] at h2
      rw [h.getH x] at h3
      rw [h.phi x] at h1
      by_cases hb : x = b
      · rw [if_pos hb] at h1; right; omega
      · rw [if_neg hb] at h1
        rw [if_neg (fun e => hb e.symm)] at h3
        exact .inl (.inr ⟨x, h1, h2, h3⟩)
    | none =>
      obtain ⟨x, h1, h3⟩ := hu
      rw [h.getH x] at h3
      rw [h.phi x] at h1
      by_cases hb : x = b
      · rw [if_pos hb] at h1; right; omega
      · rw [if_neg hb] at h1
        rw [if_neg (fun e => hb e.symm)] at h3
        exact .inl (.inr ⟨x, h1, h3⟩)
  phi := by
    intro x hx hn
    have hne : x ≠ b := fun e => hn l n sz (by rw [e]; exact h.was)
    refine ⟨by rw [h.phi x, if_neg hne], fun q k z => ?_⟩
    rw [h.getH x, if_neg (fun e => hne e.symm)]
    exact hn q k z
  cells := by
    intro x hx hn z cs
    rw [h.getH x]
    split
    · simp
    · exact hn z cs
  bld := by
    intro x q k z hx hB
    rw [h.getH x] at hB
    by_cases hb : b = x
    · subst hb
      rw [if_pos rfl] at hB
      simp only [Option.some.injEq, Blk.bld.injEq] at hB
      obtain ⟨rfl, rfl, rfl⟩ := hB
      exact ⟨n, h.was, Nat.le_of_lt h.lt, fun e => absurd e (Nat.ne_of_lt h.lt)⟩
    · rw [if_neg hb] at hB
      refine ⟨k, hB, Nat.le_refl _, fun _ => ⟨by rw [h.phi x, if_neg (fun e => hb e.symm)], fun c' t' hc => ⟨c', ?_, rfl⟩⟩⟩
      rw [h.getW]
      split
      · rename_i he
        have := Array.getElem?_eq_some_iff.1 hc |>.1
        omega
      · exact hc
  fresh := by
    intro x hl
    rw [h.getH x] at hl
    rw [h.phi x]
    by_cases hb : x = b
    · rw [if_pos hb]; exact .inr (Nat.le_refl _)
    · rw [if_neg (fun e => hb e.symm)] at hl
      rw [if_neg hb]; exact .inl ⟨rfl, hl⟩
  hid := fun g hg => by rw [h.hid]; exact hg
  hidF := fun g hg => .inl (by rw [h.hid] at hg; exact hg)
  hidW := fun g _ hl => by rw [h.getW g, if_neg (by omega)]

theorem Moved.rel {E E' : Env} {b l n n' sz : Nat} {c : Array Value} {t : TypeId} (h : Moved E E' b l n n' sz c t) (hh : RelH E) : RelH E' where
  cells := by
    intro x z cs hB
    rw [h.getH x] at hB
    by_cases hb : b = x
    · rw [if_pos hb] at hB; cases hB
    · rw [if_neg hb] at hB
      obtain ⟨c', t', h1, h2, h3⟩ := hh.cells x z cs hB
      rw [h.phi x, if_neg (fun e => hb e.symm), h.getW, if_neg (by have := Array.getElem?_eq_some_iff.1 h1 |>.1; omega)]
      exact ⟨c', t', h1, h2, fun i v hv => let ⟨u, h4, h5⟩ := h3 i v hv; ⟨u, h4, h.evo.rep hh v u h5⟩⟩
  dm := by rw [h.m, h.lk]; exact hh.dm
  lvl := by
    intro x q k z hB
    rw [h.getH x] at hB
    rw [h.lk]
    by_cases hb : b = x
    · subst hb
      rw [if_pos rfl] at hB
      simp only [Option.some.injEq, Blk.bld.injEq] at hB
      obtain ⟨rfl, rfl, rfl⟩ := hB
      exact hh.lvl _ _ _ _ h.was
    · rw [if_neg hb] at hB
      exact hh.lvl x q k z hB
  bld := by
    intro x q k z hB
    rw [h.getH x] at hB
    by_cases hb : b = x
    · subst hb
      rw [if_pos rfl] at hB
      simp only [Option.some.injEq, Blk.bld.injEq] at hB
      obtain ⟨rfl, rfl, rfl⟩ := hB
      rw [h.phi, if_pos rfl, h.getW, if_pos rfl]
      exact ⟨c, t, rfl, h.size⟩
    · rw [if_neg hb] at hB
      obtain ⟨c', t', h1, h2⟩ := hh.bld x q k z hB
      rw [h.phi x, if_neg (fun e => hb e.symm), h.getW, if_neg (by have := Array.getElem?_eq_some_iff.1 h1 |>.1; omega)]
      exact ⟨c', t', h1, h2⟩
  maps := by
    intro x kvs hB
    rw [h.getH x] at hB
    by_cases hb : b = x
    · rw [if_pos hb] at hB; cases hB
    · rw [if_neg hb] at hB
      obtain ⟨h1, h2⟩ := hh.maps x kvs hB
      rw [h.phi x, if_neg (fun e => hb e.symm), h.getW, if_neg (by have := Array.getElem?_eq_some_iff.1 h1 |>.1; omega)]
      exact ⟨h1, h2⟩
  inj := by
    intro x y h1 h2 he
    rw [h.getH] at h1 h2
    rw [h.phi, h.phi] at he
    by_cases hx : x = b <;> by_cases hy : y = b
    · omega
    · rw [if_pos hx, if_neg hy] at he
      rw [if_neg (fun e => hy e.symm)] at h2
      have := live_lt hh h2
      omega
    · rw [if_neg hx, if_pos hy] at he
      rw [if_neg (fun e => hx e.symm)] at h1
      have := live_lt hh h1
      omega
    · rw [if_neg hx, if_neg hy] at he
      rw [if_neg (fun e => hx e.symm)] at h1
      rw [if_neg (fun e => hy e.symm)] at h2
      exact hh.inj x y h1 h2 he
  hid := fun g hg => by
    rw [h.hid] at hg
    obtain ⟨h1, h2⟩ := hh.hid g hg
    refine ⟨by rw [h.heap, Array.size_push]; omega, fun x hl => ?_⟩
    rw [h.getH] at hl
    rw [h.phi]
    by_cases hx : x = b
    · rw [if_pos hx]; omega
    · rw [if_neg (fun e => hx e.symm)] at hl; rw [if_neg hx]; exact h2 x hl

theorem Moved.foreign {E E' : Env} {b l n n' sz : Nat} {c : Array Value} {t : TypeId} (h : Moved E E' b l n n' sz c t) {base nb d : Nat} (hnb : nb ≤ E.n) (hd : d ≤ E.m) (hf : RelF E base nb d) (hh : RelH E) : RelF E' base nb d := by
  intro x z cs hlt hB c' t' hc i v u hv hu
  rw [h.getH] at hB
  by_cases hx : b = x
  · rw [if_pos hx] at hB; cases hB
  · rw [if_neg hx] at hB
    rw [h.phi, if_neg (fun e => hx e.symm), h.getW] at hc
    split at hc
    · rename_i he
      have := live_lt hh (b := x) (by rw [hB]; trivial)
      omega
    · exact (h.evo.shrink hh hnb hd).rep v u (hf x z cs hlt hB c' t' hc i v u hv hu)

/-- What an operation comes to: the world and heap behind it, and its value. -/
structure After (c : Cx) (E E' : Env) (H' : Heap) : Prop where
  H : E'.H = H'
  n : E'.n = H'.length
  m : E'.m = E.m
  evo : Evo E E'
  heap : RelH E'
  forN : c.hints.grow c.fn = false → ∀ base nb d, base ≤ c.base → nb ≤ E.n → d ≤ E.m → RelF E base nb d → RelF E' base nb d
  forG : c.hints.grow c.fn = true → ∀ base d, base ≤ c.base → d ≤ E.m → RelF E base E.n d → RelF E' base E'.n d
  kept : ∀ b, b < c.base → unlocked c.lk b = false → H'[b]? = E.H[b]?

def Makes (c : Cx) (E : Env) (a : Act) (o : Oper) (v : V) (H' : Heap) : Prop :=
  ∃ E', After c E E' H' ∧ ((∃ u, (execOp a.eval o).run c.P E.w = .ok (.value u) E'.w ∧ RepV E' v u) ∨ ((execOp a.eval o).run c.P E.w = .ok .skip E'.w ∧ RepV E' v undef))

theorem After.refl {c : Cx} {E : Env} {S : St} {a : Act} (hs : Sim c E S a) : After c E E S.H where
  H := hs.H
  n := hs.n
  m := rfl
  evo := Evo.refl E
  heap := hs.heap
  forN := fun _ _ _ _ _ _ _ h => h
  forG := fun _ _ _ _ _ h => h
  kept := fun _ _ _ => by rw [hs.H]

theorem Gives.makes {c : Cx} {E : Env} {S : St} {a : Act} {o : Oper} {v : V} (h : Gives c E a o v) (hs : Sim c E S a) : Makes c E a o v S.H :=
  let ⟨u, h1, h2⟩ := h
  ⟨E, After.refl hs, .inl ⟨u, h1, h2⟩⟩

/-- The environment with a new block. -/
def Env.push (E : Env) (w : World) (blk : Blk) : Env :=
  { w := w, φ := fun b => if b = E.H.length then E.w.heap.size else E.φ b, H := E.H ++ [blk], lk := E.lk, n := E.n + 1, m := E.m, hid := E.hid }
theorem Env.pushed (E : Env) (w : World) (blk : Blk) {c : Array Value} {t : TypeId} (h1 : w.heap = E.w.heap.push (.cells c t (0, 0))) (h2 : w.os = E.w.os) (h3 : w.tape = E.w.tape) (h4 : w.output = E.w.output) (h5 : E.n = E.H.length) : Pushed E (E.push w blk) c t blk where
  heap := h1
  os := h2
  tape := h3
  output := h4
  phi := fun _ => rfl
  H := rfl
  lk := rfl
  n := rfl
  m := rfl
  hid := rfl
  n0 := h5

section
variable {c : Cx} {E : Env} {S : St} {a : Act} {o : Oper}

theorem Pushed.after (hs : Sim c E S a) {E' : Env} {cs : Array Value} {t : TypeId} {blk : Blk} (h : Pushed E E' cs t blk) (hr : RelH E') : After c E E' (S.H ++ [blk]) where
  H := by rw [h.H, hs.H]
  n := by rw [h.n, hs.n]; simp
  m := h.m
  evo := h.evo
  heap := hr
  forN := fun _ base nb d hb hn hd hf => h.foreign (by have := hs.base; have := hs.n; omega) hn hd hf hs.heap
  forG := fun _ base d hb hd hf => (h.foreign (by have := hs.base; have := hs.n; omega) (Nat.le_refl _) hd hf hs.heap).up h.evo.len
  kept := fun b hb _ => by rw [hs.H, List.getElem?_append_left (by have := hs.base; omega)]

theorem info_of_sz {P : Program} {t : TypeId} {n : Nat} (h : szOf P t = some n) : ∃ i, P.info? t = some i ∧ i.size = n := by
  unfold szOf at h
  simpa only [Option.map_eq_some_iff] using h
theorem zero_of {P : Program} {t : TypeId} {z : List V} (h : zeroOf P t = some z) : ∃ i x v, P.info? t = some i ∧ i.zero = some x ∧ ofValue x = some v ∧ z = v.cellsOf := by
  unfold zeroOf at h
  simp only [Option.bind_eq_some_iff, Option.map_eq_some_iff] at h
  obtain ⟨x, ⟨i, h1, h2⟩, v, h3, rfl⟩ := h
  exact ⟨i, x, v, h1, h2, h3, rfl⟩
theorem ofCell_not_tup {x : Value} {v : V} (h : ofCell x = some v) : (∀ vs, v ≠ .tup vs) ∧ ∀ vs, v ≠ .agg vs := by
  cases x with
  | int _ _ => simp only [ofCell, Option.some.injEq] at h; subst h; simp
  | bool _ => simp only [ofCell, Option.some.injEq] at h; subst h; simp
  | string _ => simp only [ofCell, Option.some.injEq] at h; subst h; simp
  | pointer p => cases p <;> simp only [ofCell, Option.some.injEq, reduceCtorEq] at h; subst h; simp
  | slice p n m => simp only [ofCell] at h; split at h <;> simp_all <;> (subst h; simp)
  | nilFunc => simp only [ofCell, Option.some.injEq] at h; subst h; simp
  | _ => simp [ofCell] at h
theorem ofValue_not_tup {x : Value} {v : V} (h : ofValue x = some v) : ∀ vs, v ≠ .tup vs := by
  cases x with
  | agg cs => simp only [ofValue, Option.map_eq_some_iff] at h; obtain ⟨_, _, rfl⟩ := h; simp
  | _ => exact (ofCell_not_tup (by simpa only [ofValue] using h)).1
theorem zero_rep (E : Env) {x : Value} {v : V} (h : ofValue x = some v) : RepVs E v.cellsOf x.cells.toList := rep_cells (rep_ofValue E x v h) (ofValue_not_tup h)

theorem makes_alloc (hs : Sim c E S a) {t : TypeId} {z : List V} {sz : Nat} (ho : o.op = .alloc t) (hz : zeroOf c.P t = some z) : Makes c E a o (.ptr S.H.length 0) (S.H ++ [.cells sz z]) := by
  obtain ⟨i, x, v, h1, h2, h3, rfl⟩ := zero_of hz
  have hp := Env.pushed E (E.w.alloc (.cells x.cells t)) (.cells sz v.cellsOf) (c := x.cells) (t := t) rfl rfl rfl rfl (by rw [hs.n, hs.H])
  obtain ⟨hl, hg⟩ := repVs_get _ _ (zero_rep E h3)
  have hr := hp.rel hs.heap (fun sz' cs e => by
    simp only [Blk.cells.injEq] at e
    obtain ⟨rfl, rfl⟩ := e
    exact ⟨by rw [hl]; simp, fun i v hv => by simpa using hg i v hv⟩) (fun l n sz e => by cases e)
  refine ⟨_, hp.after hs hr, .inl ⟨.pointer (some ⟨E.w.heap.size, 0, none⟩), ?_, ?_⟩⟩
  · simp [execOp, ho, Instr.alloc, zeroValue, typeInfo, h1, h2, newVar, newRow]; rfl
  · simp only [RepV]
    rw [hp.n, hs.n, hp.phi, hs.H]
    refine ⟨by omega, by rw [if_pos rfl], fun l n z => ?_⟩
    rw [hp.getH, hs.H, if_pos rfl]
    simp

theorem makes_box (hs : Sim c E S a) {t : TypeId} {x : Operand} {v : V} {sz : Nat} (ho : o.op = .box t x) (hx : ev S.T x = some v) (hc : v.cellsOf.all V.isCell = true) : Makes c E a o (.ptr S.H.length 0) (S.H ++ [.cells sz v.cellsOf]) := by
  have hrv := rep_ev hs x v hx
  have ht : ∀ vs, v ≠ .tup vs := by rintro vs rfl; simp [V.cellsOf, V.isCell] at hc
  have hp := Env.pushed E (E.w.alloc (.cells (a.eval x).cells t)) (.cells sz v.cellsOf) (c := (a.eval x).cells) (t := t) rfl rfl rfl rfl (by rw [hs.n, hs.H])
  obtain ⟨hl, hg⟩ := repVs_get _ _ (rep_cells hrv ht)
  have hr := hp.rel hs.heap (fun sz' cs e => by
    simp only [Blk.cells.injEq] at e
    obtain ⟨rfl, rfl⟩ := e
    exact ⟨by rw [hl]; simp, fun i v hv => by simpa using hg i v hv⟩) (fun l n sz e => by cases e)
  refine ⟨_, hp.after hs hr, .inl ⟨.pointer (some ⟨E.w.heap.size, 0, none⟩), ?_, ?_⟩⟩
  · simp [execOp, ho, Instr.box, newVar, newRow]; rfl
  · simp only [RepV]
    rw [hp.n, hs.n, hp.phi, hs.H]
    refine ⟨by omega, by rw [if_pos rfl], fun l n z => ?_⟩
    rw [hp.getH, hs.H, if_pos rfl]
    simp


theorem splice_get (cs xs : List V) (off : Nat) (h : off + xs.length ≤ cs.length) (i : Nat) : (splice cs off xs)[i]? = if off ≤ i ∧ i < off + xs.length then xs[i - off]? else cs[i]? := by
  unfold splice
  rcases Nat.lt_or_ge i off with hi | hi
  · rw [if_neg (by omega), List.append_assoc, List.getElem?_append_left (by simp; omega), List.getElem?_take_of_lt hi]
  · rcases Nat.lt_or_ge i (off + xs.length) with hj | hj
    · rw [if_pos ⟨hi, hj⟩, List.append_assoc, List.getElem?_append_right (by simp; omega), List.getElem?_append_left (by simp; omega)]
      congr 1
      simp; omega
    · rw [if_neg (by omega), List.getElem?_append_right (by simp; omega), List.getElem?_drop]
      congr 1
      simp; omega
theorem splice_length (cs xs : List V) (off : Nat) (h : off + xs.length ≤ cs.length) : (splice cs off xs).length = cs.length := by
  unfold splice; simp; omega

theorem unlocked_base {c : Cx} (hl : ∀ l ∈ c.lk, ∀ x ∈ l, x < c.base) {b : Nat} (h : c.mayWrite b = true) : unlocked c.lk b = true := by
  unfold Cx.mayWrite at h
  simp only [Bool.or_eq_true, decide_eq_true_eq] at h
  rcases h with h | h
  · unfold unlocked
    rw [List.all_eq_true]
    intro l hx
    simp only [Bool.not_eq_true', List.contains_eq_mem, decide_eq_false_iff_not]
    intro hm
    have := hl l hx b hm
    omega
  · exact h

theorem arr_splice_get (c : Array Value) (us : List Value) (off : Nat) (h : off + us.length ≤ c.size) (i : Nat) :
    (c.toList.take off ++ us ++ c.toList.drop (off + us.length)).toArray[i]? = if off ≤ i ∧ i < off + us.length then us[i - off]? else c[i]? := by
  rw [List.getElem?_toArray]
  rcases Nat.lt_or_ge i off with hi | hi
  · rw [if_neg (by omega), List.append_assoc, List.getElem?_append_left (by simp; omega), List.getElem?_take_of_lt hi, Array.getElem?_toList]
  · rcases Nat.lt_or_ge i (off + us.length) with hj | hj
    · rw [if_pos ⟨hi, hj⟩, List.append_assoc, List.getElem?_append_right (by simp; omega), List.getElem?_append_left (by simp; omega)]
      congr 1
      simp; omega
    · rw [if_neg (by omega), List.getElem?_append_right (by simp; omega), List.getElem?_drop, Array.getElem?_toList]
      congr 1
      simp; omega

/-- The environment with a row written. -/
def Env.write (E : Env) (b : Nat) (c' : Array Value) (blk : Blk) : Env := { E with w := E.w.setRow (E.φ b) c', H := E.H.set b blk }

theorem After.trans {E' : Env} {H' : Heap} {E'' : Env} {H'' : Heap} (h : After c E E' H') (k : After c E' E'' H'') : After c E E'' H'' where
  H := k.H
  n := k.n
  m := k.m.trans h.m
  evo := h.evo.trans k.evo
  heap := k.heap
  forN := fun hg base nb d hb hn hd hf => k.forN hg base nb d hb (Nat.le_trans hn h.evo.len) (by rw [h.m]; exact hd) (h.forN hg base nb d hb hn hd hf)
  forG := fun hg base d hb hd hf => k.forG hg base d hb (by rw [h.m]; exact hd) (h.forG hg base d hb hd hf)
  kept := fun b hb hl => (k.kept b hb hl).trans (by rw [h.H]; exact h.kept b hb hl)

theorem give_kept_list {lo : Nat} {f : Heap → V → Option (V × Heap)} (hf : ∀ H v v' H', f H v = some (v', H') → ∀ b : Nat, b < lo → H'[b]? = H[b]?) :
    ∀ (vs : List V) (H : Heap) (vs' : List V) (H' : Heap), giveV.giveL f H vs = some (vs', H') → ∀ b : Nat, b < lo → H'[b]? = H[b]?
  | [], H, vs', H', h, b, hb => by
    simp only [giveV.giveL, Option.some.injEq, Prod.mk.injEq] at h
    obtain ⟨_, rfl⟩ := h
    rfl
  | v :: vs, H, vs', H', h, b, hb => by
    simp only [giveV.giveL, Option.bind_eq_some_iff, Option.map_eq_some_iff, Prod.exists, Prod.mk.injEq] at h
    obtain ⟨v1, H1, h1, vs2, H2, h2, _, rfl⟩ := h
    exact (give_kept_list hf vs H1 vs2 H2 h2 b hb).trans (hf H v v1 H1 h1 b hb)
theorem give_kept (lo : Nat) : ∀ (k : Nat) (H : Heap) (v v' : V) (H' : Heap), giveV lo k H v = some (v', H') → ∀ b : Nat, b < lo → H'[b]? = H[b]?
  | 0, H, v, v', H', h => by simp [giveV] at h
  | k + 1, H, v, v', H', h => by
    have same : (v', H') = (v, H) → ∀ b : Nat, b < lo → H'[b]? = H[b]? := by
      intro e
      simp only [Prod.mk.injEq] at e
      obtain ⟨_, rfl⟩ := e
      exact fun _ _ => rfl
    have ih := give_kept_list (lo := lo) fun (H : Heap) (v v' : V) (H' : Heap) (h : giveV lo k H v = some (v', H')) => give_kept lo k H v v' H' h
    have kill : ∀ (x b : Nat), ¬ x < lo → b < lo → (H.set x .dead)[b]? = H[b]? := by
      intro x b h1 h2
      rw [set_get, if_neg (by omega)]
    cases v with
    | int _ _ => simp only [giveV, Option.some.injEq] at h; exact same h.symm
    | bool _ => simp only [giveV, Option.some.injEq] at h; exact same h.symm
    | str _ => simp only [giveV, Option.some.injEq] at h; exact same h.symm
    | nilp => simp only [giveV, Option.some.injEq] at h; exact same h.symm
    | nilfn => simp only [giveV, Option.some.injEq] at h; exact same h.symm
    | ptr _ _ => simp [giveV] at h
    | mref _ => simp [giveV] at h
    | lp _ _ _ => simp [giveV] at h
    | fn _ _ => simp [giveV] at h
    | pre _ _ _ _ => simp [giveV] at h
    | tup _ => simp [giveV] at h
    | lit lv n cs =>
      simp only [giveV] at h
      split at h
      · simp only [Option.some.injEq] at h; exact same h.symm
      · cases h
    | tl n cs =>
      simp only [giveV, Option.map_eq_some_iff, Prod.exists, Prod.mk.injEq] at h
      obtain ⟨cs', H1, h1, _, rfl⟩ := h
      exact ih cs H cs' H1 h1
    | snap x n cs =>
      simp only [giveV] at h
      split at h
      case h_2 => cases h
      split at h
      · cases h
      rename_i hx
      simp only [Option.map_eq_some_iff, Prod.exists, Prod.mk.injEq] at h
      obtain ⟨cs', H1, h1, _, rfl⟩ := h
      exact fun b hb => (ih cs _ cs' H1 h1 b hb).trans (kill x b (fun h => hx (.inl h)) hb)
    | sl x off n =>
      simp only [giveV] at h
      split at h
      case h_2 => cases h
      split at h
      · cases h
      rename_i hx
      simp only [Option.map_eq_some_iff, Prod.exists, Prod.mk.injEq] at h
      obtain ⟨cs', H1, h1, _, rfl⟩ := h
      exact fun b hb => (ih _ _ cs' H1 h1 b hb).trans (kill x b (fun h => hx (.inl h)) hb)
    | agg cs =>
      simp only [giveV, Option.map_eq_some_iff, Prod.exists, Prod.mk.injEq] at h
      obtain ⟨cs', H1, h1, _, rfl⟩ := h
      exact ih cs H cs' H1 h1

theorem give_after (hs : Sim c E S a) {k : Nat} {v v' : V} {H' : Heap} (h : giveV c.base k S.H v = some (v', H')) : After c E (E.heap H') H' ∧ (∀ u, RepV E v u → RepV ((E.heap H').shrink 0 0) v' u) ∧ H'.length = S.H.length := by
  have hg := give_sound c.base k E v v' H' (by rw [hs.H]; exact h) hs.heap
  obtain ⟨e, r, p⟩ := hg
  have hlen := give_length c.base k S.H v v' H' h
  have hrf : ∀ base nb d, nb ≤ E.n → d ≤ E.m → RelF E base nb d → RelF (E.heap H') base nb d := by
    intro base nb d hnb hd hf b sz cs hlt hB c' t hc i x u hv hu
    have hsame := give_cells c.base k S.H v v' H' h b sz cs hB
    rw [← hs.H] at hsame
    exact (e.shrink hs.heap hnb hd).rep x u (hf b sz cs hlt hsame c' t hc i x u hv hu)
  refine ⟨⟨rfl, ?_, rfl, e, r, fun _ base nb d _ hn hd hf => hrf base nb d hn hd hf, fun _ base d _ hd hf => hrf base E.n d (Nat.le_refl _) hd hf, fun b hb _ => by rw [give_kept c.base k S.H v v' H' h b hb, hs.H]⟩, p, hlen⟩
  show E.n = _; rw [hs.n, hlen]

theorem write_wrote {E : Env} {b sz : Nat} {cs : List V} {c0 : Array Value} {t : TypeId} (cs' : List V) (c' : Array Value) (hrow : E.w.heap[E.φ b]? = some (.cells c0 t (0, 0))) (hsz : c'.size = c0.size) (hn : E.n = E.H.length)
    (hfree : unlocked E.lk b = true) (hb : E.H[b]? = some (.cells sz cs)) (hnh : E.φ b ∉ E.hid) : Wrote E (E.write b c' (.cells sz cs')) b c0 c' t (.cells sz cs') where
  w := rfl
  row := hrow
  size := hsz
  phi := rfl
  H := rfl
  lk := rfl
  n := rfl
  m := rfl
  hid := rfl
  nohid := hnh
  n0 := hn
  free := hfree
  kind := .inl ⟨sz, cs, cs', hb, rfl⟩

theorem store_core (hs : Sim c E S a) {E1 : Env} {H1 : Heap} (ha : After c E E1 H1) (hw1 : E1.w = E.w) {t : TypeId} {p x : Operand} {b off sz : Nat} {cs : List V} {x' : V} (ho : o.op = .store t p x)
    (hp : RepV E1 (.ptr b off) (a.eval p)) (hx : RepV E1 x' (a.eval x)) (hf : b < c.base → RepV (E1.shrink (if c.hints.grow c.fn = true then E1.n else 0) 0) x' (a.eval x)) (hfree : unlocked E1.lk b = true) (hb : H1[b]? = some (.cells sz cs))
    (hsz : szOf c.P t = some x'.cellsOf.length) (hfit : off + x'.cellsOf.length ≤ cs.length) (hcell : x'.cellsOf.all V.isCell = true) : Makes c E a o undefV (H1.set b (.cells sz (splice cs off x'.cellsOf))) := by
  have hb' : E1.H[b]? = some (.cells sz cs) := by rw [ha.H]; exact hb
  obtain ⟨c0, ty, q1, q2, q3⟩ := ha.heap.cells b sz cs hb'
  have ht : ∀ vs, x' ≠ .tup vs := by rintro vs rfl; simp [V.cellsOf, V.isCell] at hcell
  have hvs := rep_cells hx ht
  obtain ⟨hl, hg⟩ := repVs_get _ _ hvs
  simp only [RepV] at hp
  obtain ⟨_, hp, _⟩ := hp
  have hone : ∀ v ∈ (a.eval x).cells.toList, v.oneCell' = true := by
    intro v hv
    obtain ⟨i, hi⟩ := List.getElem?_of_mem hv
    have hil : i < x'.cellsOf.length := by
      rw [hl]
      exact (List.getElem?_eq_some_iff.1 hi).1
    obtain ⟨u, h1, h2⟩ := hg i _ (List.getElem?_eq_getElem hil)
    rw [hi] at h1
    simp only [Option.some.injEq] at h1
    subst h1
    rw [List.all_eq_true] at hcell
    exact rep_oneCell h2 (hcell _ (List.getElem_mem hil))
  have hrun := run_storeCells_at c.P (E1.φ b) off ty (a.eval x).cells.toList 0 c0 E.w (by rw [← hw1]; exact q1) (by rw [← hl]; omega) hone
  simp only [Nat.add_zero] at hrun
  have hsize : (a.eval x).cells.size = x'.cellsOf.length := by rw [hl]; simp
  let c' : Array Value := (c0.toList.take off ++ (a.eval x).cells.toList ++ c0.toList.drop (off + (a.eval x).cells.toList.length)).toArray
  have hc'size : c'.size = c0.size := by
    have : off + (a.eval x).cells.toList.length ≤ c0.size := by rw [← hl]; omega
    simp only [c', List.size_toArray, List.length_append, List.length_take, List.length_drop, Array.length_toList] at *
    omega
  have hc'get : ∀ i, c'[i]? = if off ≤ i ∧ i < off + (a.eval x).cells.toList.length then (a.eval x).cells.toList[i - off]? else c0[i]? := fun i => arr_splice_get c0 _ off (by rw [← hl]; omega) i
  have hwr := write_wrote (splice cs off x'.cellsOf) c' q1 hc'size (by rw [ha.n, ha.H]) hfree hb' (fun e => (ha.heap.hid _ e).2 b (by rw [hb']; trivial) rfl)
  have hnew : ∀ (i : Nat) v, (splice cs off x'.cellsOf)[i]? = some v → ∃ u, c'[i]? = some u ∧ RepV E1 v u := by
    intro i v hv
    rw [splice_get cs _ off hfit] at hv
    rw [hc'get, ← hl]
    by_cases hc : off ≤ i ∧ i < off + x'.cellsOf.length
    · rw [if_pos hc] at hv ⊢
      exact hg _ v hv
    · rw [if_neg hc] at hv ⊢
      exact q3 i v hv
  have hr := hwr.rel ha.heap (fun sz' cs' e => by
    simp only [Blk.cells.injEq] at e
    obtain ⟨_, rfl⟩ := e
    exact ⟨by rw [splice_length cs _ off hfit, hc'size]; exact q2, hnew⟩) (fun l n sz e => by cases e)
  have hfor : ∀ base nb d, base ≤ c.base → nb ≤ E1.n → (c.hints.grow c.fn = true → nb = E1.n) → d ≤ E1.m → RelF E1 base nb d → RelF (E1.write b c' (.cells sz (splice cs off x'.cellsOf))) base nb d := by
    intro base nb d hbase hnb hgr hd hf1
    refine hwr.foreign hnb hd hf1 ha.heap (fun sz' cs' e hlt i v u hv hu => ?_)
    simp only [Blk.cells.injEq] at e
    obtain ⟨_, rfl⟩ := e
    rw [splice_get cs _ off hfit] at hv
    rw [hc'get, ← hl] at hu
    by_cases hc : off ≤ i ∧ i < off + x'.cellsOf.length
    · rw [if_pos hc] at hv hu
      obtain ⟨_, hg'⟩ := repVs_get _ _ (rep_cells (hf (Nat.lt_of_lt_of_le hlt hbase)) ht)
      obtain ⟨u', h1, h2⟩ := hg' _ v hv
      rw [hu] at h1
      simp only [Option.some.injEq] at h1
      subst h1
      refine (Keeps.grow (E1.shrink nb d) (n := _) (m := 0) ?_ (Nat.zero_le _)).rep _ _ h2
      show (if c.hints.grow c.fn = true then E1.n else 0) ≤ nb
      split
      · rename_i hgt; rw [hgr hgt]; exact Nat.le_refl _
      · exact Nat.zero_le _
    · rw [if_neg hc] at hv hu
      exact hf1 b sz cs hlt hb' c0 ty q1 i v u hv hu
  refine ⟨E1.write b c' (.cells sz (splice cs off x'.cellsOf)), ⟨?_, ?_, ha.m, ha.evo.trans hwr.evo, hr,
    fun hg base nb d hb0 hn hd hf0 => hfor base nb d hb0 (Nat.le_trans hn ha.evo.len) (fun h => by rw [hg] at h; cases h) (by rw [ha.m]; exact hd) (ha.forN hg base nb d hb0 hn hd hf0),
    fun hg base d hb0 hd hf0 => hfor base _ d hb0 (Nat.le_refl _) (fun _ => rfl) (by rw [ha.m]; exact hd) (ha.forG hg base d hb0 hd hf0),
    fun b' hb0 hl0 => ?_⟩, .inr ⟨?_, ?_⟩⟩
  · show E1.H.set b _ = _; rw [ha.H]
  · show E1.n = _; rw [ha.n]; simp
  · rw [set_get, if_neg, ha.kept b' hb0 hl0]
    rintro ⟨rfl, _⟩
    rw [ha.evo.lk, hs.lk] at hfree
    rw [hfree] at hl0
    cases hl0
  · simp only [execOp, ho, hp, Instr.storeAt, Instr.sureAddr, storeVar, Sem.run_bind, Sem.run_pure, Result.andThen_ok, run_sizeOf' hsz, hsize, ne_eq, not_true_eq_false, if_false, hrun]
    show Result.ok Next.skip (E.w.setRow (E1.φ b) c') = Result.ok Next.skip (E1.w.setRow (E1.φ b) c')
    rw [hw1]
  · simp only [undefV, RepV]
    exact ⟨#[], rfl, by simp only [RepVs]⟩

theorem makes_store (hs : Sim c E S a) {t : TypeId} {p x : Operand} {P X : V} {H' : Heap} (ho : o.op = .store t p x) (hp : ev S.T p = some P) (hx : ev S.T x = some X) (h : storeK c t S.H P X = some H') : Makes c E a o undefV H' := by
  have hrp := rep_ev hs p _ hp
  have hrx := rep_ev hs x _ hx
  cases P with
  | ptr b off =>
    simp only [storeK] at h
    split at h
    case isFalse => cases h
    rename_i hmw
    have hfree := unlocked_base hs.locks hmw
    simp only [Option.bind_eq_some_iff, Prod.exists] at h
    obtain ⟨X1, H1, hX, h⟩ := h
    split at h
    case h_2 => cases h
    rename_i sz cs hb
    split at h
    case isFalse => cases h
    rename_i hcond
    simp only [Option.some.injEq] at h
    subst h
    obtain ⟨k1, k2, k3⟩ := hcond
    by_cases hlt : b < c.base
    · rw [if_pos hlt] at hX
      split at hX
      · rename_i hgrow
        split at hX
        case isFalse => cases hX
        rename_i hcl
        simp only [Option.some.injEq, Prod.mk.injEq] at hX
        obtain ⟨rfl, rfl⟩ := hX
        refine store_core hs (After.refl hs) rfl ho hrp hrx (fun _ => ?_) (by rw [hs.lk]; exact hfree) hb k1 k2 k3
        rw [if_pos hgrow]
        exact cleanG_rep (E := E) (d := 0) X _ hcl hrx
      · rename_i hgrow
        obtain ⟨ha, hr, hlen⟩ := give_after hs hX
        refine store_core hs ha rfl ho (ha.evo.rep hs.heap _ _ hrp) ?_ (fun _ => ?_) (by show unlocked E.lk b = true; rw [hs.lk]; exact hfree) hb k1 k2 k3
        · exact (Keeps.grow (E.heap H1) (Nat.zero_le _) (Nat.zero_le _)).rep _ _ (hr _ hrx)
        · rw [if_neg hgrow]
          exact hr _ hrx
    · rw [if_neg hlt] at hX
      simp only [Option.some.injEq, Prod.mk.injEq] at hX
      obtain ⟨rfl, rfl⟩ := hX
      exact store_core hs (After.refl hs) rfl ho hrp hrx (fun h => absurd h hlt) (by rw [hs.lk]; exact hfree) hb k1 k2 k3
  | _ => simp [storeK] at h


theorem splice_rep {E : Env} {cs xs : List V} {arr : Array Value} {us : List Value} {off : Nat} (hc : RepVs E cs arr.toList) (hx : RepVs E xs us) (hfit : off + xs.length ≤ cs.length) {arr' : Array Value} (hsz : arr'.size = arr.size)
    (hg : ∀ k, arr'[k]? = if off ≤ k ∧ k < off + us.length then us[k - off]? else arr[k]?) : RepVs E (splice cs off xs) arr'.toList := by
  obtain ⟨l1, g1⟩ := repVs_get _ _ hc
  obtain ⟨l2, g2⟩ := repVs_get _ _ hx
  refine repVs_of_get _ _ ?_ fun i v u hi hj => ?_
  · rw [splice_length cs xs off hfit, l1]; simp [hsz]
  · rw [splice_get cs xs off hfit] at hi
    rw [Array.getElem?_toList, hg, ← l2] at hj
    by_cases h : off ≤ i ∧ i < off + xs.length
    · rw [if_pos h] at hi hj
      obtain ⟨u', h1, h2⟩ := g2 _ v hi
      rw [hj] at h1
      simp only [Option.some.injEq] at h1
      subst h1
      exact h2
    · rw [if_neg h] at hi hj
      obtain ⟨u', h1, h2⟩ := g1 _ v hi
      rw [Array.getElem?_toList, hj] at h1
      simp only [Option.some.injEq] at h1
      subst h1
      exact h2

/-- Parts as they are handed to 'fill'. -/
def RepP (E : Env) : List (Nat × V) → List (Nat × Value) → Prop
  | [], us => us = []
  | (i, v) :: ps, us => ∃ u us', us = (i, u) :: us' ∧ RepV E v u ∧ RepP E ps us'
theorem Evo.repP {E E' : Env} (h : Evo E E') (hh : RelH E) : ∀ (ps : List (Nat × V)) (us : List (Nat × Value)), RepP E ps us → RepP E' ps us
  | [], _, r => r
  | (_, v) :: ps, _, r => by
    simp only [RepP] at r ⊢
    obtain ⟨u, us', h1, h2, h3⟩ := r
    exact ⟨u, us', h1, h.rep hh v u h2, h.repP hh ps us' h3⟩
theorem rep_evP (hs : Sim c E S a) : ∀ (xs : List (Nat × Operand)) (ps : List (Nat × V)), evP S.T xs = some ps → RepP E ps (xs.map fun p => (p.1, a.eval p.2))
  | [], ps, h => by simp only [evP, Option.some.injEq] at h; subst h; simp only [RepP, List.map_nil]
  | (i, x) :: xs, ps, h => by
    simp only [evP, Option.bind_eq_some_iff, Option.map_eq_some_iff] at h
    obtain ⟨v, hv, ws, hw, rfl⟩ := h
    simp only [RepP, List.map_cons]
    exact ⟨_, _, rfl, rep_ev hs x v hv, rep_evP hs xs ws hw⟩

theorem fill_parts {E : Env} (place : Nat → Option (Nat × Nat)) : ∀ (ps : List (Nat × V)) (us : List (Nat × Value)) (cs : List V) (arr : Array Value) (cs' : List V),
    partsK place cs ps = some cs' → RepP E ps us → RepVs E cs arr.toList → ∃ arr', Instr.fill place arr us = some arr' ∧ RepVs E cs' arr'.toList
  | [], us, cs, arr, cs', h, hp, hc => by
    simp only [partsK, Option.some.injEq] at h
    subst h
    simp only [RepP] at hp
    subst hp
    exact ⟨arr, rfl, hc⟩
  | (i, v) :: ps, us, cs, arr, cs', h, hp, hc => by
    simp only [RepP] at hp
    obtain ⟨u, us', rfl, hu, hus⟩ := hp
    simp only [partsK] at h
    split at h
    · cases h
    · rename_i off sz hpl
      split at h
      · cases h
      · rename_i hcond
        simp only [not_or, Nat.not_lt, Decidable.not_not, Bool.not_eq_false] at hcond
        obtain ⟨h1, h2, h3⟩ := hcond
        have ht : ∀ vs, v ≠ .tup vs := by rintro vs rfl; simp [V.cellsOf, V.isCell] at h3
        have hvs := rep_cells hu ht
        obtain ⟨l1, _⟩ := repVs_get _ _ hc
        obtain ⟨l2, _⟩ := repVs_get _ _ hvs
        have hsz : u.cells.size = sz := by rw [← h1, l2]; simp
        have harr : arr.size = cs.length := by rw [l1]; simp
        have hfold := Go.Great.foldl_set off u.cells.toList 0 arr
        simp only [Nat.add_zero] at hfold
        obtain ⟨f1, f2⟩ := hfold
        have hstep : Instr.fill place arr ((i, u) :: us') = Instr.fill place ((u.cells.toList.zipIdx 0).foldl (fun cs (x : Value × Nat) => cs.setIfInBounds (off + x.2) x.1) arr) us' := by
          simp only [Instr.fill, hpl]
          rw [if_neg (by simp only [hsz, ne_eq, not_true_eq_false, decide_false, Bool.false_or, decide_eq_true_eq]; omega)]
          rw [← Array.foldl_toList, Array.toList_zipIdx]
        rw [hstep]
        refine fill_parts place ps us' (splice cs off v.cellsOf) _ cs' h hus (splice_rep hc hvs (by omega) f1 fun k => ?_)
        rw [f2 k]
        by_cases hk : off ≤ k ∧ k < off + u.cells.toList.length
        · rw [if_pos hk, if_pos ⟨hk.1, hk.2, by rw [← l2] at hk; omega⟩]
        · rw [if_neg hk, if_neg (fun e => hk ⟨e.1, e.2.1⟩)]

theorem partsK_length (place : Nat → Option (Nat × Nat)) : ∀ (ps : List (Nat × V)) (cs cs' : List V), partsK place cs ps = some cs' → cs'.length = cs.length
  | [], cs, cs', h => by simp only [partsK, Option.some.injEq] at h; rw [h]
  | (i, v) :: ps, cs, cs', h => by
    simp only [partsK] at h
    split at h
    · cases h
    · split at h
      · cases h
      · rename_i hcond
        simp only [not_or, Nat.not_lt, Decidable.not_not, Bool.not_eq_false] at hcond
        rw [partsK_length place ps _ cs' h, splice_length _ _ _ (by omega)]

theorem gives_build (hs : Sim c E S a) {t : TypeId} {parts : Array (Nat × Operand)} {ps : List (Nat × V)} {z cs : List V} {pl : List (Nat × Nat)} (ho : o.op = .build t parts) (hp : evP S.T parts.toList = some ps) (hz : zeroOf c.P t = some z) (hpl : placesK c.P t = some pl)
    (h : partsK (fun i => pl[i]?) z ps = some cs) : Gives c E a o (.agg cs) := by
  obtain ⟨i, x, v, h1, h2, h3, rfl⟩ := zero_of hz
  obtain ⟨arr, k1, k2⟩ := fill_parts _ ps _ _ x.cells cs h (rep_evP hs _ _ hp) (zero_rep E h3)
  unfold placesK at hpl
  split at hpl
  case h_2 => cases hpl
  rename_i fs hu
  have hb : c.P.built t (parts.map fun (i, x) => (i, a.eval x)).toList = some arr := by
    simp only [Program.built, h1, hu, h2, hpl, Array.toList_map]
    simpa using k1
  refine ⟨.agg arr, by simp only [execOp, ho, run_build E.w t _ arr hb, Sem.run_bind, Result.andThen_ok, Sem.run_pure], ?_⟩
  simp only [RepV]
  exact ⟨arr, rfl, k2⟩

theorem flatten_get {α : Type} (l : List α) : ∀ (n i : Nat), i < n * l.length → (List.replicate n l).flatten[i]? = l[i % l.length]?
  | 0, i, h => by omega
  | n + 1, i, h => by
    rw [List.replicate_succ, List.flatten_cons]
    rcases Nat.lt_or_ge i l.length with hi | hi
    · rw [List.getElem?_append_left hi, Nat.mod_eq_of_lt hi]
    · rw [List.getElem?_append_right hi, flatten_get l n (i - l.length) (by rw [Nat.add_mul, Nat.one_mul] at h; omega), Nat.mod_eq_sub_mod hi]
theorem flatten_len {α : Type} (l : List α) (n : Nat) : (List.replicate n l).flatten.length = n * l.length := by
  induction n with
  | zero => simp
  | succ n ih => rw [List.replicate_succ, List.flatten_cons, List.length_append, ih, Nat.add_mul, Nat.one_mul, Nat.add_comm]

theorem made_rep {E : Env} {z : List V} {x : Value} (hz : RepVs E z x.cells.toList) (hpos : z.length ≠ 0) (n : Nat) : RepVs E (List.replicate n z).flatten (madeCells x.cells (n * z.length)).toList := by
  obtain ⟨l, g⟩ := repVs_get _ _ hz
  refine repVs_of_get _ _ (by rw [flatten_len]; simp [size_madeCells]) fun i v u hi hj => ?_
  have hil : i < n * z.length := by
    rcases Nat.lt_or_ge i (n * z.length) with h | h
    · exact h
    · rw [List.getElem?_eq_none (by rw [flatten_len]; exact h)] at hi; cases hi
  rw [flatten_get z n i hil] at hi
  obtain ⟨u', h1, h2⟩ := g _ v hi
  have hx : x.cells.size = z.length := by rw [l]; simp
  have hlt : i % z.length < x.cells.size := by rw [hx]; exact Nat.mod_lt _ (by omega)
  have : (madeCells x.cells (n * z.length))[i]? = some u' := by
    unfold madeCells
    rw [Array.getElem?_map, Array.getElem?_range]
    simp only [hil, if_true, Option.map_some, hx, Option.some.injEq]
    rw [getElem!_pos x.cells (i % z.length) hlt]
    rw [Array.getElem?_toList, Array.getElem?_eq_getElem hlt] at h1
    simpa using h1
  rw [Array.getElem?_toList, this] at hj
  simp only [Option.some.injEq] at hj
  subst hj
  exact h2

theorem nilLit_rep {E : Env} {v : V} {u : Value} (h : RepV E v u) : RepV E (nilLit v) u := by
  unfold nilLit
  split
  · simp only [RepV] at h ⊢
    obtain ⟨A, h1, _⟩ := h
    exact ⟨Nat.zero_le _, A, 0, h1, Nat.le_refl _, .inl trivial⟩
  · exact h
theorem nilIf_rep {E : Env} (kp : Bool) {v : V} {u : Value} (h : RepV E v u) : RepV E (nilIf kp v) u := by
  unfold nilIf
  cases kp
  · exact nilLit_rep h
  · exact h
theorem nilLit_reps {E : Env} {kp : Bool} : ∀ {vs : List V} {us : List Value}, RepVs E vs us → RepVs E (vs.map (nilIf kp)) us
  | [], us, h => h
  | v :: vs, us, h => by
    simp only [RepVs, List.map_cons] at h ⊢
    obtain ⟨u, us', h1, h2, h3⟩ := h
    exact ⟨u, us', h1, nilIf_rep kp h2, nilLit_reps h3⟩
theorem makes_make (hs : Sim c E S a) {t : TypeId} {n m : Operand} {N M v : V} {H' : Heap} (ho : o.op = .makeSlice t n m) (hn : ev S.T n = some N) (hm : ev S.T m = some M) {kp : Bool} (h : makeK c.P kp t S.H N M = some (v, H')) : Makes c E a o v H' := by
  have r1 := rep_ev hs n _ hn
  have r2 := rep_ev hs m _ hm
  unfold makeK at h
  split at h
  case h_2 => cases h
  rename_i k l
  simp only [Option.bind_eq_some_iff] at h
  obtain ⟨e, he, sz, hsz, by_, hby, z, hz, h⟩ := h
  split at h
  case isFalse => cases h
  rename_i hc
  obtain ⟨rfl, h0, hb, hzl, hsz0⟩ := hc
  simp only [Option.some.injEq, Prod.mk.injEq] at h
  obtain ⟨rfl, rfl⟩ := h
  simp only [RepV] at r1 r2
  obtain ⟨i, x, vv, h1, h2, h3, rfl⟩ := zero_of hz
  obtain ⟨i', hi', hsize⟩ := info_of_sz hsz
  rw [h1] at hi'
  simp only [Option.some.injEq] at hi'
  subst hi'
  have hbytes : i.bytes = by_ := by unfold bytesOf at hby; rw [h1] at hby; simpa using hby
  subst hbytes hsize
  have hb2 : k * (i.bytes : Int) + k ≤ 70368744177664 := by rw [Int.mul_add, Int.mul_one] at hb; exact hb
  have hb3 : 0 ≤ k * (i.bytes : Int) := Int.mul_nonneg h0 (by omega)
  have hrun := run_make (P := c.P) E.w t e i x (elemT_some he) h1 h2 .i64 .i64 k k h0 (Int.le_refl _) (by rw [Int.mul_comm]; omega) (by omega)
  have hp := Env.pushed E (E.w.alloc (.cells (madeCells x.cells (k.toNat * i.size)) e)) (.cells i.size (List.replicate k.toNat (vv.cellsOf.map (nilIf kp))).flatten) (c := madeCells x.cells (k.toNat * i.size)) (t := e) rfl rfl rfl rfl (by rw [hs.n, hs.H])
  have hmr := made_rep (E := E) (nilLit_reps (kp := kp) (zero_rep E h3)) (by rw [List.length_map, hzl]; exact hsz0) k.toNat
  rw [List.length_map, hzl] at hmr
  obtain ⟨hl, hg⟩ := repVs_get _ _ hmr
  have hr := hp.rel hs.heap (fun sz' cs e => by
    simp only [Blk.cells.injEq] at e
    obtain ⟨rfl, rfl⟩ := e
    exact ⟨by rw [hl]; simp, fun i v hv => by simpa using hg i v hv⟩) (fun l n sz e => by cases e)
  refine ⟨_, hp.after hs hr, .inl ⟨.slice (some ⟨E.w.heap.size, 0, none⟩) k.toNat k.toNat, ?_, ?_⟩⟩
  · simp only [execOp, ho, r1, r2, hrun, Sem.run_bind, Result.andThen_ok, Sem.run_pure]; rfl
  · simp only [RepV]
    rw [hp.n, hs.n, hp.phi, hs.H]
    refine ⟨by omega, ⟨k.toNat, by rw [if_pos rfl], Nat.le_refl _⟩, fun l n z => ?_⟩
    rw [hp.getH, hs.H, if_pos rfl]
    simp

end

end Go.Proofs.Ytblodpbcinkehaa.K
