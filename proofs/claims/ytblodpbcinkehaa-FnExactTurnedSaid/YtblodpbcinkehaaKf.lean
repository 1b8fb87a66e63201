/-
  Slice literals and append. No conditions.
-/
import Derived.Test.YtblodpbcinkehaaKe
set_option linter.unusedVariables false
set_option linter.unusedSimpArgs false
namespace Go.Proofs.Ytblodpbcinkehaa.K

/-- A new block of the world's that no canonical block stands for. -/
structure Silent (E E' : Env) (c : Array Value) (t : TypeId) : Prop where
  heap : E'.w.heap = E.w.heap.push (.cells c t (0, 0))
  os : E'.w.os = E.w.os
  tape : E'.w.tape = E.w.tape
  output : E'.w.output = E.w.output
  phi : E'.φ = E.φ
  H : E'.H = E.H
  lk : E'.lk = E.lk
  nn : E'.n = E.n
  mm : E'.m = E.m
  hid : ∀ g, g ∈ E'.hid ↔ g ∈ E.hid ∨ (g ∈ E'.hid ∧ g = E.w.heap.size)

theorem Silent.getW {E E' : Env} {c : Array Value} {t : TypeId} (h : Silent E E' c t) (g : Nat) : E'.w.heap[g]? = if g = E.w.heap.size then some (.cells c t (0, 0)) else E.w.heap[g]? := by
  rw [h.heap, Array.getElem?_push]

theorem Silent.evo {E E' : Env} {c : Array Value} {t : TypeId} (h : Silent E E' c t) : Evo E E' where
  lk := h.lk
  os := h.os
  tape := h.tape
  output := h.output
  size := by rw [h.heap]; simp
  len := by rw [h.nn]; exact Nat.le_refl _
  mm := h.mm
  cell := by
    intro g i u hc _
    have hg := cell_lt hc
    simp only [World.cell?, h.getW g] at hc ⊢
    rw [if_neg (by simp at hg; omega)]
    exact hc
  block := by
    intro g hg _
    rw [h.getW g, if_neg (by omega)]
  mono := by
    intro lv g i _ hu
    rcases hu with hu | hu
    · rcases (h.hid g).1 hu with hu | ⟨_, rfl⟩
      · exact .inl (.inl hu)
      · exact .inr (Nat.le_refl _)
    cases lv with
    | some lv =>
      obtain ⟨b, h1, h2, h3⟩ := hu
      rw [h.lk] at h2
      rw [h.H] at h3
      rw [h.phi] at h1
      exact .inl (.inr ⟨b, h1, h2, h3⟩)
    | none =>
      obtain ⟨b, h1, h3⟩ := hu
      rw [h.H] at h3
      rw [h.phi] at h1
      exact .inl (.inr ⟨b, h1, h3⟩)
  phi := fun b _ hn => ⟨by rw [h.phi], by rw [h.H]; exact hn⟩
  cells := fun b _ hn => by rw [h.H]; exact hn
  bld := by
    intro b l n' sz' _ hB
    rw [h.H] at hB
    refine ⟨n', hB, Nat.le_refl _, fun _ => ⟨by rw [h.phi], fun c' t' hc => ⟨c', ?_, rfl⟩⟩⟩
    rw [h.getW]
    split
    · have := Array.getElem?_eq_some_iff.1 hc |>.1
      omega
    · exact hc
  fresh := fun b hl => .inl ⟨by rw [h.phi], by rw [h.H] at hl; exact hl⟩
  hid := fun g hg => (h.hid g).2 (.inl hg)
  hidF := fun g hg => (h.hid g).1 hg |>.imp id fun e => by rw [e.2]; exact Nat.le_refl _
  hidW := fun g _ hl => by rw [h.getW g, if_neg (by omega)]

theorem Silent.rel {E E' : Env} {c : Array Value} {t : TypeId} (h : Silent E E' c t) (hh : RelH E) : RelH E' where
  cells := by
    intro b sz cs hB
    rw [h.H] at hB
    obtain ⟨c', t', h1, h2, h3⟩ := hh.cells b sz cs hB
    rw [h.phi, h.getW, if_neg (by have := Array.getElem?_eq_some_iff.1 h1 |>.1; omega)]
    exact ⟨c', t', h1, h2, fun i v hv => let ⟨u, h4, h5⟩ := h3 i v hv; ⟨u, h4, h.evo.rep hh v u h5⟩⟩
  dm := by rw [h.mm, h.lk]; exact hh.dm
  lvl := by
    intro b l n sz hB
    rw [h.H] at hB
    rw [h.lk]
    exact hh.lvl b l n sz hB
  bld := by
    intro b l n sz hB
    rw [h.H] at hB
    obtain ⟨c', t', h1, h2⟩ := hh.bld b l n sz hB
    rw [h.phi, h.getW, if_neg (by have := Array.getElem?_eq_some_iff.1 h1 |>.1; omega)]
    exact ⟨c', t', h1, h2⟩
  maps := by
    intro b kvs hB
    rw [h.H] at hB
    obtain ⟨h1, h2⟩ := hh.maps b kvs hB
    rw [h.phi, h.getW, if_neg (by have := Array.getElem?_eq_some_iff.1 h1 |>.1; omega)]
    exact ⟨h1, h2⟩
  inj := by
    intro b b' h1 h2 he
    rw [h.H] at h1 h2
    rw [h.phi] at he
    exact hh.inj b b' h1 h2 he
  hid := fun g hg => by
    rw [h.heap, Array.size_push, h.phi, h.H]
    rcases (h.hid g).1 hg with hg | ⟨_, rfl⟩
    · have := (hh.hid g hg).1
      exact ⟨by omega, (hh.hid g hg).2⟩
    · exact ⟨by omega, fun b hl e => by have := live_lt hh hl; omega⟩

theorem Silent.foreign {E E' : Env} {c : Array Value} {t : TypeId} (h : Silent E E' c t) {base nb d : Nat} (hnb : nb ≤ E.n) (hd : d ≤ E.m) (hf : RelF E base nb d) (hh : RelH E) : RelF E' base nb d := by
  intro b sz cs hlt hB c' t' hc i v u hv hu
  rw [h.H] at hB
  rw [h.phi, h.getW] at hc
  split at hc
  · have := live_lt hh (b := b) (by rw [hB]; trivial)
    omega
  · exact (h.evo.shrink hh hnb hd).rep v u (hf b sz cs hlt hB c' t' hc i v u hv hu)

theorem Silent.not_U {E E' : Env} {c : Array Value} {t : TypeId} (h : Silent E E' c t) (hh : RelH E) (hn : E.w.heap.size ∉ E'.hid) (lv : Option Nat) (i : Nat) : ¬ E'.U lv E.w.heap.size i := by
  intro hu
  rcases U_live hu with hu | ⟨b, h1, hl⟩
  · exact hn hu
  rw [h.phi] at h1
  rw [h.H] at hl
  have := live_lt hh hl
  omega

section
variable {c : Cx} {E : Env} {S : St} {a : Act} {o : Oper}

theorem after_base (hs : Sim c E S a) {E1 : Env} {H1 : Heap} (h : After c E E1 H1) : c.base ≤ E1.n := by
  have h1 := hs.base
  have h2 := h.evo.len
  rw [hs.n] at h2
  omega

theorem Silent.after (hs : Sim c E S a) {E1 E' : Env} {H1 : Heap} {cs : Array Value} {t : TypeId} (h0 : After c E E1 H1) (h : Silent E1 E' cs t) : After c E E' H1 where
  H := by rw [h.H, h0.H]
  n := by rw [h.nn, h0.n]
  m := h.mm.trans h0.m
  evo := h0.evo.trans h.evo
  heap := h.rel h0.heap
  forN := fun hg base nb d hb hn hd hf => h.foreign (Nat.le_trans hn h0.evo.len) (by rw [h0.m]; exact hd) (h0.forN hg base nb d hb hn hd hf) h0.heap
  forG := fun hg base d hb hd hf => (h.foreign (Nat.le_refl _) (by rw [h0.m]; exact hd) (h0.forG hg base d hb hd hf) h0.heap).up h.evo.len
  kept := h0.kept

/-- After giving up, seen from any world of the same run. -/
theorem give_after' (hs : Sim c E S a) {E1 : Env} {H1 : Heap} (h0 : After c E E1 H1) {k : Nat} {v v' : V} {H' : Heap} (h : giveV c.base k H1 v = some (v', H')) :
    After c E (E1.heap H') H' ∧ Evo E1 (E1.heap H') ∧ (∀ u, RepV E1 v u → RepV ((E1.heap H').shrink 0 0) v' u) ∧ H'.length = H1.length := by
  have hg := give_sound c.base k E1 v v' H' (by rw [h0.H]; exact h) h0.heap
  obtain ⟨e, r, p⟩ := hg
  have hlen := give_length c.base k H1 v v' H' h
  have hrf : ∀ base nb d, nb ≤ E1.n → d ≤ E1.m → RelF E1 base nb d → RelF (E1.heap H') base nb d := by
    intro base nb d hnb hd hf b sz cs hlt hB c' t hc i x u hv hu
    have hsame := give_cells c.base k H1 v v' H' h b sz cs hB
    rw [← h0.H] at hsame
    exact (e.shrink h0.heap hnb hd).rep x u (hf b sz cs hlt hsame c' t hc i x u hv hu)
  refine ⟨⟨rfl, ?_, h0.m, h0.evo.trans e, r, fun hg base nb d hb hn hd hf => hrf base nb d (Nat.le_trans hn h0.evo.len) (by rw [h0.m]; exact hd) (h0.forN hg base nb d hb hn hd hf), fun hg base d hb hd hf => hrf base E1.n d (Nat.le_refl _) (by rw [h0.m]; exact hd) (h0.forG hg base d hb hd hf), fun b hb hl => (give_kept c.base k H1 v v' H' h b hb).trans (h0.kept b hb hl)⟩, e, p, hlen⟩
  show E1.n = _; rw [h0.n, hlen]

theorem embedL_after (hs : Sim c E S a) : ∀ (ps : List (Nat × V)) (E1 : Env) (H1 : Heap) (ps' : List (Nat × V)) (H' : Heap), After c E E1 H1 → E1.w = E.w → embedL c H1 ps = some (ps', H') →
    ∃ E', After c E E' H' ∧ E'.w = E.w ∧ Evo E1 E' ∧ ∀ us, RepP E1 ps us → RepP E' ps' us
  | [], E1, H1, ps', H', h0, hw, h => by
    simp only [embedL, Option.some.injEq, Prod.mk.injEq] at h
    obtain ⟨rfl, rfl⟩ := h
    exact ⟨E1, h0, hw, Evo.refl _, fun us r => r⟩
  | (i, v) :: ps, E1, H1, ps', H', h0, hw, h => by
    simp only [embedL, Option.bind_eq_some_iff, Option.map_eq_some_iff, Prod.exists, Prod.mk.injEq] at h
    obtain ⟨v1, H2, hv, ps2, H3, h2, rfl, rfl⟩ := h
    have stay : (v1, H2) = (v, H1) → ∃ E', After c E E' H3 ∧ E'.w = E.w ∧ Evo E1 E' ∧ ∀ us, RepP E1 ((i, v) :: ps) us → RepP E' ((i, v1) :: ps2) us := by
      intro e
      simp only [Prod.mk.injEq] at e
      obtain ⟨rfl, rfl⟩ := e
      obtain ⟨E', k1, k2, k3, k4⟩ := embedL_after hs ps E1 H2 ps2 H3 h0 hw h2
      refine ⟨E', k1, k2, k3, fun us r => ?_⟩
      simp only [RepP] at r ⊢
      obtain ⟨u, us', r1, r2, r3⟩ := r
      exact ⟨u, us', r1, k3.rep h0.heap v1 u r2, k4 us' r3⟩
    unfold embed at hv
    split at hv
    · simp only [Option.some.injEq] at hv
      exact stay hv.symm
    split at hv
    · split at hv
      · simp only [Option.some.injEq] at hv
        exact stay hv.symm
      · cases hv
    · obtain ⟨g1, g2, g3, g4⟩ := give_after' hs h0 hv
      obtain ⟨E', k1, k2, k3, k4⟩ := embedL_after hs ps (E1.heap H2) H2 ps2 H3 g1 hw h2
      refine ⟨E', k1, k2, g2.trans k3, fun us r => ?_⟩
      simp only [RepP] at r ⊢
      obtain ⟨u, us', r1, r2, r3⟩ := r
      refine ⟨u, us', r1, k3.rep g1.heap _ _ ?_, k4 us' (g2.repP h0.heap _ _ r3)⟩
      exact (Keeps.grow (E1.heap H2) (Nat.zero_le _) (Nat.zero_le _)).rep _ _ (g3 u r2)

def Env.silent (E : Env) (w : World) : Env := { E with w := w }
theorem Env.silent_ok (E : Env) (w : World) {c : Array Value} {t : TypeId} (h1 : w.heap = E.w.heap.push (.cells c t (0, 0))) (h2 : w.os = E.w.os) (h3 : w.tape = E.w.tape) (h4 : w.output = E.w.output) : Silent E (E.silent w) c t where
  heap := h1
  os := h2
  tape := h3
  output := h4
  phi := rfl
  H := rfl
  lk := rfl
  nn := rfl
  mm := rfl
  hid := fun g => ⟨.inl, fun h => h.elim id (·.1)⟩

theorem repL_new {E' : Env} {lv : Option Nat} {g : Nat} {arr : Array Value} {t : TypeId} {cs : List V} (hw : E'.w.heap[g]? = some (.cells arr t (0, 0))) (hr : RepVs E' cs (arr.toList.take cs.length)) (hu : ∀ i, i < cs.length → ¬ E'.U lv g i) : RepL E' lv g 0 cs := by
  refine repL_of_get _ _ fun i v hi => ?_
  obtain ⟨_, hg⟩ := repVs_get _ _ hr
  obtain ⟨u, h1, h2⟩ := hg i v hi
  have hil : i < cs.length := by
    rcases Nat.lt_or_ge i cs.length with h | h
    · exact h
    · rw [List.getElem?_eq_none h] at hi; cases hi
  refine ⟨u, ?_, h2, by rw [Nat.zero_add]; exact hu i hil⟩
  rw [cell_of_row _ _ _ _ _ _ hw, Nat.zero_add]
  rw [List.getElem?_take_of_lt hil, Array.getElem?_toList] at h1
  exact h1

theorem makes_buildSlice (hs : Sim c E S a) {t e : TypeId} {n sz : Nat} {parts : Array (Nat × Operand)} {ps ps' : List (Nat × V)} {H' : Heap} {z cs : List V} (ho : o.op = .buildSlice t n parts) (hp : evP S.T parts.toList = some ps) (hem : embedL c S.H ps = some (ps', H'))
    (he : elemT c.P t = some e) (hsz : szOf c.P e = some sz) (hz : zeroOf c.P e = some z) (hzl : z.length = sz) (hsz0 : sz ≠ 0) (hsm : n * sz ≤ 1048576) (h : partsK (fun i => some (i * sz, sz)) (List.replicate n z).flatten ps' = some cs) :
    Makes c E a o (.tl n cs) H' := by
  obtain ⟨E1, k1, k2, k3, k4⟩ := embedL_after hs ps E S.H ps' H' (After.refl hs) rfl hem
  have hparts := k4 _ (rep_evP hs _ _ hp)
  obtain ⟨i, x, vv, h1, h2, h3, rfl⟩ := zero_of hz
  obtain ⟨i', hi', hsize⟩ := info_of_sz hsz
  rw [h1] at hi'
  simp only [Option.some.injEq] at hi'
  subst hi'
  subst hsize
  have hmr := made_rep (E := E1) (zero_rep E1 h3) (by rw [hzl]; exact hsz0) n
  rw [hzl] at hmr
  obtain ⟨arr, f1, f2⟩ := fill_parts _ ps' _ _ _ cs h hparts hmr
  have hplen : cs.length = n * i.size := by
    have := partsK_length _ ps' _ cs h
    rw [this, flatten_len, hzl]
  obtain ⟨hl, _⟩ := repVs_get _ _ f2
  have hrun : (Instr.buildSlice t n (parts.map fun (i, x) => (i, a.eval x))).run c.P E.w = .ok (.slice (some ⟨E.w.heap.size, 0, none⟩) n n) (E.w.alloc (.cells arr e)) := by
    by_cases hn : n = 0
    · subst hn
      have : arr = #[] := by
        have h0 : arr.size = 0 := by rw [← Array.length_toList, ← hl, hplen, Nat.zero_mul]
        exact Array.eq_empty_of_size_eq_zero h0
      subst this
      have hfz : Instr.fill (fun i_1 => some (i_1 * i.size, i.size)) #[] (parts.map fun (i, x) => (i, a.eval x)).toList = some #[] := by
        have : madeCells x.cells (0 * i.size) = #[] := by simp [madeCells, Array.range_zero']
        rw [this] at f1
        rw [← f1]
        congr 1
        simp
      have hfz' : Instr.fill (fun i_1 => some (i_1 * i.size, i.size)) #[] (parts.toList.map fun x => (x.fst, a.eval x.snd)) = some #[] := by simpa using hfz
      simp [Instr.buildSlice, run_underlying (elemT_some he), sizeOf, typeInfo, h1, newRow, Array.range_zero', hfz']
    · refine run_buildSlice E.w t e n _ arr i x (elemT_some he) h1 h2 (by omega) (by intro e0; rcases Nat.mul_eq_zero.1 e0 with h | h <;> omega) ?_
      have : (parts.map fun (i, x) => (i, a.eval x)).toList = parts.toList.map fun p => (p.1, a.eval p.2) := by simp
      rw [this]
      exact f1
  have hsil := Env.silent_ok E1 (E.w.alloc (.cells arr e)) (c := arr) (t := e) (by rw [k2]; rfl) (by rw [k2]; rfl) (by rw [k2]; rfl) (by rw [k2]; rfl)
  refine ⟨_, Silent.after hs k1 hsil, .inl ⟨.slice (some ⟨E.w.heap.size, 0, none⟩) n n, ?_, ?_⟩⟩
  · simp only [execOp, ho, Sem.run_bind, hrun, Result.andThen_ok, Sem.run_pure]; rfl
  · simp only [RepV]
    refine ⟨_, rfl, .inr ⟨_, _, rfl, repL_new (arr := arr) (t := e) ?_ ?_ fun i _ => ?_⟩⟩
    · rw [hsil.getW, ← k2, if_pos rfl]
    · rw [List.take_of_length_le (by rw [hl]; exact Nat.le_refl _)]
      exact hsil.evo.repVs k1.heap _ _ f2
    · rw [← k2]; exact hsil.not_U k1.heap (fun e => absurd (k1.heap.hid _ e).1 (Nat.lt_irrefl _)) (some 0) i


/-- What a list holds, in memory. -/
theorem contents_run (hh : RelH E) {sz n : Nat} {x : V} {u : Value} {xs : List V} (hr : RepV E x u) (hn : lenK x = some n) (hx : contents E.H sz x = some xs) (hl : xs.length = n * sz) :
    ∃ A cap, u = .slice A n cap ∧ ∃ us : List Value, RepVs E xs us ∧ us.length = n * sz ∧ (n = 0 ∨ ∃ ad : Addr, A = some ad ∧ ∀ (j : Nat) v, us[j]? = some v → E.w.cell? (ad.add j) = some v) := by
  have row : ∀ {lv : Option Nat} {cs : List V} {A : Option Addr} {cap : Nat}, u = .slice A n cap → xs = cs → (n = 0 ∨ ∃ g o, A = some ⟨g, o, none⟩ ∧ RepL E lv g o cs) →
      ∃ A cap, u = .slice A n cap ∧ ∃ us : List Value, RepVs E xs us ∧ us.length = n * sz ∧ (n = 0 ∨ ∃ ad : Addr, A = some ad ∧ ∀ (j : Nat) v, us[j]? = some v → E.w.cell? (ad.add j) = some v) := by
    intro lv cs A cap hu hxs hA
    subst hxs
    rcases hA with h0 | ⟨g, o, rfl, hrl⟩
    · subst h0
      have : xs = [] := List.eq_nil_of_length_eq_zero (by simpa using hl)
      subst this
      exact ⟨A, cap, hu, [], by simp only [RepVs], by simp, .inl rfl⟩
    · refine ⟨_, cap, hu, (List.range xs.length).map fun i => (E.w.cell? ⟨g, o + i, none⟩).getD undef, repVs_cells fun i v hi => let ⟨u, a1, a2, _⟩ := repL_get _ _ hrl i v hi; ⟨u, a1, a2⟩, by simp [hl], .inr ⟨_, rfl, fun j v hj => ?_⟩⟩
      have hjl : j < xs.length := by
        rcases Nat.lt_or_ge j xs.length with h | h
        · exact h
        · rw [List.getElem?_eq_none (by simp only [List.length_map, List.length_range]; exact h)] at hj; cases hj
      simp only [List.getElem?_map, List.getElem?_range hjl, Option.map_some, Option.some.injEq] at hj
      obtain ⟨u', a1, _, _⟩ := repL_get _ _ hrl j _ (List.getElem?_eq_getElem hjl)
      rw [a1] at hj
      simp only [Option.getD_some] at hj
      subst hj
      rw [Addr.add_lit]
      exact a1
  unfold contents at hx
  unfold lenK at hn
  cases x with
  | lit lv len cs =>
    simp only [Option.some.injEq] at hx hn
    subst hx hn
    simp only [RepV] at hr
    obtain ⟨_, A, cap, hu, _, hA⟩ := hr
    exact row hu rfl hA
  | tl len cs =>
    simp only [Option.some.injEq] at hx hn
    subst hx hn
    simp only [RepV] at hr
    obtain ⟨A, hu, hA⟩ := hr
    exact row hu rfl hA
  | snap b len cs =>
    simp only [Option.some.injEq] at hx hn
    subst hx hn
    simp only [RepV] at hr
    obtain ⟨_, ⟨A, cap, hu, _, ⟨g, o, hA, _, hA2⟩, _⟩, _⟩ := hr
    exact row hu rfl (.inr ⟨g, o, hA, hA2⟩)
  | pre b m0 len cs =>
    simp only [Option.some.injEq] at hx hn
    subst hx hn
    simp only [RepV] at hr
    obtain ⟨_, ⟨A, cap, hu, _, ⟨g, o, hA, _, hA2⟩, _⟩, _⟩ := hr
    exact row hu rfl (.inr ⟨g, o, hA, hA2⟩)
  | sl b off len =>
    simp only [Option.some.injEq] at hn
    subst hn
    dsimp only at hx
    split at hx
    case h_2 => cases hx
    rename_i z cs hb
    split at hx
    case isFalse => cases hx
    rename_i hc
    simp only [Option.some.injEq] at hx
    simp only [RepV] at hr
    obtain ⟨_, ⟨cap, hu, _⟩, _⟩ := hr
    obtain ⟨c0, t, q1, q2, q3⟩ := hh.cells b z cs hb
    have hex : ∀ (i : Nat) v, xs[i]? = some v → ∃ u, E.w.cell? ⟨E.φ b, off + i, none⟩ = some u ∧ RepV E v u := by
      intro i v hi
      rw [← hx, List.getElem?_take] at hi
      split at hi
      · rw [List.getElem?_drop] at hi
        obtain ⟨u, k1, k2⟩ := q3 _ v hi
        exact ⟨u, by rw [cell_of_row _ _ _ _ _ _ q1]; exact k1, k2⟩
      · cases hi
    refine ⟨_, cap, hu, (List.range xs.length).map fun i => (E.w.cell? ⟨E.φ b, off + i, none⟩).getD undef, repVs_cells hex, by simp [hl], .inr ⟨_, rfl, fun j v hj => ?_⟩⟩
    have hjl : j < xs.length := by
      rcases Nat.lt_or_ge j xs.length with h | h
      · exact h
      · rw [List.getElem?_eq_none (by simp only [List.length_map, List.length_range]; exact h)] at hj; cases hj
    simp only [List.getElem?_map, List.getElem?_range hjl, Option.map_some, Option.some.injEq] at hj
    obtain ⟨u', a1, _⟩ := hex j _ (List.getElem?_eq_getElem hjl)
    rw [a1] at hj
    simp only [Option.getD_some] at hj
    subst hj
    rw [Addr.add_lit]
    exact a1
  | _ => simp at hn


theorem run_append_room' {P : Program} (w : World) (t ty e ty2 t0 : TypeId) (i : TypeInfo) (ht : P.underlying t = some (.slice e)) {e2 : TypeId} (ht2 : P.underlying ty2 = some (.slice e2)) (hi : P.info? e = some i)
    (g sLen sCap : Nat) (cur : Array Value) (hg : w.heap[g]? = some (.cells cur t0 (0, 0)))
    (a : Addr) (m c : Nat) (news : List Value) (hl : news.length = m * i.size) (hnews : ∀ (j : Nat) u, news[j]? = some u → w.cell? (a.add j) = some u) (h1 : ∀ u ∈ news, u.oneCell' = true)
    (hroom : sLen + m ≤ sCap) (hfit : sLen * i.size + news.length ≤ cur.size) :
    (Builtin.append_ #[t, ty2] ty #[.slice (some ⟨g, 0, none⟩) sLen sCap, .slice (some a) m c]).run P w =
      .ok (.slice (some ⟨g, 0, none⟩) (sLen + m) sCap) (w.setRow g (cur.toList.take (sLen * i.size) ++ news ++ cur.toList.drop (sLen * i.size + news.length)).toArray) := by
  have hf := run_firstCells_some (P := P) w i.size m a m c news hl hnews
  have hst := run_storeCells_at P g (sLen * i.size) t0 news 0 cur w hg (by simpa using hfit) h1
  simp only [Nat.add_zero] at hst
  simp [Builtin.append_, run_underlying ht, run_underlying ht2, sizeOf, typeInfo, hi, Builtin.lenOf, hroom, hf, Addr.add_lit, hst]

theorem run_append_none' {P : Program} (w : World) (t ty e ty2 : TypeId) (i : TypeInfo) (ht : P.underlying t = some (.slice e)) {e2 : TypeId} (ht2 : P.underlying ty2 = some (.slice e2)) (hi : P.info? e = some i)
    (base x : Option Addr) (sLen sCap c : Nat) (hroom : sLen ≤ sCap) :
    (Builtin.append_ #[t, ty2] ty #[.slice base sLen sCap, .slice x 0 c]).run P w = .ok (.slice base sLen sCap) w := by
  cases base <;> cases x <;> simp [Builtin.append_, run_underlying ht, run_underlying ht2, sizeOf, typeInfo, hi, Builtin.lenOf, hroom, Builtin.firstCells, loadCells, loadCellsFrom, storeCells]

theorem run_append_grow' {P : Program} (w : World) (t ty e ty2 : TypeId) (i : TypeInfo) (z : Value) (ht : P.underlying t = some (.slice e)) {e2 : TypeId} (ht2 : P.underlying ty2 = some (.slice e2)) (hi : P.info? e = some i) (hz : i.zero = some z)
    (b : Option Addr) (sLen sCap : Nat) (olds : List Value) (hlo : olds.length = sLen * i.size) (holds : sLen = 0 ∨ ∃ ad : Addr, b = some ad ∧ ∀ (j : Nat) v, olds[j]? = some v → w.cell? (ad.add j) = some v)
    (a : Addr) (n c : Nat) (news : List Value) (hl : news.length = n * i.size) (hnews : ∀ (j : Nat) v, news[j]? = some v → w.cell? (a.add j) = some v)
    (hg : sCap < sLen + n) (h63 : ((sLen + n : Nat) : Int) ≤ 9223372036854775807) (hfit : Builtin.nextslicecap (sLen + n) sCap * i.bytes ≤ 281474976710656) :
    (Builtin.append_ #[t, ty2] ty #[.slice b sLen sCap, .slice (some a) n c]).run P w =
      .ok (.slice (some ⟨w.heap.size, 0, none⟩) (sLen + n) (grownCap w (sLen + n) sCap e))
        (w.drew.alloc (.cells (olds.toArray ++ news.toArray ++ Builtin.zeroCells z.cells (grownCap w (sLen + n) sCap e - (sLen + n))) e)) := by
  have hn : ¬ (sLen + n ≤ sCap) := by omega
  have h63' : ¬ (9223372036854775807 < ((sLen : Int) + (n : Int))) := by omega
  have h48' : ¬ (281474976710656 < Builtin.nextslicecap (sLen + n) sCap * i.bytes) := by omega
  have hf := run_firstCells_some (P := P) w.drew i.size n a n c news hl (by simpa using hnews)
  have hfo : (Builtin.firstCells i.size sLen (.slice b sLen sCap)).run P w.drew = .ok olds.toArray w.drew := by
    rcases holds with h0 | ⟨ad, rfl, hh⟩
    · subst h0
      have : olds = [] := List.eq_nil_of_length_eq_zero (by simpa using hlo)
      subst this
      cases b <;> simp [Builtin.firstCells, loadCells, loadCellsFrom]
    · exact run_firstCells_some (P := P) w.drew i.size sLen ad sLen sCap olds hlo (by simpa using hh)
  simp [Builtin.append_, run_underlying ht, run_underlying ht2, sizeOf, typeInfo, zeroValue, hi, hz, Builtin.lenOf, hn, h63', h48', Question.forced, hf, hfo, newRow, grownCap]
  congr 2
  apply Array.ext'
  simp


theorem repVs_append {E : Env} : ∀ {xs ys : List V} {us vs : List Value}, RepVs E xs us → RepVs E ys vs → RepVs E (xs ++ ys) (us ++ vs)
  | [], ys, us, vs, h, k => by simp only [RepVs] at h; subst h; simpa using k
  | x :: xs, ys, us, vs, h, k => by
    simp only [RepVs, List.cons_append] at h ⊢
    obtain ⟨u, us', rfl, h1, h2⟩ := h
    exact ⟨u, us' ++ vs, rfl, h1, repVs_append h2 k⟩
theorem repVs_take {E : Env} {xs : List V} {us vs : List Value} (h : RepVs E xs us) (hv : vs.take xs.length = us) : RepVs E xs (vs.take xs.length) := by rw [hv]; exact h

theorem rep_one {E : Env} {xs : List V} {us : List Value} (h : RepVs E xs us) (hc : xs.all V.isCell = true) : ∀ u ∈ us, u.oneCell' = true := by
  intro u hu
  obtain ⟨i, hi⟩ := List.getElem?_of_mem hu
  obtain ⟨hl, hg⟩ := repVs_get _ _ h
  have hil : i < xs.length := by rw [hl]; exact (List.getElem?_eq_some_iff.1 hi).1
  obtain ⟨u', h1, h2⟩ := hg i _ (List.getElem?_eq_getElem hil)
  rw [hi] at h1
  simp only [Option.some.injEq] at h1
  subst h1
  rw [List.all_eq_true] at hc
  exact rep_oneCell h2 (hc _ (List.getElem_mem hil))

theorem away_all {E' : Env} {H' : Heap} (h : After c E E' H') {g : Nat} : E'.away g := by
  intro b hb hl
  rw [h.H, List.getElem?_eq_none (by rw [← h.n]; exact hb)] at hl
  exact hl.elim
theorem away_of {E' : Env} {H' : Heap} (h : E'.H = H') (hn : E'.n = H'.length) {g : Nat} : E'.away g := by
  intro b hb hl
  rw [h, List.getElem?_eq_none (by rw [← hn]; exact hb)] at hl
  exact hl.elim
theorem makes_append (hs : Sim c E S a) {st xt : TypeId} {args : Array Operand} {ats : Array TypeId} {s x : Operand} {sv xv v : V} {H' : Heap} (ho : o.op = .call { callee := .builtin .append, args := args, argTypes := ats }) (hargs : args.toList = [s, x]) (hats : ats.toList = [st, xt])
    (hsv : ev S.T s = some sv) (hxv : ev S.T x = some xv) (h : appendK c st xt S.H sv xv = some (v, H')) : Makes c E a o v H' := by
  have hrs := rep_ev hs s _ hsv
  have hrx := rep_ev hs x _ hxv
  have ha1 : args = #[s, x] := by apply Array.ext'; simpa using hargs
  have ha2 : ats = #[st, xt] := by apply Array.ext'; simpa using hats
  subst ha1 ha2
  unfold appendK at h
  simp only [Option.bind_eq_some_iff] at h
  obtain ⟨e, he, sz, hsz, by_, hby, z, hz, h⟩ := h
  split at h
  case isFalse => cases h
  rename_i hc
  obtain ⟨hxt, hsz0, hzl⟩ := hc
  obtain ⟨e2, he2⟩ := Option.isSome_iff_exists.1 hxt
  simp only [Option.bind_eq_some_iff] at h
  obtain ⟨n, hn, xs, hxs, h⟩ := h
  split at h
  case isFalse => cases h
  rename_i hc
  obtain ⟨hxl, hxc⟩ := hc
  obtain ⟨i, zx, zv, h1, h2, h3, rfl⟩ := zero_of hz
  obtain ⟨i', hi', hsize⟩ := info_of_sz hsz
  rw [h1] at hi'
  simp only [Option.some.injEq] at hi'
  subst hi'
  have hbytes : i.bytes = by_ := by unfold bytesOf at hby; rw [h1] at hby; simpa using hby
  subst hbytes hsize
  have hzcell : zx.cells.size = i.size := by
    have := (repVs_get _ _ (zero_rep E h3)).1
    rw [hzl] at this
    rw [this]; simp
  rw [← hs.H] at hxs
  obtain ⟨B, capx, hx, us, hus, hul, hB⟩ := contents_run hs.heap hrx hn hxs hxl
  have hone := rep_one hus hxc
  have hexec : ∀ {r w'} (_ : (Builtin.append_ #[st, xt] o.type #[a.eval s, a.eval x]).run c.P E.w = .ok r w'), (execOp a.eval o).run c.P E.w = .ok (.value r) w' := by
    intro r w' hr
    simp only [execOp, ho, resolve, Sem.run_bind, Sem.run_pure, Result.andThen_ok, invoke, builtin, List.map_toArray, List.map_cons, List.map_nil, hr]
  have hnone : n = 0 → ∀ {A : Option Addr} {m cap : Nat}, a.eval s = .slice A m cap → m ≤ cap → (execOp a.eval o).run c.P E.w = .ok (.value (a.eval s)) E.w := by
    intro h0 A m cap hA hmc
    subst h0
    refine hexec ?_
    rw [hA, hx]
    exact run_append_none' E.w st o.type e xt i (elemT_some he) (elemT_some he2) h1 A B m cap capx hmc
  cases sv with
  | tl m cs =>
    dsimp only at h
    have hrs' := hrs
    simp only [RepV] at hrs'
    obtain ⟨A, hA, hAr⟩ := hrs'
    split at h
    · rename_i h0
      simp only [Option.some.injEq, Prod.mk.injEq] at h
      obtain ⟨rfl, rfl⟩ := h
      exact ⟨E, After.refl hs, .inl ⟨_, hnone h0 hA (Nat.le_refl _), hrs⟩⟩
    · rename_i h0
      split at h
      case isFalse => cases h
      rename_i hc
      obtain ⟨hcl, hbd⟩ := hc
      simp only [Option.some.injEq, Prod.mk.injEq] at h
      obtain ⟨rfl, rfl⟩ := h
      have hb2 : (m + n) * i.bytes + (m + n) ≤ 70368744177664 := by rw [Nat.mul_add, Nat.mul_one] at hbd; exact hbd
      obtain ⟨A2, cap2, hA2, olds, holds, hol, hoc⟩ := contents_run (n := m) hs.heap hrs rfl (sz := i.size) (xs := cs) (by simp [contents]) hcl
      rw [hA] at hA2
      simp only [Value.slice.injEq] at hA2
      obtain ⟨rfl, _, rfl⟩ := hA2
      rcases hB with hB | ⟨ad, rfl, hB⟩
      · exact absurd hB h0
      have hrun := run_append_grow' (P := c.P) E.w st o.type e xt i zx (elemT_some he) (elemT_some he2) h1 h2 A m m olds hol hoc ad n capx us hul hB (by omega) (by omega) (growslice_fits (by omega) (by omega))
      have hp := Env.pushed E (E.w.drew.alloc (.cells (olds.toArray ++ us.toArray ++ Builtin.zeroCells zx.cells (grownCap E.w (m + n) m e - (m + n))) e)) (.bld c.d (m + n) i.size) (c := _) (t := e) rfl rfl rfl rfl (by rw [hs.n, hs.H])
      have hge := grownCap_ge E.w (m + n) m e
      have hcsz : (olds.toArray ++ us.toArray ++ Builtin.zeroCells zx.cells (grownCap E.w (m + n) m e - (m + n))).size = grownCap E.w (m + n) m e * i.size := by
        simp only [Array.size_append, List.size_toArray, size_zeroCells, hzcell, hol, hul, ← Nat.add_mul]
        congr 1
        omega
      have hr := hp.rel hs.heap (fun sz' cs e => by cases e) (fun q k z e => by
        simp only [Blk.bld.injEq] at e
        obtain ⟨rfl, rfl, rfl⟩ := e
        rw [hcsz]
        exact ⟨Nat.mul_le_mul_right _ hge, by rw [hs.lk]; exact Nat.le_refl _⟩)
      refine ⟨_, hp.after hs hr, .inl ⟨_, hexec (by rw [hA, hx]; exact hrun), ?_⟩⟩
      simp only [RepV]
      have hgetH := hp.getH
      refine ⟨by rw [hp.n, hs.n]; omega, ⟨_, _, rfl, hge, ⟨_, _, rfl, fun _ => away_all (hp.after hs hr), repL_new (by rw [hp.getW, if_pos rfl]) ?_ fun j hj => ?_⟩, fun q k z hk => ?_⟩, fun z q hk => ?_⟩
      · refine hp.evo.repVs hs.heap _ _ (repVs_take (repVs_append holds hus) ?_)
        simp only [Array.toList_append, List.append_assoc]
        rw [← List.append_assoc, show (cs ++ xs).length = (olds ++ us).length by simp [hol, hul, hcl, hxl]]
        exact List.take_left
      · rintro (hu | ⟨b, p1, p3⟩)
        · exact absurd (hs.heap.hid _ hu).1 (Nat.lt_irrefl _)
        rw [hp.phi] at p1
        rw [hp.getH] at p3
        by_cases hb : b = E.H.length
        · rw [if_pos hb] at p3
          simp only at p3
          rw [show (cs ++ xs).length = (m + n) * i.size by simp [hcl, hxl, Nat.add_mul]] at hj
          omega
        · rw [if_neg hb] at p1 p3
          have hl : live E.H[b]? := by
            split at p3
            · rename_i he; rw [he]; trivial
            · rename_i he; rw [he]; trivial
            · rename_i he; rw [he]; trivial
            · exact p3.elim
          have := live_lt hs.heap hl
          omega
      · rw [← hs.H, hgetH, if_pos rfl] at hk
        simp only [Option.some.injEq, Blk.bld.injEq] at hk
        obtain ⟨_, rfl, rfl⟩ := hk
        refine ⟨Nat.le_refl _, fun _ => ⟨by rw [hp.phi, ← hs.H, if_pos rfl], _, _, by rw [hp.phi, ← hs.H, if_pos rfl, hp.getW, if_pos rfl], hcsz.symm⟩⟩
      · rw [← hs.H, hgetH, if_pos rfl] at hk
        cases hk
  | snap b m cs =>
    dsimp only at h
    have hrs' := hrs
    simp only [RepV] at hrs'
    obtain ⟨hbn, ⟨A, cap, hA, hmc, hAr, hcur⟩, hnc⟩ := hrs'
    split at h
    · rename_i h0
      simp only [Option.some.injEq, Prod.mk.injEq] at h
      obtain ⟨rfl, rfl⟩ := h
      exact ⟨E, After.refl hs, .inl ⟨_, hnone h0 hA hmc, hrs⟩⟩
    · rename_i h0
      split at h
      case h_2 => cases h
      rename_i l m' sz' hb
      split at h
      case isFalse => cases h
      rename_i hc
      obtain ⟨hcl, hbd, rfl, rfl, hmw⟩ := hc
      simp only [Option.some.injEq, Prod.mk.injEq] at h
      obtain ⟨rfl, rfl⟩ := h
      have hb2 : (m' + n) * i.bytes + (m' + n) ≤ 70368744177664 := by rw [Nat.mul_add, Nat.mul_one] at hbd; exact hbd
      rw [← hs.H] at hb
      obtain ⟨_, hcur⟩ := hcur l m' i.size hb
      obtain ⟨hA0, c0, t0, hrow, hcsz⟩ := hcur rfl
      obtain ⟨A2, cap2, hA2, olds, holds, hol, hoc⟩ := contents_run (n := m') hs.heap hrs rfl (sz := i.size) (xs := cs) (by simp [contents]) hcl
      rw [hA] at hA2
      simp only [Value.slice.injEq] at hA2
      obtain ⟨rfl, _, rfl⟩ := hA2
      rcases hB with hB | ⟨ad, rfl, hB⟩
      · exact absurd hB h0
      have hpos : 0 < n := Nat.pos_of_ne_zero h0
      have hfree : unlocked E.lk b = true := by rw [hs.lk]; exact unlocked_base hs.locks hmw
      have hblt : b < E.H.length := by rw [hs.H, ← hs.n]; exact hbn
      have hlt : m' < m' + n := Nat.lt_add_of_pos_right hpos
      have hkept : ∀ x, x < c.base → unlocked c.lk x = false → (S.H.set b (.bld l (m' + n) i.size))[x]? = E.H[x]? := by
        intro x hx hl
        rw [set_get, if_neg, hs.H]
        rintro ⟨rfl, _⟩
        rw [hs.lk] at hfree
        rw [hfree] at hl
        cases hl
      by_cases hroom : m' + n ≤ cap
      · -- in place
        have hfit : m' * i.size + us.length ≤ c0.size := by rw [hul, ← hcsz, ← Nat.add_mul]; exact Nat.mul_le_mul_right _ hroom
        have hrun := run_append_room' (P := c.P) E.w st o.type e xt t0 i (elemT_some he) (elemT_some he2) h1 (E.φ b) m' cap c0 hrow ad n capx us hul hB hone hroom hfit
        let c' : Array Value := (c0.toList.take (m' * i.size) ++ us ++ c0.toList.drop (m' * i.size + us.length)).toArray
        have hget : ∀ k, c'[k]? = if m' * i.size ≤ k ∧ k < m' * i.size + us.length then us[k - m' * i.size]? else c0[k]? := fun k => arr_splice_get c0 us _ hfit k
        have hsz' : c'.size = c0.size := by
          simp only [c', List.size_toArray, List.length_append, List.length_take, List.length_drop, Array.length_toList]
          omega
        have hw : Wrote E (E.write b c' (.bld l (m' + n) i.size)) b c0 c' t0 (.bld l (m' + n) i.size) :=
          { w := rfl, row := hrow, size := hsz', phi := rfl, H := rfl, lk := rfl, n := rfl, m := rfl, hid := rfl, nohid := fun e => (hs.heap.hid _ e).2 b (by rw [hb]; trivial) rfl, n0 := by rw [hs.n, hs.H], free := hfree
            kind := .inr ⟨l, m', m' + n, i.size, hb, rfl, hlt, fun k hk => (hget k).trans (if_neg (fun e => absurd e.1 (Nat.not_le.2 hk)))⟩ }
        have hr := hw.rel hs.heap (fun z q e => by cases e) (fun q k z e => by
          simp only [Blk.bld.injEq] at e
          obtain ⟨rfl, rfl, rfl⟩ := e
          rw [hsz', ← hcsz]
          exact Nat.mul_le_mul_right _ hroom)
        have hfor := fun base nb d hn hd hf => hw.foreign (base := base) (nb := nb) (d := d) hn hd hf hs.heap (fun z q e => by cases e)
        refine ⟨E.write b c' (.bld l (m' + n) i.size), ⟨by show E.H.set b _ = _; rw [hs.H], by show E.n = _; rw [hs.n]; simp, rfl, hw.evo, hr, fun _ base nb d _ hn hd hf => hfor base nb d hn hd hf, fun _ base d _ hd hf => hfor base E.n d (Nat.le_refl _) hd hf, hkept⟩, .inl ⟨_, hexec (by rw [hA, hx, hA0]; exact hrun), ?_⟩⟩
        simp only [RepV]
        have holdget : olds = c0.toList.take (m' * i.size) := by
          rcases hoc with h0' | ⟨ad', had, hoc⟩
          · subst h0'
            simp only [Nat.zero_mul] at hol ⊢
            simp [List.eq_nil_of_length_eq_zero hol]
          · rw [hA0] at had
            simp only [Option.some.injEq] at had
            subst had
            apply List.ext_getElem?
            intro j
            rcases Nat.lt_or_ge j olds.length with hj | hj
            · have h4 := hoc j _ (List.getElem?_eq_getElem hj)
              rw [Addr.add_lit, cell_of_row _ _ _ _ _ _ hrow, Nat.zero_add] at h4
              rw [List.getElem?_eq_getElem hj, ← h4, List.getElem?_take_of_lt (by omega)]
              simp
            · rw [List.getElem?_eq_none hj, List.getElem?_eq_none (by simp; omega)]
        refine ⟨hbn, ⟨_, _, rfl, hroom, ⟨_, _, rfl, fun _ => away_of (E' := E.write b c' (.bld l (m' + n) i.size)) rfl (by show E.n = (E.H.set b _).length; rw [hs.n, hs.H]; simp), repL_new (by rw [hw.getW, if_pos rfl]) ?_ fun j hj => ?_⟩, fun q k z hk => ?_⟩, fun z q hk => ?_⟩
        · refine hw.evo.repVs hs.heap _ _ (repVs_take (repVs_append holds hus) ?_)
          show (c0.toList.take (m' * i.size) ++ us ++ c0.toList.drop (m' * i.size + us.length)).take _ = _
          rw [← holdget, show (cs ++ xs).length = (olds ++ us).length by simp [hol, hul, hcl, hxl]]
          exact List.take_left
        · rintro (hu | ⟨y, p1, p3⟩)
          · exact (hs.heap.hid _ hu).2 b (by rw [hb]; trivial) rfl
          rw [hw.getH] at p3
          by_cases hy : b = y
          · rw [if_pos hy] at p3
            simp only at p3
            rw [show (cs ++ xs).length = (m' + n) * i.size by simp [hcl, hxl, Nat.add_mul]] at hj
            omega
          · rw [if_neg hy] at p3
            have hl : live E.H[y]? := by
              split at p3
              · rename_i he; rw [he]; trivial
              · rename_i he; rw [he]; trivial
              · rename_i he; rw [he]; trivial
              · exact p3.elim
            exact hy (hs.heap.inj b y (by rw [hb]; trivial) hl p1.symm)
        · rw [hw.getH, if_pos rfl] at hk
          simp only [Option.some.injEq, Blk.bld.injEq] at hk
          obtain ⟨_, rfl, rfl⟩ := hk
          exact ⟨Nat.le_refl _, fun _ => ⟨rfl, c', t0, by rw [show (E.write b c' (.bld l (m' + n) i.size)).φ b = E.φ b from rfl, hw.getW, if_pos rfl], by rw [hsz', hcsz]⟩⟩
        · rw [hw.getH, if_pos rfl] at hk
          cases hk
      · -- a new row
        have hrun := run_append_grow' (P := c.P) E.w st o.type e xt i zx (elemT_some he) (elemT_some he2) h1 h2 A m' cap olds hol hoc ad n capx us hul hB (by omega) (by omega) (growslice_fits (by omega) (by omega))
        have hge := grownCap_ge E.w (m' + n) cap e
        have hcsz2 : (olds.toArray ++ us.toArray ++ Builtin.zeroCells zx.cells (grownCap E.w (m' + n) cap e - (m' + n))).size = grownCap E.w (m' + n) cap e * i.size := by
          simp only [Array.size_append, List.size_toArray, size_zeroCells, hzcell, hol, hul, ← Nat.add_mul]
          congr 1
          omega
        let E2 : Env := { E with w := E.w.drew.alloc (.cells (olds.toArray ++ us.toArray ++ Builtin.zeroCells zx.cells (grownCap E.w (m' + n) cap e - (m' + n))) e), φ := fun y => if y = b then E.w.heap.size else E.φ y, H := E.H.set b (.bld l (m' + n) i.size) }
        have hmv : Moved E E2 b l m' (m' + n) i.size (olds.toArray ++ us.toArray ++ Builtin.zeroCells zx.cells (grownCap E.w (m' + n) cap e - (m' + n))) e :=
          { heap := rfl, os := rfl, tape := rfl, output := rfl, phi := fun _ => rfl, H := rfl, lk := rfl, n := rfl, m := rfl, hid := rfl, was := hb, lt := hlt
            size := by rw [hcsz2]; exact Nat.mul_le_mul_right _ hge }
        have hr := hmv.rel hs.heap
        have hfor := fun base nb d hn hd hf => hmv.foreign (base := base) (nb := nb) (d := d) hn hd hf hs.heap
        refine ⟨E2, ⟨by show E.H.set b _ = _; rw [hs.H], by show E.n = _; rw [hs.n]; simp, rfl, hmv.evo, hr, fun _ base nb d _ hn hd hf => hfor base nb d hn hd hf, fun _ base d _ hd hf => hfor base E.n d (Nat.le_refl _) hd hf, hkept⟩, .inl ⟨_, hexec (by rw [hA, hx]; exact hrun), ?_⟩⟩
        simp only [RepV]
        refine ⟨hbn, ⟨_, _, rfl, hge, ⟨_, _, rfl, fun _ => away_of hmv.H (by show E.n = _; rw [hs.n, hs.H]; simp), repL_new (by rw [hmv.getW, if_pos rfl]) ?_ fun j hj => ?_⟩, fun q k z hk => ?_⟩, fun z q hk => ?_⟩
        · refine hmv.evo.repVs hs.heap _ _ (repVs_take (repVs_append holds hus) ?_)
          simp only [Array.toList_append, List.append_assoc]
          rw [← List.append_assoc, show (cs ++ xs).length = (olds ++ us).length by simp [hol, hul, hcl, hxl]]
          exact List.take_left
        · rintro (hu | ⟨y, p1, p3⟩)
          · exact absurd (hs.heap.hid _ hu).1 (Nat.lt_irrefl _)
          rw [hmv.phi] at p1
          rw [hmv.getH] at p3
          by_cases hy : b = y
          · rw [if_pos hy] at p3
            simp only at p3
            rw [show (cs ++ xs).length = (m' + n) * i.size by simp [hcl, hxl, Nat.add_mul]] at hj
            omega
          · rw [if_neg (fun e => hy e.symm)] at p1
            rw [if_neg hy] at p3
            have hl : live E.H[y]? := by
              split at p3
              · rename_i he; rw [he]; trivial
              · rename_i he; rw [he]; trivial
              · rename_i he; rw [he]; trivial
              · exact p3.elim
            have := live_lt hs.heap hl
            omega
        · rw [hmv.getH, if_pos rfl] at hk
          simp only [Option.some.injEq, Blk.bld.injEq] at hk
          obtain ⟨_, rfl, rfl⟩ := hk
          exact ⟨Nat.le_refl _, fun _ => ⟨by rw [hmv.phi, if_pos rfl], _, _, by rw [hmv.phi, if_pos rfl, hmv.getW, if_pos rfl], hcsz2.symm⟩⟩
        · rw [hmv.getH, if_pos rfl] at hk
          cases hk
  | _ => simp at h

end

end Go.Proofs.Ytblodpbcinkehaa.K
