/-
  Memory that is made ahead of its turn. No conditions.
-/
import Derived.Test.YtblodpbcinkehaaKhv
set_option linter.unusedVariables false
set_option linter.unusedSimpArgs false
namespace Go.Proofs.Ytblodpbcinkehaa.K

/-- The model's block 'g', of which 'u' tells, is what the operation's block of cells stands for, under whatever name. -/
def Pends (w : World) (u : Value) (g : Nat) (v : Nat → V) (cs : List V) : Prop :=
  (∃ cc t, w.heap[g]? = some (.cells cc t (0, 0)) ∧ cs.length ≤ cc.size ∧ ∀ (E : Env) (i : Nat) x, cs[i]? = some x → ∃ y, cc[i]? = some y ∧ RepV E x y) ∧
    ∀ (E : Env) b, E.φ b = g → b < E.n → notBld E.H b → RepV E (v b) u

section
variable {c : Cx} {E : Env} {S : St} {a : Act} {o : Oper}

theorem maker_runs (hs : Sim c E S a) (hm : isMaker o = true) {vv : V} {H' : Heap} (h : opK c o S = some (vv, H')) : ∃ (v : Nat → V) (sz : Nat) (cs : List V) (u : Value) (cc : Array Value) (t : TypeId),
    (∀ H2, opK c o ⟨S.T, H2⟩ = some (v H2.length, H2 ++ [.cells sz cs])) ∧ (execOp a.eval o).run c.P E.w = .ok (.value u) (E.w.alloc (.cells cc t)) ∧ Pends (E.w.alloc (.cells cc t)) u E.w.heap.size v cs := by
  unfold isMaker at hm
  split at hm
  · rename_i t ho
    unfold opK at h
    simp only [ho, Option.bind_eq_some_iff] at h
    obtain ⟨sz, hsz, z, hz, h⟩ := h
    simp only [Option.some.injEq, Prod.mk.injEq] at h
    obtain ⟨rfl, rfl⟩ := h
    obtain ⟨i, x, v, h1, h2, h3, rfl⟩ := zero_of hz
    refine ⟨fun b => .ptr b 0, sz, v.cellsOf, .pointer (some ⟨E.w.heap.size, 0, none⟩), x.cells, t, fun H2 => ?_, ?_, ⟨x.cells, t, ?_, ?_, fun E' i y hy => ?_⟩, fun E' b h1 h2 h3 => ?_⟩
    · unfold opK
      simp only [ho, hsz, hz, Option.bind_some]
    · simp [execOp, ho, Instr.alloc, zeroValue, typeInfo, h1, h2, newVar, newRow]
    · show (E.w.heap.push _)[E.w.heap.size]? = _; simp
    · obtain ⟨hl, _⟩ := repVs_get _ _ (zero_rep E h3); rw [hl]; simp
    · obtain ⟨_, hg⟩ := repVs_get _ _ (zero_rep E' h3); simpa using hg i y hy
    · simp only [RepV]; exact ⟨h2, by rw [h1], h3⟩
  · rename_i t n m ho
    unfold opK at h
    simp only [ho, Option.bind_eq_some_iff] at h
    obtain ⟨N, hn, M, hmm, h⟩ := h
    have hK : ∀ H2, opK c o ⟨S.T, H2⟩ = makeK c.P (c.hints.keep c.fn) t H2 N M := fun H2 => by
      unfold opK
      simp only [ho, hn, hmm, Option.bind_some]
    have r1 := rep_ev hs n _ hn
    have r2 := rep_ev hs m _ hmm
    unfold makeK at h
    split at h
    case h_2 => cases h
    rename_i k l
    simp only [Option.bind_eq_some_iff] at h
    obtain ⟨e, he, sz, hsz, by_, hby, z, hz, h⟩ := h
    split at h
    case isFalse => cases h
    rename_i hc
    have hc' := hc
    obtain ⟨rfl, h0, hb, hzl, hsz0⟩ := hc
    simp only [Option.some.injEq, Prod.mk.injEq] at h
    obtain ⟨rfl, rfl⟩ := h
    simp only [RepV] at r1 r2
    have hz' := hz
    obtain ⟨i, x, vv, h1, h2, h3, rfl⟩ := zero_of hz
    obtain ⟨i', hi', hsize⟩ := info_of_sz hsz
    rw [h1] at hi'
    simp only [Option.some.injEq] at hi'
    subst hi'
    have hbytes : i.bytes = by_ := by unfold bytesOf at hby; rw [h1] at hby; simpa using hby
    subst hbytes hsize
    have hb2 : k * (i.bytes : Int) + k ≤ 70368744177664 := by rw [Int.mul_add, Int.mul_one] at hb; exact hb
    have hb3 : 0 ≤ k * (i.bytes : Int) := Int.mul_nonneg h0 (by omega)
    have hrun := run_make (P := c.P) E.w t e i x (elemT_some he) h1 h2 .i64 .i64 k k h0 (Int.le_refl _) (by rw [Int.mul_comm]; omega) (by omega)
    have hmr : ∀ E : Env, RepVs E (List.replicate k.toNat (vv.cellsOf.map (nilIf (c.hints.keep c.fn)))).flatten (madeCells x.cells (k.toNat * i.size)).toList := fun E => by
      have := made_rep (E := E) (nilLit_reps (kp := c.hints.keep c.fn) (zero_rep E h3)) (by rw [List.length_map, hzl]; exact hsz0) k.toNat
      rw [List.length_map, hzl] at this
      exact this
    refine ⟨fun b => .sl b 0 k.toNat, i.size, (List.replicate k.toNat (vv.cellsOf.map (nilIf (c.hints.keep c.fn)))).flatten, .slice (some ⟨E.w.heap.size, 0, none⟩) k.toNat k.toNat, madeCells x.cells (k.toNat * i.size), e, fun H2 => ?_, ?_, ⟨madeCells x.cells (k.toNat * i.size), e, ?_, ?_, fun E' i y hy => ?_⟩, fun E' b h1 h2 h3 => ?_⟩
    · rw [hK]
      unfold makeK
      simp only [he, hsz, hby, hz', Option.bind_some]
      rw [if_pos ⟨trivial, h0, hb, hzl, hsz0⟩]
    · simp only [execOp, ho, r1, r2, hrun, Sem.run_bind, Result.andThen_ok, Sem.run_pure]
    · show (E.w.heap.push _)[E.w.heap.size]? = _; simp
    · obtain ⟨hl, _⟩ := repVs_get _ _ (hmr E); rw [hl]; simp
    · obtain ⟨_, hg⟩ := repVs_get _ _ (hmr E'); simpa using hg i y hy
    · simp only [RepV]; exact ⟨h2, ⟨k.toNat, by rw [h1], Nat.le_refl _⟩, h3⟩
  · cases hm

/-- Hidden memory gets its name. -/
def Env.name (E : Env) (g : Nat) (blk : Blk) : Env :=
  { w := E.w, φ := fun b => if b = E.H.length then g else E.φ b, H := E.H ++ [blk], lk := E.lk, n := E.n + 1, m := E.m, hid := E.hid.filter fun x => decide (x ≠ g) }
theorem name_getH (E : Env) (g : Nat) (blk : Blk) (b : Nat) : (E.name g blk).H[b]? = if b = E.H.length then some blk else E.H[b]? := by
  show (E.H ++ [blk])[b]? = _
  by_cases hb : b = E.H.length
  · subst hb; simp
  · rw [if_neg hb]
    rcases Nat.lt_or_ge b E.H.length with hl | hl
    · rw [List.getElem?_append_left hl]
    · rw [List.getElem?_eq_none (by simp; omega), List.getElem?_eq_none hl]
theorem name_phi (E : Env) (g : Nat) (blk : Blk) (b : Nat) : (E.name g blk).φ b = if b = E.H.length then g else E.φ b := rfl
theorem name_hid {E : Env} {g : Nat} {blk : Blk} {x : Nat} : x ∈ (E.name g blk).hid ↔ x ∈ E.hid ∧ x ≠ g := by
  show x ∈ E.hid.filter _ ↔ _
  simp [List.mem_filter]
theorem name_U {E : Env} {g sz : Nat} {cs : List V} {lv : Option Nat} {x i : Nat} (h : (E.name g (.cells sz cs)).U lv x i) : E.U lv x i ∨ x = g := by
  rcases h with h | h
  · exact .inl (.inl (name_hid.1 h).1)
  cases lv with
  | some lv =>
    obtain ⟨b, h1, h2, h3⟩ := h
    rw [name_getH] at h3
    rw [name_phi] at h1
    by_cases hb : b = E.H.length
    · rw [if_pos hb] at h1; exact .inr h1.symm
    · rw [if_neg hb] at h1 h3; exact .inl (.inr ⟨b, h1, h2, h3⟩)
  | none =>
    obtain ⟨b, h1, h3⟩ := h
    rw [name_getH] at h3
    rw [name_phi] at h1
    by_cases hb : b = E.H.length
    · rw [if_pos hb] at h1; exact .inr h1.symm
    · rw [if_neg hb] at h1 h3; exact .inl (.inr ⟨b, h1, h3⟩)
theorem keeps_name {E : Env} {g sz : Nat} {cs : List V} (hg : g ∈ E.hid) (hn : E.n = E.H.length) {nb d : Nat} (hnb : nb ≤ E.n) (hd : d ≤ E.m) : Keeps (E.shrink nb d) ((E.name g (.cells sz cs)).shrink nb d) where
  len := Nat.le_refl _
  lvl := Nat.le_refl _
  cell := by
    intro lv x i u _ _ h1 h3
    refine ⟨h1, fun hu => h3 ?_⟩
    rcases name_U (E := E) (lv := lv) hu with h | rfl
    · exact h
    · exact .inl hg
  phi := by
    intro b hb hnb2
    have hb : b < nb := hb
    have hne : b ≠ E.H.length := by omega
    refine ⟨by show (E.name g (.cells sz cs)).φ b = E.φ b; rw [name_phi, if_neg hne], fun l n z => ?_⟩
    show (E.name g (.cells sz cs)).H[b]? ≠ _
    rw [name_getH, if_neg hne]
    exact hnb2 l n z
  cells := by
    intro b hb h z ys
    have hb : b < nb := hb
    show (E.name g (.cells sz cs)).H[b]? ≠ _
    rw [name_getH, if_neg (by omega)]
    exact h z ys
  bld := by
    intro b l n z hb hB
    have hb : b < nb := hb
    have hB : (E.name g (.cells sz cs)).H[b]? = _ := hB
    rw [name_getH, if_neg (by omega)] at hB
    exact ⟨l, n, hB, Nat.le_refl _, fun _ => ⟨by show (E.name g (.cells sz cs)).φ b = E.φ b; rw [name_phi, if_neg (by omega)], fun cc _ hc => ⟨cc, hc, rfl⟩⟩⟩
  fresh := by
    intro b x i u h1 h2 hb hl he
    have hl : live (E.name g (.cells sz cs)).H[b]? := hl
    have he : (E.name g (.cells sz cs)).φ b = x := he
    rw [name_phi] at he
    rw [name_getH] at hl
    by_cases hbb : b = E.H.length
    · rw [if_pos hbb] at he
      subst he
      exact absurd (.inl hg) h2
    · rw [if_neg hbb] at he hl
      exact ⟨b, hb, hl, he⟩

theorem name_keeps {E : Env} {g sz : Nat} {cs : List V} (hg : g ∈ E.hid) (hn : E.n = E.H.length) {v : V} {u : Value} (h : RepV E v u) : RepV (E.name g (.cells sz cs)) v u :=
  (Keeps.grow (E.name g (.cells sz cs)) (n := E.n) (m := E.m) (Nat.le_succ _) (Nat.le_refl _)).rep v u ((keeps_name hg hn (Nat.le_refl _) (Nat.le_refl _)).rep v u h)

/-- The environment behind the naming. -/
theorem name_after {E0 : Env} {H : Heap} (h : After c E0 E H) (hb : c.base ≤ H.length) (h0 : E0.n ≤ H.length) {g sz : Nat} {cs : List V} {u : Value} {v : Nat → V} (hp : Pends E.w u g v cs) (hg : g ∈ E.hid) (hg0 : E0.w.heap.size ≤ g) (hg1 : g ∉ E0.hid) :
    After c E0 (E.name g (.cells sz cs)) (H ++ [.cells sz cs]) ∧ RepV (E.name g (.cells sz cs)) (v H.length) u := by
  have hn : E.n = E.H.length := by rw [h.n, h.H]
  obtain ⟨⟨cc, t, p1, p2, p3⟩, p4⟩ := hp
  have hf : ∀ base nb d, base ≤ c.base → nb ≤ E.n → d ≤ E.m → RelF E base nb d → RelF (E.name g (.cells sz cs)) base nb d := by
    intro base nb d hbase hnb hd hf b z xs hlt hB ct tt hc i y w hv hu
    have hne : b ≠ E.H.length := by rw [h.H]; omega
    rw [name_getH, if_neg hne] at hB
    rw [name_phi, if_neg hne] at hc
    exact (keeps_name hg hn hnb hd).rep _ _ (hf b z xs hlt hB ct tt hc i y w hv hu)
  have hgl := (h.heap.hid g hg).2
  refine ⟨⟨by show E.H ++ _ = _; rw [h.H], by show E.n + 1 = _; rw [h.n]; simp, h.m, ?_, ?_, fun gr base nb d h1 h2 h3 h4 => hf base nb d h1 (Nat.le_trans h2 h.evo.len) (by rw [h.m]; exact h3) (h.forN gr base nb d h1 h2 h3 h4), fun gr base d h1 h3 h4 => (hf base E.n d h1 (Nat.le_refl _) (by rw [h.m]; exact h3) (h.forG gr base d h1 h3 h4)).up (Nat.le_succ _), fun b hb2 hl => ?_⟩, ?_⟩
  · exact
    { lk := h.evo.lk
      os := h.evo.os
      tape := h.evo.tape
      output := h.evo.output
      size := h.evo.size
      len := Nat.le_succ_of_le h.evo.len
      mm := h.evo.mm
      cell := h.evo.cell
      block := h.evo.block
      mono := by
        intro lv x i hl hu
        rcases name_U hu with h1 | rfl
        · exact h.evo.mono lv x i hl h1
        · exact .inr hg0
      phi := by
        intro b hb1 hb2
        obtain ⟨q1, q2⟩ := h.evo.phi b hb1 hb2
        have hne : b ≠ E.H.length := by rw [h.H]; omega
        refine ⟨by rw [name_phi, if_neg hne]; exact q1, fun l n z => ?_⟩
        rw [name_getH, if_neg hne]
        exact q2 l n z
      cells := by
        intro b hb1 hb2 z xs
        have hne : b ≠ E.H.length := by rw [h.H]; omega
        rw [name_getH, if_neg hne]
        exact h.evo.cells b hb1 hb2 z xs
      bld := by
        intro b l n z hb1 hB
        have hne : b ≠ E.H.length := by rw [h.H]; omega
        rw [name_getH, if_neg hne] at hB
        obtain ⟨k, k1, k2, k3⟩ := h.evo.bld b l n z hb1 hB
        exact ⟨k, k1, k2, fun e => ⟨by rw [name_phi, if_neg hne]; exact (k3 e).1, (k3 e).2⟩⟩
      fresh := by
        intro b hl
        rw [name_getH] at hl
        rw [name_phi]
        by_cases hbb : b = E.H.length
        · rw [if_pos hbb]; exact .inr hg0
        · rw [if_neg hbb] at hl ⊢; exact h.evo.fresh b hl
      hid := fun x hx => name_hid.2 ⟨h.evo.hid x hx, fun e => hg1 (e ▸ hx)⟩
      hidF := fun x hx => h.evo.hidF x (name_hid.1 hx).1
      hidW := h.evo.hidW }
  · exact
    { cells := by
        intro b z xs hB
        rw [name_getH] at hB
        rw [name_phi]
        by_cases hbb : b = E.H.length
        · rw [if_pos hbb] at hB ⊢
          simp only [Option.some.injEq, Blk.cells.injEq] at hB
          obtain ⟨rfl, rfl⟩ := hB
          exact ⟨cc, t, p1, p2, fun i y hy => p3 _ i y hy⟩
        · rw [if_neg hbb] at hB ⊢
          obtain ⟨c', t', h1, h2, h3⟩ := h.heap.cells b z xs hB
          exact ⟨c', t', h1, h2, fun i y hy => let ⟨w, h4, h5⟩ := h3 i y hy; ⟨w, h4, name_keeps hg hn h5⟩⟩
      bld := by
        intro b l n z hB
        rw [name_getH] at hB
        rw [name_phi]
        by_cases hbb : b = E.H.length
        · rw [if_pos hbb] at hB; cases hB
        · rw [if_neg hbb] at hB ⊢; exact h.heap.bld b l n z hB
      lvl := by
        intro b l n z hB
        rw [name_getH] at hB
        by_cases hbb : b = E.H.length
        · rw [if_pos hbb] at hB; cases hB
        · rw [if_neg hbb] at hB; exact h.heap.lvl b l n z hB
      dm := h.heap.dm
      inj := by
        intro b b' h1 h2 he
        rw [name_getH] at h1 h2
        rw [name_phi, name_phi] at he
        by_cases hb1 : b = E.H.length <;> by_cases hb2 : b' = E.H.length
        · omega
        · rw [if_pos hb1, if_neg hb2] at he
          rw [if_neg hb2] at h2
          exact absurd he.symm (hgl b' h2)
        · rw [if_neg hb1, if_pos hb2] at he
          rw [if_neg hb1] at h1
          exact absurd he (hgl b h1)
        · rw [if_neg hb1, if_neg hb2] at he
          rw [if_neg hb1] at h1
          rw [if_neg hb2] at h2
          exact h.heap.inj b b' h1 h2 he
      maps := by
        intro b kvs hB
        rw [name_getH] at hB
        rw [name_phi]
        by_cases hbb : b = E.H.length
        · rw [if_pos hbb] at hB; cases hB
        · rw [if_neg hbb] at hB ⊢; exact h.heap.maps b kvs hB
      hid := by
        intro x hx
        obtain ⟨hx1, hx2⟩ := name_hid.1 hx
        refine ⟨(h.heap.hid x hx1).1, fun b hl => ?_⟩
        rw [name_getH] at hl
        rw [name_phi]
        by_cases hbb : b = E.H.length
        · rw [if_pos hbb]; exact fun e => hx2 e.symm
        · rw [if_neg hbb] at hl ⊢; exact (h.heap.hid x hx1).2 b hl }
  · rw [List.getElem?_append_left (by omega)]
    exact h.kept b hb2 hl
  · refine p4 _ _ ?_ ?_ fun l n z => ?_
    · rw [name_phi, if_pos (by rw [h.H])]
    · show H.length < E.n + 1; rw [h.n]; omega
    · rw [name_getH, if_pos (by rw [h.H])]; simp
end

end Go.Proofs.Ytblodpbcinkehaa.K
