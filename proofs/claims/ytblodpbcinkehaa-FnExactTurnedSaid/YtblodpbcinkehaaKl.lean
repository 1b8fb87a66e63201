/-
  Leaving a call; a function's run. No conditions.
-/
import Derived.Test.YtblodpbcinkehaaKk
set_option linter.unusedVariables false
set_option linter.unusedSimpArgs false
namespace Go.Proofs.Ytblodpbcinkehaa.K

theorem Keeps.relock (E : Env) (L : List Nat) (hd : E.m ≤ E.lk.length) : Keeps E { E with lk := E.lk ++ [L] } where
  len := Nat.le_refl _
  lvl := Nat.le_refl _
  phi := fun _ _ h => ⟨rfl, h⟩
  cells := fun _ _ h => h
  bld := fun _ l n _ _ h => ⟨l, n, h, Nat.le_refl _, fun _ => ⟨rfl, fun c _ hc => ⟨c, hc, rfl⟩⟩⟩
  cell := by
    intro lv g i u hlv _ h1 h3
    refine ⟨h1, fun hu => h3 ?_⟩
    cases lv with
    | none => exact hu
    | some lv =>
      have hle : lv ≤ E.lk.length := Nat.le_trans hlv hd
      rcases hu with hu | ⟨b, p1, p2, p3⟩
      · exact .inl hu
      refine .inr ⟨b, p1, ?_, p3⟩
      have : (E.lk ++ [L]).take lv = E.lk.take lv := List.take_append_of_le_length hle
      rw [← this]
      exact p2
  fresh := fun b _ _ _ _ _ hb hl he => ⟨b, hb, hl, he⟩

theorem RelF.lock {E : Env} {L : List Nat} {base nb d : Nat} (hd : d ≤ E.lk.length) (h : RelF E base nb d) : RelF (E.lock L) base nb d :=
  fun b sz cs hlt hB c t hc i v u hv hu => (Keeps.relock (E.shrink nb d) L hd).rep v u (h b sz cs hlt hB c t hc i v u hv hu)

theorem RelF.all {E : Env} (hh : RelH E) (base : Nat) : RelF E base E.n E.m := by
  intro b sz cs hlt hB c t hc i v u hv hu
  obtain ⟨c', t', h1, _, h2⟩ := hh.cells b sz cs hB
  rw [hc] at h1
  simp only [Option.some.injEq, Obj.cells.injEq] at h1
  obtain ⟨rfl, _⟩ := h1
  obtain ⟨u', h3, h4⟩ := h2 i v hv
  rw [hu] at h3
  simp only [Option.some.injEq] at h3
  subst h3
  exact h4

section
variable {E : Env} {lo d : Nat} {lk : Lk}

theorem out_phi {H : Heap} {news : List Blk} {Ω : List Nat} {b : Nat} (hb : b < lo) : (E.out lo lk d H news Ω).φ b = E.φ b := by
  show (if b < lo then _ else _) = _; rw [if_pos hb]

theorem keeps_out (hL : Last E lo d lk) {H : Heap} {news : List Blk} {Ω F : List Nat} (hs : Shape E lo d H news Ω F) {nb d' : Nat} (hnb : nb ≤ lo) (hd : d' ≤ d) : Keeps (E.shrink nb d') ((E.out lo lk d H news Ω).shrink nb d') where
  len := Nat.le_refl _
  lvl := Nat.le_refl _
  cell := by
    intro lv g i u hlv haw h1 h3
    refine ⟨h1, fun hu => h3 ?_⟩
    cases lv with
    | some l => exact out_U hL hs (Nat.le_trans hlv hd) hu
    | none =>
      have hu0 : (E.out lo lk d H news Ω).U none g i := hu
      rcases hu0 with hu0 | ⟨b, h4, h5⟩
      · exact .inl hu0
      have hl : live (E.out lo lk d H news Ω).H[b]? := by
        split at h5
        · rename_i he; rw [he]; trivial
        · rename_i he; rw [he]; trivial
        · rename_i he; rw [he]; trivial
        · exact h5.elim
      rcases out_live hL hs hl with ⟨p1, p2, p3, p4⟩ | ⟨b0, sz, cs, p1, p2, p3, p4, p5, p6, p7⟩
      · rw [p3] at h5
        exact .inr ⟨b, p2.symm.trans h4, h5⟩
      · exact absurd (p4.symm.trans h4) (haw rfl b0 (Nat.le_trans hnb p6) p7.live)
  phi := by
    intro b hb hn
    have hb : b < nb := hb
    refine ⟨out_phi (H := H) (news := news) (lk := lk) (d := d) (by omega), fun l n z => ?_⟩
    show (E.out lo lk d H news Ω).H[b]? ≠ _
    rw [out_get hL hs, if_pos (by omega)]
    exact hn l n z
  cells := by
    intro b hb hn z cs
    have hb : b < nb := hb
    show (E.out lo lk d H news Ω).H[b]? ≠ _
    rw [out_get hL hs, if_pos (by omega)]
    exact hn z cs
  bld := by
    intro b l n sz hb hB
    have hb : b < nb := hb
    have hB : (E.out lo lk d H news Ω).H[b]? = _ := hB
    rw [out_get hL hs, if_pos (by omega)] at hB
    exact ⟨l, n, hB, Nat.le_refl _, fun _ => ⟨out_phi (H := H) (news := news) (lk := lk) (d := d) (by omega), fun c _ hc => ⟨c, hc, rfl⟩⟩⟩
  fresh := by
    intro b g i u h1 _ hb hl he
    rcases out_live hL hs hl with ⟨p1, p2, p3, p4⟩ | ⟨b0, sz, cs, p1, p2, p3, p4, p5, p6, p7⟩
    · exact ⟨b, hb, p4, p2.symm.trans he⟩
    · exact ⟨b0, Nat.le_trans hnb p6, p7.live, p4.symm.trans he⟩

end

section
variable {c : Cx} {E0 E' : Env} {L : List Nat} {Hc : Heap}

/-- A callee at its end. -/
structure Done (c : Cx) (E0 E' : Env) (L : List Nat) (Hc : Heap) : Prop where
  heap0 : RelH E0
  n0 : E0.n = E0.H.length
  m0 : E0.m = E0.lk.length
  base : c.base = E0.n
  lk : c.lk = E0.lk ++ [L]
  locks : ∀ l ∈ E0.lk, ∀ x ∈ l, x < E0.n
  after : After c (E0.lock L) E' Hc

theorem Done.last (h : Done c E0 E' L Hc) : Last E' E0.n E0.m E0.lk where
  heap := h.after.heap
  le := by
    have h1 := h.after.n
    have h2 := h.after.H
    have h3 : E0.n ≤ E'.n := h.after.evo.len
    rw [h2, ← h1]; exact h3
  tak := by
    intro lv hlv
    have h1 : E'.lk = E0.lk ++ [L] := h.after.evo.lk
    rw [h1]
    exact List.take_append_of_le_length (by rw [← h.m0]; exact hlv)
  len := h.m0.symm
  locks := h.locks

theorem Done.fresh (h : Done c E0 E' L Hc) {b : Nat} (hb : E0.n ≤ b) (hl : live E'.H[b]?) : E0.w.heap.size ≤ E'.φ b := by
  rcases h.after.evo.fresh b hl with ⟨_, h2⟩ | h2
  · have h2 : live E0.H[b]? := h2
    rw [List.getElem?_eq_none (by rw [← h.n0]; exact hb)] at h2
    exact h2.elim
  · exact h2

theorem Done.lvl (h : Done c E0 E' L Hc) {b l n sz : Nat} (hb : b < E0.n) (hB : E'.H[b]? = some (.bld l n sz)) : l ≤ E0.m := by
  obtain ⟨k, h1, _⟩ := h.after.evo.bld b l n sz hb hB
  rw [h.m0]
  exact h.heap0.lvl b l k sz h1

theorem leave_out (hD : Done c E0 E' L Hc) (hg : c.hints.grow c.fn = false) {th : Bool} {v v' : V} {u : Value} {H2 : Heap} {news : List Blk} (hr : RepV E' v u) (h : resV th E0.n (E0.m + 1) depthK (Hc, []) v = some (v', (H2, news))) :
    ∃ E1, E1.w = E'.w ∧ Back c.hints c.fn L E0 E1 (H2.take E0.n ++ news) ∧ RepV E1 v' u := by
  have hL := hD.last
  have hHc : E'.H = Hc := hD.after.H
  have hev := hD.after.evo
  have hs0 : Shape E' E0.n E0.m Hc [] [] [] :=
    { len := by rw [hHc], wlen := rfl, old := fun b _ => by rw [hHc], same := fun b => .inl (by rw [hHc]), omega := fun b hb => (by cases hb), froz := fun b hb => (by cases hb), nodup := List.nodup_nil, apart := fun b hb => (by cases hb), isCells := fun j x hx => by simp at hx }
  obtain ⟨Ω, F, hs, hF, _, _, _, hrep⟩ := resV_sound (lk := E0.lk) hL th depthK Hc [] v v' H2 news h ⟨u, hr⟩ [] [] hs0 (fun j b sz cs h1 _ => by simp at h1)
  let E1 := E'.out E0.n E0.lk E0.m H2 news Ω
  have hlen : (H2.take E0.n).length = E0.n := by rw [List.length_take, hs.len]; have := hL.le; omega
  have hf0 : RelF E' E0.n E0.n E0.m := hD.after.forN hg _ _ _ (by rw [hD.base]; exact Nat.le_refl _) (Nat.le_refl _) (Nat.le_succ _) (RelF.lock (by rw [hD.m0]; exact Nat.le_refl _) (RelF.all hD.heap0 _))
  have hgrow : Keeps (E1.shrink E0.n E0.m) E1 := Keeps.grow E1 (Nat.le_add_right _ _) (Nat.le_refl _)
  have hrel : RelH E1 :=
    { cells := by
        intro b sz cs hB
        by_cases hb : b < E0.n
        · have hB' := hB
          rw [out_get hL hs, if_pos hb] at hB'
          obtain ⟨c', t, h1, h2, h3⟩ := hL.heap.cells b sz cs hB'
          refine ⟨c', t, ?_, h2, fun i v hv => ?_⟩
          · show E'.w.heap[(E'.out E0.n E0.lk E0.m H2 news Ω).φ b]? = _
            rw [out_phi hb]; exact h1
          · obtain ⟨u, h4, _⟩ := h3 i v hv
            exact ⟨u, h4, hgrow.rep _ _ ((keeps_out hL hs (Nat.le_refl _) (Nat.le_refl _)).rep _ _ (hf0 b sz cs hb hB' c' t h1 i v u hv h4))⟩
        · rcases out_live hL hs (b := b) (by rw [hB]; trivial) with ⟨p1, _⟩ | ⟨b0, sz', cs', p1, p2, p3, p4, p5, p6, p7⟩
          · exact absurd p1 hb
          · rw [out_get hL hs, if_neg hb, p5] at hB
            simp only [Option.some.injEq, Blk.cells.injEq] at hB
            obtain ⟨rfl, rfl⟩ := hB
            obtain ⟨c', t, h1, h2, h3⟩ := hF _ _ _ _ p2 p5
            refine ⟨c', t, ?_, h2, h3 H2 news Ω F hs (Ext.refl _ _ _)⟩
            show E'.w.heap[(E'.out E0.n E0.lk E0.m H2 news Ω).φ b]? = _
            rw [p4]; exact h1
      bld := by
        intro b l n sz hB
        by_cases hb : b < E0.n
        · rw [out_get hL hs, if_pos hb] at hB
          obtain ⟨c', t, h1, h2⟩ := hL.heap.bld b l n sz hB
          refine ⟨c', t, ?_, h2⟩
          show E'.w.heap[(E'.out E0.n E0.lk E0.m H2 news Ω).φ b]? = _
          rw [out_phi hb]; exact h1
        · rw [out_get hL hs, if_neg hb] at hB
          obtain ⟨_, _, hx⟩ := hs.isCells _ _ hB
          cases hx
      lvl := by
        intro b l n sz hB
        by_cases hb : b < E0.n
        · rw [out_get hL hs, if_pos hb] at hB
          have := hD.lvl hb hB
          rw [hD.m0] at this
          exact this
        · rw [out_get hL hs, if_neg hb] at hB
          obtain ⟨_, _, hx⟩ := hs.isCells _ _ hB
          cases hx
      dm := by show E0.m ≤ E0.lk.length; rw [hD.m0]; exact Nat.le_refl _
      maps := by
        intro b kvs hB
        by_cases hb : b < E0.n
        · rw [out_get hL hs, if_pos hb] at hB
          obtain ⟨h1, h2⟩ := hL.heap.maps b kvs hB
          refine ⟨?_, h2⟩
          show E'.w.heap[(E'.out E0.n E0.lk E0.m H2 news Ω).φ b]? = _
          rw [out_phi hb]; exact h1
        · rw [out_get hL hs, if_neg hb] at hB
          obtain ⟨_, _, hx⟩ := hs.isCells _ _ hB
          cases hx
      inj := by
        intro b b' h1 h2 he
        rcases out_live hL hs h1 with ⟨p1, p2, p3, p4⟩ | ⟨b0, sz, cs, p1, p2, p3, p4, p5, p6, p7⟩ <;>
        rcases out_live hL hs h2 with ⟨q1, q2, q3, q4⟩ | ⟨b0', sz', cs', q1, q2, q3, q4, q5, q6, q7⟩
        · exact hL.heap.inj _ _ p4 q4 (by rw [← p2, ← q2]; exact he)
        · have := hL.heap.inj _ _ p4 q7.live (by rw [← p2, ← q4]; exact he)
          omega
        · have := hL.heap.inj _ _ p7.live q4 (by rw [← p4, ← q2]; exact he)
          omega
        · have := hL.heap.inj _ _ p7.live q7.live (by rw [← p4, ← q4]; exact he)
          subst this
          have h5 := (List.getElem?_eq_some_iff.1 p2)
          have h6 := (List.getElem?_eq_some_iff.1 q2)
          obtain ⟨i1, e1⟩ := h5
          obtain ⟨i2, e2⟩ := h6
          have := (List.getElem_inj (h₀ := i1) (h₁ := i2) hs.nodup).1 (e1.trans e2.symm)
          omega
      hid := fun g hg => ⟨(hL.heap.hid g hg).1, fun b hl => by
        rcases out_live hL hs hl with ⟨p1, p2, p3, p4⟩ | ⟨b0, sz, cs, p1, p2, p3, p4, p5, p6, p7⟩
        · rw [p2]; exact (hL.heap.hid g hg).2 _ p4
        · rw [p4]; exact (hL.heap.hid g hg).2 _ p7.live⟩ }
  have hold : ∀ b, b < E0.n → E1.H[b]? = E'.H[b]? := fun b hb => by
    show (E'.out E0.n E0.lk E0.m H2 news Ω).H[b]? = _
    rw [out_get hL hs, if_pos hb]
  refine ⟨E1, rfl, ⟨rfl, ?_, ?_, hrel, ?_, (fun h => by rw [hg] at h; cases h), ?_⟩, hrep H2 news Ω F hs (Ext.refl _ _ _) u hr⟩
  · show E0.n + news.length = (H2.take E0.n ++ news).length
    rw [List.length_append, hlen]
  · exact
    { lk := rfl
      os := hev.os
      tape := hev.tape
      output := hev.output
      size := hev.size
      len := Nat.le_add_right _ _
      mm := rfl
      cell := hev.cell
      block := hev.block
      mono := by
        intro lv g i hlv hu
        rcases hu with hu | hu
        · exact hev.mono lv g i hlv (.inl hu)
        cases lv with
        | some l =>
          obtain ⟨b, h1, h2, h3⟩ := hu
          have hl : live E1.H[b]? := by
            split at h3
            · rename_i he; rw [Env.lock_H] at he; rw [he]; trivial
            · rename_i he; rw [Env.lock_H] at he; rw [he]; trivial
            · rename_i he; rw [Env.lock_H] at he; rw [he]; trivial
            · exact h3.elim
          rcases out_live hL hs hl with ⟨p1, p2, p3, p4⟩ | ⟨b0, sz, cs, p1, p2, p3, p4, p5, p6, p7⟩
          · refine hev.mono (some l) g i hlv (.inr ⟨b, by rw [← p2]; exact h1, ?_, ?_⟩)
            · have : E'.lk = E0.lk ++ [L] := hev.lk
              rw [this]; exact h2
            · rw [Env.lock_H, hold b p1] at h3; exact h3
          · right
            rw [← h1, Env.lock_phi]
            show _ ≤ (E'.out E0.n E0.lk E0.m H2 news Ω).φ b
            rw [p4]
            exact hD.fresh p6 p7.live
        | none =>
          obtain ⟨b, h1, h3⟩ := hu
          have hl : live E1.H[b]? := by
            split at h3
            · rename_i he; rw [Env.lock_H] at he; rw [he]; trivial
            · rename_i he; rw [Env.lock_H] at he; rw [he]; trivial
            · rename_i he; rw [Env.lock_H] at he; rw [he]; trivial
            · exact h3.elim
          rcases out_live hL hs hl with ⟨p1, p2, p3, p4⟩ | ⟨b0, sz, cs, p1, p2, p3, p4, p5, p6, p7⟩
          · refine hev.mono none g i hlv (.inr ⟨b, by rw [← p2]; exact h1, ?_⟩)
            rw [Env.lock_H, hold b p1] at h3; exact h3
          · right
            rw [← h1, Env.lock_phi]
            show _ ≤ (E'.out E0.n E0.lk E0.m H2 news Ω).φ b
            rw [p4]
            exact hD.fresh p6 p7.live
      phi := by
        intro b hb hn
        obtain ⟨h1, h2⟩ := hev.phi b hb hn
        refine ⟨(out_phi (H := H2) (news := news) (lk := E0.lk) (d := E0.m) hb).trans h1, fun l n z => ?_⟩
        rw [Env.lock_H, hold b hb]
        exact h2 l n z
      cells := by
        intro b hb hn z cs
        rw [Env.lock_H, hold b hb]
        exact hev.cells b hb hn z cs
      bld := by
        intro b l n sz hb hB
        rw [Env.lock_H, hold b hb] at hB
        obtain ⟨k, h1, h2, h3⟩ := hev.bld b l n sz hb hB
        exact ⟨k, h1, h2, fun e => ⟨(out_phi (H := H2) (news := news) (lk := E0.lk) (d := E0.m) hb).trans (h3 e).1, (h3 e).2⟩⟩
      fresh := by
        intro b hl
        rcases out_live hL hs hl with ⟨p1, p2, p3, p4⟩ | ⟨b0, sz, cs, p1, p2, p3, p4, p5, p6, p7⟩
        · rcases hev.fresh b p4 with ⟨h1, h2⟩ | h1
          · exact .inl ⟨p2.trans h1, h2⟩
          · exact .inr (by rw [Env.lock_phi]; show _ ≤ (E'.out E0.n E0.lk E0.m H2 news Ω).φ b; rw [p2]; exact h1)
        · exact .inr (by rw [Env.lock_phi]; show _ ≤ (E'.out E0.n E0.lk E0.m H2 news Ω).φ b; rw [p4]; exact hD.fresh p6 p7.live)
      hid := hev.hid
      hidF := hev.hidF
      hidW := hev.hidW }
  · intro _ base nb d' hbase hnb hd hf
    have hf1 := hD.after.forN hg base nb d' (by rw [hD.base]; exact hbase) hnb (Nat.le_succ_of_le hd) (RelF.lock (L := L) (by rw [← hD.m0]; exact hd) hf)
    intro b sz cs hlt hB c' t hc i v u hv hu
    have hb : b < E0.n := Nat.lt_of_lt_of_le hlt hbase
    rw [hold b hb] at hB
    have hc : E'.w.heap[(E'.out E0.n E0.lk E0.m H2 news Ω).φ b]? = _ := hc
    rw [out_phi hb] at hc
    exact (keeps_out hL hs hnb hd).rep v u (hf1 b sz cs hlt hB c' t hc i v u hv hu)
  · intro b hb hk
    rw [hold b hb, hHc]
    exact hD.after.kept b (by rw [hD.base]; exact hb) (by rw [hD.lk]; exact hk)

end

end Go.Proofs.Ytblodpbcinkehaa.K
