/-
  How a call ends: its own lists become immutable, or new blocks of its caller's. No conditions.
-/
import Derived.Test.YtblodpbcinkehaaKi
set_option linter.unusedVariables false
set_option linter.unusedSimpArgs false
namespace Go.Proofs.Ytblodpbcinkehaa.K

/-- The caller's view of what a call leaves: the blocks there were, and those handed over. -/
def Env.out (E : Env) (lo : Nat) (lk : Lk) (d : Nat) (H : Heap) (news : List Blk) (Ω : List Nat) : Env :=
  { w := E.w, φ := fun b => if b < lo then E.φ b else E.φ (Ω.getD (b - lo) 0), H := H.take lo ++ news, lk := lk, n := lo + news.length, m := d, hid := E.hid }

/-- The callee at its end: 'lo' its first own block, 'd' its caller's depth. -/
structure Last (E : Env) (lo d : Nat) (lk : Lk) : Prop where
  heap : RelH E
  le : lo ≤ E.H.length
  tak : ∀ lv, lv ≤ d → E.lk.take lv = lk.take lv
  len : lk.length = d
  locks : ∀ l ∈ lk, ∀ x ∈ l, x < lo

/-- A block of the callee's own that all its caller's lists keep clear of. -/
def Own (E : Env) (d b : Nat) : Prop := (∃ sz cs, E.H[b]? = some (.cells sz cs)) ∨ ∃ l n sz, E.H[b]? = some (.bld l n sz) ∧ d < l
theorem Own.live {E : Env} {d b : Nat} (h : Own E d b) : live E.H[b]? := by
  rcases h with ⟨_, _, h⟩ | ⟨_, _, _, h, _⟩ <;> (rw [h]; trivial)

structure Shape (E : Env) (lo d : Nat) (H : Heap) (news : List Blk) (Ω F : List Nat) : Prop where
  len : H.length = E.H.length
  wlen : Ω.length = news.length
  old : ∀ b : Nat, b < lo → H[b]? = E.H[b]?
  same : ∀ b : Nat, H[b]? = E.H[b]? ∨ H[b]? = some Blk.dead
  omega : ∀ b : Nat, b ∈ Ω → lo ≤ b ∧ H[b]? = some Blk.dead ∧ Own E d b
  froz : ∀ b : Nat, b ∈ F → lo ≤ b ∧ H[b]? = some Blk.dead ∧ live E.H[b]?
  nodup : Ω.Nodup
  apart : ∀ b : Nat, b ∈ Ω → b ∉ F
  isCells : ∀ (j : Nat) x, news[j]? = some x → ∃ sz cs, x = .cells sz cs

structure Ext (news : List Blk) (Ω F : List Nat) (news' : List Blk) (Ω' F' : List Nat) : Prop where
  news : news <+: news'
  om : Ω <+: Ω'
  fr : ∀ b, b ∈ F → b ∈ F'
theorem Ext.refl (news : List Blk) (Ω F : List Nat) : Ext news Ω F news Ω F := ⟨List.prefix_refl _, List.prefix_refl _, fun _ h => h⟩
theorem Ext.trans {n1 n2 n3 : List Blk} {a1 a2 a3 f1 f2 f3 : List Nat} (h : Ext n1 a1 f1 n2 a2 f2) (k : Ext n2 a2 f2 n3 a3 f3) : Ext n1 a1 f1 n3 a3 f3 :=
  ⟨h.news.trans k.news, h.om.trans k.om, fun b hb => k.fr b (h.fr b hb)⟩

theorem pre_get {α : Type} {l l' : List α} (h : l <+: l') {i : Nat} {x : α} (hx : l[i]? = some x) : l'[i]? = some x := by
  obtain ⟨t, rfl⟩ := h
  rw [List.getElem?_append_left (List.getElem?_eq_some_iff.1 hx).1]
  exact hx

def Full (E : Env) (lo d : Nat) (lk : Lk) (news : List Blk) (Ω F : List Nat) : Prop :=
  ∀ (j b sz : Nat) (cs : List V), Ω[j]? = some b → news[j]? = some (.cells sz cs) → ∃ c t, E.w.heap[E.φ b]? = some (.cells c t (0, 0)) ∧ cs.length ≤ c.size ∧
    ∀ Hf nf Ωf Ff, Shape E lo d Hf nf Ωf Ff → Ext news Ω F nf Ωf Ff → ∀ (i : Nat) v, cs[i]? = some v → ∃ u, c[i]? = some u ∧ RepV (E.out lo lk d Hf nf Ωf) v u

/-- What is newly handed over or frozen was alive. -/
def Newly (H : Heap) (Ω F Ω' F' : List Nat) : Prop := ∀ b : Nat, b ∈ Ω' ∨ b ∈ F' → b ∈ Ω ∨ b ∈ F ∨ live H[b]?

section
variable {E : Env} {lo d : Nat} {lk : Lk}

theorem out_get (hL : Last E lo d lk) {H : Heap} {news : List Blk} {Ω F : List Nat} (hs : Shape E lo d H news Ω F) (b : Nat) : (E.out lo lk d H news Ω).H[b]? = if b < lo then E.H[b]? else news[b - lo]? := by
  have hl : (H.take lo).length = lo := by rw [List.length_take, hs.len]; have := hL.le; omega
  show (H.take lo ++ news)[b]? = _
  by_cases h : b < lo
  · rw [if_pos h, List.getElem?_append_left (by omega), List.getElem?_take_of_lt h, hs.old b h]
  · rw [if_neg h, List.getElem?_append_right (by omega), hl]

theorem out_new {H : Heap} {news : List Blk} {Ω F : List Nat} (hs : Shape E lo d H news Ω F) {j : Nat} {x : Blk} (hx : news[j]? = some x) : ∃ b, Ω[j]? = some b ∧ b ∈ Ω := by
  have hj : j < Ω.length := by rw [hs.wlen]; exact (List.getElem?_eq_some_iff.1 hx).1
  exact ⟨Ω[j], List.getElem?_eq_getElem hj, List.getElem_mem hj⟩

/-- Every block of the outer view that is alive is one of the callee's that was. -/
theorem out_live (hL : Last E lo d lk) {H : Heap} {news : List Blk} {Ω F : List Nat} (hs : Shape E lo d H news Ω F) {b : Nat} (hl : live (E.out lo lk d H news Ω).H[b]?) :
    (b < lo ∧ (E.out lo lk d H news Ω).φ b = E.φ b ∧ (E.out lo lk d H news Ω).H[b]? = E.H[b]? ∧ live E.H[b]?) ∨
    (∃ b0 sz cs, ¬ b < lo ∧ Ω[b - lo]? = some b0 ∧ b0 ∈ Ω ∧ (E.out lo lk d H news Ω).φ b = E.φ b0 ∧ news[b - lo]? = some (.cells sz cs) ∧ lo ≤ b0 ∧ Own E d b0) := by
  rw [out_get hL hs] at hl
  by_cases h : b < lo
  · rw [if_pos h] at hl
    exact .inl ⟨h, by show (if b < lo then _ else _) = _; rw [if_pos h], by rw [out_get hL hs, if_pos h], hl⟩
  · rw [if_neg h] at hl
    right
    cases hx : news[b - lo]? with
    | none => rw [hx] at hl; exact hl.elim
    | some x =>
      obtain ⟨b0, h1, h2⟩ := out_new hs hx
      obtain ⟨sz, cs, rfl⟩ := hs.isCells _ _ hx
      obtain ⟨h3, _, h4⟩ := hs.omega b0 h2
      refine ⟨b0, sz, cs, h, h1, h2, ?_, rfl, h3, h4⟩
      show (if b < lo then _ else E.φ (Ω.getD (b - lo) 0)) = _
      rw [if_neg h, List.getD_eq_getElem?_getD, h1]
      rfl

theorem free_own (hL : Last E lo d lk) {b : Nat} (hb : lo ≤ b) (lv : Nat) : unlocked (lk.take lv) b = true := by
  unfold unlocked
  rw [List.all_eq_true]
  intro l hl
  simp only [Bool.not_eq_true', List.contains_eq_mem, decide_eq_false_iff_not]
  intro hm
  have := hL.locks l (List.mem_of_mem_take hl) b hm
  omega

theorem out_U (hL : Last E lo d lk) {H : Heap} {news : List Blk} {Ω F : List Nat} (hs : Shape E lo d H news Ω F) {lv : Nat} (hlv : lv ≤ d) {g i : Nat} (hu : (E.out lo lk d H news Ω).U (some lv) g i) : E.U (some lv) g i := by
  have hu' := hu
  rcases hu with hu | ⟨b, h1, h2, h3⟩
  · exact .inl hu
  have hl : live (E.out lo lk d H news Ω).H[b]? := by
    split at h3
    · rename_i he; rw [he]; trivial
    · rename_i he; rw [he]; trivial
    · rename_i he; rw [he]; trivial
    · exact h3.elim
  rcases out_live hL hs hl with ⟨p1, p2, p3, p4⟩ | ⟨b0, sz, cs, p1, p2, p3, p4, p5, p6, p7⟩
  · rw [p3] at h3
    refine .inr ⟨b, by rw [← p2]; exact h1, ?_, h3⟩
    rw [hL.tak lv hlv]
    exact h2
  · refine .inr ⟨b0, by rw [← p4]; exact h1, by rw [hL.tak lv hlv]; exact free_own hL p6 lv, ?_⟩
    rcases p7 with ⟨_, _, p7⟩ | ⟨l, n, z, p7, p8⟩
    · rw [p7]; trivial
    · rw [p7]; exact .inl (Nat.lt_of_le_of_lt hlv p8)

theorem out_frozen (hL : Last E lo d lk) {H : Heap} {news : List Blk} {Ω F : List Nat} (hs : Shape E lo d H news Ω F) {b : Nat} (hb : b ∈ F) (lv : Option Nat) (i : Nat) : ¬ (E.out lo lk d H news Ω).U lv (E.φ b) i := by
  intro hu
  obtain ⟨h1, _, h2⟩ := hs.froz b hb
  rcases U_live hu with hu | ⟨b', k1, k2⟩
  · exact (hL.heap.hid _ hu).2 b h2 rfl
  rcases out_live hL hs k2 with ⟨p1, p2, p3, p4⟩ | ⟨b0, sz, cs, p1, p2, p3, p4, p5, p6, p7⟩
  · rw [p2] at k1
    have := hL.heap.inj _ _ p4 h2 k1
    omega
  · rw [p4] at k1
    have := hL.heap.inj _ _ p7.live h2 k1
    subst this
    exact hs.apart _ p3 hb

mutual
theorem clean_to {E E2 : Env} {d : Nat} (hw : E2.w = E.w) (hm : d ≤ E2.m) (hU : ∀ lv g i, lv ≤ d → E2.U (some lv) g i → E.U (some lv) g i) : ∀ (v : V) (u : Value), clean (d + 1) v = true → RepV E v u → RepV E2 v u
  | .int .., _, _, r => by simpa only [RepV] using r
  | .bool _, _, _, r => by simpa only [RepV] using r
  | .str _, _, _, r => by simpa only [RepV] using r
  | .nilp, _, _, r => by simpa only [RepV] using r
  | .nilfn, _, _, r => by simpa only [RepV] using r
  | .ptr .., _, h, _ => by simp [clean] at h
  | .lp .., _, h, _ => by simp [clean] at h
  | .tl .., _, h, _ => by simp [clean] at h
  | .snap .., _, h, _ => by simp [clean] at h
  | .pre .., _, h, _ => by simp [clean] at h
  | .sl .., _, h, _ => by simp [clean] at h
  | .fn .., _, h, _ => by simp [clean] at h
  | .lit lv len cs, _, h, r => by
    simp only [RepV] at r ⊢
    simp only [clean, Bool.and_eq_true, Bool.or_eq_true, beq_iff_eq, decide_eq_true_eq] at h
    obtain ⟨hl, A, cap, h1, h2, h3⟩ := r
    have hlv : lv ≤ d := by omega
    refine ⟨Nat.le_trans hlv hm, A, cap, h1, h2, ?_⟩
    rcases h3 with h3 | ⟨g, o, h3, h4⟩
    · exact .inl h3
    · exact .inr ⟨g, o, h3, clean_toL hw hm hU lv hlv g o cs h.2 h4⟩
  | .agg cs, _, h, r => by
    simp only [RepV] at r ⊢
    simp only [clean] at h
    obtain ⟨vs, h1, h2⟩ := r
    exact ⟨vs, h1, clean_toVs hw hm hU cs _ h h2⟩
  | .tup cs, _, h, r => by
    simp only [RepV] at r ⊢
    simp only [clean] at h
    obtain ⟨vs, h1, h2⟩ := r
    exact ⟨vs, h1, clean_toVs hw hm hU cs _ h h2⟩
theorem clean_toL {E E2 : Env} {d : Nat} (hw : E2.w = E.w) (hm : d ≤ E2.m) (hU : ∀ lv g i, lv ≤ d → E2.U (some lv) g i → E.U (some lv) g i) (lv : Nat) (hlv : lv ≤ d) (g : Nat) : ∀ (o : Nat) (cs : List V), clean.cleanL (d + 1) cs = true → RepL E (some lv) g o cs → RepL E2 (some lv) g o cs
  | _, [], _, _ => by simp only [RepL]
  | o, c :: cs, h, r => by
    simp only [RepL] at r ⊢
    simp only [clean.cleanL, Bool.and_eq_true] at h
    obtain ⟨⟨u, h1, h2⟩, h3, h4⟩ := r
    exact ⟨⟨u, by rw [hw]; exact h1, clean_to hw hm hU c u h.1 h2⟩, fun hu => h3 (hU lv g o hlv hu), clean_toL hw hm hU lv hlv g (o + 1) cs h.2 h4⟩
theorem clean_toVs {E E2 : Env} {d : Nat} (hw : E2.w = E.w) (hm : d ≤ E2.m) (hU : ∀ lv g i, lv ≤ d → E2.U (some lv) g i → E.U (some lv) g i) : ∀ (cs : List V) (vs : List Value), clean.cleanL (d + 1) cs = true → RepVs E cs vs → RepVs E2 cs vs
  | [], _, _, r => by simpa only [RepVs] using r
  | c :: cs, _, h, r => by
    simp only [RepVs] at r ⊢
    simp only [clean.cleanL, Bool.and_eq_true] at h
    obtain ⟨u, us, h1, h2, h3⟩ := r
    exact ⟨u, us, h1, clean_to hw hm hU c u h.1 h2, clean_toVs hw hm hU cs us h.2 h3⟩
end

/-- What handing out comes to. -/
def Handed (E : Env) (lo d : Nat) (lk : Lk) (H : Heap) (news : List Blk) (H2 : Heap) (news2 : List Blk) (R : Env → Prop) : Prop :=
  ∀ Ω F, Shape E lo d H news Ω F → Full E lo d lk news Ω F → ∃ Ω2 F2, Shape E lo d H2 news2 Ω2 F2 ∧ Full E lo d lk news2 Ω2 F2 ∧ Ext news Ω F news2 Ω2 F2 ∧ Newly H Ω F Ω2 F2 ∧ (∀ b : Nat, H[b]? = some Blk.dead → H2[b]? = some Blk.dead) ∧
    ∀ Hf nf Ωf Ff, Shape E lo d Hf nf Ωf Ff → Ext news2 Ω2 F2 nf Ωf Ff → R (E.out lo lk d Hf nf Ωf)

theorem resL_sound {f : Heap × List Blk → V → Option (V × Heap × List Blk)} (hf : ∀ H news v v' H2 news2, f (H, news) v = some (v', (H2, news2)) → (∃ u, RepV E v u) → Handed E lo d lk H news H2 news2 fun Z => ∀ u, RepV E v u → RepV Z v' u) :
    ∀ (vs : List V) (H : Heap) (news : List Blk) (vs' : List V) (H2 : Heap) (news2 : List Blk), resV.resL f (H, news) vs = some (vs', (H2, news2)) → (∃ us, RepVs E vs us) → Handed E lo d lk H news H2 news2 (fun Z => ∀ us, RepVs E vs us → RepVs Z vs' us) ∧ vs'.length = vs.length
  | [], H, news, vs', H2, news2, h, hex => by
    simp only [resV.resL, Option.some.injEq, Prod.mk.injEq] at h
    obtain ⟨rfl, rfl, rfl⟩ := h
    exact ⟨fun Ω F hs hF => ⟨Ω, F, hs, hF, Ext.refl _ _ _, fun b hb => hb.elim .inl fun h => .inr (.inl h), fun _ h => h, fun _ _ _ _ _ _ us hu => by simpa only [RepVs] using hu⟩, rfl⟩
  | v :: vs, H, news, vs', H2, news2, h, hex => by
    simp only [resV.resL, Option.bind_eq_some_iff, Option.map_eq_some_iff, Prod.exists, Prod.mk.injEq] at h
    obtain ⟨v1, H1, n1, h1, vs2, H3, n3, h2, rfl, rfl, rfl⟩ := h
    obtain ⟨us0, hex⟩ := hex
    simp only [RepVs] at hex
    obtain ⟨u0, us1, _, hex1, hex2⟩ := hex
    have k1 := hf H news v v1 H1 n1 h1 ⟨u0, hex1⟩
    obtain ⟨k2, l2⟩ := resL_sound hf vs H1 n1 vs2 H3 n3 h2 ⟨us1, hex2⟩
    refine ⟨fun Ω F hs hF => ?_, by simp [l2]⟩
    obtain ⟨Ω1, F1, a1, a2, a3, a4, a5, a6⟩ := k1 Ω F hs hF
    obtain ⟨Ω2, F2, b1, b2, b3, b4, b5, b6⟩ := k2 Ω1 F1 a1 a2
    refine ⟨Ω2, F2, b1, b2, a3.trans b3, fun b hb => ?_, fun b hb => b5 b (a5 b hb), fun Hf nf Ωf Ff hsf hext us hu => ?_⟩
    · rcases b4 b hb with h | h | h
      · exact a4 b (.inl h)
      · exact a4 b (.inr h)
      · right; right
        rcases a1.same b with hx | hx
        · rcases hs.same b with hy | hy
          · rw [hy, ← hx]; exact h
          · rw [a5 b hy] at h; exact h.elim
        · rw [hx] at h; exact h.elim
    · simp only [RepVs] at hu ⊢
      obtain ⟨u, us', rfl, hu1, hu2⟩ := hu
      exact ⟨u, us', rfl, a6 Hf nf Ωf Ff hsf (b3.trans hext) u hu1, b6 Hf nf Ωf Ff hsf hext us' hu2⟩

theorem handed_same {H : Heap} {news : List Blk} {R : Env → Prop} (h : ∀ Hf nf Ωf Ff, Shape E lo d Hf nf Ωf Ff → R (E.out lo lk d Hf nf Ωf)) : Handed E lo d lk H news H news R :=
  fun Ω F hs hF => ⟨Ω, F, hs, hF, Ext.refl _ _ _, fun b hb => hb.elim .inl fun h => .inr (.inl h), fun _ h => h, fun Hf nf Ωf Ff hsf _ => h Hf nf Ωf Ff hsf⟩

theorem Shape.kill {H : Heap} {news : List Blk} {Ω F : List Nat} (hs : Shape E lo d H news Ω F) {b : Nat} (hb : lo ≤ b) (hl : b < H.length) : Shape E lo d (H.set b .dead) news Ω F where
  len := by simp [hs.len]
  wlen := hs.wlen
  old := fun x hx => by rw [set_get, if_neg (by omega)]; exact hs.old x hx
  same := fun x => by
    rw [set_get]
    split
    · exact .inr rfl
    · exact hs.same x
  omega := fun x hx => by
    obtain ⟨h1, h2, h3⟩ := hs.omega x hx
    refine ⟨h1, ?_, h3⟩
    rw [set_get]
    split
    · rfl
    · exact h2
  froz := fun x hx => by
    obtain ⟨h1, h2, h3⟩ := hs.froz x hx
    refine ⟨h1, ?_, h3⟩
    rw [set_get]
    split
    · rfl
    · exact h2
  nodup := hs.nodup
  apart := hs.apart
  isCells := hs.isCells

theorem get_dead {H : Heap} {b : Nat} (hl : b < H.length) : (H.set b .dead)[b]? = some Blk.dead := by rw [set_get, if_pos ⟨rfl, hl⟩]

/-- A list of the callee's own that is handed out: frozen, or as a new block. -/
theorem handed_own (hL : Last E lo d lk) {th : Bool} {H : Heap} {news : List Blk} {b off n sz : Nat} {cs cs' : List V} {H2 : Heap} {news2 : List Blk} (hb : lo ≤ b) (hlive : live H[b]?) (hown : Own E d b)
    (hr : Handed E lo d lk (H.set b .dead) news H2 news2 (fun Z => ∀ us, RepVs E cs us → RepVs Z cs' us)) (hlen : cs'.length = cs.length)
    (hex : ∃ c t, E.w.heap[E.φ b]? = some (.cells c t (0, 0)) ∧ off + cs.length ≤ c.size ∧ ∀ (i : Nat) v, cs[i]? = some v → ∃ u, c[off + i]? = some u ∧ RepV E v u) {v' : V} {X2 : Heap × List Blk}
    (h : (if th then if off = 0 ∧ cs.length = n * sz then some (V.sl (lo + news2.length) 0 n, H2, news2 ++ [Blk.cells sz cs']) else none else some (V.lit 0 n cs', H2, news2)) = some (v', X2)) :
    Handed E lo d lk H news X2.1 X2.2 fun Z => ∀ cap, n ≤ cap → RepV Z v' (.slice (some ⟨E.φ b, off, none⟩) n cap) := by
  intro Ω F hs hF
  have hbl : b < H.length := by
    rcases Nat.lt_or_ge b H.length with h | h
    · exact h
    · rw [List.getElem?_eq_none h] at hlive; exact hlive.elim
  have hnd : H[b]? ≠ some .dead := fun e => by rw [e] at hlive; exact hlive.elim
  obtain ⟨Ω2, F2, a1, a2, a3, a4, a5, a6⟩ := hr Ω F (hs.kill hb hbl) hF
  have hdead : H2[b]? = some Blk.dead := a5 b (get_dead hbl)
  have hnO : b ∉ Ω2 := by
    intro hm
    rcases a4 b (.inl hm) with h | h | h
    · exact hnd (hs.omega b h).2.1
    · exact hnd (hs.froz b h).2.1
    · rw [get_dead hbl] at h; exact h.elim
  have hnF : b ∉ F2 := by
    intro hm
    rcases a4 b (.inr hm) with h | h | h
    · exact hnd (hs.omega b h).2.1
    · exact hnd (hs.froz b h).2.1
    · rw [get_dead hbl] at h; exact h.elim
  have hnew : ∀ x : Nat, x ∈ Ω2 ∨ x ∈ F2 → x ∈ Ω ∨ x ∈ F ∨ live H[x]? := by
    intro x hx
    rcases a4 x hx with h | h | h
    · exact .inl h
    · exact .inr (.inl h)
    · right; right
      rw [set_get] at h
      split at h
      · exact h.elim
      · exact h
  have hdd : ∀ x : Nat, H[x]? = some Blk.dead → H2[x]? = some Blk.dead := by
    intro x hx
    refine a5 x ?_
    rw [set_get]
    split
    · rfl
    · exact hx
  obtain ⟨c, t, q1, q2, q3⟩ := hex
  have hvs : RepVs E cs ((c.toList.drop off).take cs.length) := by
    refine repVs_of_get _ _ (by simp; omega) fun i v u hi hj => ?_
    have hil : i < cs.length := (List.getElem?_eq_some_iff.1 hi).1
    rw [List.getElem?_take_of_lt hil, List.getElem?_drop, Array.getElem?_toList] at hj
    obtain ⟨u', h1, h2⟩ := q3 i v hi
    rw [hj] at h1
    simp only [Option.some.injEq] at h1
    subst h1
    exact h2
  have hcell : ∀ (i : Nat) u, ((c.toList.drop off).take cs.length)[i]? = some u → c[off + i]? = some u := by
    intro i u hi
    rw [List.getElem?_take] at hi
    split at hi
    · rw [List.getElem?_drop, Array.getElem?_toList] at hi; exact hi
    · cases hi
  cases th with
  | false =>
    simp only [Bool.false_eq_true, if_false, Option.some.injEq, Prod.mk.injEq] at h
    obtain ⟨rfl, rfl⟩ := h
    refine ⟨Ω2, b :: F2, ?_, ?_, ⟨a3.news, a3.om, fun x hx => List.mem_cons.2 (.inr (a3.fr x hx))⟩, ?_, hdd, ?_⟩
    · exact { a1 with
        froz := fun x hx => by
          rcases List.mem_cons.1 hx with rfl | hx
          · exact ⟨hb, hdead, hown.live⟩
          · exact a1.froz x hx
        apart := fun x hx hm => by
          rcases List.mem_cons.1 hm with rfl | hm
          · exact hnO hx
          · exact a1.apart x hx hm }
    · intro j b0 z zs h1 h2
      obtain ⟨c', t', p1, p2, p3⟩ := a2 j b0 z zs h1 h2
      exact ⟨c', t', p1, p2, fun Hf nf Ωf Ff hsf hext => p3 Hf nf Ωf Ff hsf ⟨hext.news, hext.om, fun x hx => hext.fr x (List.mem_cons.2 (.inr hx))⟩⟩
    · rintro x (hx | hx)
      · exact hnew x (.inl hx)
      · rcases List.mem_cons.1 hx with rfl | hx
        · exact .inr (.inr hlive)
        · exact hnew x (.inr hx)
    · intro Hf nf Ωf Ff hsf hext cap hcap
      have hx2 : Ext news2 Ω2 F2 nf Ωf Ff := ⟨hext.news, hext.om, fun x hx => hext.fr x (List.mem_cons.2 (.inr hx))⟩
      simp only [RepV]
      refine ⟨Nat.zero_le _, _, cap, rfl, hcap, .inr ⟨_, _, rfl, ?_⟩⟩
      refine repL_of_vs (a6 Hf nf Ωf Ff hsf hx2 _ hvs) (fun i u hi => ?_) fun i _ => out_frozen hL hsf (hext.fr b (List.mem_cons.2 (.inl rfl))) _ _
      show E.w.cell? _ = _
      rw [cell_of_row _ _ _ _ _ _ q1]
      exact hcell i u hi
  | true =>
    simp only [if_true] at h
    split at h
    case isFalse => cases h
    rename_i hc
    obtain ⟨rfl, hcl⟩ := hc
    simp only [Option.some.injEq, Prod.mk.injEq] at h
    obtain ⟨rfl, rfl⟩ := h
    refine ⟨Ω2 ++ [b], F2, ?_, ?_, ⟨a3.news.trans (List.prefix_append _ _), a3.om.trans (List.prefix_append _ _), a3.fr⟩, ?_, hdd, ?_⟩
    · exact { a1 with
        wlen := by simp [a1.wlen]
        omega := fun x hx => by
          rcases List.mem_append.1 hx with hx | hx
          · exact a1.omega x hx
          · simp only [List.mem_singleton] at hx; subst hx; exact ⟨hb, hdead, hown⟩
        nodup := by
          rw [List.nodup_append]
          refine ⟨a1.nodup, by simp, fun x hx y hy => ?_⟩
          simp only [List.mem_singleton] at hy
          subst hy
          rintro rfl
          exact hnO hx
        apart := fun x hx hm => by
          rcases List.mem_append.1 hx with hx | hx
          · exact a1.apart x hx hm
          · simp only [List.mem_singleton] at hx; subst hx; exact hnF hm
        isCells := fun j x hx => by
          rcases Nat.lt_or_ge j news2.length with hj | hj
          · rw [List.getElem?_append_left hj] at hx; exact a1.isCells j x hx
          · rw [List.getElem?_append_right hj] at hx
            obtain ⟨h1, h2⟩ := List.getElem?_eq_some_iff.1 hx
            simp only [List.length_singleton] at h1
            have hz : j - news2.length = 0 := by omega
            simp only [hz, List.getElem_cons_zero] at h2
            exact ⟨_, _, h2.symm⟩ }
    · intro j b0 z zs h1 h2
      rcases Nat.lt_or_ge j news2.length with hj | hj
      · rw [List.getElem?_append_left hj] at h2
        rw [List.getElem?_append_left (by rw [a1.wlen]; exact hj)] at h1
        obtain ⟨c', t', p1, p2, p3⟩ := a2 j b0 z zs h1 h2
        exact ⟨c', t', p1, p2, fun Hf nf Ωf Ff hsf hext => p3 Hf nf Ωf Ff hsf ⟨(List.prefix_append _ _).trans hext.news, (List.prefix_append _ _).trans hext.om, hext.fr⟩⟩
      · rw [List.getElem?_append_right hj] at h2
        rw [List.getElem?_append_right (by rw [a1.wlen]; exact hj)] at h1
        obtain ⟨hlt, h2⟩ := List.getElem?_eq_some_iff.1 h2
        obtain ⟨_, h1⟩ := List.getElem?_eq_some_iff.1 h1
        simp only [List.length_singleton] at hlt
        have hz : j - news2.length = 0 := by omega
        have hz' : j - Ω2.length = 0 := by rw [a1.wlen]; omega
        simp only [hz, List.getElem_cons_zero, Blk.cells.injEq] at h2
        simp only [hz', List.getElem_cons_zero] at h1
        obtain ⟨rfl, rfl⟩ := h2
        subst h1
        refine ⟨c, t, q1, by rw [hlen]; omega, fun Hf nf Ωf Ff hsf hext i v hv => ?_⟩
        have hx2 : Ext news2 Ω2 F2 nf Ωf Ff := ⟨(List.prefix_append _ _).trans hext.news, (List.prefix_append _ _).trans hext.om, hext.fr⟩
        obtain ⟨_, hg⟩ := repVs_get _ _ (a6 Hf nf Ωf Ff hsf hx2 _ hvs)
        obtain ⟨u, k1, k2⟩ := hg i v hv
        have := hcell i u k1
        rw [Nat.zero_add] at this
        exact ⟨u, this, k2⟩
    · rintro x (hx | hx)
      · rcases List.mem_append.1 hx with hx | hx
        · exact hnew x (.inl hx)
        · simp only [List.mem_singleton] at hx; subst hx; exact .inr (.inr hlive)
      · exact hnew x (.inr hx)
    · intro Hf nf Ωf Ff hsf hext cap hcap
      have hj : nf[news2.length]? = some (.cells sz cs') := pre_get hext.news (by simp)
      have hjΩ : Ωf[news2.length]? = some b := pre_get hext.om (by rw [← a1.wlen]; simp)
      have hlt : ¬ lo + news2.length < lo := by omega
      simp only [RepV]
      refine ⟨?_, ⟨cap, ?_, hcap⟩, fun l k z => ?_⟩
      · show lo + news2.length < lo + nf.length
        have := (List.getElem?_eq_some_iff.1 hj).1
        omega
      · show _ = Value.slice (some ⟨if lo + news2.length < lo then _ else E.φ (Ωf.getD (lo + news2.length - lo) 0), _, _⟩) _ _
        rw [if_neg hlt, Nat.add_sub_cancel_left, List.getD_eq_getElem?_getD, hjΩ]
        rfl
      · rw [out_get hL hsf, if_neg hlt, Nat.add_sub_cancel_left, hj]
        simp

end

end Go.Proofs.Ytblodpbcinkehaa.K
