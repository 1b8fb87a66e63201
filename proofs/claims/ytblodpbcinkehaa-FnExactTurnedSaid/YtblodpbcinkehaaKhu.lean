/-
  What a run of the interpreter leaves alone: locked blocks that are not its own. No conditions.
-/
import Derived.Test.YtblodpbcinkehaaKht
set_option linter.unusedVariables false
set_option linter.unusedSimpArgs false
namespace Go.Proofs.Ytblodpbcinkehaa.K

/-- Blocks that are locked, of those below 'lo', stay; the heap does not shrink. -/
def Kept (lo : Nat) (lk : Lk) (H H' : Heap) : Prop := H.length ≤ H'.length ∧ ∀ b, b < lo → unlocked lk b = false → H'[b]? = H[b]?
theorem Kept.refl (lo : Nat) (lk : Lk) (H : Heap) : Kept lo lk H H := ⟨Nat.le_refl _, fun _ _ _ => rfl⟩
theorem Kept.trans {lo : Nat} {lk : Lk} {A B C : Heap} (h : Kept lo lk A B) (k : Kept lo lk B C) : Kept lo lk A C := ⟨Nat.le_trans h.1 k.1, fun b hb hl => (k.2 b hb hl).trans (h.2 b hb hl)⟩

def KeptOk (Γ : FuncId → List V → Heap → Lk → Option (V × Heap)) : Prop := ∀ k args H lk v H', Γ k args H lk = some (v, H') → Kept H.length lk H H'

theorem kept_push {lo : Nat} {lk : Lk} {H : Heap} (x : List Blk) (hl : lo ≤ H.length) : Kept lo lk H (H ++ x) :=
  ⟨by simp, fun b hb _ => by rw [List.getElem?_append_left (by omega)]⟩
theorem kept_set {c : Cx} {H : Heap} {b : Nat} {x : Blk} (hm : c.mayWrite b = true) : Kept c.base c.lk H (H.set b x) := by
  refine ⟨by simp, fun y hy hl => ?_⟩
  rw [set_get, if_neg]
  rintro ⟨rfl, _⟩
  unfold Cx.mayWrite at hm
  simp only [Bool.or_eq_true, decide_eq_true_eq] at hm
  rcases hm with hm | hm
  · omega
  · rw [hm] at hl; cases hl
theorem kept_give {lo k : Nat} {lk : Lk} {H H' : Heap} {v v' : V} (h : giveV lo k H v = some (v', H')) : Kept lo lk H H' :=
  ⟨by rw [give_length lo k H v v' H' h]; exact Nat.le_refl _, fun b hb _ => give_kept lo k H v v' H' h b hb⟩

theorem kept_lend {c : Cx} : ∀ (vs : List V) (ms : List Mode) (H : Heap) (vs' : List V) (M : List Nat) (H' : Heap), lendArgs c ms H vs = some (vs', M, H') → Kept c.base c.lk H H' ∧ H'.length = H.length ∧ (c.calm = true → H' = H)
  | [], ms, H, vs', M, H', h => by
    simp only [lendArgs, Option.some.injEq, Prod.mk.injEq] at h
    obtain ⟨_, _, rfl⟩ := h
    exact ⟨Kept.refl _ _ _, rfl, fun _ => rfl⟩
  | v :: vs, ms, H, vs', M, H', h => by
    simp only [lendArgs, Option.bind_eq_some_iff, Option.map_eq_some_iff, Prod.exists, Prod.mk.injEq] at h
    obtain ⟨v1, M1, Hm, h1, vs2, M2, H2, h2, _, _, rfl⟩ := h
    obtain ⟨k1, l1, c1⟩ := kept_lend vs ms.tail Hm vs2 M2 H2 h2
    have key : Kept c.base c.lk H Hm ∧ Hm.length = H.length ∧ (c.calm = true → Hm = H) := by
      unfold lendArg at h1
      cases hmode : ms.headD .lent with
      | lent =>
        simp only [hmode, Option.map_eq_some_iff, Prod.exists, Prod.mk.injEq] at h1
        obtain ⟨_, _, _, _, _, rfl⟩ := h1
        exact ⟨Kept.refl _ _ _, rfl, fun _ => rfl⟩
      | exact =>
        simp only [hmode, Option.some.injEq, Prod.mk.injEq] at h1
        obtain ⟨_, _, rfl⟩ := h1
        exact ⟨Kept.refl _ _ _, rfl, fun _ => rfl⟩
      | part =>
        simp only [hmode, Option.some.injEq, Prod.mk.injEq] at h1
        obtain ⟨_, _, rfl⟩ := h1
        exact ⟨Kept.refl _ _ _, rfl, fun _ => rfl⟩
      | share =>
        simp only [hmode] at h1
        split at h1
        · cases h1
        rename_i hc
        simp only [Option.map_eq_some_iff, Prod.exists, Prod.mk.injEq] at h1
        obtain ⟨v1', Hm', hg, _, _, rfl⟩ := h1
        exact ⟨kept_give hg, give_length _ _ _ _ _ _ hg, fun hx => absurd hx hc⟩
    exact ⟨key.1.trans k1, l1.trans key.2.1, fun hx => (c1 hx).trans (key.2.2 hx)⟩

theorem kept_embed {c : Cx} : ∀ (ps : List (Nat × V)) (H : Heap) (ps' : List (Nat × V)) (H' : Heap), embedL c H ps = some (ps', H') → Kept c.base c.lk H H'
  | [], H, ps', H', h => by
    simp only [embedL, Option.some.injEq, Prod.mk.injEq] at h
    obtain ⟨_, rfl⟩ := h
    exact Kept.refl _ _ _
  | (i, v) :: ps, H, ps', H', h => by
    simp only [embedL, Option.bind_eq_some_iff, Option.map_eq_some_iff, Prod.exists, Prod.mk.injEq] at h
    obtain ⟨v1, H1, hv, ps2, H3, h2, _, rfl⟩ := h
    refine Kept.trans ?_ (kept_embed ps H1 ps2 H3 h2)
    unfold embed at hv
    split at hv
    · simp only [Option.some.injEq, Prod.mk.injEq] at hv
      obtain ⟨_, rfl⟩ := hv
      exact Kept.refl _ _ _
    split at hv
    · split at hv
      · simp only [Option.some.injEq, Prod.mk.injEq] at hv
        obtain ⟨_, rfl⟩ := hv
        exact Kept.refl _ _ _
      · cases hv
    · exact kept_give hv

theorem kept_store {c : Cx} {t : TypeId} {H H' : Heap} {p x : V} (h : storeK c t H p x = some H') : Kept c.base c.lk H H' := by
  cases p with
  | ptr b off =>
    simp only [storeK] at h
    split at h
    case isFalse => cases h
    rename_i hm
    simp only [Option.bind_eq_some_iff, Prod.exists] at h
    obtain ⟨x1, H1, hx, h⟩ := h
    split at h
    case h_2 => cases h
    split at h
    case isFalse => cases h
    simp only [Option.some.injEq] at h
    subst h
    refine Kept.trans ?_ (kept_set hm)
    split at hx
    · split at hx
      · split at hx
        · simp only [Option.some.injEq, Prod.mk.injEq] at hx
          obtain ⟨_, rfl⟩ := hx
          exact Kept.refl _ _ _
        · cases hx
      · exact kept_give hx
    · simp only [Option.some.injEq, Prod.mk.injEq] at hx
      obtain ⟨_, rfl⟩ := hx
      exact Kept.refl _ _ _
  | _ => simp [storeK] at h

theorem kept_append {c : Cx} {st xt : TypeId} {H H' : Heap} {s x v : V} (hb : c.base ≤ H.length) (h : appendK c st xt H s x = some (v, H')) : Kept c.base c.lk H H' ∧ sameCells H H' := by
  unfold appendK at h
  simp only [Option.bind_eq_some_iff] at h
  obtain ⟨e, _, sz, _, by_, _, z, _, h⟩ := h
  split at h
  case isFalse => cases h
  simp only [Option.bind_eq_some_iff] at h
  obtain ⟨n, _, xs, _, h⟩ := h
  split at h
  case isFalse => cases h
  have none_ : some (s, H) = some (v, H') → Kept c.base c.lk H H' ∧ sameCells H H' := by
    intro h
    simp only [Option.some.injEq, Prod.mk.injEq] at h
    obtain ⟨_, rfl⟩ := h
    exact ⟨Kept.refl _ _ _, sameCells.refl _⟩
  split at h
  · split at h
    · exact none_ h
    · split at h
      case isFalse => cases h
      simp only [Option.some.injEq, Prod.mk.injEq] at h
      obtain ⟨_, rfl⟩ := h
      exact ⟨kept_push _ hb, sameCells.push _ _⟩
  · split at h
    · exact none_ h
    · split at h
      case h_2 => cases h
      rename_i l m' sz' hB
      split at h
      case isFalse => cases h
      rename_i hc
      simp only [Option.some.injEq, Prod.mk.injEq] at h
      obtain ⟨_, rfl⟩ := h
      refine ⟨kept_set hc.2.2.2.2, fun b z cs hb => ?_, fun b kvs hb => ?_⟩ <;>
      · rw [set_get, if_neg]
        · exact hb
        · rintro ⟨rfl, _⟩
          rw [hB] at hb
          cases hb
  · cases h

theorem kept_upd {c : Cx} {t : TypeId} {H H' : Heap} {m k v : V} (h : updK c t H m k v = some H') : Kept c.base c.lk H H' := by
  unfold updK at h
  split at h
  case h_2 => cases h
  split at h
  case h_2 => cases h
  simp only [Option.bind_eq_some_iff] at h
  obtain ⟨q, _, h⟩ := h
  split at h
  case isFalse => cases h
  rename_i hc
  simp only [Option.map_eq_some_iff] at h
  obtain ⟨r, _, rfl⟩ := h
  cases r <;> exact kept_set hc.2.2.2
theorem kept_entry {c : Cx} {t : TypeId} {H H' : Heap} {m k v : V} (h : entryK c t H m k = some (v, H')) : Kept c.base c.lk H H' := by
  unfold entryK at h
  split at h
  case h_2 => cases h
  split at h
  case h_2 => cases h
  simp only [Option.bind_eq_some_iff] at h
  obtain ⟨q, _, h⟩ := h
  split at h
  case isFalse => cases h
  rename_i hc
  simp only [Option.bind_eq_some_iff] at h
  obtain ⟨r, _, h⟩ := h
  cases r with
  | some r =>
    obtain ⟨i, w⟩ := r
    simp only [Option.some.injEq, Prod.mk.injEq] at h
    obtain ⟨_, rfl⟩ := h
    exact kept_set hc.2.2
  | none =>
    simp only [Option.bind_eq_some_iff] at h
    obtain ⟨z, _, h⟩ := h
    split at h
    case isFalse => cases h
    simp only [Option.some.injEq, Prod.mk.injEq] at h
    obtain ⟨_, rfl⟩ := h
    exact kept_set hc.2.2
theorem kept_enter {c : Cx} {H H' : Heap} {m s v : V} (h : enterK c H m s v = some H') : Kept c.base c.lk H H' := by
  unfold enterK at h
  split at h
  case h_2 => cases h
  split at h
  case h_2 => cases h
  split at h
  case isFalse => cases h
  rename_i hc
  simp only [Option.map_eq_some_iff] at h
  obtain ⟨e, _, rfl⟩ := h
  exact kept_set hc.2.2
theorem opK_buildSlice {c : Cx} {o : Oper} {t : TypeId} {n : Nat} {ps : Array (Nat × Operand)} (ho : o.op = .buildSlice t n ps) {S : St} {v : V} {H' : Heap} (h : opK c o S = some (v, H')) : Kept c.base c.lk S.H H' := by
  simp only [opK, ho, Option.bind_eq_some_iff, Prod.exists] at h
  obtain ⟨ps1, h1, ps2, H1, h2, e, h3, sz, h4, z, h5, h6⟩ := h
  split at h6
  case isFalse => cases h6
  simp only [Option.map_eq_some_iff, Prod.mk.injEq] at h6
  obtain ⟨cs, h7, rfl, rfl⟩ := h6
  exact kept_embed _ _ _ _ h2

theorem opK_kept {c : Cx} (hΓ : KeptOk c.Γ) {o : Oper} {S : St} {v : V} {H' : Heap} (hb : c.base ≤ S.H.length) (h : opK c o S = some (v, H')) :
    Kept c.base c.lk S.H H' ∧ (keepsCells o = true → (isCall o = true → c.calm = true) → sameCells S.H H') := by
  have push : ∀ x, Kept c.base c.lk S.H (S.H ++ x) ∧ sameCells S.H (S.H ++ x) := fun x =>
    ⟨kept_push _ hb, sameCells.push _ _⟩
  by_cases hp : isPure o = true
  · by_cases hbs : ∀ t n ps, o.op ≠ .buildSlice t n ps
    · obtain ⟨T, H⟩ := S
      have h1 := opK_param (c := c) hp hbs (T := T) (H := H) (H2 := H)
      rw [h] at h1
      simp only [Option.map_some, Option.some.injEq, Prod.mk.injEq, true_and] at h1
      subst h1
      exact ⟨Kept.refl _ _ _, fun _ _ => sameCells.refl _⟩
    · obtain ⟨t, n, ps, ho⟩ : ∃ t n ps, o.op = .buildSlice t n ps := Classical.byContradiction fun hx => hbs fun t n ps e => hx ⟨t, n, ps, e⟩
      exact ⟨opK_buildSlice ho h, fun hk => by simp [keepsCells, ho] at hk⟩
  · unfold isPure at hp
    cases ho : o.op <;> simp only [ho, not_true_eq_false] at hp <;> simp only [opK, ho] at h <;> try (cases h; done)
    case alloc t =>
      simp only [Option.bind_eq_some_iff, Option.some.injEq, Prod.mk.injEq] at h
      obtain ⟨sz, _, z, hz, rfl, rfl⟩ := h
      exact ⟨(push _).1, fun _ _ => (push _).2⟩
    case box t x =>
      simp only [Option.bind_eq_some_iff] at h
      obtain ⟨sz, _, w, hw, h⟩ := h
      split at h
      · simp only [Option.some.injEq, Prod.mk.injEq] at h
        obtain ⟨rfl, rfl⟩ := h
        exact ⟨(push _).1, fun _ _ => (push _).2⟩
      · cases h
    case load t x =>
      simp only [Option.bind_eq_some_iff, Option.map_eq_some_iff, Prod.mk.injEq] at h
      obtain ⟨p, hp, _, hl, rfl, rfl⟩ := h
      exact ⟨Kept.refl _ _ _, fun _ _ => sameCells.refl _⟩
    case store t p x =>
      simp only [Option.bind_eq_some_iff, Option.map_eq_some_iff, Prod.mk.injEq] at h
      obtain ⟨P, hp, X, hx, H1, h1, rfl, rfl⟩ := h
      exact ⟨kept_store h1, fun hk => by simp [keepsCells, ho] at hk⟩
    case makeSlice t n m =>
      simp only [Option.bind_eq_some_iff] at h
      obtain ⟨N, hn, M, hm, h⟩ := h
      unfold makeK at h
      split at h
      case h_2 => cases h
      simp only [Option.bind_eq_some_iff] at h
      obtain ⟨e, he, sz, hsz, by_, hby, z, hz, h⟩ := h
      split at h
      case isFalse => cases h
      simp only [Option.some.injEq, Prod.mk.injEq] at h
      obtain ⟨rfl, rfl⟩ := h
      exact ⟨(push _).1, fun _ _ => (push _).2⟩
    case makeMap t r =>
      cases r with
      | none =>
        simp only [Option.some.injEq, Prod.mk.injEq] at h
        obtain ⟨rfl, rfl⟩ := h
        exact ⟨(push _).1, fun _ _ => (push _).2⟩
      | some r => cases h
    case lookup t x k ok =>
      simp only [Option.bind_eq_some_iff, Option.map_eq_some_iff, Prod.mk.injEq] at h
      obtain ⟨m, _, kv, _, _, _, _, rfl⟩ := h
      exact ⟨Kept.refl _ _ _, fun _ _ => sameCells.refl _⟩
    case mapUpdate t x k y =>
      simp only [Option.bind_eq_some_iff, Option.map_eq_some_iff, Prod.mk.injEq] at h
      obtain ⟨m, _, kv, _, w, _, H1, h1, _, rfl⟩ := h
      exact ⟨kept_upd h1, fun hk => by simp [keepsCells, ho] at hk⟩
    case mapEntry t x k =>
      simp only [Option.bind_eq_some_iff] at h
      obtain ⟨m, _, kv, _, h⟩ := h
      exact ⟨kept_entry h, fun hk => by simp [keepsCells, ho] at hk⟩
    case entryStore t x st y =>
      simp only [Option.bind_eq_some_iff, Option.map_eq_some_iff, Prod.mk.injEq] at h
      obtain ⟨m, _, sv, _, w, _, H1, h1, _, rfl⟩ := h
      exact ⟨kept_enter h1, fun hk => by simp [keepsCells, ho] at hk⟩
    case call k =>
      obtain ⟨callee, args, ats⟩ := k
      cases callee with
      | invoke r n => cases h
      | value f =>
        simp only [] at h
        split at h
        case h_2 => cases h
        rename_i g caps hf
        simp only [Option.bind_eq_some_iff, Prod.exists] at h
        obtain ⟨vs, hvs, as, M, H1, hl, hg⟩ := h
        obtain ⟨k1, k2, k3⟩ := kept_lend _ _ _ _ _ _ hl
        obtain ⟨q1, q2⟩ := hΓ _ _ _ _ _ _ hg
        have hlocked : c.calm = true → ∀ b, b < S.H.length → H'[b]? = S.H[b]? := fun hc b hlt => by
          have hH := k3 hc
          subst hH
          refine q2 b hlt ?_
          rw [Bool.eq_false_iff]
          intro hx
          unfold unlocked at hx
          rw [List.all_eq_true] at hx
          have := hx _ (List.mem_append.2 (.inr (List.mem_singleton.2 rfl)))
          simp only [Cx.locksFor, hc, if_true, Bool.not_eq_true', List.contains_eq_mem, decide_eq_false_iff_not] at this
          exact this (List.mem_append.2 (.inr (List.mem_range.2 hlt)))
        refine ⟨k1.trans ⟨q1, fun b hbb hbl => q2 b (by rw [k2]; omega) ?_⟩, fun _ hcalm => ⟨fun b z cs hB => ?_, fun b kvs hB => ?_⟩⟩
        · rw [Bool.eq_false_iff] at hbl ⊢
          intro hx
          refine hbl ?_
          unfold unlocked at hx ⊢
          rw [List.all_eq_true] at hx ⊢
          exact fun l hl => hx l (List.mem_append.2 (.inl hl))
        · rw [hlocked (hcalm (by simp [isCall, ho])) b (List.getElem?_eq_some_iff.1 hB).1]; exact hB
        · rw [hlocked (hcalm (by simp [isCall, ho])) b (List.getElem?_eq_some_iff.1 hB).1]; exact hB
      | builtin b =>
        cases b <;> simp only [not_true_eq_false] at hp <;> try (cases h; done)
        case append =>
          simp only [] at h
          split at h
          case h_2 => cases h
          simp only [Option.bind_eq_some_iff] at h
          obtain ⟨p, hp, q, hq, h⟩ := h
          obtain ⟨k1, k2⟩ := kept_append hb h
          exact ⟨k1, fun _ _ => k2⟩

end Go.Proofs.Ytblodpbcinkehaa.K
