/-
  The interpreter without a bound: what some run gives. No conditions.
-/
import Derived.Test.YtblodpbcinkehaaKm
set_option linter.unusedVariables false
set_option linter.unusedSimpArgs false
namespace Go.Proofs.Ytblodpbcinkehaa.K

abbrev Gam := FuncId → List V → Heap → Lk → Option (V × Heap)
def GLe (Γ Γ' : Gam) : Prop := ∀ k a H lk r, Γ k a H lk = some r → Γ' k a H lk = some r
def Cx.at (c : Cx) (Γ : Gam) : Cx := { c with Γ := Γ }

theorem op_le {c : Cx} {Γ : Gam} (hG : GLe c.Γ Γ) {o : Oper} {S : St} {r : V × Heap} (h : opK c o S = some r) : opK (c.at Γ) o S = some r := by
  by_cases hc : isCall o = true
  · unfold isCall at hc
    split at hc
    case h_2 => cases hc
    rename_i f args ats ho
    simp only [opK, ho] at h ⊢
    split at h
    case h_2 => cases h
    rename_i g caps hf
    simp only [Option.bind_eq_some_iff, Prod.exists] at h
    obtain ⟨vs, hvs, as, M, H1, hl, hg⟩ := h
    simp only [hf, hvs, Option.bind_some]
    have : lendArgs (c.at Γ) (c.hints.modes g) S.H (vs ++ caps) = lendArgs c (c.hints.modes g) S.H (vs ++ caps) := by
      have : ∀ (vs : List V) (ms : List Mode) (H : Heap), lendArgs (c.at Γ) ms H vs = lendArgs c ms H vs := by
        intro vs
        induction vs with
        | nil => intro ms H; rfl
        | cons v vs ih =>
          intro ms H
          simp only [lendArgs]
          have : lendArg (c.at Γ) (ms.headD .lent) H v = lendArg c (ms.headD .lent) H v := rfl
          rw [this]
          congr 1
          funext r
          rw [ih]
      exact this _ _ _
    show (lendArgs (c.at Γ) (c.hints.modes g) S.H (vs ++ caps)).bind _ = _
    rw [this, hl]
    exact hG _ _ _ _ _ hg
  · have : opK (c.at Γ) o S = opK c o S := by
      have em : ∀ (ps : List (Nat × V)) (H : Heap), embedL (c.at Γ) H ps = embedL c H ps := by
        intro ps
        induction ps with
        | nil => intro H; rfl
        | cons p ps ih =>
          intro H
          obtain ⟨i, v⟩ := p
          simp only [embedL]
          have : embed (c.at Γ) H v = embed c H v := rfl
          rw [this]
          congr 1
          funext r
          rw [ih]
      obtain ⟨dst, op, ty, pos, aft, gd⟩ := o
      cases op <;> try rfl
      case buildSlice t n ps =>
        simp only [opK]
        congr 1
        funext ps
        rw [em]
        rfl
      case makeMap t r => cases r <;> rfl
      case call k =>
        obtain ⟨callee, args, ats⟩ := k
        cases callee with
        | value f => exact absurd rfl hc
        | builtin b => cases b <;> rfl
        | invoke r n => rfl
    rw [this]
    exact h

theorem gstep_le {c : Cx} {Γ : Gam} (hG : GLe c.Γ Γ) {ops : Array Oper} {o : Oper} {S S' : St} (h : gstepK c ops o S = some S') : gstepK (c.at Γ) ops o S = some S' := by
  rw [gstep_eff] at h ⊢
  simp only [Option.bind_eq_some_iff, Prod.exists] at h
  obtain ⟨v, H', h1, h2⟩ := h
  unfold effK at h1
  simp only [Option.bind_eq_some_iff] at h1
  obtain ⟨b, hb, h1⟩ := h1
  have : effK (c.at Γ) ops o S = some (v, H') := by
    unfold effK
    rw [hb, Option.bind_some]
    cases b with
    | true => simp only [if_true] at h1 ⊢; exact op_le hG h1
    | false => simpa using h1
  rw [this]
  exact h2

theorem ops_le {Γ : Gam} {cf : Nat → Cx} (hG : ∀ i, GLe (cf i).Γ Γ) {ops : Array Oper} : ∀ (l : List Nat) {S S' : St}, opsK cf ops l S = some S' → opsK (fun i => (cf i).at Γ) ops l S = some S'
  | [], S, S', h => h
  | i :: l, S, S', h => by
    simp only [opsK] at h ⊢
    split at h
    · cases h
    simp only [Option.bind_eq_some_iff] at h
    obtain ⟨S1, h1, h2⟩ := h
    rw [gstep_le (hG i) h1]
    exact ops_le hG l h2

theorem iter_le {f g : St → Option (X × St)} (hfg : ∀ S r, f S = some r → g S = some r) : ∀ {n m : Nat}, n ≤ m → ∀ {S : St} {r : X × St}, iterK f n S = some r → iterK g m S = some r
  | 0, m, _, S, r, h => by simp [iterK] at h
  | n + 1, 0, hnm, S, r, h => by omega
  | n + 1, m + 1, hnm, S, r, h => by
    simp only [iterK] at h ⊢
    split at h
    · rename_i S1 h1
      rw [hfg _ _ h1]
      exact iter_le hfg (by omega) h
    · rename_i hne
      rw [hfg _ _ h]
      split
      · rename_i S1 he
        simp only [Option.some.injEq] at he
        subst he
        exact absurd h (hne S1)
      · rfl

theorem exec_le {c : Cx} {Γ : Gam} (hG : GLe c.Γ Γ) {n m : Nat} (hnm : n ≤ m) : ∀ (b : Code) {S : St} {r : X × St}, execK c n b S = some r → execK (c.at Γ) m b S = some r
  | .skip, S, r, h => h
  | .region id ops draw, S, r, h => by
    simp only [execK, Option.map_eq_some_iff] at h ⊢
    obtain ⟨S1, h1, rfl⟩ := h
    refine ⟨S1, ?_, rfl⟩
    split at h1
    · rename_i hd
      rw [if_pos hd]
      split at h1
      · rename_i hok
        rw [if_pos hok]
        rw [Option.bind_eq_some_iff] at h1 ⊢
        obtain ⟨S2, h1, h2⟩ := h1
        exact ⟨S2, ops_le (cf := drawCx c ops) (fun _ => hG) _ h1, h2⟩
      · cases h1
    · rename_i hd
      rw [if_neg hd]
      exact ops_le (cf := fun _ => c) (fun _ => hG) _ h1
  | .seq p q, S, r, h => by
    simp only [execK] at h ⊢
    split at h
    · rename_i S1 h1
      rw [exec_le hG hnm p h1]
      exact exec_le hG hnm q h
    · rename_i hne
      rw [exec_le hG hnm p h]
      split
      · rename_i S1 he
        simp only [Option.some.injEq] at he
        subst he
        exact absurd h (hne S1)
      · rfl
  | .cond y p q, S, r, h => by
    simp only [execK] at h ⊢
    split at h
    · exact exec_le hG hnm p h
    · exact exec_le hG hnm q h
    · cases h
  | .block id p, S, r, h => by
    simp only [execK] at h ⊢
    split at h
    · rename_i i S1 h1
      rw [exec_le hG hnm p h1]
      exact h
    · rename_i hne
      rw [exec_le hG hnm p h]
      split
      · rename_i i S1 he
        simp only [Option.some.injEq] at he
        subst he
        exact absurd h (hne i S1)
      · rfl
  | .loop p, S, r, h => by
    simp only [execK] at h ⊢
    exact iter_le (fun S r h => exec_le hG hnm p h) hnm h
  | .exit id, S, r, h => h
  | .ret, S, r, h => h
  | .label _, _, _, h => by simp [execK] at h
  | .goto _, _, _, h => by simp [execK] at h
  | .scope _, _, _, h => by simp [execK] at h
  | .refuse _, _, _, h => by simp [execK] at h
  | .rangeFunc .., _, _, h => by simp [execK] at h

theorem fin_le {P : Program} {rs : List ResultVar} {x y : Option (X × St)} (h : ∀ r, x = some r → y = some r) {r : List V × Heap} (hr : finK P rs x = some r) : finK P rs y = some r := by
  obtain ⟨e, S, h1, h2, h3, h4⟩ := finK_some hr
  rw [h _ h1]
  obtain ⟨vs, H⟩ := r
  simp only [] at h3 h4
  subst h4
  rcases h2 with rfl | rfl
  · simp only [finK, h3, Option.map_some]
  · simp only [finK, h3, Option.map_some]
theorem execN_le {c : Cx} {Γ : Gam} (hG : GLe c.Γ Γ) {n m : Nat} (hnm : n ≤ m) {rs : List ResultVar} {b : Code} {S : St} {r : List V × Heap} (h : execN c n rs b S = some r) : execN (c.at Γ) m rs b S = some r := by
  unfold execN at h ⊢
  have hw : ∀ N S bb r, wayN c n rs N S bb = some r → wayN (c.at Γ) m rs N S bb = some r := fun N S bb r hr => fin_le (fun q hq => exec_le hG hnm _ hq) hr
  cases hN : nilShape b with
  | none =>
    rw [hN] at h
    simp only [] at h ⊢
    exact fin_le (fun q hq => exec_le hG hnm _ hq) h
  | some N =>
    rw [hN] at h
    simp only [] at h ⊢
    split at h
    case h_2 => cases h
    rename_i S0 h0
    rw [exec_le hG hnm _ h0]
    simp only []
    split at h
    case isFalse => cases h
    rename_i hc
    have hc' : N.p < (c.at Γ).ntmps ∧ N.q < (c.at Γ).ntmps ∧ N.p ≠ N.q ∧ (elemT (c.at Γ).P N.t).isSome = true := hc
    rw [if_pos hc']
    split at h
    · exact hw _ _ _ _ h
    · split at h
      case isFalse => cases h
      rename_i hs
      have h2 := hw _ _ _ _ h
      have h1 := hw _ _ _ _ (hs.trans h)
      rw [if_pos (h1.trans h2.symm)]
      exact h2
    · cases h
theorem run_le (P : Program) (h : Hints) : ∀ {n m : Nat}, n ≤ m → GLe (runK P h n) (runK P h m)
  | 0, m, _, k, a, H, lk, r, hr => by simp [runK] at hr
  | n + 1, 0, hnm, _, _, _, _, _, _ => by omega
  | n + 1, m + 1, hnm, k, a, H, lk, r, hr => by
    have ih : GLe (runK P h n) (runK P h m) := run_le P h (by omega)
    simp only [runK] at hr ⊢
    split at hr
    case h_2 => cases hr
    rename_i fn hfn
    split at hr
    case h_2 => cases hr
    rename_i body hbody
    split at hr
    case isFalse => cases hr
    rename_i hc
    simp only [hbody, hc, and_self, if_true]
    simp only [Option.bind_eq_some_iff] at hr ⊢
    obtain ⟨q, h1, h2⟩ := hr
    exact ⟨q, execN_le (c := { P := P, hints := h, fn := k, ntmps := fn.ntmps, base := H.length, lk := lk, Γ := runK P h n }) ih (by omega : n ≤ m) h1, h2⟩

open Classical in
/-- What a call gives at some bound. -/
noncomputable def runL (P : Program) (h : Hints) : Gam := fun k a H lk =>
  if hx : ∃ n r, runK P h n k a H lk = some r then some (Classical.choose (Classical.choose_spec hx)) else none
theorem runL_of {P : Program} {h : Hints} {n : Nat} {k : FuncId} {a : List V} {H : Heap} {lk : Lk} {r : V × Heap} (hr : runK P h n k a H lk = some r) : runL P h k a H lk = some r := by
  have hx : ∃ n r, runK P h n k a H lk = some r := ⟨n, r, hr⟩
  unfold runL
  rw [dif_pos hx]
  have h1 := Classical.choose_spec (Classical.choose_spec hx)
  have h2 := run_le P h (Nat.le_max_left n (Classical.choose hx)) _ _ _ _ _ hr
  have h3 := run_le P h (Nat.le_max_right n (Classical.choose hx)) _ _ _ _ _ h1
  rw [← h3, h2]
theorem runL_to {P : Program} {h : Hints} {k : FuncId} {a : List V} {H : Heap} {lk : Lk} {r : V × Heap} (hr : runL P h k a H lk = some r) : ∃ n, runK P h n k a H lk = some r := by
  unfold runL at hr
  split at hr
  · rename_i hx
    simp only [Option.some.injEq] at hr
    exact ⟨_, hr ▸ Classical.choose_spec (Classical.choose_spec hx)⟩
  · cases hr

theorem runL_sound (P : Program) (hfol : P.follows .mixedOrders = true) (h : Hints) : CallOk P h (runL P h) where
  body := fun k args H lk r hr => let ⟨n, hn⟩ := runL_to hr; (run_sound P hfol h n).body k args H lk r hn
  run := fun k args H lk L v H' hr => let ⟨n, hn⟩ := runL_to hr; (run_sound P hfol h n).run k args H lk L v H' hn

theorem le_runL (P : Program) (h : Hints) (n : Nat) : GLe (runK P h n) (runL P h) := fun _ _ _ _ _ hr => runL_of hr

/-- A run over the unbounded calls needs but finitely many of them. -/
theorem op_cont {P : Program} {h : Hints} {c : Cx} (hc : c.Γ = runL P h) {o : Oper} {S : St} {r : V × Heap} (hr : opK c o S = some r) : ∃ n, opK (c.at (runK P h n)) o S = some r := by
  by_cases hcl : isCall o = true
  · have hh := hr
    unfold isCall at hcl
    split at hcl
    case h_2 => cases hcl
    rename_i f args ats ho
    simp only [opK, ho] at hr
    split at hr
    case h_2 => cases hr
    rename_i g caps hf
    simp only [Option.bind_eq_some_iff, Prod.exists] at hr
    obtain ⟨vs, hvs, as, M, H1, hl, hg⟩ := hr
    rw [hc] at hg
    obtain ⟨n, hn⟩ := runL_to hg
    refine ⟨n, ?_⟩
    have : ∀ (vs : List V) (ms : List Mode) (H : Heap), lendArgs (c.at (runK P h n)) ms H vs = lendArgs c ms H vs := by
      intro vs
      induction vs with
      | nil => intro ms H; rfl
      | cons v vs ih =>
        intro ms H
        simp only [lendArgs]
        have : lendArg (c.at (runK P h n)) (ms.headD .lent) H v = lendArg c (ms.headD .lent) H v := rfl
        rw [this]
        congr 1
        funext r
        rw [ih]
    simp only [opK, ho, hf, hvs, Option.bind_some]
    show (lendArgs (c.at (runK P h n)) (c.hints.modes g) S.H (vs ++ caps)).bind _ = _
    rw [this, hl]
    exact hn
  · refine ⟨0, ?_⟩
    have em : ∀ (ps : List (Nat × V)) (H : Heap), embedL (c.at (runK P h 0)) H ps = embedL c H ps := by
      intro ps
      induction ps with
      | nil => intro H; rfl
      | cons p ps ih =>
        intro H
        obtain ⟨i, v⟩ := p
        simp only [embedL]
        have : embed (c.at (runK P h 0)) H v = embed c H v := rfl
        rw [this]
        congr 1
        funext r
        rw [ih]
    have : opK (c.at (runK P h 0)) o S = opK c o S := by
      obtain ⟨dst, op, ty, pos, aft, gd⟩ := o
      cases op <;> try rfl
      case buildSlice t n ps =>
        simp only [opK]
        congr 1
        funext ps
        rw [em]
        rfl
      case makeMap t r => cases r <;> rfl
      case call k =>
        obtain ⟨callee, args, ats⟩ := k
        cases callee with
        | value f => exact absurd rfl hcl
        | builtin b => cases b <;> rfl
        | invoke r n => rfl
    rw [this]
    exact hr

theorem gstep_cont {P : Program} {h : Hints} {c : Cx} (hc : c.Γ = runL P h) {ops : Array Oper} {o : Oper} {S S' : St} (hr : gstepK c ops o S = some S') : ∃ n, ∀ m, n ≤ m → gstepK (c.at (runK P h m)) ops o S = some S' := by
  rw [gstep_eff] at hr
  simp only [Option.bind_eq_some_iff, Prod.exists] at hr
  obtain ⟨v, H', h1, h2⟩ := hr
  unfold effK at h1
  simp only [Option.bind_eq_some_iff] at h1
  obtain ⟨b, hb, h1⟩ := h1
  have key : ∃ n, effK (c.at (runK P h n)) ops o S = some (v, H') := by
    unfold effK
    simp only [hb, Option.bind_some]
    cases b with
    | true => simp only [if_true] at h1 ⊢; exact op_cont hc h1
    | false => exact ⟨0, by simpa using h1⟩
  obtain ⟨n, hn⟩ := key
  refine ⟨n, fun m hm => ?_⟩
  have : gstepK (c.at (runK P h n)) ops o S = some S' := by
    rw [gstep_eff, hn]
    exact h2
  exact gstep_le (c := c.at (runK P h n)) (run_le P h hm) this

theorem ops_cont {P : Program} {h : Hints} {cf : Nat → Cx} (hc : ∀ i, (cf i).Γ = runL P h) {ops : Array Oper} : ∀ (l : List Nat) {S S' : St}, opsK cf ops l S = some S' → ∃ n, ∀ m, n ≤ m → opsK (fun i => (cf i).at (runK P h m)) ops l S = some S'
  | [], S, S', hr => ⟨0, fun _ _ => hr⟩
  | i :: l, S, S', hr => by
    simp only [opsK] at hr
    split at hr
    · cases hr
    rename_i o ho
    simp only [Option.bind_eq_some_iff] at hr
    obtain ⟨S1, h1, h2⟩ := hr
    obtain ⟨n1, k1⟩ := gstep_cont (hc i) h1
    obtain ⟨n2, k2⟩ := ops_cont hc l h2
    refine ⟨max n1 n2, fun m hm => ?_⟩
    simp only [opsK, ho, k1 m (by omega), Option.bind_some]
    exact k2 m (by omega)

theorem iter_cont {F : Nat → St → Option (X × St)} {f : St → Option (X × St)} (hf : ∀ S r, f S = some r → ∃ n, ∀ m, n ≤ m → F m S = some r) : ∀ (j : Nat) {S : St} {r : X × St}, iterK f j S = some r → ∃ n, ∀ m, n ≤ m → iterK (F m) j S = some r
  | 0, S, r, h => by simp [iterK] at h
  | j + 1, S, r, h => by
    simp only [iterK] at h
    split at h
    · rename_i S1 h1
      obtain ⟨n1, k1⟩ := hf _ _ h1
      obtain ⟨n2, k2⟩ := iter_cont hf j h
      refine ⟨max n1 n2, fun m hm => ?_⟩
      simp only [iterK, k1 m (by omega)]
      exact k2 m (by omega)
    · rename_i hne
      obtain ⟨n1, k1⟩ := hf _ _ h
      refine ⟨n1, fun m hm => ?_⟩
      simp only [iterK, k1 m hm]
      split
      · rename_i S1 he
        simp only [Option.some.injEq] at he
        subst he
        exact absurd h (hne S1)
      · rfl

theorem exec_cont {P : Program} {h : Hints} {c : Cx} (hc : c.Γ = runL P h) (j : Nat) : ∀ (b : Code) {S : St} {r : X × St}, execK c j b S = some r → ∃ n, ∀ m, n ≤ m → execK (c.at (runK P h m)) m b S = some r
  | .skip, S, r, hr => ⟨0, fun _ _ => hr⟩
  | .region id ops draw, S, r, hr => by
    simp only [execK, Option.map_eq_some_iff] at hr ⊢
    obtain ⟨S1, h1, rfl⟩ := hr
    split at h1
    · rename_i hd
      split at h1
      · rename_i hok
        rw [Option.bind_eq_some_iff] at h1
        obtain ⟨S2, h1, h2⟩ := h1
        obtain ⟨n, k⟩ := ops_cont (cf := drawCx c ops) (fun _ => hc) _ h1
        exact ⟨n, fun m hm => ⟨S1, by rw [if_pos hd, if_pos hok, Option.bind_eq_some_iff]; exact ⟨S2, k m hm, h2⟩, rfl⟩⟩
      · cases h1
    · rename_i hd
      obtain ⟨n, k⟩ := ops_cont (cf := fun _ => c) (fun _ => hc) _ h1
      exact ⟨n, fun m hm => ⟨S1, by rw [if_neg hd]; exact k m hm, rfl⟩⟩
  | .seq p q, S, r, hr => by
    simp only [execK] at hr ⊢
    split at hr
    · rename_i S1 h1
      obtain ⟨n1, k1⟩ := exec_cont hc j p h1
      obtain ⟨n2, k2⟩ := exec_cont hc j q hr
      refine ⟨max n1 n2, fun m hm => ?_⟩
      rw [k1 m (by omega)]
      exact k2 m (by omega)
    · rename_i hne
      obtain ⟨n1, k1⟩ := exec_cont hc j p hr
      refine ⟨n1, fun m hm => ?_⟩
      rw [k1 m hm]
      split
      · rename_i S1 he
        simp only [Option.some.injEq] at he
        subst he
        exact absurd hr (hne S1)
      · rfl
  | .cond y p q, S, r, hr => by
    simp only [execK] at hr ⊢
    split at hr
    · exact exec_cont hc j p hr
    · exact exec_cont hc j q hr
    · cases hr
  | .block id p, S, r, hr => by
    simp only [execK] at hr ⊢
    split at hr
    · rename_i i S1 h1
      obtain ⟨n1, k1⟩ := exec_cont hc j p h1
      refine ⟨n1, fun m hm => ?_⟩
      rw [k1 m hm]
      exact hr
    · rename_i hne
      obtain ⟨n1, k1⟩ := exec_cont hc j p hr
      refine ⟨n1, fun m hm => ?_⟩
      rw [k1 m hm]
      split
      · rename_i i S1 he
        simp only [Option.some.injEq] at he
        subst he
        exact absurd hr (hne i S1)
      · rfl
  | .loop p, S, r, hr => by
    simp only [execK] at hr ⊢
    obtain ⟨n, k⟩ := iter_cont (F := fun m => execK (c.at (runK P h m)) m p) (fun S r h => exec_cont hc j p h) j hr
    exact ⟨max n j, fun m hm => iter_le (fun _ _ h => h) (by omega) (k m (by omega))⟩
  | .exit id, S, r, hr => ⟨0, fun _ _ => hr⟩
  | .ret, S, r, hr => ⟨0, fun _ _ => hr⟩
  | .label _, _, _, h => by simp [execK] at h
  | .goto _, _, _, h => by simp [execK] at h
  | .scope _, _, _, h => by simp [execK] at h
  | .refuse _, _, _, h => by simp [execK] at h
  | .rangeFunc .., _, _, h => by simp [execK] at h

open Classical in
/-- What code gives at some bound of its loops. -/
noncomputable def execL (c : Cx) (b : Code) (S : St) : Option (X × St) :=
  if hx : ∃ n r, execK c n b S = some r then some (Classical.choose (Classical.choose_spec hx)) else none
theorem execL_of {c : Cx} {n : Nat} {b : Code} {S : St} {r : X × St} (hr : execK c n b S = some r) : execL c b S = some r := by
  have hx : ∃ n r, execK c n b S = some r := ⟨n, r, hr⟩
  unfold execL
  rw [dif_pos hx]
  have h1 := Classical.choose_spec (Classical.choose_spec hx)
  have h2 := exec_le (c := c) (Γ := c.Γ) (fun _ _ _ _ _ h => h) (Nat.le_max_left n (Classical.choose hx)) b hr
  have h3 := exec_le (c := c) (Γ := c.Γ) (fun _ _ _ _ _ h => h) (Nat.le_max_right n (Classical.choose hx)) b h1
  rw [← h3, h2]
theorem execL_to {c : Cx} {b : Code} {S : St} {r : X × St} (hr : execL c b S = some r) : ∃ n, ∀ m, n ≤ m → execK c m b S = some r := by
  unfold execL at hr
  split at hr
  · rename_i hx
    simp only [Option.some.injEq] at hr
    exact ⟨_, fun m hm => exec_le (c := c) (Γ := c.Γ) (fun _ _ _ _ _ h => h) hm b (hr ▸ Classical.choose_spec (Classical.choose_spec hx))⟩
  · cases hr
theorem execL_eq {c : Cx} {b : Code} {S : St} {x : Option (X × St)} (h1 : ∀ r, x = some r → execL c b S = some r) (h2 : ∀ n r, execK c n b S = some r → x = some r) : execL c b S = x := by
  cases he : execL c b S with
  | none =>
    cases x with
    | none => rfl
    | some r => rw [h1 r rfl] at he; cases he
  | some r =>
    obtain ⟨n, hn⟩ := execL_to he
    exact (h2 n r (hn n (Nat.le_refl _))).symm

section
variable {c : Cx} {S : St}
theorem execL_skip : execL c .skip S = some (.normal, S) := execL_of (n := 0) rfl
theorem execL_exit (id : Nat) : execL c (.exit id) S = some (.exit id, S) := execL_of (n := 0) rfl
theorem execL_ret : execL c .ret S = some (.ret, S) := execL_of (n := 0) rfl
theorem execL_region (id : Nat) (ops : Array Oper) : execL c (.region id ops false) S = (opsK (fun _ => c) ops (List.range ops.size) S).map fun S' => (.normal, S') :=
  execL_eq (fun r h => execL_of (n := 0) (by simpa only [execK, Bool.false_eq_true, if_false] using h)) fun n r h => by simpa only [execK, Bool.false_eq_true, if_false] using h
theorem execL_draw (id : Nat) (ops : Array Oper) : execL c (.region id ops true) S = if drawOk ops then ((opsK (drawCx c ops) ops (ordK ops) S).bind fun S' => if partOk ops c.base S'.T then some S' else none).map fun S' => (.normal, S') else none := by
  refine execL_eq (fun r h => execL_of (n := 0) ?_) fun n r h => ?_
  · simp only [execK, if_true]
    split at h
    · rename_i hd; rw [if_pos hd]; exact h
    · cases h
  · simp only [execK, if_true] at h
    split
    · rename_i hd; rw [if_pos hd] at h; exact h
    · rename_i hd; rw [if_neg hd] at h; exact h
/-- What follows a piece of code. -/
def thenL (x : Option (X × St)) (k : St → Option (X × St)) : Option (X × St) :=
  match x with
  | some (.normal, S) => k S
  | r => r
theorem execL_seq (p q : Code) : execL c (.seq p q) S = thenL (execL c p S) fun S' => execL c q S' := by
  refine execL_eq (fun r h => ?_) fun n r h => ?_
  · unfold thenL at h
    split at h
    · rename_i S1 h1
      obtain ⟨n1, k1⟩ := execL_to h1
      obtain ⟨n2, k2⟩ := execL_to h
      refine execL_of (n := max n1 n2) ?_
      simp only [execK, k1 _ (Nat.le_max_left ..), k2 _ (Nat.le_max_right ..)]
    · rename_i hne
      obtain ⟨n1, k1⟩ := execL_to h
      refine execL_of (n := n1) ?_
      simp only [execK, k1 _ (Nat.le_refl _)]
      split
      · rename_i S1 he
        simp only [Option.some.injEq] at he
        subst he
        exact absurd h (hne S1)
      · rfl
  · simp only [execK] at h
    split at h
    · rename_i S1 h1
      rw [execL_of h1]
      exact execL_of h
    · rename_i hne
      rw [execL_of h]
      obtain ⟨x, S1⟩ := r
      cases x with
      | normal => exact absurd h (hne S1)
      | exit i => rfl
      | ret => rfl
theorem execL_cond (y : Operand) (p q : Code) : execL c (.cond y p q) S = match ev S.T y with
    | some (.bool true) => execL c p S
    | some (.bool false) => execL c q S
    | _ => none := by
  refine execL_eq (fun r h => ?_) fun n r h => ?_
  · split at h
    · rename_i hy
      obtain ⟨n, k⟩ := execL_to h
      exact execL_of (n := n) (by simp only [execK, hy, k n (Nat.le_refl _)])
    · rename_i hy
      obtain ⟨n, k⟩ := execL_to h
      exact execL_of (n := n) (by simp only [execK, hy, k n (Nat.le_refl _)])
    · cases h
  · simp only [execK] at h
    split at h
    · rename_i hy; simp only [hy]; exact execL_of h
    · rename_i hy; simp only [hy]; exact execL_of h
    · cases h
theorem execL_block (id : Nat) (p : Code) : execL c (.block id p) S = match execL c p S with
    | some (.exit i, S') => if i = id then some (.normal, S') else some (.exit i, S')
    | r => r := by
  refine execL_eq (fun r h => ?_) fun n r h => ?_
  · split at h
    · rename_i i S1 h1
      obtain ⟨n, k⟩ := execL_to h1
      exact execL_of (n := n) (by simp only [execK, k n (Nat.le_refl _)]; exact h)
    · rename_i hne
      obtain ⟨n, k⟩ := execL_to h
      refine execL_of (n := n) ?_
      simp only [execK, k n (Nat.le_refl _)]
      split
      · rename_i i S1 he
        simp only [Option.some.injEq] at he
        subst he
        exact absurd h (hne i S1)
      · rfl
  · simp only [execK] at h
    split at h
    · rename_i i S1 h1
      rw [execL_of h1]
      exact h
    · rename_i hne
      rw [execL_of h]
      obtain ⟨x, S1⟩ := r
      cases x with
      | normal => rfl
      | exit i => exact absurd h (hne i S1)
      | ret => rfl
theorem execL_loop (p : Code) : execL c (.loop p) S = thenL (execL c p S) fun S' => execL c (.loop p) S' := by
  refine execL_eq (fun r h => ?_) fun n r h => ?_
  · unfold thenL at h
    split at h
    · rename_i S1 h1
      obtain ⟨n1, k1⟩ := execL_to h1
      obtain ⟨n2, k2⟩ := execL_to h
      refine execL_of (n := max n1 n2 + 1) ?_
      have h3 := k2 (max n1 n2) (Nat.le_max_right ..)
      simp only [execK] at h3
      simp only [execK, iterK, k1 (max n1 n2 + 1) (by omega)]
      exact iter_le (fun S r h => exec_le (c := c) (Γ := c.Γ) (fun _ _ _ _ _ h => h) (Nat.le_succ _) p h) (Nat.le_refl _) h3
    · rename_i hne
      obtain ⟨n1, k1⟩ := execL_to h
      refine execL_of (n := n1 + 1) ?_
      simp only [execK, iterK, k1 (n1 + 1) (Nat.le_succ _)]
      split
      · rename_i S1 he
        simp only [Option.some.injEq] at he
        subst he
        exact absurd h (hne S1)
      · rfl
  · simp only [execK] at h
    cases n with
    | zero => simp [iterK] at h
    | succ n =>
      simp only [iterK] at h
      split at h
      · rename_i S1 h1
        rw [execL_of h1]
        refine execL_of (n := n + 1) ?_
        simp only [execK]
        exact iter_le (fun _ _ h => h) (Nat.le_succ _) h
      · rename_i hne
        rw [execL_of h]
        obtain ⟨x, S1⟩ := r
        cases x with
        | normal => exact absurd h (hne S1)
        | exit i => rfl
        | ret => rfl
end

/-- The frame of a call over the unbounded calls. -/
noncomputable def cxL (P : Program) (h : Hints) (k ntmps base : Nat) (lk : Lk) : Cx := { P := P, hints := h, fn := k, ntmps := ntmps, base := base, lk := lk, Γ := runL P h }

/-- How a function's results leave. -/
def endL (P : Program) (h : Hints) (k base d : Nat) (rs : List ResultVar) (x : Option (X × St)) : Option (V × Heap) :=
  match x with
  | some (.normal, S) | some (.ret, S) => (resultsK P S.H S.T rs).bind fun vs => leaveK h k base d (oneOf vs) S.H
  | _ => none

theorem runL_intro {P : Program} {h : Hints} {k : FuncId} {fn : Func} {body : Code} (hfn : P.funcs[k]? = some fn) (hb : fn.body = some body) {args : List V} {H : Heap} {lk : Lk} (hns : nilShape body = none) (hlen : args.length ≤ fn.ntmps) (hname : (fn.name == "runtime.NumGoroutine") = false) {r : V × Heap}
    (hr : endL P h k H.length lk.length fn.results.toList (execL (cxL P h k fn.ntmps H.length lk) body { T := argsT args, H := H }) = some r) : runL P h k args H lk = some r := by
  have main : ∀ x S, execL (cxL P h k fn.ntmps H.length lk) body { T := argsT args, H := H } = some (x, S) → (x = .normal ∨ x = .ret) → ((resultsK P S.H S.T fn.results.toList).bind fun vs => leaveK h k H.length lk.length (oneOf vs) S.H) = some r → runL P h k args H lk = some r := by
    intro x S hx hxx hl
    obtain ⟨n, hn⟩ := execL_to hx
    obtain ⟨m, hm⟩ := exec_cont (P := P) (h := h) rfl n body (hn n (Nat.le_refl _))
    refine runL_of (n := m + 1) ?_
    simp only [runK, hfn, hb]
    rw [if_pos ⟨hlen, hname⟩]
    have := hm m (Nat.le_refl _)
    unfold Cx.at cxL at this
    simp only [] at this
    unfold execN
    rw [hns]
    simp only []
    rw [this]
    rcases hxx with rfl | rfl
    · simp only [finK]
      simp only [Option.bind_eq_some_iff] at hl
      obtain ⟨vs, h1, h2⟩ := hl
      simp only [h1, Option.map_some, Option.bind_some, h2]
    · simp only [finK]
      simp only [Option.bind_eq_some_iff] at hl
      obtain ⟨vs, h1, h2⟩ := hl
      simp only [h1, Option.map_some, Option.bind_some, h2]
  unfold endL at hr
  split at hr
  · rename_i S hx; exact main _ S hx (.inl rfl) hr
  · rename_i S hx; exact main _ S hx (.inr rfl) hr
  · cases hr

end Go.Proofs.Ytblodpbcinkehaa.K
