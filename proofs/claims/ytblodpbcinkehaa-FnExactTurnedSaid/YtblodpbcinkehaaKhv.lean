/-
  A whole run leaves locked blocks alone that are not its own; ready operations of a region may be taken first. No conditions.
-/
import Derived.Test.YtblodpbcinkehaaKhu
set_option linter.unusedVariables false
set_option linter.unusedSimpArgs false
namespace Go.Proofs.Ytblodpbcinkehaa.K

/-- The same call, with other care. -/
def Cx.care (c : Cx) (s k : Bool) : Cx := { c with still := s, calm := k }

theorem eff_kept {c : Cx} (hΓ : KeptOk c.Γ) {ops : Array Oper} {o : Oper} {S : St} {v : V} {H' : Heap} (hb : c.base ≤ S.H.length) (h : effK c ops o S = some (v, H')) :
    Kept c.base c.lk S.H H' ∧ (keepsCells o = true → (isCall o = true → c.calm = true) → sameCells S.H H') := by
  unfold effK at h
  simp only [Option.bind_eq_some_iff] at h
  obtain ⟨b, _, h⟩ := h
  cases b with
  | true => exact opK_kept hΓ hb (by simpa using h)
  | false =>
    simp only [Bool.false_eq_true, if_false, Option.some.injEq, Prod.mk.injEq] at h
    obtain ⟨_, rfl⟩ := h
    exact ⟨Kept.refl _ _ _, fun _ _ => sameCells.refl _⟩
theorem gstep_kept {c : Cx} (hΓ : KeptOk c.Γ) {ops : Array Oper} {o : Oper} {S S' : St} (hb : c.base ≤ S.H.length) (h : gstepK c ops o S = some S') : Kept c.base c.lk S.H S'.H := by
  rw [gstep_eff] at h
  simp only [Option.bind_eq_some_iff, Prod.exists] at h
  obtain ⟨v, H', h1, h2⟩ := h
  split at h2
  case isFalse => cases h2
  simp only [Option.some.injEq] at h2
  subst h2
  exact (eff_kept hΓ hb h1).1

theorem ops_kept {c : Cx} (hΓ : KeptOk c.Γ) {cf : Nat → Cx} (hcf : ∀ i, ∃ s k, cf i = c.care s k) {ops : Array Oper} : ∀ (l : List Nat) {S S' : St}, c.base ≤ S.H.length → opsK cf ops l S = some S' → Kept c.base c.lk S.H S'.H
  | [], S, S', hb, h => by
    simp only [opsK, Option.some.injEq] at h
    subst h
    exact Kept.refl _ _ _
  | i :: l, S, S', hb, h => by
    simp only [opsK] at h
    split at h
    · cases h
    simp only [Option.bind_eq_some_iff] at h
    obtain ⟨S1, h1, h2⟩ := h
    obtain ⟨s, k, hc⟩ := hcf i
    rw [hc] at h1
    have k1 := gstep_kept (c := c.care s k) hΓ hb h1
    exact Kept.trans k1 (ops_kept hΓ hcf l (Nat.le_trans hb k1.1) h2)

theorem iter_kept {lo : Nat} {lk : Lk} {f : St → Option (X × St)} (hf : ∀ S x S', lo ≤ S.H.length → f S = some (x, S') → Kept lo lk S.H S'.H) : ∀ (n : Nat) {S S' : St} {x : X}, lo ≤ S.H.length → iterK f n S = some (x, S') → Kept lo lk S.H S'.H
  | 0, S, S', x, hb, h => by simp [iterK] at h
  | n + 1, S, S', x, hb, h => by
    simp only [iterK] at h
    split at h
    · rename_i S1 h1
      have k1 := hf _ _ _ hb h1
      exact k1.trans (iter_kept hf n (Nat.le_trans hb k1.1) h)
    · exact hf _ _ _ hb h

theorem exec_kept {c : Cx} (hΓ : KeptOk c.Γ) (n : Nat) : ∀ (b : Code) {S S' : St} {x : X}, c.base ≤ S.H.length → execK c n b S = some (x, S') → Kept c.base c.lk S.H S'.H
  | .skip, S, S', x, hb, h => by
    simp only [execK, Option.some.injEq, Prod.mk.injEq] at h
    obtain ⟨_, rfl⟩ := h
    exact Kept.refl _ _ _
  | .region id ops draw, S, S', x, hb, h => by
    simp only [execK, Option.map_eq_some_iff, Prod.mk.injEq] at h
    obtain ⟨S1, h1, _, rfl⟩ := h
    split at h1
    · split at h1
      · simp only [Option.bind_eq_some_iff] at h1
        obtain ⟨S2, h1, h2⟩ := h1
        split at h2
        · cases h2; exact ops_kept hΓ (cf := drawCx c ops) (fun i => ⟨true, _, rfl⟩) _ hb h1
        · cases h2
      · cases h1
    · exact ops_kept hΓ (cf := fun _ => c) (fun i => ⟨c.still, c.calm, rfl⟩) _ hb h1
  | .seq p q, S, S', x, hb, h => by
    simp only [execK] at h
    split at h
    · rename_i S1 h1
      have k1 := exec_kept hΓ n p hb h1
      exact k1.trans (exec_kept hΓ n q (Nat.le_trans hb k1.1) h)
    · exact exec_kept hΓ n p hb h
  | .cond y p q, S, S', x, hb, h => by
    simp only [execK] at h
    split at h
    · exact exec_kept hΓ n p hb h
    · exact exec_kept hΓ n q hb h
    · cases h
  | .block id p, S, S', x, hb, h => by
    simp only [execK] at h
    split at h
    · rename_i i S1 h1
      have k1 := exec_kept hΓ n p hb h1
      split at h <;>
      · simp only [Option.some.injEq, Prod.mk.injEq] at h
        obtain ⟨_, rfl⟩ := h
        exact k1
    · exact exec_kept hΓ n p hb h
  | .loop p, S, S', x, hb, h => by
    simp only [execK] at h
    exact iter_kept (fun S x S' hb h => exec_kept hΓ n p hb h) n hb h
  | .exit id, S, S', x, hb, h => by
    simp only [execK, Option.some.injEq, Prod.mk.injEq] at h
    obtain ⟨_, rfl⟩ := h
    exact Kept.refl _ _ _
  | .ret, S, S', x, hb, h => by
    simp only [execK, Option.some.injEq, Prod.mk.injEq] at h
    obtain ⟨_, rfl⟩ := h
    exact Kept.refl _ _ _
  | .label _, _, _, _, _, h => by simp [execK] at h
  | .goto _, _, _, _, _, h => by simp [execK] at h
  | .scope _, _, _, _, _, h => by simp [execK] at h
  | .refuse _, _, _, _, _, h => by simp [execK] at h
  | .rangeFunc .., _, _, _, _, h => by simp [execK] at h

def Kept0 (lo : Nat) (H H' : Heap) : Prop := H'.length = H.length ∧ ∀ b, b < lo → H'[b]? = H[b]?
theorem Kept0.refl (lo : Nat) (H : Heap) : Kept0 lo H H := ⟨rfl, fun _ _ => rfl⟩
theorem Kept0.trans {lo : Nat} {A B C : Heap} (h : Kept0 lo A B) (k : Kept0 lo B C) : Kept0 lo A C := ⟨k.1.trans h.1, fun b hb => (k.2 b hb).trans (h.2 b hb)⟩
theorem Kept0.kill {lo b : Nat} (H : Heap) (hb : ¬ b < lo) : Kept0 lo H (H.set b .dead) :=
  ⟨by simp, fun x hx => by rw [set_get, if_neg]; rintro ⟨rfl, _⟩; exact hb hx⟩
theorem resL_kept {lo : Nat} {f : Heap × List Blk → V → Option (V × Heap × List Blk)} (hf : ∀ X v v' X', f X v = some (v', X') → Kept0 lo X.1 X'.1) :
    ∀ (vs : List V) (X : Heap × List Blk) (vs' : List V) (X' : Heap × List Blk), resV.resL f X vs = some (vs', X') → Kept0 lo X.1 X'.1
  | [], X, vs', X', h => by
    simp only [resV.resL, Option.some.injEq, Prod.mk.injEq] at h
    obtain ⟨_, rfl⟩ := h
    exact Kept0.refl _ _
  | v :: vs, X, vs', X', h => by
    simp only [resV.resL, Option.bind_eq_some_iff, Option.map_eq_some_iff, Prod.exists] at h
    obtain ⟨v1, Ha, na, h1, vs2, Hb, nb, h2, h3⟩ := h
    simp only [Prod.mk.injEq] at h3
    obtain ⟨_, rfl⟩ := h3
    exact (hf _ _ _ _ h1).trans (resL_kept hf vs _ _ _ h2)
theorem resV_kept {th : Bool} {lo d : Nat} : ∀ (k : Nat) (X : Heap × List Blk) (v v' : V) (X' : Heap × List Blk), resV th lo d k X v = some (v', X') → Kept0 lo X.1 X'.1
  | 0, X, v, v', X', h => by simp [resV] at h
  | k + 1, X, v, v', X', h => by
    have ih := resL_kept fun X v v' X' h => resV_kept (th := th) (lo := lo) (d := d) k X v v' X' h
    have same : ∀ {x : V}, some (x, X) = some (v', X') → Kept0 lo X.1 X'.1 := by
      intro x h
      simp only [Option.some.injEq, Prod.mk.injEq] at h
      obtain ⟨_, rfl⟩ := h
      exact Kept0.refl _ _
    cases v with
    | int _ _ => simp only [resV] at h; exact same h
    | bool _ => simp only [resV] at h; exact same h
    | str _ => simp only [resV] at h; exact same h
    | nilp => simp only [resV] at h; exact same h
    | nilfn => simp only [resV] at h; exact same h
    | ptr b _ =>
      simp only [resV] at h
      split at h
      · exact same h
      · cases h
    | mref b =>
      simp only [resV] at h
      split at h
      · exact same h
      · cases h
    | lit _ _ _ =>
      simp only [resV] at h
      split at h
      · exact same h
      · cases h
    | tl n cs =>
      simp only [resV] at h
      split at h
      · exact same h
      · simp only [Option.map_eq_some_iff, Prod.exists, Prod.mk.injEq] at h
        obtain ⟨cs', Ha, na, h1, _, rfl⟩ := h
        exact ih _ _ _ _ h1
    | snap b n cs =>
      simp only [resV] at h
      split at h
      case h_2 => cases h
      split at h
      · cases h
      rename_i hc
      simp only [Option.bind_eq_some_iff, Prod.exists] at h
      obtain ⟨cs', Ha, na, h1, h⟩ := h
      have k1 := (Kept0.kill X.1 (fun hx => hc (.inl hx))).trans (ih _ _ _ _ h1)
      split at h
      · split at h
        · simp only [Option.some.injEq, Prod.mk.injEq] at h
          obtain ⟨_, rfl⟩ := h
          exact k1
        · cases h
      · simp only [Option.some.injEq, Prod.mk.injEq] at h
        obtain ⟨_, rfl⟩ := h
        exact k1
    | pre b m0 n cs =>
      simp only [resV] at h
      split at h
      case h_2 => cases h
      split at h
      · cases h
      split at h
      · split at h
        · exact same h
        · cases h
      rename_i hlo
      split at h
      · cases h
      simp only [Option.bind_eq_some_iff, Prod.exists] at h
      obtain ⟨cs', Ha, na, h1, h⟩ := h
      have k1 := (Kept0.kill X.1 hlo).trans (ih _ _ _ _ h1)
      split at h
      · split at h
        · simp only [Option.some.injEq, Prod.mk.injEq] at h
          obtain ⟨_, rfl⟩ := h
          exact k1
        · cases h
      · simp only [Option.some.injEq, Prod.mk.injEq] at h
        obtain ⟨_, rfl⟩ := h
        exact k1
    | sl b off n =>
      simp only [resV] at h
      split at h
      · exact same h
      rename_i hlo
      split at h
      case h_2 => cases h
      split at h
      · cases h
      simp only [Option.bind_eq_some_iff, Prod.exists] at h
      obtain ⟨cs', Ha, na, h1, h⟩ := h
      have k1 := (Kept0.kill X.1 hlo).trans (ih _ _ _ _ h1)
      split at h
      · split at h
        · simp only [Option.some.injEq, Prod.mk.injEq] at h
          obtain ⟨_, rfl⟩ := h
          exact k1
        · cases h
      · simp only [Option.some.injEq, Prod.mk.injEq] at h
        obtain ⟨_, rfl⟩ := h
        exact k1
    | agg cs =>
      simp only [resV, Option.map_eq_some_iff, Prod.exists, Prod.mk.injEq] at h
      obtain ⟨cs', Ha, na, h1, _, rfl⟩ := h
      exact ih _ _ _ _ h1
    | tup cs =>
      simp only [resV, Option.map_eq_some_iff, Prod.exists, Prod.mk.injEq] at h
      obtain ⟨cs', Ha, na, h1, _, rfl⟩ := h
      exact ih _ _ _ _ h1
    | _ => simp [resV] at h

theorem take_kept {base : Nat} {H1 H2 : Heap} {x : List Blk} (hk : ∀ b, b < base → H2[b]? = H1[b]?) (hl : base ≤ H2.length) {lk : Lk} {H0 : Heap} (hb : H0.length = base) (h0 : Kept base lk H0 H1) : Kept base lk H0 (H2.take base ++ x) := by
  have hlen : (H2.take base).length = base := by rw [List.length_take]; omega
  refine ⟨by simp; omega, fun b hlt hu => ?_⟩
  rw [List.getElem?_append_left (by omega), List.getElem?_take_of_lt hlt, hk b hlt, h0.2 b hlt hu]

theorem finK_some {P : Program} {rs : List ResultVar} {x : Option (X × St)} {r : List V × Heap} (h : finK P rs x = some r) : ∃ e S, x = some (e, S) ∧ (e = .normal ∨ e = .ret) ∧ resultsK P S.H S.T rs = some r.1 ∧ r.2 = S.H := by
  unfold finK at h
  split at h
  · simp only [Option.map_eq_some_iff] at h; obtain ⟨vs, h1, rfl⟩ := h; exact ⟨_, _, rfl, .inl rfl, h1, rfl⟩
  · simp only [Option.map_eq_some_iff] at h; obtain ⟨vs, h1, rfl⟩ := h; exact ⟨_, _, rfl, .inr rfl, h1, rfl⟩
  · cases h
theorem wayN_kept {c : Cx} (hΓ : KeptOk c.Γ) {n : Nat} {rs : List ResultVar} {N : NilAsk} {S : St} {b : Bool} {r : List V × Heap} (hb : c.base ≤ S.H.length) (h : wayN c n rs N S b = some r) : Kept c.base c.lk S.H r.2 := by
  obtain ⟨e, S', h1, _, _, h4⟩ := finK_some h
  rw [h4]
  exact exec_kept hΓ n _ (S := (S.set N.p (S.T N.z)).set N.q (.bool b)) hb h1
theorem execN_kept {c : Cx} (hΓ : KeptOk c.Γ) {n : Nat} {rs : List ResultVar} {body : Code} {S : St} {r : List V × Heap} (hb : c.base ≤ S.H.length) (h : execN c n rs body S = some r) : Kept c.base c.lk S.H r.2 := by
  unfold execN at h
  split at h
  · obtain ⟨e, S', h1, _, _, h4⟩ := finK_some h
    rw [h4]
    exact exec_kept hΓ n _ hb h1
  · rename_i N hN
    split at h
    case h_2 => cases h
    rename_i S0 h0
    have k0 := exec_kept hΓ n _ hb h0
    split at h
    case isFalse => cases h
    split at h
    · exact k0.trans (wayN_kept hΓ (Nat.le_trans hb k0.1) h)
    · split at h
      case isFalse => cases h
      exact k0.trans (wayN_kept hΓ (Nat.le_trans hb k0.1) h)
    · cases h

theorem run_kept (P : Program) (h : Hints) : ∀ n, KeptOk (runK P h n)
  | 0 => fun k args H lk v H' hr => by simp [runK] at hr
  | n + 1 => fun k args H lk v H' hr => by
    have ih := run_kept P h n
    simp only [runK] at hr
    split at hr
    case h_2 => cases hr
    rename_i fn hfn
    split at hr
    case h_2 => cases hr
    rename_i body hbody
    split at hr
    case isFalse => cases hr
    simp only [Option.bind_eq_some_iff] at hr
    obtain ⟨q, hex, hl⟩ := hr
    have k1 := execN_kept (c := { P := P, hints := h, fn := k, ntmps := fn.ntmps, base := H.length, lk := lk, Γ := runK P h n }) ih (Nat.le_refl _) hex
    unfold leaveK at hl
    split at hl
    · split at hl
      case isFalse => cases hl
      simp only [Option.some.injEq, Prod.mk.injEq] at hl
      obtain ⟨_, rfl⟩ := hl
      exact take_kept (fun _ _ => rfl) k1.1 rfl k1
    · simp only [Option.map_eq_some_iff, Prod.exists, Prod.mk.injEq] at hl
      obtain ⟨v1, H2, news, h1, _, rfl⟩ := hl
      obtain ⟨q1, q2⟩ := resV_kept _ _ _ _ _ h1
      simp only [] at q1 q2
      exact take_kept q2 (by rw [q1]; exact k1.1) rfl k1

/-- A load that no order binds to the store 'y', as the check behind the run finds it. -/
def LsB (c : Cx) (ops : Array Oper) (j : Nat) (y : Oper) (l : List Nat) (S' : St) : Prop := ∃ x t a t' b v, ops[j]? = some x ∧ x.op = .load t (.tmp a) ∧ y.op = .store t' (.tmp b) v ∧ x.guard = none ∧ y.guard = none ∧ Oper.apart ops x y = true ∧
  (∀ k ∈ j :: l, ∀ o, ops[k]? = some o → o.dst ≠ some a ∧ o.dst ≠ some b) ∧ placesOk c.base (S'.T a) (S'.T b) = true
/-- A ready operation may be taken before those that stand ahead of it. -/
theorem bubble {c : Cx} (hΓ : KeptOk c.Γ) {cf : Nat → Cx} (hcf : ∀ i, ∃ k, cf i = c.care true k) {ops : Array Oper} {i : Nat} {y : Oper} (hi : ops[i]? = some y) {r2 : List Nat} {S' : St} :
    ∀ (r1 : List Nat) {S : St}, c.base ≤ S.H.length → opsK cf ops (r1 ++ i :: r2) S = some S' →
      (∀ s1 j s2, r1 = s1 ++ j :: s2 → (∃ x, ops[j]? = some x ∧ swapOk ops x y = true ∧ (isLoad x = true → isCall y = true → (cf i).calm = true)) ∨ LsB c ops j y (s2 ++ i :: r2) S') → opsK cf ops (i :: (r1 ++ r2)) S = some S'
  | [], S, hb, h, _ => h
  | j :: r1, S, hb, h, hj => by
    have h0 := hj [] j r1 rfl
    obtain ⟨x, hx⟩ : ∃ x, ops[j]? = some x := by
      rcases h0 with ⟨x, hx, _⟩ | ⟨x, _, _, _, _, _, hx, _⟩ <;> exact ⟨x, hx⟩
    simp only [List.cons_append, opsK, hx, Option.bind_eq_some_iff] at h
    obtain ⟨S1, h1, h2⟩ := h
    obtain ⟨kj, hcj⟩ := hcf j
    obtain ⟨ki, hci⟩ := hcf i
    have hb1 : c.base ≤ S1.H.length := by
      rw [hcj] at h1
      exact Nat.le_trans hb (gstep_kept (c := c.care true kj) hΓ hb h1).1
    have h3 := bubble hΓ hcf hi r1 hb1 h2 fun s1 j' s2 e => hj (j :: s1) j' s2 (by rw [e]; rfl)
    simp only [opsK, hi, Option.bind_eq_some_iff] at h3
    obtain ⟨S2, h4, h5⟩ := h3
    have h6 : ∃ S3, gstepK (cf i) ops y S = some S3 ∧ gstepK (cf j) ops x S3 = some S2 := by
      rcases h0 with ⟨x', hx', hsw, hcalm⟩ | ⟨x', t, a, t', b, v, hx', ox, oy, gx, gy, ha, hk', hp⟩
      · rw [hx] at hx'; cases hx'
        exact gstep_swap (cx := cf j) (cy := cf i) (by rw [hcj, hci]; rfl) (by rw [hcj, hci]; rfl) (by rw [hcj]; rfl) (by rw [hci]; rfl) hsw h1 h4 (fun hl hk v H' he => by
          have hc : isCall y = true → (cf i).calm = true := hcalm hl
          rw [hci] at he hc
          exact (eff_kept (c := c.care true ki) hΓ hb he).2 hk hc)
      · rw [hx] at hx'; cases hx'
        have sub : ∀ k ∈ r1 ++ r2, k ∈ j :: (r1 ++ i :: r2) := fun k hk => by
          rcases List.mem_append.1 hk with h | h <;> simp [h]
        have e1 : ∀ q, (∀ k ∈ j :: (r1 ++ i :: r2), ∀ o, ops[k]? = some o → o.dst ≠ some q) → S'.T q = S.T q := fun q hq => by
          rw [opsK_T _ h5 fun k hk => hq k (sub k hk), gstep_T h4 (hq i (by simp) y hi), gstep_T h1 (hq j (by simp) x hx)]
        rw [e1 a fun k hk o ho => (hk' k hk o ho).1, e1 b fun k hk o ho => (hk' k hk o ho).2] at hp
        exact ls_swap ox oy gx gy ha h1 h4 (by rw [hci]; exact hp)
    obtain ⟨S3, h6, h7⟩ := h6
    simp only [opsK, hi, h6, Option.bind_some, List.cons_append, hx, h7]
    exact h5

end Go.Proofs.Ytblodpbcinkehaa.K
