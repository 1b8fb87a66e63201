/-
  Regions, branches, loops: what the interpreter computes, the model computes. No conditions.
-/
import Derived.Test.YtblodpbcinkehaaKhw
set_option linter.unusedVariables false
set_option linter.unusedSimpArgs false
namespace Go.Proofs.Ytblodpbcinkehaa.K

section
variable {c : Cx} {E : Env} {S : St} {a : Act} {o : Oper}

theorem getD_put (ts : Array Value) (d i : Nat) (v u : Value) : (ts.setIfInBounds d v).getD i u = if i = d ∧ d < ts.size then v else ts.getD i u := by
  simp only [Array.getD_eq_getD_getElem?, Array.getElem?_setIfInBounds]
  by_cases h : d = i
  · subst h
    by_cases h2 : d < ts.size
    · simp [h2]
    · simp [h2]
  · rw [if_neg h, if_neg (fun e => h e.1.symm)]

theorem Sim.next (hs : Sim c E S a) {E' : Env} {H' : Heap} (ha : After c E E' H') {T : Nat → V} {ts : Array Value} {ds : List Deferred} (hT : ∀ i, RepV E' (T i) (ts.getD i undef)) (hsz : ts.size = a.tmps.size) : Sim c E' { T, H := H' } { tmps := ts, defers := ds } where
  H := ha.H
  lk := by rw [ha.evo.lk, hs.lk]
  n := ha.n
  m := by rw [ha.m, hs.m]
  tmps := hT
  size := hsz.trans hs.size
  heap := ha.heap
  base := by have := hs.base; have h1 := hs.n; have h2 := ha.n; have h3 := ha.evo.len; show _ ≤ H'.length; omega
  locks := hs.locks
  deep := hs.deep

theorem Sim.put (hs : Sim c E S a) {E' : Env} {H' : Heap} (ha : After c E E' H') {d : Nat} {v : V} {u : Value} (hd : d < c.ntmps) (hr : RepV E' v u) : Sim c E' (({ S with H := H' } : St).set d v) (a.put (some d) u) := by
  refine Sim.next hs ha (fun i => ?_) (by simp)
  rw [getD_put]
  show RepV E' (if i = d then v else S.T i) _
  by_cases h : i = d
  · rw [if_pos h, if_pos ⟨h, by rw [hs.size]; exact hd⟩]; exact hr
  · rw [if_neg h, if_neg (fun e => h e.1)]; exact ha.evo.rep hs.heap _ _ (hs.tmps i)
theorem Sim.stay (hs : Sim c E S a) {E' : Env} {H' : Heap} (ha : After c E E' H') : Sim c E' { S with H := H' } a := by
  refine Sim.next (ds := a.defers) hs ha (fun i => ha.evo.rep hs.heap _ _ (hs.tmps i)) rfl

theorem step_sound (hs : Sim c E S a) (hΓ : CallOk c.P c.hints c.Γ) (hd : a.defers = []) {S' : St} (h : stepK c o S = some S') {next : Act → World → Prop} {Q : Exit → Act → World → Prop}
    (hn : ∀ E' a', Sim c E' S' a' → After c E E' S'.H → a'.defers = [] → next a' E'.w) : o.wp c.P a E.w next Q := by
  unfold stepK at h
  split at h
  · rename_i hdst
    simp only [Option.map_eq_some_iff, Prod.exists] at h
    obtain ⟨v, H', hop, rfl⟩ := h
    refine does_op hs hΓ hop next Q fun E' u ha hr => ?_
    rw [hdst]
    exact hn E' a (Sim.stay hs ha) ha hd
  · rename_i d hdst
    split at h
    case isFalse => cases h
    rename_i hlt
    simp only [Option.map_eq_some_iff, Prod.exists] at h
    obtain ⟨v, H', hop, rfl⟩ := h
    refine does_op hs hΓ hop next Q fun E' u ha hr => ?_
    rw [hdst]
    exact hn E' _ (Sim.put hs ha hlt hr) ha hd

theorem wanted_sound (hs : Sim c E S a) {ops : Array Oper} {b : Bool} (h : wantedK ops S.T o = some b) : Region.wanted o (yielded ops a.tmps) = b := by
  unfold wantedK at h
  unfold Region.wanted
  split at h
  · rename_i hg
    rw [hg]
    simpa using h
  · rename_i j want hg
    rw [hg]
    split at h
    · rename_i t ht
      have hr := hs.tmps t
      simp only [yielded, ht, Option.bind_some]
      split at h
      · rename_i b' hb
        simp only [Option.some.injEq] at h
        rw [hb] at hr
        simp only [RepV] at hr
        have : a.tmps[t]? = some (.bool b') := by
          rw [Array.getD_eq_getD_getElem?] at hr
          cases h2 : a.tmps[t]? with
          | none => rw [h2] at hr; simp [undef] at hr
          | some x => rw [h2] at hr; simp only [Option.getD_some] at hr; rw [hr]
        rw [this]
        simpa using h
      · rename_i hb
        simp only [Option.some.injEq] at h
        subst h
        rw [hb] at hr
        simp only [RepV] at hr
        obtain ⟨vs, hv, hvs⟩ := hr
        simp only [RepVs] at hvs
        rw [Array.getD_eq_getD_getElem?] at hv
        cases h2 : a.tmps[t]? with
        | none => simp
        | some x =>
          rw [h2] at hv
          simp only [Option.getD_some] at hv
          rw [hv]
          simp
      · cases h
    · cases h

theorem undef_rep (E : Env) : RepV E undefV undef := by
  simp only [undefV, RepV]
  exact ⟨#[], rfl, by simp only [RepVs]⟩

theorem Sim.care (hs : Sim c E S a) (s k : Bool) : Sim (c.care s k) E S a := ⟨hs.H, hs.lk, hs.n, hs.m, hs.tmps, hs.size, hs.heap, hs.base, hs.locks, hs.deep⟩
theorem Sim.uncare {s k : Bool} (hs : Sim (c.care s k) E S a) : Sim c E S a := ⟨hs.H, hs.lk, hs.n, hs.m, hs.tmps, hs.size, hs.heap, hs.base, hs.locks, hs.deep⟩
theorem After.uncare {s k : Bool} {E' : Env} {H' : Heap} (h : After (c.care s k) E E' H') : After c E E' H' := ⟨h.H, h.n, h.m, h.evo, h.heap, h.forN, h.forG, h.kept⟩

theorem gstep_sound0 (hs : Sim c E S a) (hΓ : CallOk c.P c.hints c.Γ) (hd : a.defers = []) {s k : Bool} {ops : Array Oper} {S' : St} (h : gstepK (c.care s k) ops o S = some S') {next : Act → World → Prop} {Q : Exit → Act → World → Prop}
    (hn : ∀ E' a', Sim c E' S' a' → After c E E' S'.H → a'.defers = [] → next a' E'.w) :
    if Region.wanted o (yielded ops a.tmps) then o.wp c.P a E.w next Q ∧ (∃ r, opK (c.care s k) o S = some r) else next (a.put o.dst undef) E.w := by
  unfold gstepK at h
  simp only [Option.bind_eq_some_iff] at h
  obtain ⟨b, hb, h1⟩ := h
  rw [wanted_sound hs hb]
  cases b with
  | true =>
    rw [if_pos rfl] at h1 ⊢
    refine ⟨step_sound (c := c.care s k) (hs.care s k) hΓ hd h1 fun E1 a1 hs1 ha1 hd1 => hn E1 a1 hs1.uncare ha1.uncare hd1, ?_⟩
    unfold stepK at h1
    split at h1
    · simp only [Option.map_eq_some_iff] at h1; exact ⟨_, h1.choose_spec.1⟩
    · split at h1
      · simp only [Option.map_eq_some_iff] at h1; exact ⟨_, h1.choose_spec.1⟩
      · cases h1
  | false =>
    simp only [Bool.false_eq_true, if_false] at h1 ⊢
    split at h1
    · rename_i d hdst
      split at h1
      case isFalse => cases h1
      rename_i hlt
      simp only [Option.some.injEq] at h1
      subst h1
      rw [hdst]
      exact hn E _ (Sim.put hs (After.refl hs) hlt (undef_rep E)) (show After c E E S.H from After.refl hs) hd
    · rename_i hdst
      simp only [Option.some.injEq] at h1
      subst h1
      rw [hdst]
      exact hn E a hs (After.refl hs) hd

theorem gstep_sound (hs : Sim c E S a) (hΓ : CallOk c.P c.hints c.Γ) (hd : a.defers = []) {s k : Bool} {ops : Array Oper} {S' : St} (h : gstepK (c.care s k) ops o S = some S') {next : Act → World → Prop} {Q : Exit → Act → World → Prop}
    (hn : ∀ E' a', Sim c E' S' a' → After c E E' S'.H → a'.defers = [] → next a' E'.w) :
    if Region.wanted o (yielded ops a.tmps) then o.wp c.P a E.w next Q ∨ (o.asks c.P a E.w ∧ LetsOut Q) else next (a.put o.dst undef) E.w := by
  have := gstep_sound0 hs hΓ hd h (Q := Q) hn
  split
  · rename_i hw; rw [if_pos hw] at this; exact .inl this.1
  · rename_i hw; rw [if_neg hw] at this; exact this

/-! ### Steps beside memory that is not named yet -/
def putsA (a : Act) (ps : List (Nat × Value)) : Act := ps.foldl (fun a p => a.put (some p.1) p.2) a
theorem putsA_cons (a : Act) (p : Nat × Value) (ps : List (Nat × Value)) : putsA a (p :: ps) = putsA (a.put (some p.1) p.2) ps := rfl
theorem putsA_snoc (a : Act) (ps : List (Nat × Value)) (p : Nat × Value) : putsA a (ps ++ [p]) = (putsA a ps).put (some p.1) p.2 := by simp [putsA]
theorem putsA_put {dst : Option Nat} {v : Value} : ∀ (ps : List (Nat × Value)) (a : Act), (∀ p ∈ ps, dst ≠ some p.1) → putsA (a.put dst v) ps = (putsA a ps).put dst v
  | [], _, _ => rfl
  | p :: ps, a, h => by
    rw [putsA_cons, putsA_cons, ← putsA_put ps _ fun q hq => h q (List.mem_cons_of_mem _ hq), Act.put_comm a v p.2]
    intro d hd e
    exact h p (List.mem_cons_self ..) (by rw [hd, e])
theorem exec_puts {ops : Array Oper} {o : Oper} (hsel : ∀ cs b, o.op ≠ .select cs b) : ∀ (ps : List (Nat × Value)) (a : Act), (∀ p ∈ ps, p.1 ∉ o.looksAt ops) → execOp (putsA a ps).eval o = execOp a.eval o
  | [], _, _ => rfl
  | p :: ps, a, h => by
    rw [putsA_cons, exec_puts hsel ps _ fun q hq => h q (List.mem_cons_of_mem _ hq)]
    exact execOp_put (ops := ops) o hsel a (some p.1) p.2 fun d hd => by cases hd; exact h p (List.mem_cons_self ..)
theorem wanted_puts {ops : Array Oper} {o : Oper} : ∀ (ps : List (Nat × Value)) (a : Act), (∀ p ∈ ps, p.1 ∉ o.looksAt ops) → Region.wanted o (yielded ops (putsA a ps).tmps) = Region.wanted o (yielded ops a.tmps)
  | [], _, _ => rfl
  | p :: ps, a, h => by
    rw [putsA_cons, wanted_puts ps _ fun q hq => h q (List.mem_cons_of_mem _ hq)]
    exact wanted_put o a (some p.1) p.2 fun d hd => by cases hd; exact h p (List.mem_cons_self ..)
theorem putsA_defers : ∀ (ps : List (Nat × Value)) (a : Act) (d : Deferred), putsA { a with defers := d :: a.defers } ps = { putsA a ps with defers := d :: (putsA a ps).defers }
  | [], _, _ => rfl
  | p :: ps, a, d => by
    rw [putsA_cons, putsA_cons, ← putsA_defers ps]
    rfl
theorem wp_puts {ops : Array Oper} {P : Program} {o : Oper} {w : World} (hsel : ∀ cs b, o.op ≠ .select cs b) {ps : List (Nat × Value)} {a : Act} (h1 : ∀ p ∈ ps, p.1 ∉ o.looksAt ops) (h2 : ∀ p ∈ ps, o.dst ≠ some p.1) {next next' : Act → World → Prop} {Q : Exit → Act → World → Prop}
    (hn : ∀ a' w', next a' w' → next' (putsA a' ps) w') (h : o.wp P a w next (fun _ _ _ => False)) : o.wp P (putsA a ps) w next' Q := by
  unfold Oper.wp at *
  rw [exec_puts hsel ps a h1]
  generalize (execOp a.eval o).run P w = r at *
  have hput : ∀ a v, (putsA a ps).put o.dst v = putsA (a.put o.dst v) ps := fun a v => (putsA_put ps a h2).symm
  cases r with
  | ok n w' =>
    cases n <;> simp only [Oper.upon] at h ⊢
    case value u => rw [hput]; exact hn _ _ h
    case skip => rw [hput]; exact hn _ _ h
    case defer d => rw [← putsA_defers, hput]; exact hn _ _ h
    case enter f args =>
      refine Calls.mono h fun e w'' he => ?_
      cases e with
      | returned u => simp only [] at he ⊢; rw [hput]; exact hn _ _ he
      | panicked c => exact he.elim
      | outgrown => obtain ⟨_, _, h⟩ := he; exact h.elim
    case row row args => exact Rows.mono h fun u w'' he => by rw [hput]; exact hn _ _ he
  | halt x w' =>
    cases x <;> simp only [Oper.upon] at h

theorem ops_sound {ops : Array Oper} {Q : Exit → Act → World → Prop} {cf : Nat → Cx} (hcf : ∀ i, ∃ s k, cf i = c.care s k) : ∀ (l : List Nat) {E : Env} {S : St} {a : Act} (hs : Sim c E S a) (hΓ : CallOk c.P c.hints c.Γ) (hd : a.defers = []) {S' : St} (h : opsK cf ops l S = some S')
    (hn : ∀ E' a', Sim c E' S' a' → After c E E' S'.H → a'.defers = [] → Q .normal a' E'.w), wpOps c.P ops Q l a E.w
  | [], E, S, a, hs, _, hd, S', h, hn => by
    simp only [opsK, Option.some.injEq] at h
    subst h
    exact hn E a hs (After.refl hs) hd
  | i :: rest, E, S, a, hs, hΓ, hd, S', h, hn => by
    simp only [opsK] at h
    simp only [wpOps]
    split at h
    · cases h
    · rename_i o ho
      simp only [Option.bind_eq_some_iff] at h
      obtain ⟨S1, h1, h2⟩ := h
      obtain ⟨s, k, hc⟩ := hcf i
      rw [hc] at h1
      simp only [ho]
      exact gstep_sound hs hΓ hd h1 fun E1 a1 hs1 ha1 hd1 => ops_sound hcf rest hs1 hΓ hd1 h2 fun E' a' hs' ha' hd' => hn E' a' hs' (ha1.trans ha') hd'

theorem least {p : Nat → Prop} : ∀ n, p n → ∃ k, p k ∧ ∀ j, p j → k ≤ j := by
  intro n
  induction n using Nat.strongRecOn with
  | _ n ih =>
    intro hn
    by_cases h : ∃ m, m < n ∧ p m
    · obtain ⟨m, hm, hp⟩ := h
      exact ih m hm hp
    · exact ⟨n, hn, fun j hj => Nat.le_of_not_lt fun hlt => h ⟨j, hlt, hj⟩⟩

/-- The facts about a region that draws, of its check. -/
theorem drawOk_spec {ops : Array Oper} (h : drawOk ops = true) :
    (∀ i, i < ops.size → i ∈ ordK ops) ∧ (∀ i ∈ ordK ops, i < ops.size) ∧ (∀ i, i < ops.size → (∀ e ∈ edgesK ops i, e < i) ∧ ∀ j ∈ (ancK ops).getD i [], ∃ e ∈ edgesK ops i, e = j ∨ j ∈ (ancK ops).getD e []) ∧ drawPairs ops (ancK ops) (ordK ops) = true := by
  unfold drawOk at h
  simp only [Bool.and_eq_true, List.all_eq_true, List.mem_range, List.contains_eq_mem, decide_eq_true_eq, List.any_eq_true, Bool.or_eq_true, beq_iff_eq] at h
  obtain ⟨⟨⟨h1, h2⟩, h3⟩, h4⟩ := h
  exact ⟨h1, h2, h3, h4⟩

theorem drawPairs_sub {ops : Array Oper} {tab : List (List Nat)} : ∀ {l l' : List Nat}, l'.Sublist l → drawPairs ops tab l = true → drawPairs ops tab l' = true
  | _, _, .slnil, h => h
  | _, _, .cons a s, h => by
    simp only [drawPairs, Bool.and_eq_true] at h
    exact drawPairs_sub s h.2
  | _, _, .cons_cons a s, h => by
    simp only [drawPairs, Bool.and_eq_true, List.all_eq_true] at h ⊢
    exact ⟨fun i hi => h.1 i (s.subset hi), drawPairs_sub s h.2⟩
/-- What the check says of two operations of a region, the first ahead of the second. -/
def PairOk (ops : Array Oper) (tab : List (List Nat)) (j i : Nat) : Prop :=
  i ≠ j ∧ i ∉ tab.getD j [] ∧ (j ∈ tab.getD i [] ∨ pendOk ops tab j i = true ∨ (lsPair ops tab j i).isSome = true ∨ ∃ x y, ops[j]? = some x ∧ ops[i]? = some y ∧ swapOk ops x y = true ∧ (isLoad x = true → isCall y = true → calmAt ops tab i = true))
theorem pair_head {ops : Array Oper} {tab : List (List Nat)} {j : Nat} {r : List Nat} (h : drawPairs ops tab (j :: r) = true) : ∀ i ∈ r, PairOk ops tab j i := by
  intro i hi
  simp only [drawPairs, Bool.and_eq_true, List.all_eq_true] at h
  obtain ⟨q1, q2⟩ := h.1 i hi
  simp only [bne_iff_ne, ne_eq, Bool.not_eq_true', List.contains_eq_mem, decide_eq_false_iff_not] at q1
  refine ⟨q1.1, q1.2, ?_⟩
  simp only [Bool.or_eq_true, List.contains_eq_mem, decide_eq_true_eq] at q2
  rcases q2 with ((q2 | q2) | q2) | q2
  · exact .inl q2
  · exact .inr (.inl q2)
  · exact .inr (.inr (.inl q2))
  · refine .inr (.inr (.inr ?_))
    split at q2
    · rename_i x y hx hy
      simp only [Bool.and_eq_true, Bool.or_eq_true, Bool.not_eq_true'] at q2
      refine ⟨x, y, hx, hy, q2.1, fun hl hc => ?_⟩
      rcases q2.2 with (q3 | q3) | q3
      · rw [hl] at q3; cases q3
      · rw [hc] at q3; cases q3
      · exact q3
    · cases q2
theorem pair_mid {ops : Array Oper} {tab : List (List Nat)} {i : Nat} {r2 : List Nat} : ∀ {r1 : List Nat}, drawPairs ops tab (r1 ++ i :: r2) = true → (∀ j ∈ r1, PairOk ops tab j i) ∧ ∀ m ∈ r2, PairOk ops tab i m
  | [], h => ⟨fun j hj => absurd hj (by simp), pair_head h⟩
  | j :: r1, h => by
    have h1 := pair_head h
    simp only [List.cons_append, drawPairs, Bool.and_eq_true] at h
    obtain ⟨k1, k2⟩ := pair_mid h.2
    refine ⟨fun j' hj' => ?_, k2⟩
    rcases List.mem_cons.1 hj' with rfl | hj'
    · exact h1 i (by simp)
    · exact k1 j' hj'
theorem pendOk_spec {ops : Array Oper} {tab : List (List Nat)} {j m : Nat} (h : pendOk ops tab j m = true) : ∃ x y d, ops[j]? = some x ∧ ops[m]? = some y ∧ isMaker y = true ∧ y.guard = none ∧ y.dst = some d ∧ Oper.apart ops x y = true ∧ Oper.apart ops y x = true ∧ ∀ k, k < ops.size → m ∈ tab.getD k [] → j ∈ tab.getD k [] := by
  unfold pendOk at h
  split at h
  case h_2 => cases h
  rename_i x y hx hy
  simp only [Bool.and_eq_true, Bool.not_eq_true', List.contains_eq_mem, decide_eq_false_iff_not, List.all_eq_true, List.mem_range, Bool.or_eq_true, decide_eq_true_eq] at h
  obtain ⟨⟨⟨⟨⟨h1, h2⟩, h3⟩, h4⟩, h5⟩, h6⟩ := h
  have hg : y.guard = none := by cases hh : y.guard with | none => rfl | some _ => rw [hh] at h2; cases h2
  obtain ⟨d, hd⟩ : ∃ d, y.dst = some d := by cases hh : y.dst with | some d => exact ⟨d, rfl⟩ | none => rw [hh] at h3; cases h3
  exact ⟨x, y, d, hx, hy, h1, hg, hd, h4, h5, fun k hk hm => (h6 k hk).resolve_left (fun e => e hm)⟩
theorem swap_apart {ops : Array Oper} {x y : Oper} (h : swapOk ops x y = true) : Oper.apart ops x y = true ∧ Oper.apart ops y x = true := by
  unfold swapOk at h
  simp only [Bool.and_eq_true] at h
  exact h.1
theorem isNone_eq {α : Type} {x : Option α} (h : isNone x = true) : x = none := by cases x with | none => rfl | some _ => cases h
theorem lsPair_spec {ops : Array Oper} {tab : List (List Nat)} {j i : Nat} {p : Nat × Nat} (h : lsPair ops tab j i = some p) : ∃ x y t t' v, ops[j]? = some x ∧ ops[i]? = some y ∧ x.op = .load t (.tmp p.1) ∧ y.op = .store t' (.tmp p.2) v ∧ x.guard = none ∧ y.guard = none ∧
    Oper.apart ops x y = true ∧ Oper.apart ops y x = true ∧ finalT ops tab j p.1 = true ∧ finalT ops tab i p.2 = true ∧ x.dst ≠ some p.1 ∧ y.dst = none := by
  unfold lsPair at h
  split at h
  case h_2 => cases h
  rename_i x y hx hy
  split at h
  case h_2 => cases h
  rename_i t a t' b v ox oy
  split at h
  case isFalse => cases h
  rename_i hc
  simp only [Option.some.injEq] at h
  subst h
  simp only [Bool.and_eq_true, bne_iff_ne, ne_eq] at hc
  obtain ⟨⟨⟨⟨⟨⟨⟨h1, h2⟩, h3⟩, h4⟩, h5⟩, h6⟩, h7⟩, h8⟩ := hc
  exact ⟨x, y, t, t', v, hx, hy, ox, oy, isNone_eq h1, isNone_eq h2, h3, h4, h5, h6, h7, isNone_eq h8⟩
theorem finalT_spec {ops : Array Oper} {tab : List (List Nat)} {j a k : Nat} {o : Oper} (h : finalT ops tab j a = true) (hk : k ∉ tab.getD j []) (ho : ops[k]? = some o) : o.dst ≠ some a := by
  unfold finalT at h
  simp only [List.all_eq_true, List.mem_range, Bool.or_eq_true, List.contains_eq_mem, decide_eq_true_eq] at h
  have := (h k (Array.getElem?_eq_some_iff.1 ho).1).resolve_left hk
  rw [ho] at this
  simpa using this
theorem partOk_spec {ops : Array Oper} {base : Nat} {T : Nat → V} (h : partOk ops base T = true) {i j : Nat} (hi : i < ops.size) (hj : j < ops.size) (h1 : j ∉ (ancK ops).getD i []) (h2 : i ∉ (ancK ops).getD j []) {p : Nat × Nat} (hp : lsPair ops (ancK ops) j i = some p) : placesOk base (T p.1) (T p.2) = true := by
  unfold partOk at h
  rw [List.all_eq_true] at h
  refine h p ?_
  unfold lsAll
  rw [List.mem_flatMap]
  refine ⟨i, List.mem_range.2 hi, List.mem_filterMap.2 ⟨j, List.mem_range.2 hj, ?_⟩⟩
  rw [if_neg, hp]
  simp only [Bool.or_eq_true, List.contains_eq_mem, decide_eq_true_eq]
  rintro (h | h)
  · exact h1 h
  · exact h2 h
theorem LsB.of {c : Cx} {ops : Array Oper} {r1 r2 : List Nat} {i : Nat} {y : Oper} {S' : St} (hp : drawPairs ops (ancK ops) (r1 ++ i :: r2) = true) (hpart : partOk ops c.base S'.T = true) (hr : ∀ k ∈ r1, k ∉ (ancK ops).getD i []) {s1 s2 : List Nat} {j : Nat} (he : r1 = s1 ++ j :: s2)
    (hls : (lsPair ops (ancK ops) j i).isSome = true) (ho : ops[i]? = some y) : LsB c ops j y (s2 ++ i :: r2) S' := by
  obtain ⟨p, hls⟩ := Option.isSome_iff_exists.1 hls
  obtain ⟨x, y', t, t', v, hx, hy, ox, oy, gx, gy, a1, a2, f1, f2, d1, d2⟩ := lsPair_spec hls
  rw [ho] at hy
  cases hy
  subst he
  have q1 := (pair_mid (r1 := s1) (i := j) (r2 := s2 ++ i :: r2) (by simpa using hp)).2
  have q2 := (pair_mid hp).2
  have hj := hr j (by simp)
  refine ⟨x, t, p.1, t', p.2, v, hx, ox, oy, gx, gy, a1, fun k hk o hok => ?_, partOk_spec hpart (Array.getElem?_eq_some_iff.1 ho).1 (Array.getElem?_eq_some_iff.1 hx).1 hj ((q1 i (by simp)).2.1) hls⟩
  rcases List.mem_cons.1 hk with rfl | hk
  · rw [hx] at hok
    cases hok
    exact ⟨d1, finalT_spec f2 hj hx⟩
  · refine ⟨finalT_spec f1 (q1 k hk).2.1 hok, ?_⟩
    rcases List.mem_append.1 hk with h | h
    · exact finalT_spec f2 (hr k (by simp [h])) hok
    · rcases List.mem_cons.1 h with rfl | h
      · rw [ho] at hok; cases hok; rw [d2]; exact fun e => by cases e
      · exact finalT_spec f2 (q2 k h).2.1 hok
theorem PairOk.apart {ops : Array Oper} {tab : List (List Nat)} {j i : Nat} (h : PairOk ops tab j i) (hn : j ∉ tab.getD i []) : ∃ x y, ops[j]? = some x ∧ ops[i]? = some y ∧ Oper.apart ops x y = true ∧ Oper.apart ops y x = true := by
  rcases h.2.2 with h | h | h | ⟨x, y, h1, h2, h3, _⟩
  · exact absurd h hn
  · obtain ⟨x, y, _, h1, h2, _, _, _, h3, h4, _⟩ := pendOk_spec h
    exact ⟨x, y, h1, h2, h3, h4⟩
  · obtain ⟨p, h⟩ := Option.isSome_iff_exists.1 h
    obtain ⟨x, y, _, _, _, h1, h2, _, _, _, _, h3, h4, _⟩ := lsPair_spec h
    exact ⟨x, y, h1, h2, h3, h4⟩
  · exact ⟨x, y, h1, h2, swap_apart h3⟩
theorem drawPairs_nodup {ops : Array Oper} {tab : List (List Nat)} : ∀ {l : List Nat}, drawPairs ops tab l = true → l.Nodup
  | [], _ => List.nodup_nil
  | j :: l, h => by
    simp only [drawPairs, Bool.and_eq_true, List.all_eq_true, bne_iff_ne, ne_eq] at h
    rw [List.nodup_cons]
    exact ⟨fun hx => (h.1 j hx).1.1 rfl, drawPairs_nodup h.2⟩

theorem mem_edges {ops : Array Oper} {i e : Nat} {o : Oper} (ho : ops[i]? = some o) : e ∈ edgesK ops i ↔ ∃ d ∈ o.after, Region.binds .any d = true ∧ d.on = e := by
  unfold edgesK
  rw [ho]
  simp only [List.mem_map, List.mem_filter, Array.mem_toList_iff]
  constructor
  · rintro ⟨d, ⟨h1, h2⟩, h3⟩; exact ⟨d, h1, h2, h3⟩
  · rintro ⟨d, h1, h2, h3⟩; exact ⟨d, ⟨h1, h2⟩, h3⟩

theorem getD_listed {listed : Array Bool} {i : Nat} (h : i < listed.size) (b b' : Bool) : listed.getD i b = listed.getD i b' := by
  simp [Array.getD_eq_getD_getElem?, h]

/-- An operation that was run ahead of its turn: its number and temp, what it gave, its memory. -/
structure Pd where
  m : Nat
  d : Nat
  u : Value
  g : Nat
/-- What is known of it. -/
structure PdOk (c : Cx) (ops : Array Oper) (E0 E : Env) (S : St) (listed : Array Bool) (r : List Nat) (p : Pd) : Prop where
  op : ∃ o, ops[p.m]? = some o ∧ o.guard = none ∧ o.dst = some p.d ∧ ∃ v sz cs, (∀ H2, opK (drawCx c ops p.m) o ⟨S.T, H2⟩ = some (v H2.length, H2 ++ [.cells sz cs])) ∧ Pends E.w p.u p.g v cs
  hid : p.g ∈ E.hid
  new : E0.w.heap.size ≤ p.g
  old : p.g ∉ E0.hid
  mem : p.m ∈ r
  done : listed.getD p.m true = true
  anc : ∀ j ∈ (ancK ops).getD p.m [], j ∉ r
/-- Something ahead of it keeps it from its turn. -/
def Blocked (ops : Array Oper) (r : List Nat) (m : Nat) : Prop := ∃ r1 r2 b, r = r1 ++ m :: r2 ∧ b ∈ r1 ∧ pendOk ops (ancK ops) b m = true

theorem mem_skip {α : Type} {x y : α} {l r : List α} (h : x ∈ l ++ r) : x ∈ l ++ y :: r := (List.Sublist.append (List.Sublist.refl l) (List.sublist_cons_self y r)).subset h
theorem mem_unskip {α : Type} {x y : α} {l r : List α} (h : x ∈ l ++ y :: r) (hn : x ≠ y) : x ∈ l ++ r := by
  rcases List.mem_append.1 h with h | h
  · exact List.mem_append_left _ h
  · rcases List.mem_cons.1 h with h | h
    · exact absurd h hn
    · exact List.mem_append_right _ h
theorem split_uniq {r1 r2 r1' r2' : List Nat} {m : Nat} (hn : (r1 ++ m :: r2).Nodup) (h : r1 ++ m :: r2 = r1' ++ m :: r2') : r1 = r1' ∧ r2 = r2' := by
  induction r1 generalizing r1' with
  | nil =>
    cases r1' with
    | nil => simpa using h
    | cons x xs =>
      simp only [List.nil_append, List.cons_append, List.cons.injEq] at h
      obtain ⟨rfl, h⟩ := h
      simp only [List.nil_append, List.nodup_cons] at hn
      exact absurd (by rw [h]; simp) hn.1
  | cons y ys ih =>
    cases r1' with
    | nil =>
      simp only [List.nil_append, List.cons_append, List.cons.injEq] at h
      obtain ⟨rfl, h⟩ := h
      simp only [List.cons_append, List.nodup_cons] at hn
      exact absurd (by simp) hn.1
    | cons x xs =>
      simp only [List.cons_append, List.cons.injEq] at h
      obtain ⟨rfl, h⟩ := h
      simp only [List.cons_append, List.nodup_cons] at hn
      obtain ⟨h1, h2⟩ := ih hn.2 h
      exact ⟨by rw [h1], h2⟩

theorem ops_T {cf : Nat → Cx} {ops : Array Oper} {t : Nat} : ∀ (l : List Nat) {S S' : St}, opsK cf ops l S = some S' → (∀ j ∈ l, ∀ o, ops[j]? = some o → o.dst ≠ some t) → S'.T t = S.T t
  | [], S, S', h, _ => by simp only [opsK, Option.some.injEq] at h; rw [h]
  | j :: l, S, S', h, hj => by
    unfold opsK at h
    split at h
    · cases h
    rename_i o ho
    simp only [Option.bind_eq_some_iff] at h
    obtain ⟨S1, h1, h2⟩ := h
    rw [ops_T l h2 fun k hk => hj k (List.mem_cons_of_mem _ hk)]
    have hd := hj j (List.mem_cons_self ..) o ho
    rw [gstep_eff] at h1
    simp only [Option.bind_eq_some_iff] at h1
    obtain ⟨v, _, h1⟩ := h1
    split at h1
    case isFalse => cases h1
    simp only [Option.some.injEq] at h1
    subst h1
    unfold putK
    cases hh : o.dst with
    | none => rfl
    | some d =>
      show (if t = d then _ else _) = _
      rw [if_neg]
      rintro rfl
      exact hd hh
theorem ops_app {cf : Nat → Cx} {ops : Array Oper} : ∀ (l l' : List Nat) {S S' : St}, opsK cf ops (l ++ l') S = some S' → ∃ S1, opsK cf ops l S = some S1 ∧ opsK cf ops l' S1 = some S'
  | [], l', S, S', h => ⟨S, rfl, h⟩
  | j :: l, l', S, S', h => by
    simp only [List.cons_append, opsK] at h ⊢
    split at h
    · cases h
    rename_i o ho
    simp only [Option.bind_eq_some_iff] at h
    obtain ⟨S1, h1, h2⟩ := h
    obtain ⟨S2, h3, h4⟩ := ops_app l l' h2
    exact ⟨S2, by simp only [h1, Option.bind_some, h3], h4⟩
/-- A maker's step: it is wanted. -/
theorem maker_step {cx : Cx} {ops : Array Oper} {o : Oper} {d : Nat} {S S1 : St} (hg : o.guard = none) (hd : o.dst = some d) (h : gstepK cx ops o S = some S1) : d < cx.ntmps ∧ ∃ v H', opK cx o S = some (v, H') ∧ S1 = ({ S with H := H' } : St).set d v := by
  unfold gstepK wantedK at h
  rw [hg] at h
  simp only [Option.bind_some, if_true] at h
  unfold stepK at h
  rw [hd] at h
  simp only [] at h
  split at h
  case isFalse => cases h
  rename_i hlt
  simp only [Option.map_eq_some_iff, Prod.exists] at h
  obtain ⟨v, H', h1, h2⟩ := h
  exact ⟨hlt, v, H', h1, h2.symm⟩

/-- A run in some order, as far as it has come: 'r' is what is left of the canonical order; of it 'pend' was run already. -/
structure Mid (c : Cx) (ops : Array Oper) (E0 : Env) (S' : St) (fuel : Nat) (listed : Array Bool) (r : List Nat) (pend : List Pd) (E : Env) (S : St) (a A : Act) : Prop where
  size : listed.size = ops.size
  count : fuel + pend.length = r.length
  left : ∀ i, i ∈ r ↔ i < ops.size ∧ (listed.getD i true = false ∨ i ∈ pend.map (·.m))
  pairs : drawPairs ops (ancK ops) r = true
  down : ∀ e, listed.getD e false = true → ∀ j ∈ (ancK ops).getD e [], listed.getD j false = true
  sim : Sim c E S a
  defers : a.defers = []
  act : A = putsA a (pend.map fun p => (p.d, p.u))
  rest : opsK (drawCx c ops) ops r S = some S'
  part : partOk ops c.base S'.T = true
  after : After c E0 E S.H
  pds : ∀ p ∈ pend, PdOk c ops E0 E S listed r p
  nodup : (pend.map (·.m)).Nodup
  gs : (pend.map (·.g)).Nodup

theorem Mid.blocked {E0 : Env} {S' : St} {fuel : Nat} {ops : Array Oper} {listed : Array Bool} {r : List Nat} {pend : List Pd} {A : Act} (h : Mid c ops E0 S' fuel listed r pend E S a A) (hb : ∀ p ∈ pend, Blocked ops r p.m) : ∀ (n : Nat) (p : Pd), p ∈ pend → (∃ r1 r2, r = r1 ++ p.m :: r2 ∧ r1.length = n) → ∃ b ∈ r, listed.getD b true = false ∧ ∀ k, k < ops.size → p.m ∈ (ancK ops).getD k [] → b ∈ (ancK ops).getD k [] := by
  intro n
  induction n using Nat.strongRecOn with
  | _ n ih =>
    rintro p hp ⟨r1, r2, hr, hl⟩
    obtain ⟨q1, q2, b, hq, hb1, hb2⟩ := hb p hp
    have hnd := drawPairs_nodup h.pairs
    obtain ⟨rfl, rfl⟩ := split_uniq (by rw [← hr]; exact hnd) (hr.symm.trans hq)
    obtain ⟨_, _, _, _, _, _, _, _, _, _, hk⟩ := pendOk_spec hb2
    have hbr : b ∈ r := by rw [hr]; simp [hb1]
    rcases ((h.left b).1 hbr).2 with hl2 | hl2
    · exact ⟨b, hbr, hl2, hk⟩
    · obtain ⟨q, hq1, rfl⟩ := List.mem_map.1 hl2
      obtain ⟨s1, s2, rfl⟩ := List.append_of_mem hb1
      obtain ⟨b', h1, h2, h3⟩ := ih s1.length (by rw [← hl]; simp) q hq1 ⟨s1, s2 ++ p.m :: r2, by rw [hr]; simp, rfl⟩
      exact ⟨b', h1, h2, fun k hk1 hk2 => h3 k hk1 (hk k hk1 hk2)⟩

theorem opK_looks {c : Cx} {ops : Array Oper} {o : Oper} {T T' : Nat → V} {H : Heap} (h : ∀ t ∈ o.looksAt ops, T t = T' t) : opK c o { T := T, H := H } = opK c o { T := T', H := H } := by
  refine opK_congr c o fun x hx => ?_
  cases x with
  | tmp t =>
    have : t ∈ o.looksAt ops := List.mem_append_left _ (List.mem_filterMap.2 ⟨.tmp t, by simpa using hx, rfl⟩)
    simp only [ev, h t this]
  | _ => rfl
theorem put_T {d : Option Nat} {x : V × Heap} {S : St} {t : Nat} (h : d ≠ some t) : (putK d x S).T t = S.T t := by
  unfold putK
  cases d with
  | none => rfl
  | some d =>
    show (if t = d then _ else _) = _
    rw [if_neg]
    rintro rfl
    exact h rfl

/-- What may have its name now gets it. -/
theorem Mid.settle {E0 : Env} {S' : St} {ops : Array Oper} (hK : KeptOk c.Γ) {listed : Array Bool} {A : Act} {fuel : Nat} {R : World → Prop} : ∀ (n : Nat) {r : List Nat} {pend : List Pd} {E : Env} {S : St} {a : Act}, pend.length = n → Mid c ops E0 S' fuel listed r pend E S a A →
    (∀ r pend E1 S a, Mid c ops E0 S' fuel listed r pend E1 S a A → (∀ p ∈ pend, Blocked ops r p.m) → E1.w = E.w → R E1.w) → R E.w
  | n, r, pend, E, S, a, hlen, h, hR => by
    by_cases hall : ∀ p ∈ pend, Blocked ops r p.m
    · exact hR r pend E S a h hall rfl
    have : ∃ p, p ∈ pend ∧ ¬ Blocked ops r p.m := Classical.byContradiction fun hx => hall fun p hp => Classical.byContradiction fun hy => hx ⟨p, hp, hy⟩
    obtain ⟨p, hp, hnb⟩ := this
    obtain ⟨pa, pb, rfl⟩ := List.append_of_mem hp
    have hpo := h.pds p hp
    obtain ⟨o, ho, hog, hod, v, sz, cs, hop, hpd⟩ := hpo.op
    obtain ⟨r1, r2, rfl⟩ := List.append_of_mem hpo.mem
    obtain ⟨p1, p2⟩ := pair_mid h.pairs
    have hnd := drawPairs_nodup h.pairs
    have hbub := bubble (c := c) hK (cf := drawCx c ops) (fun i => ⟨_, rfl⟩) ho (r2 := r2) r1 h.sim.base h.rest fun s1 j s2 he => by
      have hj : j ∈ r1 := by rw [he]; simp
      rcases (p1 j hj).2.2 with h1 | h1 | h1 | ⟨x, y, hx, hy, hsw, hc⟩
      · exact absurd (by simp [hj]) (hpo.anc j h1)
      · exact absurd ⟨r1, r2, j, rfl, hj, h1⟩ hnb
      · exact .inr (LsB.of h.pairs h.part (fun k hk hc => absurd (by simp [hk]) (hpo.anc k hc)) he h1 ho)
      · rw [ho] at hy
        simp only [Option.some.injEq] at hy
        subst hy
        exact .inl ⟨x, hx, hsw, hc⟩
    simp only [opsK, ho, Option.bind_eq_some_iff] at hbub
    obtain ⟨S1, g1, g2⟩ := hbub
    obtain ⟨hlt, v1, H1, h1, rfl⟩ := maker_step hog hod g1
    have hSe : (⟨S.T, S.H⟩ : St) = S := rfl
    have hop1 := hop S.H
    rw [hSe, h1] at hop1
    simp only [Option.some.injEq, Prod.mk.injEq] at hop1
    obtain ⟨rfl, rfl⟩ := hop1
    have hEn : E.n = E.H.length := by rw [h.after.n, h.after.H]
    obtain ⟨ha, hru⟩ := name_after h.after h.sim.base (Nat.le_trans h.after.evo.len (Nat.le_of_eq h.after.n)) (sz := sz) hpd hpo.hid hpo.new hpo.old
    have hmd : ∀ q ∈ pa ++ pb, q.m ≠ p.m ∧ q.g ≠ p.g ∧ q ∈ pa ++ p :: pb := by
      intro q hq
      have hn1 := h.nodup
      have hn2 := h.gs
      simp only [List.map_append, List.map_cons] at hn1 hn2
      have hmem : q ∈ pa ++ p :: pb := mem_skip hq
      rw [List.nodup_append] at hn1 hn2
      refine ⟨fun e => ?_, fun e => ?_, hmem⟩
      · rcases List.mem_append.1 hq with hq | hq
        · exact hn1.2.2 q.m (List.mem_map_of_mem hq) p.m (List.mem_cons_self ..) e
        · exact (List.nodup_cons.1 hn1.2.1).1 (e ▸ List.mem_map_of_mem hq)
      · rcases List.mem_append.1 hq with hq | hq
        · exact hn2.2.2 q.g (List.mem_map_of_mem hq) p.g (List.mem_cons_self ..) e
        · exact (List.nodup_cons.1 hn2.2.1).1 (e ▸ List.mem_map_of_mem hq)
    -- two that were run early do not look at each other
    have hap : ∀ q ∈ pa ++ pb, ∃ oq, ops[q.m]? = some oq ∧ oq.dst = some q.d ∧ p.d ∉ oq.looksAt ops ∧ oq.dst ≠ some p.d := by
      intro q hq
      obtain ⟨hq1, hq2, hq3⟩ := hmd q hq
      have hqo := h.pds q hq3
      obtain ⟨oq, e1, e2, e3, _⟩ := hqo.op
      have hqr := hqo.mem
      have hkey : ∃ x y, ops[q.m]? = some x ∧ ops[p.m]? = some y ∧ Oper.apart ops x y = true ∧ Oper.apart ops y x = true := by
        rcases List.mem_append.1 hqr with hq4 | hq4
        · exact (p1 q.m hq4).apart fun e => absurd hqr (hpo.anc _ e)
        · rcases List.mem_cons.1 hq4 with hq4 | hq4
          · exact absurd hq4 hq1
          · obtain ⟨x, y, k1, k2, k3, k4⟩ := (p2 q.m hq4).apart fun e => absurd hpo.mem (hqo.anc _ e)
            exact ⟨y, x, k2, k1, k4, k3⟩
      obtain ⟨x, y, k1, k2, k3, k4⟩ := hkey
      rw [e1] at k1
      rw [ho] at k2
      simp only [Option.some.injEq] at k1 k2
      subst k1 k2
      obtain ⟨_, w2, w3⟩ := Oper.apart_spec k3
      exact ⟨oq, e1, e3, w3 _ hod, fun e => w2 _ e (by rw [hod])⟩
    let E1 := E.name p.g (.cells sz cs)
    have hsim : Sim c E1 (({ S with H := S.H ++ [.cells sz cs] } : St).set p.d (v S.H.length)) (a.put (some p.d) p.u) := by
      refine
        { H := by show E.H ++ _ = S.H ++ _; rw [h.sim.H]
          lk := h.sim.lk
          n := by show E.n + 1 = _; rw [h.sim.n]; show _ = (S.H ++ [_]).length; simp
          m := h.sim.m
          tmps := fun i => ?_
          size := by rw [← h.sim.size]; simp [Act.put]
          heap := ha.heap
          base := by show _ ≤ (S.H ++ [_]).length; have := h.sim.base; simp; omega
          locks := h.sim.locks
          deep := h.sim.deep }
      show RepV E1 (if i = p.d then _ else S.T i) (((a.tmps).setIfInBounds p.d p.u).getD i undef)
      rw [getD_put]
      by_cases hi : i = p.d
      · rw [if_pos hi, if_pos ⟨hi, by rw [h.sim.size]; exact hlt⟩]; exact hru
      · rw [if_neg hi, if_neg (fun e => hi e.1)]; exact name_keeps hpo.hid hEn (h.sim.tmps i)
    refine Mid.settle hK (n - 1) (r := r1 ++ r2) (pend := pa ++ pb) (E := E1) (S := ({ S with H := S.H ++ [.cells sz cs] } : St).set p.d (v S.H.length)) (a := a.put (some p.d) p.u) (by simp at hlen ⊢; omega) ?_ fun r' pend' E2 S2 a2 hm hb he => hR r' pend' E2 S2 a2 hm hb he
    have hcount := h.count
    exact
      { size := h.size
        count := by simp at hcount ⊢; omega
        left := fun i => by
          constructor
          · intro hi
            obtain ⟨k1, k2⟩ := (h.left i).1 (mem_skip hi)
            refine ⟨k1, k2.imp id fun k2 => ?_⟩
            obtain ⟨q, hq, rfl⟩ := List.mem_map.1 k2
            refine List.mem_map_of_mem (mem_unskip hq ?_)
            rintro rfl
            have := hnd
            rw [List.nodup_append] at this
            rcases List.mem_append.1 hi with hi | hi
            · exact this.2.2 _ hi _ (List.mem_cons_self ..) rfl
            · exact (List.nodup_cons.1 this.2.1).1 hi
          · rintro ⟨k1, k2⟩
            have hne : i ≠ p.m := by
              rintro rfl
              rcases k2 with k2 | k2
              · rw [hpo.done] at k2; cases k2
              · obtain ⟨q, hq, hqe⟩ := List.mem_map.1 k2
                exact (hmd q hq).1 hqe
            refine mem_unskip ((h.left i).2 ⟨k1, k2.imp id fun k2 => ?_⟩) hne
            obtain ⟨q, hq, rfl⟩ := List.mem_map.1 k2
            exact List.mem_map_of_mem (mem_skip hq)
        pairs := drawPairs_sub (by simp) h.pairs
        down := h.down
        sim := hsim
        defers := h.defers
        act := by
          rw [h.act]
          simp only [List.map_append, List.map_cons]
          unfold putsA
          rw [List.foldl_append, List.foldl_cons, List.foldl_append]
          congr 1
          show (putsA a (pa.map fun p => (p.d, p.u))).put (some p.d) p.u = putsA (a.put (some p.d) p.u) (pa.map fun p => (p.d, p.u))
          refine (putsA_put _ _ fun q hq => ?_).symm
          obtain ⟨q', hq', rfl⟩ := List.mem_map.1 hq
          obtain ⟨oq, _, e2, _, e4⟩ := hap q' (List.mem_append_left _ hq')
          intro e
          exact e4 (by rw [e2, ← e])
        rest := g2
        part := h.part
        after := ha
        pds := fun q hq => by
          obtain ⟨hq1, hq2, hq3⟩ := hmd q hq
          have hqo := h.pds q hq3
          obtain ⟨oq, e1, e2, e3, v2, sz2, cs2, e4, e5⟩ := hqo.op
          obtain ⟨oq', f1, f2, f3, _⟩ := hap q hq
          rw [e1] at f1
          simp only [Option.some.injEq] at f1
          subst f1
          refine ⟨⟨oq, e1, e2, e3, v2, sz2, cs2, fun H2 => ?_, e5⟩, name_hid.2 ⟨hqo.hid, hq2⟩, hqo.new, hqo.old, ?_, hqo.done, fun j hj hjr => hqo.anc j hj (mem_skip hjr)⟩
          · rw [← e4 H2]
            refine (opK_looks (ops := ops) fun t ht => ?_)
            show (if t = p.d then _ else S.T t) = _
            rw [if_neg]
            rintro rfl
            exact f3 ht
          · exact mem_unskip hqo.mem hq1
        nodup := by
          have := h.nodup
          simp only [List.map_append, List.map_cons] at this ⊢
          exact this.sublist (by simp)
        gs := by
          have := h.gs
          simp only [List.map_append, List.map_cons] at this ⊢
          exact this.sublist (by simp) }
  termination_by n => n
  decreasing_by simp at hlen; omega

/-- Two that do not look at each other, of what is left: one that was run early, one that is not run yet. -/
theorem Mid.apart {E0 : Env} {S' : St} {fuel : Nat} {ops : Array Oper} {listed : Array Bool} {r : List Nat} {pend : List Pd} {A : Act} (h : Mid c ops E0 S' fuel listed r pend E S a A) {i : Nat} {oi : Oper} (hi : ops[i]? = some oi) (hir : i ∈ r) (hil : listed.getD i true = false) (hanc : ∀ p ∈ pend, p.m ∉ (ancK ops).getD i []) : ∀ p ∈ pend, ∃ op, ops[p.m]? = some op ∧ Oper.apart ops op oi = true ∧ Oper.apart ops oi op = true := by
  intro p hp
  have hpo := h.pds p hp
  obtain ⟨r1, r2, rfl⟩ := List.append_of_mem hir
  obtain ⟨p1, p2⟩ := pair_mid h.pairs
  have hne : p.m ≠ i := by
    intro e
    have := hpo.done
    rw [e, hil] at this
    cases this
  rcases List.mem_append.1 hpo.mem with hm | hm
  · obtain ⟨x, y, k1, k2, k3, k4⟩ := (p1 p.m hm).apart (hanc p hp)
    rw [hi] at k2
    simp only [Option.some.injEq] at k2
    subst k2
    exact ⟨x, k1, k3, k4⟩
  · rcases List.mem_cons.1 hm with hm | hm
    · exact absurd hm hne
    · have hsz : p.m < listed.size := by
        rcases Nat.lt_or_ge p.m listed.size with hl | hl
        · exact hl
        · rw [h.size] at hl
          obtain ⟨o, ho, _⟩ := hpo.op
          exact absurd (Array.getElem?_eq_some_iff.1 ho).1 (Nat.not_lt.2 hl)
      have hna : i ∉ (ancK ops).getD p.m [] := by
        intro e
        have := h.down p.m (by rw [getD_listed hsz false true]; exact hpo.done) i e
        have hi2 : i < listed.size := by rw [h.size]; exact (Array.getElem?_eq_some_iff.1 hi).1
        rw [getD_listed hi2 false true, hil] at this
        cases this
      obtain ⟨x, y, k1, k2, k3, k4⟩ := (p2 p.m hm).apart hna
      rw [hi] at k1
      simp only [Option.some.injEq] at k1
      subst k1
      exact ⟨y, k2, k4, k3⟩

theorem select_none {c : Cx} {o : Oper} {S : St} {r : V × Heap} (h : opK c o S = some r) : ∀ cs b, o.op ≠ .select cs b := by
  intro cs b e
  unfold opK at h
  simp only [e] at h
  cases h

theorem draws_sound {ops : Array Oper} {E0 : Env} (hh0 : RelH E0) {Q : Exit → Act → World → Prop} (hok : drawOk ops = true) (hΓ : CallOk c.P c.hints c.Γ) (hK : KeptOk c.Γ) {S' : St} (hn : ∀ E' a', Sim c E' S' a' → After c E0 E' S'.H → a'.defers = [] → Q .normal a' E'.w) : ∀ (fuel : Nat) (listed : Array Bool) (r : List Nat) (pend : List Pd) {E : Env} {S : St} {a A : Act},
    Mid c ops E0 S' fuel listed r pend E S a A → (∀ p ∈ pend, Blocked ops r p.m) → wpAny c.P .any ops Q fuel listed A E.w
  | 0, listed, r, pend, E, S, a, A, h, hb => by
    have hun : ∀ i ∈ r, listed.getD i true = false → False := by
      intro i hi hl
      have hnd := drawPairs_nodup h.pairs
      have hle : pend.length + 1 ≤ r.length := by
        have h1 : (i :: pend.map (·.m)).Nodup := by
          refine List.nodup_cons.2 ⟨fun hm => ?_, h.nodup⟩
          obtain ⟨p, hp, rfl⟩ := List.mem_map.1 hm
          have := (h.pds p hp).done
          rw [hl] at this
          cases this
        have h2 := List.Nodup.length_le_of_subset h1 (l₂ := r) fun x hx => by
          rcases List.mem_cons.1 hx with rfl | hx
          · exact hi
          · obtain ⟨p, hp, rfl⟩ := List.mem_map.1 hx
            exact (h.pds p hp).mem
        simpa using h2
      have := h.count
      omega
    have hp0 : pend = [] := by
      cases pend with
      | nil => rfl
      | cons p ps =>
        obtain ⟨r1, r2, hr⟩ := List.append_of_mem (h.pds p (List.mem_cons_self ..)).mem
        obtain ⟨b, hb1, hb2, _⟩ := h.blocked hb _ p (List.mem_cons_self ..) ⟨r1, r2, hr, rfl⟩
        exact (hun b hb1 hb2).elim
    subst hp0
    have hr0 : r = [] := by
      have := h.count
      exact List.eq_nil_of_length_eq_zero (by simp at this; omega)
    subst hr0
    have hrest := h.rest
    simp only [opsK, Option.some.injEq] at hrest
    subst hrest
    have hA : A = a := h.act
    subst hA
    refine ⟨?_, hn E A h.sim h.after h.defers⟩
    rw [List.eq_nil_iff_forall_not_mem]
    intro i hi
    obtain ⟨h1, o, h2, _⟩ := mem_ready.1 hi
    have := (h.left i).2 ⟨(Array.getElem?_eq_some_iff.1 h2).1, .inl h1⟩
    cases this
  | fuel + 1, listed, r, pend, E, S, a, A, h, hb => by
    obtain ⟨s1, s2, s3, s4⟩ := drawOk_spec hok
    have hsz := h.size
    refine ⟨fun hnil => ?_, fun i hi => ?_⟩
    · exfalso
      -- something is not run yet: the least of it is ready
      have hex : ∃ x, x ∈ r ∧ listed.getD x true = false := by
        refine Classical.byContradiction fun hx => ?_
        have hnd := drawPairs_nodup h.pairs
        have := List.Nodup.length_le_of_subset hnd (l₂ := pend.map (·.m)) fun x hxr => by
          rcases ((h.left x).1 hxr).2 with h1 | h1
          · exact absurd ⟨x, hxr, h1⟩ hx
          · exact h1
        have hc := h.count
        simp at this
        omega
      obtain ⟨x, hx⟩ := hex
      obtain ⟨m, hm, hmin⟩ := least (p := fun k => k ∈ r ∧ listed.getD k true = false) x hx
      obtain ⟨hm1, _⟩ := (h.left m).1 hm.1
      have : m ∈ Region.ready .any ops listed := by
        rw [mem_ready]
        refine ⟨hm.2, ops[m], Array.getElem?_eq_getElem hm1, fun e he hb' => ?_⟩
        have hlt := (s3 m hm1).1 e.on ((mem_edges (Array.getElem?_eq_getElem hm1)).2 ⟨e, he, hb', rfl⟩)
        cases hl : listed.getD e.on true with
        | false => exact absurd (hmin e.on ⟨(h.left e.on).2 ⟨by omega, .inl hl⟩, hl⟩) (by omega)
        | true => rw [getD_listed (by omega) false true]; exact hl
      rw [hnil] at this
      cases this
    · obtain ⟨h1, o, ho, h2⟩ := mem_ready.1 hi
      have hlt : i < ops.size := (Array.getElem?_eq_some_iff.1 ho).1
      have hir : i ∈ r := (h.left i).2 ⟨hlt, .inl h1⟩
      have hlist : ∀ e ∈ edgesK ops i, listed.getD e false = true := by
        intro e he
        obtain ⟨d, hd1, hd2, rfl⟩ := (mem_edges ho).1 he
        exact h2 d hd1 hd2
      have hanc : ∀ j ∈ (ancK ops).getD i [], listed.getD j false = true := by
        intro j hj
        obtain ⟨e, he, hej⟩ := (s3 i hlt).2 j hj
        rcases hej with rfl | hej
        · exact hlist _ he
        · exact h.down e (hlist e he) j hej
      -- what comes before it is not among what is left
      have hancr : ∀ j ∈ (ancK ops).getD i [], j ∉ r := by
        intro j hj hjr
        rcases ((h.left j).1 hjr) with ⟨hjs, hl | hl⟩
        · have h4 := hanc j hj
          rw [getD_listed (by omega) false true, hl] at h4
          cases h4
        · obtain ⟨p, hp, rfl⟩ := List.mem_map.1 hl
          obtain ⟨r1, r2, hr⟩ := List.append_of_mem hjr
          obtain ⟨b, hb1, hb2, hb3⟩ := h.blocked hb _ p hp ⟨r1, r2, hr, rfl⟩
          have h4 := hanc b (hb3 i hlt hj)
          rw [getD_listed (by have := ((h.left b).1 hb1).1; omega) false true, hb2] at h4
          cases h4
      have hap := h.apart ho hir h1 fun p hp e => hancr _ e (h.pds p hp).mem
      have hl1 : ∀ q ∈ pend.map fun p => (p.d, p.u), q.1 ∉ o.looksAt ops := by
        intro q hq
        obtain ⟨p, hp, rfl⟩ := List.mem_map.1 hq
        obtain ⟨op, k1, k2, _⟩ := hap p hp
        obtain ⟨op', e1, _, e3, _⟩ := (h.pds p hp).op
        rw [e1] at k1
        simp only [Option.some.injEq] at k1
        subst k1
        exact (Oper.apart_spec k2).1 _ e3
      have hl2 : ∀ q ∈ pend.map fun p => (p.d, p.u), o.dst ≠ some q.1 := by
        intro q hq
        obtain ⟨p, hp, rfl⟩ := List.mem_map.1 hq
        obtain ⟨op, k1, k2, _⟩ := hap p hp
        obtain ⟨op', e1, _, e3, _⟩ := (h.pds p hp).op
        rw [e1] at k1
        simp only [Option.some.injEq] at k1
        subst k1
        exact (Oper.apart_spec k2).2.1 _ e3
      have hl3 : ∀ p ∈ pend, ∀ d, o.dst = some d → ∃ op, ops[p.m]? = some op ∧ d ∉ op.looksAt ops := by
        intro p hp d hd
        obtain ⟨op, k1, _, k2⟩ := hap p hp
        exact ⟨op, k1, (Oper.apart_spec k2).1 d hd⟩
      have hA := h.act
      subst hA
      obtain ⟨r1, r2, rfl⟩ := List.append_of_mem hir
      obtain ⟨p1, p2⟩ := pair_mid h.pairs
      have hnd := drawPairs_nodup h.pairs
      have hir12 : i ∉ r1 ++ r2 := by
        intro hx
        rw [List.nodup_append] at hnd
        rcases List.mem_append.1 hx with hx | hx
        · exact hnd.2.2 _ hx _ (List.mem_cons_self ..) rfl
        · exact (List.nodup_cons.1 hnd.2.1).1 hx
      have hdown : ∀ e, (listed.setIfInBounds i true).getD e false = true → ∀ j ∈ (ancK ops).getD e [], (listed.setIfInBounds i true).getD j false = true := by
        intro e he j hj
        by_cases hx : i = e
        · subst hx
          exact getD_set_true (hanc j hj)
        · rw [getD_set_ne false hx] at he
          exact getD_set_true (h.down e he j hj)
      have hpm : ∀ p ∈ pend, p.m ≠ i := by
        intro p hp e
        have := (h.pds p hp).done
        rw [e, h1] at this
        cases this
      have hdone : ∀ p ∈ pend, (listed.setIfInBounds i true).getD p.m true = true := by
        intro p hp
        rw [getD_set_ne true (fun e => hpm p hp e.symm)]
        exact (h.pds p hp).done
      by_cases hcase : ∃ b ∈ r1, pendOk ops (ancK ops) b i = true
      · -- ahead of its turn
        obtain ⟨b, hb1, hb2⟩ := hcase
        obtain ⟨_, o', d, _, ho', hmk, hog, hod, _, _, _⟩ := pendOk_spec hb2
        rw [ho] at ho'
        simp only [Option.some.injEq] at ho'
        subst ho'
        obtain ⟨Sm, q1, q2⟩ := ops_app r1 (i :: r2) h.rest
        simp only [opsK, ho, Option.bind_eq_some_iff] at q2
        obtain ⟨S1, q2, _⟩ := q2
        obtain ⟨_, v1, H1, q3, _⟩ := maker_step hog hod q2
        have hT : ∀ t ∈ o.looksAt ops, Sm.T t = S.T t := by
          intro t ht
          refine ops_T r1 q1 fun j hj oj hoj e => ?_
          obtain ⟨x, y, k1, k2, k3, _⟩ := (p1 j hj).apart fun e => hancr j e (by simp [hj])
          rw [hoj] at k1
          rw [ho] at k2
          simp only [Option.some.injEq] at k1 k2
          subst k1 k2
          exact (Oper.apart_spec k3).1 t e ht
        obtain ⟨c1, e1, e2⟩ : ∃ vv HH, opK (drawCx c ops i) o S = some (vv, HH) := by
          have := opK_looks (c := drawCx c ops i) (ops := ops) (o := o) (H := Sm.H) hT
          rw [show (⟨Sm.T, Sm.H⟩ : St) = Sm from rfl, q3] at this
          -- in any heap
          unfold isMaker at hmk
          split at hmk
          · rename_i t hop
            unfold opK at this ⊢
            simp only [hop] at this ⊢
            have t2 := this.symm
            simp only [Option.bind_eq_some_iff] at t2
            obtain ⟨sz, hsz', z, hz, _⟩ := t2
            exact ⟨_, _, by simp only [hsz', hz, Option.bind_some]; rfl⟩
          · rename_i t n m hop
            unfold opK at this ⊢
            simp only [hop] at this ⊢
            have t2 := this.symm
            simp only [Option.bind_eq_some_iff] at t2
            obtain ⟨N, hN, M, hM, t3⟩ := t2
            simp only [hN, hM, Option.bind_some]
            unfold makeK at t3 ⊢
            split at t3
            case h_2 => cases t3
            rename_i k l
            simp only [Option.bind_eq_some_iff] at t3
            obtain ⟨e, he, sz, hsz', by_, hby, z, hz, t4⟩ := t3
            split at t4
            case isFalse => cases t4
            rename_i hc
            simp only [he, hsz', hby, hz, Option.bind_some]
            rw [if_pos hc]
            exact ⟨_, _, rfl⟩
          · cases hmk
        obtain ⟨v, sz, cs, u, cc, t, hop, hrun, hpd⟩ := maker_runs (c := drawCx c ops i) (h.sim.care true (calmAt ops (ancK ops) i)) hmk e2
        have hsel := select_none e2
        let E1 : Env := { E with w := E.w.alloc (.cells cc t), hid := E.w.heap.size :: E.hid }
        have hsil : Silent E E1 cc t :=
          { heap := rfl, os := rfl, tape := rfl, output := rfl, phi := rfl, H := rfl, lk := rfl, nn := rfl, mm := rfl
            hid := fun g => by
              show g ∈ E.w.heap.size :: E.hid ↔ g ∈ E.hid ∨ (g ∈ E.w.heap.size :: E.hid ∧ g = E.w.heap.size)
              simp only [List.mem_cons]
              constructor
              · rintro (rfl | hg)
                · exact .inr ⟨.inl rfl, rfl⟩
                · exact .inl hg
              · rintro (hg | ⟨hg, _⟩)
                · exact .inr hg
                · exact hg }
        have hafter : After c E0 E1 S.H := by
          have hr := hsil.rel h.sim.heap
          exact h.after.trans
            { H := h.sim.H, n := h.sim.n, m := rfl, evo := hsil.evo, heap := hr
              forN := fun _ base nb d _ hn hd hf => hsil.foreign hn hd hf h.sim.heap
              forG := fun _ base d _ hd hf => hsil.foreign (Nat.le_refl _) hd hf h.sim.heap
              kept := fun _ _ _ => by rw [h.sim.H] }
        have hsim : Sim c E1 S a := ⟨h.sim.H, h.sim.lk, h.sim.n, h.sim.m, fun j => hsil.evo.rep h.sim.heap _ _ (h.sim.tmps j), h.sim.size, hafter.heap, h.sim.base, h.sim.locks, h.sim.deep⟩
        unfold wpOp
        simp only [ho]
        have hw : Region.wanted o (yielded ops (putsA a (pend.map fun p => (p.d, p.u))).tmps) = true := by
          unfold Region.wanted; rw [hog]
        rw [if_pos hw]
        refine .inl ?_
        unfold Oper.wp
        rw [exec_puts hsel _ a hl1]
        show o.upon c.P _ _ Q ((execOp a.eval o).run (drawCx c ops i).P E.w)
        rw [hrun, Oper.upon_value]
        rw [hod]
        refine draws_sound hh0 hok hΓ hK hn fuel (listed.setIfInBounds i true) (r1 ++ i :: r2) (pend ++ [⟨i, d, u, E.w.heap.size⟩]) (E := E1) (S := S) (a := a) ?_ ?_
        · have hlis : (listed.setIfInBounds i true).getD i true = true := by simp [hsz, hlt]
          exact
            { size := by simp [hsz]
              count := by have := h.count; simp at this ⊢; omega
              left := fun x => by
                have hlx := h.left x
                by_cases hx : i = x
                · subst hx
                  exact ⟨fun _ => ⟨hlt, .inr (by simp)⟩, fun _ => by simp⟩
                · rw [getD_set_ne true hx, hlx]
                  simp only [List.map_append, List.map_cons, List.map_nil, List.mem_append, List.mem_singleton]
                  constructor
                  · rintro ⟨k1, k2⟩; exact ⟨k1, k2.imp id .inl⟩
                  · rintro ⟨k1, k2⟩; exact ⟨k1, k2.imp id fun k => k.resolve_right fun e => hx e.symm⟩
              pairs := h.pairs
              down := hdown
              sim := hsim
              defers := h.defers
              act := by
                rw [List.map_append, List.map_cons, List.map_nil, putsA_snoc]
              rest := h.rest
              part := h.part
              after := hafter
              pds := fun p hp => by
                rcases List.mem_append.1 hp with hp | hp
                · have hpo := h.pds p hp
                  obtain ⟨op, k1, k2, k3, v2, sz2, cs2, k4, ⟨cc2, t2, m1, m2⟩, m3⟩ := hpo.op
                  refine ⟨⟨op, k1, k2, k3, v2, sz2, cs2, k4, ⟨cc2, t2, ?_, m2⟩, m3⟩, List.mem_cons_of_mem _ hpo.hid, hpo.new, hpo.old, hpo.mem, hdone p hp, hpo.anc⟩
                  have := hsil.evo.hidW p.g hpo.hid (h.sim.heap.hid _ hpo.hid).1
                  rw [this]; exact m1
                · simp only [List.mem_singleton] at hp
                  subst hp
                  exact ⟨⟨o, ho, hog, hod, v, sz, cs, hop, hpd⟩, List.mem_cons_self .., h.after.evo.size, fun e => absurd (hh0.hid _ e).1 (Nat.not_lt.2 h.after.evo.size), hir, hlis, hancr⟩
              nodup := by
                rw [List.map_append, List.map_cons, List.map_nil, List.nodup_append]
                refine ⟨h.nodup, by simp, fun x hx y hy e => ?_⟩
                simp only [List.mem_singleton] at hy
                obtain ⟨p, hp, rfl⟩ := List.mem_map.1 hx
                exact hpm p hp (e.trans hy)
              gs := by
                rw [List.map_append, List.map_cons, List.map_nil, List.nodup_append]
                refine ⟨h.gs, by simp, fun x hx y hy e => ?_⟩
                simp only [List.mem_singleton] at hy
                obtain ⟨p, hp, rfl⟩ := List.mem_map.1 hx
                have := (h.sim.heap.hid _ (h.pds p hp).hid).1
                rw [e, hy] at this
                exact absurd this (Nat.lt_irrefl _) }
        · intro p hp
          rcases List.mem_append.1 hp with hp | hp
          · exact hb p hp
          · simp only [List.mem_singleton] at hp
            subst hp
            exact ⟨r1, r2, b, rfl, hb1, hb2⟩
      · -- in its turn
        have hbub := bubble (c := c) hK (cf := drawCx c ops) (fun i => ⟨_, rfl⟩) ho (r2 := r2) r1 h.sim.base h.rest fun s1 j s2 he => by
          have hj : j ∈ r1 := by rw [he]; simp
          rcases (p1 j hj).2.2 with hj2 | hj2 | hj2 | ⟨x, y, hx, hy, hsw, hc⟩
          · exact absurd (by simp [hj]) (hancr j hj2)
          · exact absurd ⟨j, hj, hj2⟩ hcase
          · exact .inr (LsB.of h.pairs h.part (fun k hk hc => absurd (by simp [hk]) (hancr k hc)) he hj2 ho)
          · rw [ho] at hy
            simp only [Option.some.injEq] at hy
            subst hy
            exact .inl ⟨x, hx, hsw, hc⟩
        simp only [opsK, ho, Option.bind_eq_some_iff] at hbub
        obtain ⟨S1, g1, g2⟩ := hbub
        have hg := gstep_eff (drawCx c ops i) ops o S
        rw [g1] at hg
        have hg := hg.symm
        simp only [Option.bind_eq_some_iff] at hg
        obtain ⟨ve, _, hg⟩ := hg
        split at hg
        case isFalse => cases hg
        simp only [Option.some.injEq] at hg
        have key : ∀ E1 a1, Sim c E1 S1 a1 → After c E E1 S1.H → a1.defers = [] → wpAny c.P .any ops Q fuel (listed.setIfInBounds i true) (putsA a1 (pend.map fun p => (p.d, p.u))) E1.w := by
          intro E1 a1 hs1 ha1 hd1
          refine Mid.settle (c := c) (E0 := E0) (S' := S') (ops := ops) hK (listed := listed.setIfInBounds i true) (A := putsA a1 (pend.map fun p => (p.d, p.u))) (fuel := fuel) (R := fun w => wpAny c.P .any ops Q fuel (listed.setIfInBounds i true) (putsA a1 (pend.map fun p => (p.d, p.u))) w) pend.length (r := r1 ++ r2) (pend := pend) (E := E1) (S := S1) (a := a1) rfl ?_ fun r' pend' E2 S2 a2 hm hb' he => draws_sound hh0 hok hΓ hK hn fuel _ r' pend' hm hb'
          exact
            { size := by simp [hsz]
              count := by have := h.count; simp at this ⊢; omega
              left := fun x => by
                have hlx := h.left x
                by_cases hx : i = x
                · subst hx
                  refine ⟨fun hm => absurd hm hir12, ?_⟩
                  rintro ⟨_, hm | hm⟩
                  · simp [hsz, hlt] at hm
                  · obtain ⟨p, hp, e⟩ := List.mem_map.1 hm
                    exact absurd e (hpm p hp)
                · rw [getD_set_ne true hx, ← hlx]
                  simp [List.mem_append, List.mem_cons, Ne.symm hx]
              pairs := drawPairs_sub (by simp) h.pairs
              down := hdown
              sim := hs1
              defers := hd1
              act := rfl
              rest := g2
              part := h.part
              after := h.after.trans ha1
              pds := fun p hp => by
                have hpo := h.pds p hp
                obtain ⟨op, k1, k2, k3, v2, sz2, cs2, k4, ⟨cc2, t2, m1, m2⟩, m3⟩ := hpo.op
                refine ⟨⟨op, k1, k2, k3, v2, sz2, cs2, fun H2 => ?_, ⟨cc2, t2, ?_, m2⟩, m3⟩, ha1.evo.hid _ hpo.hid, hpo.new, hpo.old, mem_unskip hpo.mem (hpm p hp), hdone p hp, fun j hj hjr => hpo.anc j hj (mem_skip hjr)⟩
                · rw [← k4 H2]
                  refine opK_looks (ops := ops) fun t ht => ?_
                  rw [← hg]
                  refine put_T fun e => ?_
                  obtain ⟨op', e1, e2⟩ := hl3 p hp t e
                  rw [k1] at e1
                  simp only [Option.some.injEq] at e1
                  subst e1
                  exact e2 ht
                · rw [ha1.evo.hidW p.g hpo.hid (h.sim.heap.hid _ hpo.hid).1]; exact m1
              nodup := h.nodup
              gs := h.gs }
        have hst := gstep_sound0 h.sim hΓ h.defers (s := true) (k := calmAt ops (ancK ops) i) (o := o) (ops := ops) g1 (next := fun a1 w1 => wpAny c.P .any ops Q fuel (listed.setIfInBounds i true) (putsA a1 (pend.map fun p => (p.d, p.u))) w1) (Q := fun _ _ _ => False) key
        unfold wpOp
        simp only [ho]
        rw [wanted_puts _ a hl1]
        split
        · rename_i hw
          rw [if_pos hw] at hst
          obtain ⟨hst, r0, hr0⟩ := hst
          exact .inl (wp_puts (select_none hr0) hl1 hl2 (fun a' w' hx => hx) hst)
        · rename_i hw
          rw [if_neg hw] at hst
          rw [← putsA_put _ a hl2]
          exact hst

/-- A draw changes nothing that counts. -/
def Env.drew (E : Env) : Env := { E with w := { E.w with drawn := E.w.drawn + 1 } }
theorem Evo.drew (E : Env) : Evo E E.drew where
  lk := rfl
  os := rfl
  tape := rfl
  output := rfl
  size := Nat.le_refl _
  len := Nat.le_refl _
  mm := rfl
  cell := fun _ _ _ h _ => h
  block := fun _ _ _ => rfl
  mono := fun _ _ _ _ h => .inl h
  phi := fun _ _ h => ⟨rfl, h⟩
  cells := fun _ _ h => h
  bld := fun _ _ n _ _ h => ⟨n, h, Nat.le_refl _, fun _ => ⟨rfl, fun c _ hc => ⟨c, hc, rfl⟩⟩⟩
  fresh := fun _ h => .inl ⟨rfl, h⟩
  hid := fun _ h => h
  hidF := fun _ h => .inl h
  hidW := fun _ _ _ => rfl
theorem After.drew (hs : Sim c E S a) : After c E E.drew S.H where
  H := hs.H
  n := hs.n
  m := rfl
  evo := Evo.drew E
  heap :=
    { cells := fun b sz cs hb => by
        obtain ⟨x, t, h1, h2, h3⟩ := hs.heap.cells b sz cs hb
        exact ⟨x, t, h1, h2, fun i v hv => let ⟨u, h4, h5⟩ := h3 i v hv; ⟨u, h4, (Evo.drew E).rep hs.heap _ _ h5⟩⟩
      bld := hs.heap.bld
      lvl := hs.heap.lvl
      dm := hs.heap.dm
      inj := hs.heap.inj
      maps := hs.heap.maps
      hid := hs.heap.hid }
  forN := fun _ base nb d _ hnb hd hf b sz cs hlt hB x t hx i v u hv hu => ((Evo.drew E).shrink hs.heap hnb hd).rep _ _ (hf b sz cs hlt hB x t hx i v u hv hu)
  forG := fun _ base d _ hd hf b sz cs hlt hB x t hx i v u hv hu => ((Evo.drew E).shrink hs.heap (Nat.le_refl _) hd).rep _ _ (hf b sz cs hlt hB x t hx i v u hv hu)
  kept := fun _ _ _ => by rw [hs.H]

def X.exit' : X → Exit
  | .normal => .normal
  | .exit id => .exit id
  | .ret => .ret

open Classical in
theorem wp_loop_count {P : Program} {Q : Exit → Act → World → Prop} {a : Act} {w : World} {b : Code} (I : Nat → Act → World → Prop) {n : Nat} (h0 : I n a w) (hz : ∀ a w, ¬ I 0 a w)
    (round : ∀ k a w, I (k + 1) a w → b.wp P (Exit.then (I k) Q) a w) : (Code.loop b).wp P Q a w := by
  let μ : Act → World → Nat := fun a w => if h : ∃ k, I k a w then Classical.choose (least (p := fun k => I k a w) (Classical.choose h) (Classical.choose_spec h)) else 0
  have hμ : ∀ a w (h : ∃ k, I k a w), I (μ a w) a w ∧ ∀ j, I j a w → μ a w ≤ j := by
    intro a w h
    have := Classical.choose_spec (least (p := fun k => I k a w) (Classical.choose h) (Classical.choose_spec h))
    show I (if h : ∃ k, I k a w then _ else 0) a w ∧ _
    simp only [μ, dif_pos h]
    exact this
  refine wp_loop (fun a w => ∃ k, I k a w) μ ⟨n, h0⟩ fun a w h => ?_
  obtain ⟨h1, h2⟩ := hμ a w h
  obtain ⟨k, hk⟩ : ∃ k, μ a w = k + 1 := by
    cases hm : μ a w with
    | zero => rw [hm] at h1; exact absurd h1 (hz a w)
    | succ k => exact ⟨k, rfl⟩
  rw [hk] at h1 ⊢
  refine wp_mono (round k a w h1) fun e a' w' hq => ?_
  cases e with
  | normal => exact ⟨⟨k, hq⟩, Nat.lt_succ_of_le ((hμ a' w' ⟨k, hq⟩).2 k hq)⟩
  | _ => exact hq

theorem exec_sound (hm : c.P.follows .mixedOrders = true) (hΓ : CallOk c.P c.hints c.Γ) (hK : KeptOk c.Γ) (n : Nat) : ∀ (b : Code) {E : Env} {S : St} {a : Act} (hs : Sim c E S a) (hd : a.defers = []) {x : X} {S' : St} (h : execK c n b S = some (x, S')) {Q : Exit → Act → World → Prop}
    (hn : ∀ E' a', Sim c E' S' a' → After c E E' S'.H → a'.defers = [] → Q x.exit' a' E'.w), b.wp c.P Q a E.w
  | .skip, E, S, a, hs, hd, x, S', h, Q, hn => by
    simp only [execK, Option.some.injEq, Prod.mk.injEq] at h
    obtain ⟨rfl, rfl⟩ := h
    exact wp_skip (hn E a hs (After.refl hs) hd)
  | .region id ops draw, E, S, a, hs, hd, x, S', h, Q, hn => by
    cases draw with
    | false =>
      simp only [execK, Bool.false_eq_true, if_false, Option.map_eq_some_iff, Prod.mk.injEq] at h
      obtain ⟨S1, h1, rfl, rfl⟩ := h
      exact wp_region (ops_sound (fun _ => ⟨c.still, c.calm, rfl⟩) _ hs hΓ hd h1 hn)
    | true =>
      simp only [execK, if_true, Option.map_eq_some_iff, Prod.mk.injEq] at h
      obtain ⟨S1, h1, rfl, rfl⟩ := h
      split at h1
      case isFalse => cases h1
      rename_i hok
      rw [Option.bind_eq_some_iff] at h1
      obtain ⟨S2, h1, hpart⟩ := h1
      split at hpart
      case isFalse => cases hpart
      rename_i hpart'
      cases hpart
      have hpart := hpart'
      obtain ⟨s1, s2, s3, s4⟩ := drawOk_spec hok
      have ha0 := After.drew hs
      have hs0 : Sim c E.drew S a := Sim.next (T := S.T) (ts := a.tmps) (ds := a.defers) hs ha0 (fun i => (Evo.drew E).rep hs.heap _ _ (hs.tmps i)) rfl
      refine wp_region_any hm ?_
      have hlen : (ordK ops).length = ops.size := by
        have hnd := drawPairs_nodup s4
        refine Nat.le_antisymm ?_ ?_
        · have := List.Nodup.length_le_of_subset hnd (l₂ := List.range ops.size) fun i hi => List.mem_range.2 (s2 i hi)
          simpa using this
        · have := List.Nodup.length_le_of_subset (List.nodup_range (n := ops.size)) (l₂ := ordK ops) fun i hi => s1 i (List.mem_range.1 hi)
          simpa using this
      refine draws_sound (E0 := E.drew) hs0.heap hok hΓ hK (S' := S1) (fun E' a' hs' ha' hd' => hn E' a' hs' (ha0.trans ha') hd') ops.size (Array.replicate ops.size false) (ordK ops) [] (E := E.drew) (S := S) (a := a) ?_ (fun p hp => by cases hp)
      have hf : ∀ i, i < ops.size → (Array.replicate ops.size false).getD i true = false := fun i hi => by simp [Array.getD_eq_getD_getElem?, hi]
      exact
        { size := by simp
          count := by simpa using hlen.symm
          left := fun i => ⟨fun hi => ⟨s2 i hi, .inl (hf i (s2 i hi))⟩, fun hi => s1 i hi.1⟩
          pairs := s4
          down := fun e he j hj => by
            exfalso
            simp only [Array.getD_eq_getD_getElem?, Array.getElem?_replicate] at he
            split at he <;> simp at he
          sim := hs0
          defers := hd
          act := rfl
          rest := h1
          part := hpart
          after := After.refl hs0
          pds := fun p hp => by cases hp
          nodup := List.nodup_nil
          gs := List.nodup_nil }
  | .seq p q, E, S, a, hs, hd, x, S', h, Q, hn => by
    simp only [execK] at h
    split at h
    · rename_i S1 h1
      refine wp_seq (exec_sound hm hΓ hK n p hs hd h1 fun E1 a1 hs1 ha1 hd1 => ?_)
      exact exec_sound hm hΓ hK n q hs1 hd1 h fun E' a' hs' ha' hd' => hn E' a' hs' (ha1.trans ha') hd'
    · rename_i hne
      refine wp_seq (exec_sound hm hΓ hK n p hs hd h fun E1 a1 hs1 ha1 hd1 => ?_)
      have := hn E1 a1 hs1 ha1 hd1
      cases x with
      | normal => exact absurd h (hne S')
      | exit i => exact this
      | ret => exact this
  | .cond y p q, E, S, a, hs, hd, x, S', h, Q, hn => by
    simp only [execK] at h
    split at h
    · rename_i hy
      have hr := rep_ev hs y _ hy
      simp only [RepV] at hr
      exact wp_cond_true hr (exec_sound hm hΓ hK n p hs hd h hn)
    · rename_i hy
      have hr := rep_ev hs y _ hy
      simp only [RepV] at hr
      exact wp_cond_false hr (exec_sound hm hΓ hK n q hs hd h hn)
    · cases h
  | .block id p, E, S, a, hs, hd, x, S', h, Q, hn => by
    simp only [execK] at h
    split at h
    · rename_i i S1 h1
      refine wp_block (exec_sound hm hΓ hK n p hs hd h1 fun E1 a1 hs1 ha1 hd1 => ?_)
      show if i = id then Q .normal a1 E1.w else Q (.exit i) a1 E1.w
      split at h
      · rename_i hi
        simp only [Option.some.injEq, Prod.mk.injEq] at h
        obtain ⟨rfl, rfl⟩ := h
        rw [if_pos hi]
        exact hn E1 a1 hs1 ha1 hd1
      · rename_i hi
        simp only [Option.some.injEq, Prod.mk.injEq] at h
        obtain ⟨rfl, rfl⟩ := h
        rw [if_neg hi]
        exact hn E1 a1 hs1 ha1 hd1
    · rename_i hne
      refine wp_block (exec_sound hm hΓ hK n p hs hd h fun E1 a1 hs1 ha1 hd1 => ?_)
      have := hn E1 a1 hs1 ha1 hd1
      cases x with
      | normal => exact this
      | exit i => exact absurd h (hne i S')
      | ret => exact this
  | .loop p, E, S, a, hs, hd, x, S', h, Q, hn => by
    simp only [execK] at h
    refine wp_loop_count (I := fun k a' w' => ∃ E' S1, Sim c E' S1 a' ∧ E'.w = w' ∧ After c E E' S1.H ∧ a'.defers = [] ∧ iterK (execK c n p) k S1 = some (x, S')) (n := n)
      ⟨E, S, hs, rfl, After.refl hs, hd, h⟩ (fun a w => by rintro ⟨E', S1, _, _, _, _, h⟩; simp [iterK] at h) ?_
    rintro k a1 w1 ⟨E1, S1, hs1, rfl, ha1, hd1, hit⟩
    simp only [iterK] at hit
    split at hit
    · rename_i S2 h2
      refine exec_sound hm hΓ hK n p hs1 hd1 h2 fun E2 a2 hs2 ha2 hd2 => ?_
      exact ⟨E2, S2, hs2, rfl, ha1.trans ha2, hd2, hit⟩
    · rename_i hne
      refine exec_sound hm hΓ hK n p hs1 hd1 hit fun E2 a2 hs2 ha2 hd2 => ?_
      have := hn E2 a2 hs2 (ha1.trans ha2) hd2
      cases x with
      | normal => exact absurd hit (hne S')
      | exit i => exact this
      | ret => exact this
  | .exit id, E, S, a, hs, hd, x, S', h, Q, hn => by
    simp only [execK, Option.some.injEq, Prod.mk.injEq] at h
    obtain ⟨rfl, rfl⟩ := h
    exact wp_exit (hn E a hs (After.refl hs) hd)
  | .ret, E, S, a, hs, hd, x, S', h, Q, hn => by
    simp only [execK, Option.some.injEq, Prod.mk.injEq] at h
    obtain ⟨rfl, rfl⟩ := h
    exact wp_ret (hn E a hs (After.refl hs) hd)
  | .label _, _, _, _, _, _, _, _, h, _, _ => by simp [execK] at h
  | .goto _, _, _, _, _, _, _, _, h, _, _ => by simp [execK] at h
  | .scope _, _, _, _, _, _, _, _, h, _, _ => by simp [execK] at h
  | .refuse _, _, _, _, _, _, _, _, h, _, _ => by simp [execK] at h
  | .rangeFunc .., _, _, _, _, _, _, _, h, _, _ => by simp [execK] at h

end

end Go.Proofs.Ytblodpbcinkehaa.K
