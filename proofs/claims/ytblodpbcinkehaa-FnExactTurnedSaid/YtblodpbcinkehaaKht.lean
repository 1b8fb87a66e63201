/-
  Two operations of the interpreter that do not mind each other may change places. No conditions.
-/
import Derived.Test.YtblodpbcinkehaaKhs
set_option linter.unusedVariables false
set_option linter.unusedSimpArgs false
namespace Go.Proofs.Ytblodpbcinkehaa.K

def effK (c : Cx) (ops : Array Oper) (o : Oper) (S : St) : Option (V × Heap) := (wantedK ops S.T o).bind fun b => if b then opK c o S else some (undefV, S.H)
def putK (dst : Option Nat) (r : V × Heap) (S : St) : St := { T := match dst with | some d => fun i => if i = d then r.1 else S.T i | none => S.T, H := r.2 }
def dstOk (c : Cx) (o : Oper) : Bool := match o.dst with | some d => decide (d < c.ntmps) | none => true
theorem gstep_eff (c : Cx) (ops : Array Oper) (o : Oper) (S : St) : gstepK c ops o S = (effK c ops o S).bind fun r => if dstOk c o = true then some (putK o.dst r S) else none := by
  unfold gstepK effK dstOk
  cases wantedK ops S.T o with
  | none => rfl
  | some b =>
    simp only [Option.bind_some]
    cases b with
    | true =>
      simp only [if_true, stepK]
      cases o.dst with
      | none => cases opK c o S <;> rfl
      | some d =>
        by_cases hd : d < c.ntmps
        · simp only [hd, if_true, decide_true]; cases opK c o S <;> rfl
        · simp only [hd, if_false, decide_false]; cases opK c o S <;> simp
    | false =>
      simp only [Bool.false_eq_true, if_false]
      cases o.dst with
      | none => rfl
      | some d =>
        by_cases hd : d < c.ntmps
        · simp only [hd, if_true, decide_true, Option.bind_some]; rfl
        · simp only [hd, if_false, decide_false, Option.bind_some]; simp

theorem wantedK_congr {ops : Array Oper} {o : Oper} {T T' : Nat → V} (h : ∀ t ∈ o.looksAt ops, T t = T' t) : wantedK ops T o = wantedK ops T' o := by
  unfold wantedK
  cases hg : o.guard with
  | none => rfl
  | some gw =>
    obtain ⟨j, want⟩ := gw
    simp only []
    cases ht : (ops[j]?).bind (·.dst) with
    | none => rfl
    | some t =>
      simp only []
      rw [h t (by simp [Oper.looksAt, hg, ht])]
theorem effK_congr {c : Cx} {ops : Array Oper} {o : Oper} {T T' : Nat → V} {H : Heap} (h : ∀ t ∈ o.looksAt ops, T t = T' t) : effK c ops o { T := T, H := H } = effK c ops o { T := T', H := H } := by
  unfold effK
  rw [wantedK_congr (T := T) (T' := T') h, opK_congr c o (T := T) (T' := T') fun x hx => ?_]
  cases x with
  | tmp t =>
    simp only [ev]
    rw [h t (List.mem_append_left _ (List.mem_filterMap.2 ⟨.tmp t, by simpa using hx, rfl⟩))]
  | _ => rfl

/-- What an operation gives, at any heap that has the same cells. -/
theorem effK_pure {c : Cx} (hs : c.still = true) {ops : Array Oper} {o : Oper} (hp : isPure o = true) {T : Nat → V} {H H' : Heap} {v : V} (h : effK c ops o { T := T, H := H } = some (v, H')) : H' = H ∧ ∀ H2, effK c ops o { T := T, H := H2 } = some (v, H2) := by
  unfold effK at h ⊢
  simp only [Option.bind_eq_some_iff] at h
  obtain ⟨b, hb, h⟩ := h
  cases b with
  | true =>
    simp only [if_true] at h
    obtain ⟨k1, k2⟩ := opK_pure hs hp h
    exact ⟨k1, fun H2 => by simp only [hb, Option.bind_some, if_true]; exact k2 H2⟩
  | false =>
    simp only [Bool.false_eq_true, if_false, Option.some.injEq, Prod.mk.injEq] at h
    obtain ⟨rfl, rfl⟩ := h
    exact ⟨rfl, fun H2 => by simp only [hb, Option.bind_some, Bool.false_eq_true, if_false]⟩

def sameCells (H H' : Heap) : Prop := (∀ (b sz : Nat) (cs : List V), H[b]? = some (.cells sz cs) → H'[b]? = some (.cells sz cs)) ∧ ∀ (b : Nat) (kvs : List (V × V)), H[b]? = some (.mp kvs) → H'[b]? = some (.mp kvs)
theorem sameCells.refl (H : Heap) : sameCells H H := ⟨fun _ _ _ h => h, fun _ _ h => h⟩
theorem sameCells.push (H x : Heap) : sameCells H (H ++ x) := ⟨fun b z cs hB => by rw [List.getElem?_append_left (List.getElem?_eq_some_iff.1 hB).1]; exact hB, fun b kvs hB => by rw [List.getElem?_append_left (List.getElem?_eq_some_iff.1 hB).1]; exact hB⟩
theorem effK_load {c : Cx} {ops : Array Oper} {o : Oper} (hp : isLoad o = true) {T : Nat → V} {H H' : Heap} {v : V} (h : effK c ops o { T := T, H := H } = some (v, H')) : H' = H ∧ ∀ H2, sameCells H H2 → effK c ops o { T := T, H := H2 } = some (v, H2) := by
  unfold effK at h ⊢
  simp only [Option.bind_eq_some_iff] at h
  obtain ⟨b, hb, h⟩ := h
  cases b with
  | true =>
    simp only [if_true] at h
    unfold isLoad at hp
    split at hp
    case h_3 => cases hp
    · rename_i t x ho
      simp only [opK, ho, Option.bind_eq_some_iff, Option.map_eq_some_iff, Prod.mk.injEq] at h
      obtain ⟨p, hx, v', hl, rfl, rfl⟩ := h
      refine ⟨rfl, fun H2 hsame => ?_⟩
      simp only [hb, Option.bind_some, if_true, opK, ho, hx]
      have : loadK c.P t H2 p = some v' := by
        unfold loadK at hl ⊢
        cases p with
        | ptr b off =>
          simp only [] at hl ⊢
          split at hl
          case h_2 => cases hl
          rename_i sz cs hB
          rw [hsame.1 b sz cs hB]
          exact hl
        | lp lv cs off => exact hl
        | _ => simp at hl
      rw [this]
      rfl
    · rename_i t x k ok ho
      simp only [opK, ho, Option.bind_eq_some_iff, Option.map_eq_some_iff, Prod.mk.injEq] at h
      obtain ⟨m, hx, kv, hk, v', hl, rfl, rfl⟩ := h
      refine ⟨rfl, fun H2 hsame => ?_⟩
      simp only [hb, Option.bind_some, if_true, opK, ho, hx, hk]
      have : lookK c.P t H2 m kv ok = some v' := by
        unfold lookK at hl ⊢
        cases m with
        | mref b =>
          simp only [] at hl ⊢
          split at hl
          case h_2 => cases hl
          rename_i kvs hB
          rw [hsame.2 b kvs hB]
          exact hl
        | _ => simp at hl
      rw [this]
      rfl
  | false =>
    simp only [Bool.false_eq_true, if_false, Option.some.injEq, Prod.mk.injEq] at h
    obtain ⟨rfl, rfl⟩ := h
    exact ⟨rfl, fun H2 _ => by simp only [hb, Option.bind_some, Bool.false_eq_true, if_false]⟩

theorem eqCell_eq {q : Sc} {x y : V} (hs : q ≠ .s) (h : eqCell q x y = some true) : x = y := by
  cases q <;> cases x <;> cases y <;> simp_all [eqCell]
theorem eqCells_eq : ∀ {ks : List Sc} {xs ys : List V}, (ks.all fun q => decide (q ≠ .s)) = true → xs.length = ks.length → ys.length = ks.length → eqCells ks xs ys = some true → xs = ys
  | [], xs, ys, _, hx, hy, _ => by rw [List.eq_nil_of_length_eq_zero hx, List.eq_nil_of_length_eq_zero hy]
  | k :: ks, [], _, _, hx, _, _ => by simp at hx
  | k :: ks, _ :: _, [], _, _, hy, _ => by simp at hy
  | k :: ks, x :: xs, y :: ys, hk, hx, hy, h => by
    simp only [List.all_cons, Bool.and_eq_true, decide_eq_true_eq] at hk
    simp only [eqCells, Option.bind_eq_some_iff] at h
    obtain ⟨b, h1, h2⟩ := h
    cases b with
    | false => simp at h2
    | true =>
      simp only [if_true] at h2
      rw [eqCell_eq hk.1 h1, eqCells_eq hk.2 (by simpa using hx) (by simpa using hy) h2]
theorem eqKey_eq {P : Program} {k : TypeId} {kt : KT} (hk : keyT P k = some kt) {x y : V} (h : eqKey kt x y = some true) : x = y := by
  cases kt with
  | one q =>
    cases q with
    | s =>
      cases x <;> cases y <;> simp only [eqKey] at h <;> try (cases h; done)
      simp only [Option.some.injEq] at h
      rw [(Go.MapKept.bytes_beq _ _).1 h]
    | b => cases x <;> cases y <;> simp_all [eqKey, eqCell]
    | i => cases x <;> cases y <;> simp_all [eqKey, eqCell]
  | many ks =>
    obtain ⟨xs, ys, rfl, rfl, h1, h2, h3⟩ := eqKey_many h
    rw [eqCells_eq (keyT_many hk).2 h1 h2 h3]
theorem findM_push {kt : KT} {k z : V} (hs : eqKey kt k k = some true) : ∀ (kvs : List (V × V)) (i : Nat), findM kt k kvs i = some none → findM kt k (kvs ++ [(k, z)]) i = some (some (i + kvs.length, z))
  | [], i, _ => by simp [findM, hs]
  | e :: kvs, i, h => by
    simp only [findM, Option.bind_eq_some_iff] at h
    obtain ⟨b, hb, h⟩ := h
    cases b with
    | true => simp at h
    | false =>
      simp only [Bool.false_eq_true, if_false] at h
      simp only [List.cons_append, findM, hb, Option.bind_some, Bool.false_eq_true, if_false]
      rw [findM_push hs kvs (i + 1) h, List.length_cons]
      congr 3
      omega
/-- To make an entry does not change what is read at its key. -/
theorem look_entry {c : Cx} {t : TypeId} {H H' : Heap} {m k v r : V} (h : entryK c t H m k = some (v, H')) (hl : lookK c.P t H m k false = some r) : lookK c.P t H' m k false = some r := by
  unfold entryK at h
  split at h
  case h_2 => cases h
  rename_i b
  split at h
  case h_2 => cases h
  rename_i kvs hb
  simp only [Option.bind_eq_some_iff] at h
  obtain ⟨q, hq, h⟩ := h
  split at h
  case isFalse => cases h
  rename_i hc
  simp only [Option.bind_eq_some_iff] at h
  obtain ⟨f, hf, h⟩ := h
  obtain ⟨kt, _, hkt⟩ := mapK_some hq
  have hlt : b < H.length := (List.getElem?_eq_some_iff.1 hb).1
  unfold lookK at hl ⊢
  simp only [hb, hq, Option.bind_some, if_pos (show isPlain k = true ∧ eqKey q.1 k k = some true from ⟨hc.1, hc.2.1⟩), hf] at hl
  cases f with
  | some f =>
    obtain ⟨i, vv⟩ := f
    simp only [Option.some.injEq, Prod.mk.injEq] at h
    obtain ⟨_, rfl⟩ := h
    obtain ⟨n, kk, h1, h2, h3⟩ := findM_get kvs 0 i vv hf
    have : i = n := by omega
    subst this
    have hkk := eqKey_eq hkt h3
    subst hkk
    have hset : kvs.set i (k, vv) = kvs := by
      apply List.ext_getElem?
      intro j
      rw [List.getElem?_set]
      split
      · rename_i e; subst e; rw [if_pos (List.getElem?_eq_some_iff.1 h2).1, h2]
      · rfl
    rw [hset]
    have hg : (H.set b (.mp kvs))[b]? = some (.mp kvs) := by rw [set_get, if_pos ⟨rfl, hlt⟩]
    simp only [hg, hq, Option.bind_some, if_pos (show isPlain k = true ∧ eqKey q.1 k k = some true from ⟨hc.1, hc.2.1⟩), hf]
    exact hl
  | none =>
    simp only [Option.bind_eq_some_iff] at h
    obtain ⟨z, hz, h⟩ := h
    split at h
    case isFalse => cases h
    simp only [Option.some.injEq, Prod.mk.injEq] at h
    obtain ⟨_, rfl⟩ := h
    simp only [Option.bind_some, hz, Option.map_some] at hl
    have hg : (H.set b (.mp (kvs ++ [(k, z)])))[b]? = some (.mp (kvs ++ [(k, z)])) := by rw [set_get, if_pos ⟨rfl, hlt⟩]
    simp only [hg, hq, Option.bind_some, if_pos (show isPlain k = true ∧ eqKey q.1 k k = some true from ⟨hc.1, hc.2.1⟩), findM_push hc.2.1 kvs 0 hf]
    exact hl

theorem swap_eff {cx cy : Cx} (hP : cx.P = cy.P) (hx : cx.still = true) (hy : cy.still = true) {ops : Array Oper} {x y : Oper} (hsw : swapOk ops x y = true) {S : St} {vx vy : V} {Hx Hy : Heap} (h1 : effK cx ops x S = some (vx, Hx)) (h2 : effK cy ops y (putK x.dst (vx, Hx) S) = some (vy, Hy))
    (hk : isLoad x = true → keepsCells y = true → ∀ v H', effK cy ops y S = some (v, H') → sameCells S.H H') :
    ∃ H1, effK cy ops y S = some (vy, H1) ∧ effK cx ops x (putK y.dst (vy, H1) S) = some (vx, Hy) := by
  unfold swapOk at hsw
  simp only [Bool.and_eq_true, Bool.or_eq_true] at hsw
  obtain ⟨⟨ha, _⟩, hcl⟩ := hsw
  obtain ⟨a1, a2, a3⟩ := Oper.apart_spec ha
  obtain ⟨T, H⟩ := S
  have ey : ∀ H', effK cy ops y (putK x.dst (vx, H') { T := T, H := H }) = effK cy ops y { T := T, H := H' } := by
    intro H'
    unfold putK
    refine effK_congr fun t ht => ?_
    cases hd : x.dst with
    | none => rfl
    | some d =>
      simp only []
      rw [if_neg (fun (e : t = d) => a1 d hd (e ▸ ht))]
  have ex : ∀ v H', effK cx ops x (putK y.dst (v, H') { T := T, H := H }) = effK cx ops x { T := T, H := H' } := by
    intro v H'
    unfold putK
    refine effK_congr fun t ht => ?_
    cases hd : y.dst with
    | none => rfl
    | some d =>
      simp only []
      rw [if_neg (fun (e : t = d) => a3 d hd (e ▸ ht))]
  rw [ey] at h2
  rcases hcl with ((hp | hp) | hp) | hp
  · obtain ⟨rfl, k⟩ := effK_pure hx hp h1
    exact ⟨Hy, h2, by rw [ex]; exact k Hy⟩
  · obtain ⟨rfl, k⟩ := effK_pure hy hp h2
    exact ⟨H, k H, by rw [ex]; exact h1⟩
  · obtain ⟨hl, hp⟩ := hp
    obtain ⟨rfl, k⟩ := effK_load hl h1
    rcases hp with hp | hp
    · obtain ⟨rfl, _⟩ := effK_load hp h2
      exact ⟨Hy, h2, by rw [ex]; exact h1⟩
    · exact ⟨Hy, h2, by rw [ex]; exact k Hy (hk hl hp _ _ h2)⟩
  · obtain ⟨⟨he, hgx⟩, hgy⟩ := hp
    unfold isEntryFor at he
    split at he
    case h_2 => cases he
    rename_i t ax kx t' ay ky hox hoy
    simp only [Bool.and_eq_true, beq_iff_eq] at he
    obtain ⟨⟨rfl, rfl⟩, rfl⟩ := he
    have g1 : x.guard = none := by unfold isNone at hgx; split at hgx; assumption; cases hgx
    have g2 : y.guard = none := by unfold isNone at hgy; split at hgy; assumption; cases hgy
    have e1 : ∀ H', effK cx ops x { T := T, H := H' } = (lookK cx.P t H' (T ax) (T kx) false).map fun v => (v, H') := by
      intro H'
      simp only [effK, wantedK, g1, Option.bind_some, if_true, opK, hox, ev]
    have e2 : effK cy ops y { T := T, H := Hx } = entryK cy t Hx (T ax) (T kx) := by
      simp only [effK, wantedK, g2, Option.bind_some, if_true, opK, hoy, ev]
    rw [e1, Option.map_eq_some_iff] at h1
    obtain ⟨r, hr, h1⟩ := h1
    simp only [Prod.mk.injEq] at h1
    obtain ⟨rfl, rfl⟩ := h1
    refine ⟨Hy, h2, ?_⟩
    rw [ex, e1]
    rw [e2] at h2
    rw [hP] at hr ⊢
    rw [look_entry h2 hr]
    rfl

theorem gstep_swapE {cx cy : Cx} {ops : Array Oper} {x y : Oper} (ha : Oper.apart ops x y = true) {S S1 S2 : St} (h1 : gstepK cx ops x S = some S1) (h2 : gstepK cy ops y S1 = some S2)
    (key : ∀ vx Hx vy Hy, effK cx ops x S = some (vx, Hx) → effK cy ops y (putK x.dst (vx, Hx) S) = some (vy, Hy) → ∃ H1, effK cy ops y S = some (vy, H1) ∧ effK cx ops x (putK y.dst (vy, H1) S) = some (vx, Hy)) :
    ∃ S1', gstepK cy ops y S = some S1' ∧ gstepK cx ops x S1' = some S2 := by
  rw [gstep_eff] at h1 h2
  simp only [Option.bind_eq_some_iff, Prod.exists] at h1 h2
  obtain ⟨vx, Hx, e1, h1⟩ := h1
  obtain ⟨vy, Hy, e2, h2⟩ := h2
  split at h1
  case isFalse => cases h1
  rename_i c1
  split at h2
  case isFalse => cases h2
  rename_i c2
  simp only [Option.some.injEq] at h1 h2
  subst h1
  obtain ⟨H1, k1, k2⟩ := key _ _ _ _ e1 e2
  refine ⟨putK y.dst (vy, H1) S, ?_, ?_⟩
  · rw [gstep_eff, k1]
    simp only [Option.bind_some]
    rw [if_pos c2]
  · rw [gstep_eff, k2]
    simp only [Option.bind_some]
    rw [if_pos c1, ← h2]
    obtain ⟨_, a2, _⟩ := Oper.apart_spec ha
    unfold putK
    congr 1
    simp only [St.mk.injEq, and_true]
    cases hdx : x.dst with
    | none => rfl
    | some dx =>
      cases hdy : y.dst with
      | none => rfl
      | some dy =>
        have hne : dy ≠ dx := fun e => a2 dx hdx (by rw [hdy, e])
        funext i
        simp only []
        by_cases hi : i = dx
        · subst hi
          rw [if_pos rfl, if_neg (fun e => hne e.symm), if_pos rfl]
        · rw [if_neg hi]
          by_cases hj : i = dy
          · rw [if_pos hj, if_pos hj]
          · rw [if_neg hj, if_neg hj, if_neg hi]

theorem gstep_swap {cx cy : Cx} (hP : cx.P = cy.P) (hn : cx.ntmps = cy.ntmps) (hx : cx.still = true) (hy : cy.still = true) {ops : Array Oper} {x y : Oper} (hsw : swapOk ops x y = true) {S S1 S2 : St} (h1 : gstepK cx ops x S = some S1) (h2 : gstepK cy ops y S1 = some S2)
    (hk : isLoad x = true → keepsCells y = true → ∀ v H', effK cy ops y S = some (v, H') → sameCells S.H H') :
    ∃ S1', gstepK cy ops y S = some S1' ∧ gstepK cx ops x S1' = some S2 := by
  refine gstep_swapE ?_ h1 h2 fun vx Hx vy Hy e1 e2 => swap_eff hP hx hy hsw e1 e2 hk
  unfold swapOk at hsw
  simp only [Bool.and_eq_true] at hsw
  exact hsw.1.1
theorem gstep_T {c : Cx} {ops : Array Oper} {o : Oper} {S S' : St} (h : gstepK c ops o S = some S') {a : Nat} (hd : o.dst ≠ some a) : S'.T a = S.T a := by
  rw [gstep_eff] at h
  simp only [Option.bind_eq_some_iff] at h
  obtain ⟨r, _, h⟩ := h
  split at h
  case isFalse => cases h
  simp only [Option.some.injEq] at h
  subst h
  unfold putK
  cases hh : o.dst with
  | none => rfl
  | some d =>
    show (if a = d then _ else _) = _
    rw [if_neg]
    rintro rfl
    exact hd hh
theorem opsK_T {cf : Nat → Cx} {ops : Array Oper} {a : Nat} : ∀ (l : List Nat) {S S' : St}, opsK cf ops l S = some S' → (∀ k ∈ l, ∀ o, ops[k]? = some o → o.dst ≠ some a) → S'.T a = S.T a
  | [], S, S', h, _ => by simp only [opsK, Option.some.injEq] at h; rw [h]
  | k :: l, S, S', h, hd => by
    simp only [opsK] at h
    split at h
    · cases h
    rename_i o ho
    simp only [Option.bind_eq_some_iff] at h
    obtain ⟨S1, h1, h2⟩ := h
    rw [opsK_T l h2 fun k' hk' => hd k' (List.mem_cons_of_mem _ hk')]
    exact gstep_T h1 (hd k (List.mem_cons_self ..) o ho)
theorem store_at {c : Cx} {t : TypeId} {H H' : Heap} {q off : Nat} {w : V} (h : storeK c t H (.ptr q off) w = some H') (hq : c.base ≤ q) : ∃ x, H' = H.set q x := by
  unfold storeK at h
  simp only [if_neg (Nat.not_lt.2 hq), Option.bind_some] at h
  split at h
  case isFalse => cases h
  split at h
  · split at h
    · simp only [Option.some.injEq] at h
      exact ⟨_, h.symm⟩
    · cases h
  · cases h
/-- A load and a store whose places lie apart. -/
theorem ls_swap {cx cy : Cx} {ops : Array Oper} {x y : Oper} {t t' : TypeId} {a b : Nat} {v : Operand} (hx : x.op = .load t (.tmp a)) (hy : y.op = .store t' (.tmp b) v) (gx : x.guard = none) (gy : y.guard = none) (ha : Oper.apart ops x y = true) {S S1 S2 : St} (h1 : gstepK cx ops x S = some S1) (h2 : gstepK cy ops y S1 = some S2)
    (hp : placesOk cy.base (S.T a) (S.T b) = true) : ∃ S1', gstepK cy ops y S = some S1' ∧ gstepK cx ops x S1' = some S2 := by
  refine gstep_swapE ha h1 h2 fun vx Hx vy Hy e1 e2 => ?_
  obtain ⟨a1, a2, a3⟩ := Oper.apart_spec ha
  obtain ⟨T, H⟩ := S
  have ey : ∀ H', effK cy ops y (putK x.dst (vx, H') { T := T, H := H }) = effK cy ops y { T := T, H := H' } := by
    intro H'
    unfold putK
    refine effK_congr fun t ht => ?_
    cases hd : x.dst with
    | none => rfl
    | some d =>
      simp only []
      rw [if_neg (fun (e : t = d) => a1 d hd (e ▸ ht))]
  have ex : ∀ v H', effK cx ops x (putK y.dst (v, H') { T := T, H := H }) = effK cx ops x { T := T, H := H' } := by
    intro v H'
    unfold putK
    refine effK_congr fun t ht => ?_
    cases hd : y.dst with
    | none => rfl
    | some d =>
      simp only []
      rw [if_neg (fun (e : t = d) => a3 d hd (e ▸ ht))]
  have x1 : ∀ H', effK cx ops x { T := T, H := H' } = (loadK cx.P t H' (T a)).map fun v => (v, H') := by
    intro H'
    simp only [effK, wantedK, gx, Option.bind_some, if_true, opK, hx, ev]
  have y1 : ∀ H', effK cy ops y { T := T, H := H' } = (ev T v).bind fun w => (storeK cy t' H' (T b) w).map fun H => (undefV, H) := by
    intro H'
    simp only [effK, wantedK, gy, Option.bind_some, if_true, opK, hy]
    rfl
  rw [ey] at e2
  rw [x1, Option.map_eq_some_iff] at e1
  obtain ⟨r, hr, e1⟩ := e1
  simp only [Prod.mk.injEq] at e1
  obtain ⟨rfl, rfl⟩ := e1
  refine ⟨Hy, e2, ?_⟩
  rw [ex, x1]
  rw [y1] at e2
  simp only [Option.bind_eq_some_iff, Option.map_eq_some_iff, Prod.mk.injEq] at e2
  obtain ⟨w, _, H2, e2, _, rfl⟩ := e2
  have hl : loadK cx.P t H2 (T a) = loadK cx.P t H (T a) := by
    simp only [] at hp
    cases hb : T b with
    | ptr q off =>
      rw [hb] at hp e2
      cases hA : T a with
      | ptr p o =>
        rw [hA] at hp
        simp only [placesOk, Bool.and_eq_true, bne_iff_ne, ne_eq, decide_eq_true_eq] at hp
        obtain ⟨z, rfl⟩ := store_at e2 hp.2
        unfold loadK
        simp only []
        rw [set_get, if_neg]
        rintro ⟨e, _⟩
        exact hp.1 e.symm
      | lp _ _ _ => rfl
      | _ => rw [hA] at hp; simp [placesOk] at hp
    | _ => rw [hb] at hp; cases hA : T a <;> rw [hA] at hp <;> simp [placesOk] at hp
  rw [hl, hr]; rfl

end Go.Proofs.Ytblodpbcinkehaa.K
