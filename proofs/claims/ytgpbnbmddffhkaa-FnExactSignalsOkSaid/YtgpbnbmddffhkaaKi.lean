/-
  Regions, branches, loops: what the interpreter computes, the model computes. No conditions.
-/
import Derived.Test.YtgpbnbmddffhkaaKhv
set_option linter.unusedVariables false
set_option linter.unusedSimpArgs false
namespace Go.Proofs.Ytgpbnbmddffhkaa.K

section
variable {c : Cx} {E : Env} {S : St} {a : Act} {o : Oper}

theorem getD_put (ts : Array Value) (d i : Nat) (v u : Value) : (ts.setIfInBounds d v).getD i u = if i = d ∧ d < ts.size then v else ts.getD i u := by
  simp only [Array.getD_eq_getD_getElem?, Array.getElem?_setIfInBounds]
  by_cases h : d = i
  · subst h
    by_cases h2 : d < ts.size
    · simp [h2]
    · simp [h2]
  · rw [if_neg h, if_neg (fun e => h e.1.symm)]

theorem Sim.next (hs : Sim c E S a) {E' : Env} {H' : Heap} (ha : After c E E' H') {T : Nat → V} {ts : Array Value} {ds : List Deferred} (hT : ∀ i, RepV E' (T i) (ts.getD i undef)) (hsz : ts.size = a.tmps.size) : Sim c E' { T, H := H' } { tmps := ts, defers := ds } where
  H := ha.H
  lk := by rw [ha.evo.lk, hs.lk]
  n := ha.n
  m := by rw [ha.m, hs.m]
  tmps := hT
  size := hsz.trans hs.size
  heap := ha.heap
  base := by have := hs.base; have h1 := hs.n; have h2 := ha.n; have h3 := ha.evo.len; show _ ≤ H'.length; omega
  locks := hs.locks
  deep := hs.deep

theorem Sim.put (hs : Sim c E S a) {E' : Env} {H' : Heap} (ha : After c E E' H') {d : Nat} {v : V} {u : Value} (hd : d < c.ntmps) (hr : RepV E' v u) : Sim c E' (({ S with H := H' } : St).set d v) (a.put (some d) u) := by
  refine Sim.next hs ha (fun i => ?_) (by simp)
  rw [getD_put]
  show RepV E' (if i = d then v else S.T i) _
  by_cases h : i = d
  · rw [if_pos h, if_pos ⟨h, by rw [hs.size]; exact hd⟩]; exact hr
  · rw [if_neg h, if_neg (fun e => h e.1)]; exact ha.evo.rep hs.heap _ _ (hs.tmps i)
theorem Sim.stay (hs : Sim c E S a) {E' : Env} {H' : Heap} (ha : After c E E' H') : Sim c E' { S with H := H' } a := by
  refine Sim.next (ds := a.defers) hs ha (fun i => ha.evo.rep hs.heap _ _ (hs.tmps i)) rfl

theorem step_sound (hs : Sim c E S a) (hΓ : CallOk c.P c.hints c.Γ) (hd : a.defers = []) {S' : St} (h : stepK c o S = some S') {next : Act → World → Prop} {Q : Exit → Act → World → Prop}
    (hn : ∀ E' a', Sim c E' S' a' → After c E E' S'.H → a'.defers = [] → next a' E'.w) : o.wp c.P a E.w next Q := by
  unfold stepK at h
  split at h
  · rename_i hdst
    simp only [Option.map_eq_some_iff, Prod.exists] at h
    obtain ⟨v, H', hop, rfl⟩ := h
    refine does_op hs hΓ hop next Q fun E' u ha hr => ?_
    rw [hdst]
    exact hn E' a (Sim.stay hs ha) ha hd
  · rename_i d hdst
    split at h
    case isFalse => cases h
    rename_i hlt
    simp only [Option.map_eq_some_iff, Prod.exists] at h
    obtain ⟨v, H', hop, rfl⟩ := h
    refine does_op hs hΓ hop next Q fun E' u ha hr => ?_
    rw [hdst]
    exact hn E' _ (Sim.put hs ha hlt hr) ha hd

theorem wanted_sound (hs : Sim c E S a) {ops : Array Oper} {b : Bool} (h : wantedK ops S.T o = some b) : Region.wanted o (yielded ops a.tmps) = b := by
  unfold wantedK at h
  unfold Region.wanted
  split at h
  · rename_i hg
    rw [hg]
    simpa using h
  · rename_i j want hg
    rw [hg]
    split at h
    · rename_i t ht
      have hr := hs.tmps t
      simp only [yielded, ht, Option.bind_some]
      split at h
      · rename_i b' hb
        simp only [Option.some.injEq] at h
        rw [hb] at hr
        simp only [RepV] at hr
        have : a.tmps[t]? = some (.bool b') := by
          rw [Array.getD_eq_getD_getElem?] at hr
          cases h2 : a.tmps[t]? with
          | none => rw [h2] at hr; simp [undef] at hr
          | some x => rw [h2] at hr; simp only [Option.getD_some] at hr; rw [hr]
        rw [this]
        simpa using h
      · rename_i hb
        simp only [Option.some.injEq] at h
        subst h
        rw [hb] at hr
        simp only [RepV] at hr
        obtain ⟨vs, hv, hvs⟩ := hr
        simp only [RepVs] at hvs
        rw [Array.getD_eq_getD_getElem?] at hv
        cases h2 : a.tmps[t]? with
        | none => simp
        | some x =>
          rw [h2] at hv
          simp only [Option.getD_some] at hv
          rw [hv]
          simp
      · cases h
    · cases h

theorem undef_rep (E : Env) : RepV E undefV undef := by
  simp only [undefV, RepV]
  exact ⟨#[], rfl, by simp only [RepVs]⟩

theorem Sim.care (hs : Sim c E S a) (s k : Bool) : Sim (c.care s k) E S a := ⟨hs.H, hs.lk, hs.n, hs.m, hs.tmps, hs.size, hs.heap, hs.base, hs.locks, hs.deep⟩
theorem Sim.uncare {s k : Bool} (hs : Sim (c.care s k) E S a) : Sim c E S a := ⟨hs.H, hs.lk, hs.n, hs.m, hs.tmps, hs.size, hs.heap, hs.base, hs.locks, hs.deep⟩
theorem After.uncare {s k : Bool} {E' : Env} {H' : Heap} (h : After (c.care s k) E E' H') : After c E E' H' := ⟨h.H, h.n, h.m, h.evo, h.heap, h.forN, h.forG, h.kept⟩

theorem gstep_sound (hs : Sim c E S a) (hΓ : CallOk c.P c.hints c.Γ) (hd : a.defers = []) {s k : Bool} {ops : Array Oper} {S' : St} (h : gstepK (c.care s k) ops o S = some S') {next : Act → World → Prop} {Q : Exit → Act → World → Prop}
    (hn : ∀ E' a', Sim c E' S' a' → After c E E' S'.H → a'.defers = [] → next a' E'.w) :
    if Region.wanted o (yielded ops a.tmps) then o.wp c.P a E.w next Q ∨ (o.asks c.P a E.w ∧ LetsOut Q) else next (a.put o.dst undef) E.w := by
  unfold gstepK at h
  simp only [Option.bind_eq_some_iff] at h
  obtain ⟨b, hb, h1⟩ := h
  rw [wanted_sound hs hb]
  cases b with
  | true =>
    rw [if_pos rfl] at h1 ⊢
    exact .inl (step_sound (c := c.care s k) (hs.care s k) hΓ hd h1 fun E1 a1 hs1 ha1 hd1 => hn E1 a1 hs1.uncare ha1.uncare hd1)
  | false =>
    simp only [Bool.false_eq_true, if_false] at h1 ⊢
    split at h1
    · rename_i d hdst
      split at h1
      case isFalse => cases h1
      rename_i hlt
      simp only [Option.some.injEq] at h1
      subst h1
      rw [hdst]
      exact hn E _ (Sim.put hs (After.refl hs) hlt (undef_rep E)) (show After c E E S.H from After.refl hs) hd
    · rename_i hdst
      simp only [Option.some.injEq] at h1
      subst h1
      rw [hdst]
      exact hn E a hs (After.refl hs) hd

theorem ops_sound {ops : Array Oper} {Q : Exit → Act → World → Prop} {cf : Nat → Cx} (hcf : ∀ i, ∃ s k, cf i = c.care s k) : ∀ (l : List Nat) {E : Env} {S : St} {a : Act} (hs : Sim c E S a) (hΓ : CallOk c.P c.hints c.Γ) (hd : a.defers = []) {S' : St} (h : opsK cf ops l S = some S')
    (hn : ∀ E' a', Sim c E' S' a' → After c E E' S'.H → a'.defers = [] → Q .normal a' E'.w), wpOps c.P ops Q l a E.w
  | [], E, S, a, hs, _, hd, S', h, hn => by
    simp only [opsK, Option.some.injEq] at h
    subst h
    exact hn E a hs (After.refl hs) hd
  | i :: rest, E, S, a, hs, hΓ, hd, S', h, hn => by
    simp only [opsK] at h
    simp only [wpOps]
    split at h
    · cases h
    · rename_i o ho
      simp only [Option.bind_eq_some_iff] at h
      obtain ⟨S1, h1, h2⟩ := h
      obtain ⟨s, k, hc⟩ := hcf i
      rw [hc] at h1
      simp only [ho]
      exact gstep_sound hs hΓ hd h1 fun E1 a1 hs1 ha1 hd1 => ops_sound hcf rest hs1 hΓ hd1 h2 fun E' a' hs' ha' hd' => hn E' a' hs' (ha1.trans ha') hd'

theorem least {p : Nat → Prop} : ∀ n, p n → ∃ k, p k ∧ ∀ j, p j → k ≤ j := by
  intro n
  induction n using Nat.strongRecOn with
  | _ n ih =>
    intro hn
    by_cases h : ∃ m, m < n ∧ p m
    · obtain ⟨m, hm, hp⟩ := h
      exact ih m hm hp
    · exact ⟨n, hn, fun j hj => Nat.le_of_not_lt fun hlt => h ⟨j, hlt, hj⟩⟩

/-- The facts about a region that draws, of its check. -/
theorem drawOk_spec {ops : Array Oper} (h : drawOk ops = true) :
    (∀ i, i < ops.size → i ∈ ordK ops) ∧ (∀ i ∈ ordK ops, i < ops.size) ∧ (∀ i, i < ops.size → (∀ e ∈ edgesK ops i, e < i) ∧ ∀ j ∈ (ancK ops).getD i [], ∃ e ∈ edgesK ops i, e = j ∨ j ∈ (ancK ops).getD e []) ∧ drawPairs ops (ancK ops) (ordK ops) = true := by
  unfold drawOk at h
  simp only [Bool.and_eq_true, List.all_eq_true, List.mem_range, List.contains_eq_mem, decide_eq_true_eq, List.any_eq_true, Bool.or_eq_true, beq_iff_eq] at h
  obtain ⟨⟨⟨h1, h2⟩, h3⟩, h4⟩ := h
  exact ⟨h1, h2, h3, h4⟩

theorem drawPairs_sub {ops : Array Oper} {tab : List (List Nat)} : ∀ {l l' : List Nat}, l'.Sublist l → drawPairs ops tab l = true → drawPairs ops tab l' = true
  | _, _, .slnil, h => h
  | _, _, .cons a s, h => by
    simp only [drawPairs, Bool.and_eq_true] at h
    exact drawPairs_sub s h.2
  | _, _, .cons_cons a s, h => by
    simp only [drawPairs, Bool.and_eq_true, List.all_eq_true] at h ⊢
    exact ⟨fun i hi => h.1 i (s.subset hi), drawPairs_sub s h.2⟩
theorem drawPairs_split {ops : Array Oper} {tab : List (List Nat)} {i : Nat} {r2 : List Nat} : ∀ {r1 : List Nat}, drawPairs ops tab (r1 ++ i :: r2) = true →
    (∀ j ∈ r1, i ≠ j ∧ (j ∈ tab.getD i [] ∨ ∃ x y, ops[j]? = some x ∧ ops[i]? = some y ∧ swapOk ops x y = true ∧ (isLoad x = true → isCall y = true → calmAt ops tab i = true))) ∧ i ∉ r2
  | [], h => by
    simp only [List.nil_append, drawPairs, Bool.and_eq_true, List.all_eq_true, bne_iff_ne, ne_eq] at h
    exact ⟨fun j hj => absurd hj (by simp), fun hx => (h.1 i hx).1 rfl⟩
  | j :: r1, h => by
    simp only [List.cons_append, drawPairs, Bool.and_eq_true, List.all_eq_true] at h
    obtain ⟨h1, h2⟩ := h
    obtain ⟨k1, k2⟩ := drawPairs_split h2
    refine ⟨fun j' hj' => ?_, k2⟩
    rcases List.mem_cons.1 hj' with rfl | hj'
    · obtain ⟨q1, q2⟩ := h1 i (by simp)
      refine ⟨by simpa using q1, ?_⟩
      simp only [Bool.or_eq_true, List.contains_eq_mem, decide_eq_true_eq] at q2
      rcases q2 with q2 | q2
      · exact .inl q2
      · refine .inr ?_
        split at q2
        · rename_i x y hx hy
          simp only [Bool.and_eq_true, Bool.or_eq_true, Bool.not_eq_true'] at q2
          refine ⟨x, y, hx, hy, q2.1, fun hl hc => ?_⟩
          rcases q2.2 with (q3 | q3) | q3
          · rw [hl] at q3; cases q3
          · rw [hc] at q3; cases q3
          · exact q3
        · cases q2
    · exact k1 j' hj'

theorem drawPairs_nodup {ops : Array Oper} {tab : List (List Nat)} : ∀ {l : List Nat}, drawPairs ops tab l = true → l.Nodup
  | [], _ => List.nodup_nil
  | j :: l, h => by
    simp only [drawPairs, Bool.and_eq_true, List.all_eq_true, bne_iff_ne, ne_eq] at h
    rw [List.nodup_cons]
    exact ⟨fun hx => (h.1 j hx).1 rfl, drawPairs_nodup h.2⟩

theorem mem_edges {ops : Array Oper} {i e : Nat} {o : Oper} (ho : ops[i]? = some o) : e ∈ edgesK ops i ↔ ∃ d ∈ o.after, Region.binds .any d = true ∧ d.on = e := by
  unfold edgesK
  rw [ho]
  simp only [List.mem_map, List.mem_filter, Array.mem_toList_iff]
  constructor
  · rintro ⟨d, ⟨h1, h2⟩, h3⟩; exact ⟨d, h1, h2, h3⟩
  · rintro ⟨d, h1, h2, h3⟩; exact ⟨d, ⟨h1, h2⟩, h3⟩

theorem getD_listed {listed : Array Bool} {i : Nat} (h : i < listed.size) (b b' : Bool) : listed.getD i b = listed.getD i b' := by
  simp [Array.getD_eq_getD_getElem?, h]

theorem draws_sound {ops : Array Oper} {Q : Exit → Act → World → Prop} (hok : drawOk ops = true) (hΓ : CallOk c.P c.hints c.Γ) (hK : KeptOk c.Γ) {S' : St} : ∀ (fuel : Nat) (listed : Array Bool) (r : List Nat) {E : Env} {S : St} {a : Act},
    listed.size = ops.size → r.length = fuel → (∀ i, i ∈ r ↔ i < ops.size ∧ listed.getD i true = false) → drawPairs ops (ancK ops) r = true → (∀ e, listed.getD e false = true → ∀ j ∈ (ancK ops).getD e [], listed.getD j false = true) →
    Sim c E S a → a.defers = [] → opsK (drawCx c ops) ops r S = some S' →
    (∀ E' a', Sim c E' S' a' → After c E E' S'.H → a'.defers = [] → Q .normal a' E'.w) → wpAny c.P .any ops Q fuel listed a E.w
  | 0, listed, r, E, S, a, hsz, hlen, hr, hp, hdc, hs, hd, h, hn => by
    have hr0 : r = [] := List.eq_nil_of_length_eq_zero hlen
    subst hr0
    simp only [opsK, Option.some.injEq] at h
    subst h
    refine ⟨?_, hn E a hs (After.refl hs) hd⟩
    rw [List.eq_nil_iff_forall_not_mem]
    intro i hi
    obtain ⟨h1, o, h2, _⟩ := mem_ready.1 hi
    have := (hr i).2 ⟨(Array.getElem?_eq_some_iff.1 h2).1, h1⟩
    cases this
  | fuel + 1, listed, r, E, S, a, hsz, hlen, hr, hp, hdc, hs, hd, h, hn => by
    obtain ⟨s1, s2, s3, s4⟩ := drawOk_spec hok
    refine ⟨fun hnil => ?_, fun i hi => ?_⟩
    · exfalso
      have hne : r ≠ [] := by intro e; rw [e] at hlen; simp at hlen
      obtain ⟨x, hx⟩ := List.exists_mem_of_ne_nil r hne
      obtain ⟨m, hm, hmin⟩ := least (p := fun k => k ∈ r) x hx
      obtain ⟨hm1, hm2⟩ := (hr m).1 hm
      have : m ∈ Region.ready .any ops listed := by
        rw [mem_ready]
        refine ⟨hm2, ops[m], Array.getElem?_eq_getElem hm1, fun e he hb => ?_⟩
        have hlt := (s3 m hm1).1 e.on ((mem_edges (Array.getElem?_eq_getElem hm1)).2 ⟨e, he, hb, rfl⟩)
        cases hl : listed.getD e.on true with
        | false => exact absurd (hmin e.on ((hr e.on).2 ⟨by omega, hl⟩)) (by omega)
        | true => rw [getD_listed (by omega) false true]; exact hl
      rw [hnil] at this
      cases this
    · obtain ⟨h1, o, ho, h2⟩ := mem_ready.1 hi
      have hlt : i < ops.size := (Array.getElem?_eq_some_iff.1 ho).1
      have hir : i ∈ r := (hr i).2 ⟨hlt, h1⟩
      obtain ⟨r1, r2, rfl⟩ := List.append_of_mem hir
      obtain ⟨p1, p2⟩ := drawPairs_split hp
      have hlist : ∀ e ∈ edgesK ops i, listed.getD e false = true := by
        intro e he
        obtain ⟨d, hd1, hd2, rfl⟩ := (mem_edges ho).1 he
        exact h2 d hd1 hd2
      have hanc : ∀ j ∈ (ancK ops).getD i [], listed.getD j false = true := by
        intro j hj
        obtain ⟨e, he, hej⟩ := (s3 i hlt).2 j hj
        rcases hej with rfl | hej
        · exact hlist _ he
        · exact hdc e (hlist e he) j hej
      have hbub := bubble (c := c) hK (cf := drawCx c ops) (fun i => ⟨_, rfl⟩) ho (r2 := r2) r1 hs.base h fun j hj => by
        obtain ⟨_, hj2⟩ := p1 j hj
        have hj3 := (hr j).1 (by simp [hj])
        rcases hj2 with hj2 | ⟨x, y, hx, hy, hsw, hc⟩
        · have h4 := hanc j hj2
          rw [getD_listed (by omega) false true, hj3.2] at h4
          cases h4
        · rw [ho] at hy
          simp only [Option.some.injEq] at hy
          subst hy
          exact ⟨x, hx, hsw, hc⟩
      simp only [opsK, ho, Option.bind_eq_some_iff] at hbub
      obtain ⟨S1, g1, g2⟩ := hbub
      unfold wpOp
      simp only [ho]
      refine gstep_sound hs hΓ hd (s := true) (k := calmAt ops (ancK ops) i) g1 fun E1 a1 hs1 ha1 hd1 => ?_
      refine draws_sound hok hΓ hK fuel (listed.setIfInBounds i true) (r1 ++ r2) (by simp [hsz]) (by simp at hlen ⊢; omega) (fun x => ?_) (drawPairs_sub (by simp) hp) (fun e he j hj => ?_) hs1 hd1 g2 fun E' a' hs' ha' hd' => hn E' a' hs' (ha1.trans ha') hd'
      · by_cases hx : i = x
        · subst hx
          constructor
          · intro hm
            exfalso
            rcases List.mem_append.1 hm with hm | hm
            · exact (p1 i hm).1 rfl
            · exact p2 hm
          · rintro ⟨_, hm⟩
            simp [hsz, hlt] at hm
        · rw [getD_set_ne true hx, ← hr x]
          simp [List.mem_append, List.mem_cons, Ne.symm hx]
      · by_cases hx : i = e
        · subst hx
          exact getD_set_true (hanc j hj)
        · rw [getD_set_ne false hx] at he
          exact getD_set_true (hdc e he j hj)

/-- A draw changes nothing that counts. -/
def Env.drew (E : Env) : Env := { E with w := { E.w with drawn := E.w.drawn + 1 } }
theorem Evo.drew (E : Env) : Evo E E.drew where
  lk := rfl
  os := rfl
  tape := rfl
  output := rfl
  size := Nat.le_refl _
  len := Nat.le_refl _
  mm := rfl
  cell := fun _ _ _ h _ => h
  block := fun _ _ _ => rfl
  mono := fun _ _ _ _ h => .inl h
  phi := fun _ _ h => ⟨rfl, h⟩
  cells := fun _ _ h => h
  bld := fun _ _ n _ _ h => ⟨n, h, Nat.le_refl _, fun _ => ⟨rfl, fun c _ hc => ⟨c, hc, rfl⟩⟩⟩
  fresh := fun _ h => .inl ⟨rfl, h⟩
theorem After.drew (hs : Sim c E S a) : After c E E.drew S.H where
  H := hs.H
  n := hs.n
  m := rfl
  evo := Evo.drew E
  heap :=
    { cells := fun b sz cs hb => by
        obtain ⟨x, t, h1, h2, h3⟩ := hs.heap.cells b sz cs hb
        exact ⟨x, t, h1, h2, fun i v hv => let ⟨u, h4, h5⟩ := h3 i v hv; ⟨u, h4, (Evo.drew E).rep hs.heap _ _ h5⟩⟩
      bld := hs.heap.bld
      lvl := hs.heap.lvl
      dm := hs.heap.dm
      inj := hs.heap.inj
      maps := hs.heap.maps }
  forN := fun _ base nb d _ hnb hd hf b sz cs hlt hB x t hx i v u hv hu => ((Evo.drew E).shrink hs.heap hnb hd).rep _ _ (hf b sz cs hlt hB x t hx i v u hv hu)
  forG := fun _ base d _ hd hf b sz cs hlt hB x t hx i v u hv hu => ((Evo.drew E).shrink hs.heap (Nat.le_refl _) hd).rep _ _ (hf b sz cs hlt hB x t hx i v u hv hu)
  kept := fun _ _ _ => by rw [hs.H]

def X.exit' : X → Exit
  | .normal => .normal
  | .exit id => .exit id
  | .ret => .ret

open Classical in
theorem wp_loop_count {P : Program} {Q : Exit → Act → World → Prop} {a : Act} {w : World} {b : Code} (I : Nat → Act → World → Prop) {n : Nat} (h0 : I n a w) (hz : ∀ a w, ¬ I 0 a w)
    (round : ∀ k a w, I (k + 1) a w → b.wp P (Exit.then (I k) Q) a w) : (Code.loop b).wp P Q a w := by
  let μ : Act → World → Nat := fun a w => if h : ∃ k, I k a w then Classical.choose (least (p := fun k => I k a w) (Classical.choose h) (Classical.choose_spec h)) else 0
  have hμ : ∀ a w (h : ∃ k, I k a w), I (μ a w) a w ∧ ∀ j, I j a w → μ a w ≤ j := by
    intro a w h
    have := Classical.choose_spec (least (p := fun k => I k a w) (Classical.choose h) (Classical.choose_spec h))
    show I (if h : ∃ k, I k a w then _ else 0) a w ∧ _
    simp only [μ, dif_pos h]
    exact this
  refine wp_loop (fun a w => ∃ k, I k a w) μ ⟨n, h0⟩ fun a w h => ?_
  obtain ⟨h1, h2⟩ := hμ a w h
  obtain ⟨k, hk⟩ : ∃ k, μ a w = k + 1 := by
    cases hm : μ a w with
    | zero => rw [hm] at h1; exact absurd h1 (hz a w)
    | succ k => exact ⟨k, rfl⟩
  rw [hk] at h1 ⊢
  refine wp_mono (round k a w h1) fun e a' w' hq => ?_
  cases e with
  | normal => exact ⟨⟨k, hq⟩, Nat.lt_succ_of_le ((hμ a' w' ⟨k, hq⟩).2 k hq)⟩
  | _ => exact hq

theorem exec_sound (hm : c.P.follows .mixedOrders = true) (hΓ : CallOk c.P c.hints c.Γ) (hK : KeptOk c.Γ) (n : Nat) : ∀ (b : Code) {E : Env} {S : St} {a : Act} (hs : Sim c E S a) (hd : a.defers = []) {x : X} {S' : St} (h : execK c n b S = some (x, S')) {Q : Exit → Act → World → Prop}
    (hn : ∀ E' a', Sim c E' S' a' → After c E E' S'.H → a'.defers = [] → Q x.exit' a' E'.w), b.wp c.P Q a E.w
  | .skip, E, S, a, hs, hd, x, S', h, Q, hn => by
    simp only [execK, Option.some.injEq, Prod.mk.injEq] at h
    obtain ⟨rfl, rfl⟩ := h
    exact wp_skip (hn E a hs (After.refl hs) hd)
  | .region id ops draw, E, S, a, hs, hd, x, S', h, Q, hn => by
    cases draw with
    | false =>
      simp only [execK, Bool.false_eq_true, if_false, Option.map_eq_some_iff, Prod.mk.injEq] at h
      obtain ⟨S1, h1, rfl, rfl⟩ := h
      exact wp_region (ops_sound (fun _ => ⟨c.still, c.calm, rfl⟩) _ hs hΓ hd h1 hn)
    | true =>
      simp only [execK, if_true, Option.map_eq_some_iff, Prod.mk.injEq] at h
      obtain ⟨S1, h1, rfl, rfl⟩ := h
      split at h1
      case isFalse => cases h1
      rename_i hok
      obtain ⟨s1, s2, s3, s4⟩ := drawOk_spec hok
      have ha0 := After.drew hs
      have hs0 : Sim c E.drew S a := Sim.next (T := S.T) (ts := a.tmps) (ds := a.defers) hs ha0 (fun i => (Evo.drew E).rep hs.heap _ _ (hs.tmps i)) rfl
      refine wp_region_any hm ?_
      have hlen : (ordK ops).length = ops.size := by
        have hnd := drawPairs_nodup s4
        refine Nat.le_antisymm ?_ ?_
        · have := List.Nodup.length_le_of_subset hnd (l₂ := List.range ops.size) fun i hi => List.mem_range.2 (s2 i hi)
          simpa using this
        · have := List.Nodup.length_le_of_subset (List.nodup_range (n := ops.size)) (l₂ := ordK ops) fun i hi => s1 i (List.mem_range.1 hi)
          simpa using this
      refine draws_sound (E := E.drew) hok hΓ hK ops.size (Array.replicate ops.size false) (ordK ops) (by simp) hlen (fun i => ?_) s4 (fun e he j hj => ?_) hs0 hd h1 fun E' a' hs' ha' hd' => hn E' a' hs' (ha0.trans ha') hd'
      · constructor
        · intro hi
          have := s2 i hi
          exact ⟨this, by simp [Array.getD_eq_getD_getElem?, this]⟩
        · rintro ⟨hi, _⟩
          exact s1 i hi
      · exfalso
        simp only [Array.getD_eq_getD_getElem?, Array.getElem?_replicate] at he
        split at he <;> simp at he
  | .seq p q, E, S, a, hs, hd, x, S', h, Q, hn => by
    simp only [execK] at h
    split at h
    · rename_i S1 h1
      refine wp_seq (exec_sound hm hΓ hK n p hs hd h1 fun E1 a1 hs1 ha1 hd1 => ?_)
      exact exec_sound hm hΓ hK n q hs1 hd1 h fun E' a' hs' ha' hd' => hn E' a' hs' (ha1.trans ha') hd'
    · rename_i hne
      refine wp_seq (exec_sound hm hΓ hK n p hs hd h fun E1 a1 hs1 ha1 hd1 => ?_)
      have := hn E1 a1 hs1 ha1 hd1
      cases x with
      | normal => exact absurd h (hne S')
      | exit i => exact this
      | ret => exact this
  | .cond y p q, E, S, a, hs, hd, x, S', h, Q, hn => by
    simp only [execK] at h
    split at h
    · rename_i hy
      have hr := rep_ev hs y _ hy
      simp only [RepV] at hr
      exact wp_cond_true hr (exec_sound hm hΓ hK n p hs hd h hn)
    · rename_i hy
      have hr := rep_ev hs y _ hy
      simp only [RepV] at hr
      exact wp_cond_false hr (exec_sound hm hΓ hK n q hs hd h hn)
    · cases h
  | .block id p, E, S, a, hs, hd, x, S', h, Q, hn => by
    simp only [execK] at h
    split at h
    · rename_i i S1 h1
      refine wp_block (exec_sound hm hΓ hK n p hs hd h1 fun E1 a1 hs1 ha1 hd1 => ?_)
      show if i = id then Q .normal a1 E1.w else Q (.exit i) a1 E1.w
      split at h
      · rename_i hi
        simp only [Option.some.injEq, Prod.mk.injEq] at h
        obtain ⟨rfl, rfl⟩ := h
        rw [if_pos hi]
        exact hn E1 a1 hs1 ha1 hd1
      · rename_i hi
        simp only [Option.some.injEq, Prod.mk.injEq] at h
        obtain ⟨rfl, rfl⟩ := h
        rw [if_neg hi]
        exact hn E1 a1 hs1 ha1 hd1
    · rename_i hne
      refine wp_block (exec_sound hm hΓ hK n p hs hd h fun E1 a1 hs1 ha1 hd1 => ?_)
      have := hn E1 a1 hs1 ha1 hd1
      cases x with
      | normal => exact this
      | exit i => exact absurd h (hne i S')
      | ret => exact this
  | .loop p, E, S, a, hs, hd, x, S', h, Q, hn => by
    simp only [execK] at h
    refine wp_loop_count (I := fun k a' w' => ∃ E' S1, Sim c E' S1 a' ∧ E'.w = w' ∧ After c E E' S1.H ∧ a'.defers = [] ∧ iterK (execK c n p) k S1 = some (x, S')) (n := n)
      ⟨E, S, hs, rfl, After.refl hs, hd, h⟩ (fun a w => by rintro ⟨E', S1, _, _, _, _, h⟩; simp [iterK] at h) ?_
    rintro k a1 w1 ⟨E1, S1, hs1, rfl, ha1, hd1, hit⟩
    simp only [iterK] at hit
    split at hit
    · rename_i S2 h2
      refine exec_sound hm hΓ hK n p hs1 hd1 h2 fun E2 a2 hs2 ha2 hd2 => ?_
      exact ⟨E2, S2, hs2, rfl, ha1.trans ha2, hd2, hit⟩
    · rename_i hne
      refine exec_sound hm hΓ hK n p hs1 hd1 hit fun E2 a2 hs2 ha2 hd2 => ?_
      have := hn E2 a2 hs2 (ha1.trans ha2) hd2
      cases x with
      | normal => exact absurd hit (hne S')
      | exit i => exact this
      | ret => exact this
  | .exit id, E, S, a, hs, hd, x, S', h, Q, hn => by
    simp only [execK, Option.some.injEq, Prod.mk.injEq] at h
    obtain ⟨rfl, rfl⟩ := h
    exact wp_exit (hn E a hs (After.refl hs) hd)
  | .ret, E, S, a, hs, hd, x, S', h, Q, hn => by
    simp only [execK, Option.some.injEq, Prod.mk.injEq] at h
    obtain ⟨rfl, rfl⟩ := h
    exact wp_ret (hn E a hs (After.refl hs) hd)
  | .label _, _, _, _, _, _, _, _, h, _, _ => by simp [execK] at h
  | .goto _, _, _, _, _, _, _, _, h, _, _ => by simp [execK] at h
  | .scope _, _, _, _, _, _, _, _, h, _, _ => by simp [execK] at h
  | .refuse _, _, _, _, _, _, _, _, h, _, _ => by simp [execK] at h
  | .rangeFunc .., _, _, _, _, _, _, _, h, _, _ => by simp [execK] at h

end

end Go.Proofs.Ytgpbnbmddffhkaa.K
