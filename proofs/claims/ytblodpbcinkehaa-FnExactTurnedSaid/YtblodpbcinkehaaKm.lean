/-
  Leaving a growing call; results; every run of the interpreter is one of the model's. No conditions.
-/
import Derived.Test.YtblodpbcinkehaaKl
set_option linter.unusedVariables false
set_option linter.unusedSimpArgs false
namespace Go.Proofs.Ytblodpbcinkehaa.K

/-- The levels of what was built, as the caller sees them. -/
def relev (d : Nat) : Blk → Blk
  | .bld l n sz => .bld (min l d) n sz
  | .cells sz cs => if cs.all (cleanG (d + 1)) then .cells sz cs else .dead
  | x => x
theorem relev_eq (d : Nat) : relevK (d + 1) = relev d := by funext x; cases x <;> rfl
theorem live_relev {d : Nat} {x : Option Blk} : live (x.map (relev d)) → live x := by
  cases x with
  | none => exact id
  | some x => cases x with
    | cells sz cs => intro _; trivial
    | _ => exact id

def Env.grown (E : Env) (lo : Nat) (lk : Lk) (d : Nat) : Env := { w := E.w, φ := E.φ, H := E.H.take lo ++ (E.H.drop lo).map (relev d), lk := lk, n := E.n, m := d, hid := E.hid }

section
variable {c : Cx} {E0 E' : Env} {L : List Nat} {Hc : Heap}

theorem grown_get (E : Env) (lo : Nat) (lk : Lk) (d : Nat) (hlo : lo ≤ E.H.length) (b : Nat) : (E.grown lo lk d).H[b]? = if b < lo then E.H[b]? else (E.H[b]?).map (relev d) := by
  have hl : (E.H.take lo).length = lo := by rw [List.length_take]; omega
  show (E.H.take lo ++ (E.H.drop lo).map (relev d))[b]? = _
  by_cases h : b < lo
  · rw [if_pos h, List.getElem?_append_left (by omega), List.getElem?_take_of_lt h]
  · rw [if_neg h, List.getElem?_append_right (by omega), hl, List.getElem?_map, List.getElem?_drop]
    congr 2
    omega
theorem grown_live {E : Env} {lo : Nat} {lk : Lk} {d : Nat} (hlo : lo ≤ E.H.length) {b : Nat} : live (E.grown lo lk d).H[b]? → live E.H[b]? := by
  rw [grown_get E lo lk d hlo]
  split
  · exact id
  · exact live_relev
theorem grown_cells {E : Env} {lo : Nat} {lk : Lk} {d : Nat} (hlo : lo ≤ E.H.length) {b sz : Nat} {cs : List V} (h : (E.grown lo lk d).H[b]? = some (.cells sz cs)) : E.H[b]? = some (.cells sz cs) ∧ (¬ b < lo → cs.all (cleanG (d + 1)) = true) := by
  rw [grown_get E lo lk d hlo] at h
  split at h
  · rename_i hb; exact ⟨h, fun x => absurd hb x⟩
  · cases hx : E.H[b]? with
    | none => rw [hx] at h; simp at h
    | some x =>
      rw [hx] at h
      cases x with
      | cells z es =>
        simp only [Option.map_some, relev, Option.some.injEq] at h
        split at h
        · rename_i hc
          cases h
          exact ⟨rfl, fun _ => hc⟩
        · cases h
      | bld _ _ _ => simp [relev] at h
      | mp _ => simp [relev] at h
      | dead => simp [relev] at h
theorem grown_mp {E : Env} {lo : Nat} {lk : Lk} {d : Nat} (hlo : lo ≤ E.H.length) {b : Nat} {kvs : List (V × V)} (h : (E.grown lo lk d).H[b]? = some (.mp kvs)) : E.H[b]? = some (.mp kvs) := by
  rw [grown_get E lo lk d hlo] at h
  split at h
  · exact h
  · cases hx : E.H[b]? with
    | none => rw [hx] at h; simp at h
    | some x =>
      rw [hx] at h
      cases x with
      | cells z es =>
        simp only [Option.map_some, relev, Option.some.injEq] at h
        split at h <;> cases h
      | bld _ _ _ => simp [relev] at h
      | mp _ => simpa [relev] using h
      | dead => simp [relev] at h
theorem grown_bld {E : Env} {lo : Nat} {lk : Lk} {d : Nat} (hlo : lo ≤ E.H.length) {b l n sz : Nat} (h : (E.grown lo lk d).H[b]? = some (.bld l n sz)) : ∃ l0, E.H[b]? = some (.bld l0 n sz) ∧ l ≤ l0 ∧ (b < lo → l = l0) ∧ (¬ b < lo → l ≤ d) := by
  rw [grown_get E lo lk d hlo] at h
  split at h
  · rename_i hb
    exact ⟨l, h, Nat.le_refl _, fun _ => rfl, fun x => absurd hb x⟩
  · rename_i hb
    cases hx : E.H[b]? with
    | none => rw [hx] at h; simp at h
    | some x =>
      rw [hx] at h
      cases x with
      | bld l0 n0 sz0 =>
        simp only [Option.map_some, relev, Option.some.injEq, Blk.bld.injEq] at h
        obtain ⟨rfl, rfl, rfl⟩ := h
        exact ⟨l0, rfl, Nat.min_le_left _ _, fun x => absurd x hb, fun _ => Nat.min_le_right _ _⟩
      | cells _ _ =>
        simp only [Option.map_some, relev, Option.some.injEq] at h
        split at h <;> cases h
      | mp _ => simp [relev] at h
      | dead => simp [relev] at h

theorem grown_U {E : Env} {lo : Nat} {lk L : Lk} {d : Nat} (hlo : lo ≤ E.H.length) (hlk : E.lk = L) {lv : Nat} {g i : Nat} (h : ({ E.grown lo lk d with lk := L } : Env).U (some lv) g i) : E.U (some lv) g i := by
  rcases h with h | ⟨b, h1, h2, h3⟩
  · exact .inl h
  refine .inr ⟨b, h1, by rw [hlk]; exact h2, ?_⟩
  have h3 : match (E.grown lo lk d).H[b]? with
    | some (.cells _ _) | some (.mp _) => True
    | some (.bld l n sz) => lv < l ∨ n * sz ≤ i
    | _ => False := h3
  split at h3
  · rename_i he
    rw [(grown_cells hlo he).1]; trivial
  · rename_i he
    rw [grown_mp hlo he]; trivial
  · rename_i he
    obtain ⟨l0, h4, h5, _⟩ := grown_bld hlo he
    rw [h4]
    rcases h3 with h3 | h3
    · exact .inl (Nat.lt_of_lt_of_le h3 h5)
    · exact .inr h3
  · exact h3.elim
theorem grown_S {E : Env} {lo : Nat} {lk : Lk} {d : Nat} (hlo : lo ≤ E.H.length) {g i : Nat} (h : (E.grown lo lk d).U none g i) : E.U none g i := by
  rcases h with h | ⟨b, h1, h3⟩
  · exact .inl h
  refine .inr ⟨b, h1, ?_⟩
  split at h3
  · rename_i he
    rw [(grown_cells hlo he).1]; trivial
  · rename_i he
    rw [grown_mp hlo he]; trivial
  · rename_i he
    obtain ⟨l0, h4, _⟩ := grown_bld hlo he
    rw [h4]
    exact h3
  · exact h3.elim

theorem keeps_grown {E : Env} {lo : Nat} {lk : Lk} {d d' : Nat} (hlo : lo ≤ E.H.length) (hlk : ∀ lv, lv ≤ d → E.lk.take lv = lk.take lv) (hd : d' ≤ d) : Keeps (E.shrink E.n d') ((E.grown lo lk d).shrink E.n d') where
  len := Nat.le_refl _
  lvl := Nat.le_refl _
  cell := by
    intro lv g i u hlv _ h1 h3
    refine ⟨h1, fun hu => h3 ?_⟩
    cases lv with
    | some l =>
      have hl : l ≤ d := Nat.le_trans hlv hd
      refine grown_U (E := E) (lo := lo) (lk := lk) (d := d) (L := E.lk) hlo rfl ?_
      rcases hu with hu | ⟨b, p1, p2, p3⟩
      · exact .inl hu
      refine .inr ⟨b, p1, ?_, p3⟩
      show unlocked (E.lk.take l) b = true
      rw [hlk l hl]; exact p2
    | none => exact grown_S (lk := lk) (d := d) hlo hu
  phi := by
    intro b hb hn
    refine ⟨rfl, fun l n z hx => ?_⟩
    obtain ⟨l0, h, _⟩ := grown_bld (lk := lk) (d := d) hlo hx
    exact hn l0 n z h
  cells := by
    intro b hb hn z cs hx
    exact hn z cs (grown_cells (lk := lk) (d := d) hlo hx).1
  bld := by
    intro b l n sz hb hB
    obtain ⟨l0, h, _⟩ := grown_bld (lk := lk) (d := d) hlo hB
    exact ⟨l0, n, h, Nat.le_refl _, fun _ => ⟨rfl, fun c _ hc => ⟨c, hc, rfl⟩⟩⟩
  fresh := fun b g i u _ _ hb hl he => ⟨b, hb, grown_live (lk := lk) (d := d) hlo hl, he⟩

theorem leave_grown (hD : Done c E0 E' L Hc) (hg : c.hints.grow c.fn = true) {v : V} {u : Value} (hr : RepV E' v u) (hv : cleanG (E0.m + 1) v = true) :
    ∃ E1, E1.w = E'.w ∧ Back c.hints c.fn L E0 E1 (Hc.take E0.n ++ (Hc.drop E0.n).map (relev E0.m)) ∧ RepV E1 v u := by
  have hL := hD.last
  have hHc : E'.H = Hc := hD.after.H
  have hev := hD.after.evo
  have hlo := hL.le
  have hnH : E'.n = E'.H.length := by rw [hHc]; exact hD.after.n
  let E1 := E'.grown E0.n E0.lk E0.m
  have hk : ∀ d', d' ≤ E0.m → Keeps (E'.shrink E'.n d') (E1.shrink E'.n d') := fun d' hd => keeps_grown hlo hL.tak hd
  have hk1 : Keeps (E'.shrink E'.n E0.m) E1 := hk E0.m (Nat.le_refl _)
  have hfAll : RelF E' E0.n E'.n E0.m := hD.after.forG hg _ _ (by rw [hD.base]; exact Nat.le_refl _) (Nat.le_succ _) (RelF.lock (by rw [hD.m0]; exact Nat.le_refl _) (RelF.all hD.heap0 _))
  have hrel : RelH E1 :=
    { cells := by
        intro b sz cs hB
        obtain ⟨hB', hcl⟩ := grown_cells hlo hB
        obtain ⟨c', t, h1, h2, h3⟩ := hL.heap.cells b sz cs hB'
        refine ⟨c', t, h1, h2, fun i v hv => ?_⟩
        obtain ⟨u, h4, h5⟩ := h3 i v hv
        refine ⟨u, h4, hk1.rep _ _ ?_⟩
        by_cases hb : b < E0.n
        · exact hfAll b sz cs hb hB' c' t h1 i v u hv h4
        · refine cleanG_rep v u ?_ h5
          have := hcl hb
          rw [List.all_eq_true] at this
          exact this v (List.mem_of_getElem? hv)
      bld := by
        intro b l n sz hB
        obtain ⟨l0, h, _⟩ := grown_bld hlo hB
        exact hL.heap.bld b l0 n sz h
      lvl := by
        intro b l n sz hB
        obtain ⟨l0, h, _, h1, h2⟩ := grown_bld hlo hB
        show l ≤ E0.lk.length
        rw [← hD.m0]
        by_cases hb : b < E0.n
        · rw [h1 hb]; exact hD.lvl hb h
        · exact h2 hb
      dm := by show E0.m ≤ E0.lk.length; rw [hD.m0]; exact Nat.le_refl _
      inj := fun b b' h1 h2 he => hL.heap.inj b b' (grown_live hlo h1) (grown_live hlo h2) he
      maps := fun b kvs hB => hL.heap.maps b kvs (grown_mp hlo hB)
      hid := fun g hg => ⟨(hL.heap.hid g hg).1, fun b hl => (hL.heap.hid g hg).2 b (grown_live hlo hl)⟩ }
  have hold : ∀ b, b < E0.n → E1.H[b]? = E'.H[b]? := fun b hb => by
    show (E'.grown E0.n E0.lk E0.m).H[b]? = _
    rw [grown_get _ _ _ _ hlo, if_pos hb]
  refine ⟨E1, rfl, ⟨?_, ?_, ?_, hrel, (fun h => by rw [hg] at h; cases h), ?_, ?_⟩, hk1.rep _ _ (cleanG_rep v u hv hr)⟩
  · show E'.H.take _ ++ (E'.H.drop _).map _ = _
    rw [hHc]
  · show E'.n = _
    rw [hnH, hHc]
    simp
    rw [hHc] at hlo
    omega
  · exact
    { lk := rfl
      os := hev.os
      tape := hev.tape
      output := hev.output
      size := hev.size
      len := hev.len
      mm := rfl
      cell := hev.cell
      block := hev.block
      mono := by
        intro lv g i hlv hu
        refine hev.mono lv g i hlv ?_
        cases lv with
        | some l => exact grown_U (E := E') (lo := E0.n) (lk := E0.lk) (d := E0.m) (L := E0.lk ++ [L]) hlo hev.lk hu
        | none => exact grown_S (lk := E0.lk) (d := E0.m) hlo hu
      phi := by
        intro b hb hn
        obtain ⟨h1, h2⟩ := hev.phi b hb hn
        refine ⟨h1, fun l n z => ?_⟩
        rw [Env.lock_H, hold b hb]
        exact h2 l n z
      cells := by
        intro b hb hn z cs
        rw [Env.lock_H, hold b hb]
        exact hev.cells b hb hn z cs
      bld := by
        intro b l n sz hb hB
        rw [Env.lock_H, hold b hb] at hB
        exact hev.bld b l n sz hb hB
      fresh := fun b hl => hev.fresh b (grown_live (lk := E0.lk) (d := E0.m) hlo hl)
      hid := hev.hid
      hidF := hev.hidF
      hidW := hev.hidW }
  · intro _ base d' hbase hd hf
    have hf1 := hD.after.forG hg base d' (by rw [hD.base]; exact hbase) (Nat.le_succ_of_le hd) (RelF.lock (L := L) (by rw [← hD.m0]; exact hd) hf)
    intro b sz cs hlt hB c' t hc i v u hv hu
    exact (hk d' hd).rep v u (hf1 b sz cs hlt (grown_cells (lk := E0.lk) (d := E0.m) hlo hB).1 c' t hc i v u hv hu)
  · intro b hb hkk
    rw [hold b hb, hHc]
    exact hD.after.kept b (by rw [hD.base]; exact hb) (by rw [hD.lk]; exact hkk)

theorem loadK_var {P : Program} {E : Env} (hh : RelH E) {t : TypeId} {p v : V} {u : Value} (hp : RepV E p u) (h : loadK P t E.H p = some v) :
    ∃ ad x, u = .pointer (some ad) ∧ (loadVar t ad).run P E.w = .ok x E.w ∧ RepV E v x := by
  unfold loadK at h
  split at h
  · split at h
    case h_2 => simp at h
    rename_i b off _ sz cs hb
    simp only [RepV] at hp
    obtain ⟨_, hp, _⟩ := hp
    obtain ⟨x, h1, h2⟩ := run_read (P := P) (o := 0) (cells_at hh hb) h
    rw [Nat.zero_add] at h1
    exact ⟨_, x, hp, h1, h2⟩
  · simp only [RepV] at hp
    obtain ⟨_, g, o, hp, hr⟩ := hp
    obtain ⟨x, h1, h2⟩ := run_read (P := P) (o := o) (fun i v hi => by
      obtain ⟨u, h1, h2, _⟩ := repL_get _ _ hr i v hi
      exact ⟨u, h1, h2⟩) h
    exact ⟨_, x, hp, h1, h2⟩
  · simp at h

theorem results_list {P : Program} {E : Env} (hh : RelH E) {T : Nat → V} {ts : Array Value} (hT : ∀ i, RepV E (T i) (ts.getD i undef)) : ∀ (l : List ResultVar) (vs : List V), resultsK P E.H T l = some vs →
    ∃ us, (l.mapM (m := Sem) fun (r : ResultVar) => match r with
      | .tmp t => pure (ts.getD t undef)
      | .cell a t => do loadVar t (← asAddr (ts.getD a undef))).run P E.w = .ok us E.w ∧ RepVs E vs us
  | [], vs, h => by
    simp only [resultsK, Option.some.injEq] at h
    subst h
    exact ⟨[], by simp, by simp only [RepVs]⟩
  | .tmp t :: l, vs, h => by
    simp only [resultsK, Option.map_eq_some_iff] at h
    obtain ⟨ws, hw, rfl⟩ := h
    obtain ⟨us, h1, h2⟩ := results_list hh hT l ws hw
    refine ⟨ts.getD t undef :: us, ?_, ?_⟩
    · simp only [List.mapM_cons, Sem.run_bind, Sem.run_pure, Result.andThen_ok, h1]
    · simp only [RepVs]; exact ⟨_, us, rfl, hT t, h2⟩
  | .cell a t :: l, vs, h => by
    simp only [resultsK, Option.bind_eq_some_iff, Option.map_eq_some_iff] at h
    obtain ⟨v, hv, ws, hw, rfl⟩ := h
    obtain ⟨us, h1, h2⟩ := results_list hh hT l ws hw
    obtain ⟨ad, x, k1, k2, k3⟩ := loadK_var (P := P) hh (hT a) hv
    refine ⟨x :: us, ?_, ?_⟩
    · have ha : (asAddr (ts.getD a undef)).run P E.w = .ok ad E.w := by rw [k1]; rfl
      simp only [List.mapM_cons, Sem.run_bind, Sem.run_pure, Result.andThen_ok, ha, k2, h1]
    · simp only [RepVs]; exact ⟨_, us, rfl, k3, h2⟩

theorem results_run {P : Program} {E : Env} (hh : RelH E) {T : Nat → V} {ts : Array Value} (hT : ∀ i, RepV E (T i) (ts.getD i undef)) {fn : Func} {vs : List V} (h : resultsK P E.H T fn.results.toList = some vs) :
    ∃ u, (results fn ts).run P E.w = .ok u E.w ∧ RepV E (oneOf vs) u := by
  obtain ⟨us, h1, h2⟩ := results_list (P := P) hh hT _ _ h
  obtain ⟨hl, hg⟩ := repVs_get _ _ h2
  refine ⟨if h : us.toArray.size = 1 then us.toArray[0] else .tuple us.toArray, ?_, ?_⟩
  · unfold results
    rw [Array.mapM_eq_mapM_toList]
    simp only [Sem.run_bind, Sem.run_map, Sem.run_pure]
    exact congrArg (fun r : Result (List Value) => (r.andThen fun a w' => Result.ok a.toArray w').andThen fun a w' => Result.ok (if h : a.size = 1 then a[0] else Value.tuple a) w') h1
  · match us, hl, hg, h2 with
    | [], hl, hg, h2 =>
      have : vs = [] := List.eq_nil_of_length_eq_zero hl
      subst this
      simp only [oneOf, RepV]
      exact ⟨#[], rfl, by simp only [RepVs]⟩
    | [u], hl, hg, h2 =>
      obtain ⟨v, rfl⟩ := List.length_eq_one_iff.1 hl
      simp only [RepVs] at h2
      obtain ⟨u', us', h3, h4, h5⟩ := h2
      simp only [List.cons.injEq] at h3
      obtain ⟨rfl, _⟩ := h3
      simpa [oneOf] using h4
    | u1 :: u2 :: us, hl, hg, h2 =>
      have : oneOf vs = .tup vs := by
        match vs, hl with
        | v1 :: v2 :: vs, _ => rfl
      rw [this]
      simp only [RepV]
      exact ⟨(u1 :: u2 :: us).toArray, by simp, h2⟩

end

theorem argsT_rep {E : Env} {vs : List V} {us : List Value} (h : RepVs E vs us) (n : Nat) (i : Nat) : RepV E (argsT vs i) ((us.toArray ++ Array.replicate n undef).getD i undef) := by
  obtain ⟨hl, hg⟩ := repVs_get _ _ h
  unfold argsT
  rw [List.getD_eq_getElem?_getD, Array.getD_eq_getD_getElem?, Array.getElem?_append]
  by_cases hi : i < us.length
  · rw [if_pos (by simpa using hi)]
    have hv : i < vs.length := by omega
    obtain ⟨u, h1, h2⟩ := hg i _ (List.getElem?_eq_getElem hv)
    rw [List.getElem?_eq_getElem hv, List.getElem?_toArray, h1]
    exact h2
  · rw [if_neg (by simpa using hi), List.getElem?_eq_none (by omega)]
    rw [Array.getElem?_replicate]
    split
    · exact undef_rep E
    · exact undef_rep E

theorem nilShape_some {b : Code} {N : NilAsk} (h : nilShape b = some N) : b = .seq N.R0 (.seq (.seq (.region N.i #[N.o1, N.o2] false) (.cond (.tmp N.q) N.A .skip)) N.B) ∧
    N.o1.dst = some N.p ∧ N.o1.op = .move (.tmp N.z) ∧ N.o1.guard = none ∧ N.o2.dst = some N.q ∧ N.o2.op = .binOp .eql N.t (.tmp N.p) (.const (.slice none 0 0)) N.t2 ∧ N.o2.guard = none := by
  unfold nilShape at h
  split at h
  case h_2 => cases h
  rename_i R0 i ops q' A B
  unfold nilOps at h
  split at h
  case h_2 => cases h
  rename_i o1 o2 hops
  split at h
  case h_2 => cases h
  rename_i p z q t p' t2 h1 h2 h3 h4 h5 h6
  split at h
  case isFalse => cases h
  rename_i hpq
  obtain ⟨rfl, rfl⟩ := hpq
  simp only [Option.some.injEq] at h
  subst h
  have : ops = #[o1, o2] := by
    apply Array.toList_inj.1
    rw [hops]
  subst this
  exact ⟨rfl, h1, h2, h3, h4, h5, h6⟩

/-- A list's value is a slice; one that holds something is not nil. -/
theorem list_slice {E : Env} {x : V} {u : Value} {n : Nat} (hr : RepV E x u) (hn : lenK x = some n) : ∃ A cap, u = .slice A n cap ∧ (n ≠ 0 → A ≠ none) := by
  cases x with
  | lit lv len cs =>
    simp only [lenK, Option.some.injEq] at hn
    subst hn
    simp only [RepV] at hr
    obtain ⟨_, A, cap, h1, _, h3⟩ := hr
    refine ⟨A, cap, h1, fun h => ?_⟩
    rcases h3 with h3 | ⟨g, o, h3, _⟩
    · exact absurd h3 h
    · rw [h3]; simp
  | tl len cs =>
    simp only [lenK, Option.some.injEq] at hn
    subst hn
    simp only [RepV] at hr
    obtain ⟨A, h1, h3⟩ := hr
    refine ⟨A, _, h1, fun h => ?_⟩
    rcases h3 with h3 | ⟨g, o, h3, _⟩
    · exact absurd h3 h
    · rw [h3]; simp
  | snap b len cs =>
    simp only [lenK, Option.some.injEq] at hn
    subst hn
    simp only [RepV] at hr
    obtain ⟨_, ⟨A, cap, h1, _, ⟨g, o, h3, _⟩, _⟩, _⟩ := hr
    exact ⟨A, cap, h1, fun _ => by rw [h3]; simp⟩
  | pre b m0 len cs =>
    simp only [lenK, Option.some.injEq] at hn
    subst hn
    simp only [RepV] at hr
    obtain ⟨_, ⟨A, cap, h1, _, ⟨g, o, h3, _⟩, _⟩, _⟩ := hr
    exact ⟨A, cap, h1, fun _ => by rw [h3]; simp⟩
  | sl b off len =>
    simp only [lenK, Option.some.injEq] at hn
    subst hn
    simp only [RepV] at hr
    obtain ⟨_, ⟨cap, h1, _⟩, _⟩ := hr
    exact ⟨_, cap, h1, fun _ => by simp⟩
  | _ => simp [lenK] at hn

theorem run_isNil {P : Program} (w : World) {t e : TypeId} (A : Option Addr) (n c : Nat) (ht : P.underlying t = some (.slice e)) : (binOp .eql t (.slice A n c) (.slice none 0 0)).run P w = .ok (.bool A.isNone) w := by
  cases A with
  | none =>
    have h : ∀ d : Nat, (Op.equalIn (d + 1) t (.slice none n c) (.slice none 0 0)).run P w = .ok true w := fun d => by
      simp [Op.equalIn, run_underlying ht]
    simp only [binOp]
    simp [Op.equal, Op.maxDepth, h 9999]
  | some a =>
    have h : ∀ d : Nat, (Op.equalIn (d + 1) t (.slice (some a) n c) (.slice none 0 0)).run P w = .ok false w := fun d => by
      simp [Op.equalIn, run_underlying ht]
    simp only [binOp]
    simp [Op.equal, Op.maxDepth, h 9999]

theorem execN_sound {c : Cx} (hm : c.P.follows .mixedOrders = true) (hΓ : CallOk c.P c.hints c.Γ) (hK : KeptOk c.Γ) {n : Nat} {rs : List ResultVar} {b : Code} {E : Env} {S : St} {a : Act} (hs : Sim c E S a) (hd : a.defers = []) {r : List V × Heap} (h : execN c n rs b S = some r) {Q : Exit → Act → World → Prop}
    (hn : ∀ E' a' S' (x : X), Sim c E' S' a' → After c E E' S'.H → a'.defers = [] → (x = .normal ∨ x = .ret) → resultsK c.P S'.H S'.T rs = some r.1 → r.2 = S'.H → Q x.exit' a' E'.w) : b.wp c.P Q a E.w := by
  unfold execN at h
  split at h
  · obtain ⟨x, S1, h1, h2, h3, h4⟩ := finK_some h
    exact exec_sound hm hΓ hK n b hs hd h1 fun E' a' hs' ha' hd' => hn E' a' S1 x hs' ha' hd' h2 h3 h4
  · rename_i N hN
    obtain ⟨rfl, k1, k2, k3, k4, k5, k6⟩ := nilShape_some hN
    split at h
    case h_2 => cases h
    rename_i S0 h0
    split at h
    case isFalse => cases h
    rename_i hc
    obtain ⟨hp, hq, hpq, hel⟩ := hc
    refine wp_seq (exec_sound hm hΓ hK n N.R0 hs hd h0 fun E1 a1 hs1 ha1 hd1 => ?_)
    -- the asking
    obtain ⟨len, hlen⟩ : ∃ len, lenK (S0.T N.z) = some len := by
      cases hh : lenK (S0.T N.z) with
      | none => rw [hh] at h; cases h
      | some len => exact ⟨len, rfl⟩
    obtain ⟨A, cap, hu, hA⟩ := list_slice (hs1.tmps N.z) hlen
    obtain ⟨e, he⟩ := Option.isSome_iff_exists.1 hel
    have hin : wayN c n rs N S0 A.isNone = some r := by
      rw [hlen] at h
      cases len with
      | zero =>
        simp only [] at h
        split at h
        case isFalse => cases h
        rename_i hsame
        cases A with
        | none => exact hsame.trans h
        | some _ => exact h
      | succ m =>
        cases A with
        | none => exact absurd rfl (hA (by omega))
        | some _ => exact h
    obtain ⟨x, S2, h1, h2, h3, h4⟩ := finK_some hin
    have hu0 : a1.eval (.tmp N.z) = .slice A len cap := hu
    refine wp_seq (wp_seq (wp_region ?_))
    show wpOps c.P #[N.o1, N.o2] _ [0, 1] a1 E1.w
    have hg1 : (#[N.o1, N.o2] : Array Oper)[0]? = some N.o1 := rfl
    have hg2 : (#[N.o1, N.o2] : Array Oper)[1]? = some N.o2 := rfl
    simp only [wpOps, hg1, hg2]
    have hw1 : ∀ y : Nat → Option Bool, Region.wanted N.o1 y = true := fun y => by unfold Region.wanted; rw [k3]
    have hw2 : ∀ y : Nat → Option Bool, Region.wanted N.o2 y = true := fun y => by unfold Region.wanted; rw [k6]
    rw [if_pos (hw1 _)]
    refine .inl ?_
    have hs2 : Sim c E1 (S0.set N.p (S0.T N.z)) (a1.put (some N.p) (a1.eval (.tmp N.z))) := Sim.put (H' := S0.H) hs1 (After.refl hs1) hp (hs1.tmps N.z)
    have hrun1 : (execOp a1.eval N.o1).run c.P E1.w = .ok (.value (a1.eval (.tmp N.z))) E1.w := by simp only [execOp, k2]; rfl
    unfold Oper.wp
    rw [hrun1, Oper.upon_value, k1]
    rw [if_pos (hw2 _)]
    refine .inl ?_
    have hev : (a1.put (some N.p) (a1.eval (.tmp N.z))).eval (.tmp N.p) = .slice A len cap := by
      have hlt : N.p < a1.tmps.size := by rw [hs1.size]; exact hp
      show ((a1.tmps).setIfInBounds N.p (a1.eval (.tmp N.z))).getD N.p undef = _
      rw [getD_put, if_pos ⟨rfl, hlt⟩, hu0]
    have hrun2 : (execOp (a1.put (some N.p) (a1.eval (.tmp N.z))).eval N.o2).run c.P E1.w = .ok (.value (.bool A.isNone)) E1.w := by
      have hc2 : (a1.put (some N.p) (a1.eval (.tmp N.z))).eval (.const (.slice none 0 0)) = .slice none 0 0 := rfl
      simp only [execOp, k5, hev, hc2]
      have hguard : eqGuard .eql N.t (.tmp N.p) (.const (.slice none 0 0)) (.slice A len cap) (.slice none 0 0) = pure () := rfl
      simp only [hguard, Sem.run_bind, Sem.run_pure, Result.andThen_ok, run_isNil E1.w A len cap (elemT_some he)]
    rw [hrun2, Oper.upon_value, k4]
    have hs3 : Sim c E1 ((S0.set N.p (S0.T N.z)).set N.q (.bool A.isNone)) ((a1.put (some N.p) (a1.eval (.tmp N.z))).put (some N.q) (.bool A.isNone)) := Sim.put (H' := S0.H) (S := S0.set N.p (S0.T N.z)) hs2 (show After c E1 E1 S0.H from After.refl hs1) hq (by simp only [RepV])
    have hfin : ∀ E' a', Sim c E' S2 a' → After c E1 E' S2.H → a'.defers = [] → Q x.exit' a' E'.w := fun E' a' hs' ha' hd' => hn E' a' S2 x hs' (ha1.trans ha') hd' h2 h3 h4
    have hcond : ((a1.put (some N.p) (a1.eval (.tmp N.z))).put (some N.q) (.bool A.isNone)).eval (.tmp N.q) = .bool A.isNone := by
      have := hs3.tmps N.q
      have hT : ((S0.set N.p (S0.T N.z)).set N.q (.bool A.isNone)).T N.q = .bool A.isNone := if_pos rfl
      rw [hT] at this
      simp only [RepV] at this
      exact this
    cases hb : A.isNone with
    | true =>
      rw [hb] at h1 hs3 hcond
      simp only [if_true] at h1
      refine wp_cond_true hcond ?_
      simp only [execK] at h1
      split at h1
      · rename_i S3 h5
        refine exec_sound (c := c) hm hΓ hK n N.A hs3 hd1 h5 fun E' a' hs' ha' hd' => ?_
        exact exec_sound (c := c) hm hΓ hK n N.B hs' hd' h1 fun E'' a'' hs'' ha'' hd'' => hfin E'' a'' hs'' (ha'.trans ha'') hd''
      · rename_i hne
        refine exec_sound (c := c) hm hΓ hK n N.A hs3 hd1 h1 fun E' a' hs' ha' hd' => ?_
        have := hfin E' a' hs' ha' hd'
        cases x with
        | normal => exact absurd h1 (hne S2)
        | exit i => exact this
        | ret => exact this
    | false =>
      rw [hb] at h1 hs3 hcond
      simp only [Bool.false_eq_true, if_false] at h1
      refine wp_cond_false hcond (wp_skip ?_)
      exact exec_sound (c := c) hm hΓ hK n N.B hs3 hd1 h1 hfin
theorem run_sound (P : Program) (hfol : P.follows .mixedOrders = true) (h : Hints) : ∀ n, CallOk P h (runK P h n)
  | 0 => ⟨fun k args H lk r hr => by simp [runK] at hr, fun k args H lk L v H' hr => by simp [runK] at hr⟩
  | n + 1 => by
    have ih := run_sound P hfol h n
    refine ⟨fun k args H lk r hr => ?_, fun k args H lk L v H' hr E0 us hH hlk hn hm hh hlocks hrep => ?_⟩
    · simp only [runK] at hr
      split at hr
      case h_2 => cases hr
      rename_i fn hfn
      split at hr
      case h_2 => cases hr
      rename_i body hbody
      split at hr
      case isFalse => cases hr
      rename_i hc
      exact ⟨fn, hfn, by rw [hbody]; rfl, hc.2⟩
    · simp only [runK] at hr
      split at hr
      case h_2 => cases hr
      rename_i fn hfn
      split at hr
      case h_2 => cases hr
      rename_i body hbody
      split at hr
      case isFalse => cases hr
      rename_i hc
      obtain ⟨hlen, hname⟩ := hc
      subst hH hlk
      let c : Cx := { P := P, hints := h, fn := k, ntmps := fn.ntmps, base := E0.H.length, lk := E0.lk ++ [L], Γ := runK P h n }
      have hal : args.length = us.length := (repVs_get _ _ hrep).1
      have hs : Sim c (E0.lock L) { T := argsT args, H := E0.H } { tmps := us.toArray ++ Array.replicate (fn.ntmps - us.toArray.size) undef, defers := [] } :=
        { H := rfl
          lk := rfl
          n := hn
          m := by show E0.m + 1 = (E0.lk ++ [L]).length; rw [hm]; simp
          tmps := fun i => argsT_rep hrep _ i
          size := by simp; show us.length + (fn.ntmps - us.length) = fn.ntmps; omega
          heap := hh.lock L
          base := Nat.le_refl _
          locks := hlocks
          deep := by show 0 < (E0.lk ++ [L]).length; simp }
      simp only [Option.bind_eq_some_iff] at hr
      obtain ⟨q, hex, hl⟩ := hr
      refine calls_of_wp hfn hbody ?_
      refine execN_sound (c := c) hfol ih (run_kept P h n) hs rfl hex fun E' a' S x hs' ha' hd' hx hvs hq => ?_
      rw [hq] at hl
      rw [← hs'.H] at hvs
      obtain ⟨u0, hu0, hr0⟩ := results_run (P := P) hs'.heap hs'.tmps hvs
      have hD : Done c E0 E' L S.H :=
        { heap0 := hh, n0 := hn, m0 := hm, base := hn.symm, lk := rfl
          locks := fun l hl x hx => by rw [hn]; exact hlocks l (List.mem_append.2 (.inl hl)) x hx
          after := ha' }
      have hdl : (E0.lk ++ [L]).length = E0.m + 1 := by rw [hm]; simp
      have key : ∃ E1 : Env, E1.w = E'.w ∧ Back h k L E0 E1 H' ∧ RepV E1 v u0 := by
        unfold leaveK at hl
        split at hl
        · rename_i hg
          split at hl
          case isFalse => cases hl
          rename_i hcl
          simp only [Option.some.injEq, Prod.mk.injEq] at hl
          obtain ⟨rfl, rfl⟩ := hl
          rw [hdl] at hcl
          obtain ⟨E1, k1, k2, k3⟩ := leave_grown hD hg hr0 hcl
          refine ⟨E1, k1, ?_, k3⟩
          rw [← hn, hdl, relev_eq]
          exact k2
        · rename_i hg
          simp only [Option.map_eq_some_iff, Prod.exists, Prod.mk.injEq] at hl
          obtain ⟨v1, H2, news, h1, rfl, rfl⟩ := hl
          rw [hdl, ← hn] at h1
          obtain ⟨E1, k1, k2, k3⟩ := leave_out hD (by simpa using hg) hr0 h1
          exact ⟨E1, k1, by rw [← hn]; exact k2, k3⟩
      obtain ⟨E1, k1, k2, k3⟩ := key
      rcases hx with rfl | rfl
      · exact ⟨hd', u0, hu0, E1, k1, k2, k3⟩
      · exact ⟨hd', u0, hu0, E1, k1, k2, k3⟩

end Go.Proofs.Ytblodpbcinkehaa.K
