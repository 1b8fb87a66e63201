/-
  What an operation of the interpreter looks at, and what it leaves alone. No conditions.
-/
import Derived.Test.YtblodpbcinkehaaKh
set_option linter.unusedVariables false
set_option linter.unusedSimpArgs false
namespace Go.Proofs.Ytblodpbcinkehaa.K

theorem evL_congr {T T' : Nat → V} : ∀ (l : List Operand), (∀ x ∈ l, ev T x = ev T' x) → evL T l = evL T' l
  | [], _ => rfl
  | x :: l, h => by
    simp only [evL]
    rw [h x (by simp), evL_congr l fun y hy => h y (by simp [hy])]
theorem evP_congr {T T' : Nat → V} : ∀ (l : List (Nat × Operand)), (∀ x ∈ l.map (·.2), ev T x = ev T' x) → evP T l = evP T' l
  | [], _ => rfl
  | (i, x) :: l, h => by
    simp only [evP]
    rw [h x (by simp), evP_congr l fun y hy => h y (by simp only [List.map_cons, List.mem_cons]; exact .inr hy)]
theorem boundK_congr {T T' : Nat → V} (n : Nat) (o : Option Operand) (h : ∀ x, o = some x → ev T x = ev T' x) : boundK T n o = boundK T' n o := by
  cases o with
  | none => rfl
  | some x => simp only [boundK]; rw [h x rfl]

theorem opK_congr (c : Cx) (o : Oper) {T T' : Nat → V} {H : Heap} (h : ∀ x ∈ o.op.operands, ev T x = ev T' x) : opK c o { T := T, H := H } = opK c o { T := T', H := H } := by
  cases ho : o.op <;> (rw [ho] at h; simp only [Op.operands] at h; simp only [opK, ho])
  case move x => rw [h x (by simp)]
  case assign x => rw [h x (by simp)]
  case pick k x y => rw [h k (by simp), h x (by simp), h y (by simp)]
  case box t x => rw [h x (by simp)]
  case build t ps => rw [evP_congr _ fun x hx => h x (by simpa using hx)]
  case buildSlice t n ps => rw [evP_congr _ fun x hx => h x (by simpa using hx)]
  case load t x => rw [h x (by simp)]
  case store t x y => rw [h x (by simp), h y (by simp)]
  case nilCheck x => rw [h x (by simp)]
  case binOp op t x y t2 => rw [h x (by simp), h y (by simp)]
  case unOp op t x => rw [h x (by simp)]
  case convert s d x => rw [h x (by simp)]
  case makeFunc fn first caps => rw [evL_congr _ fun x hx => h x (by simp; exact .inr (by simpa using hx))]
  case makeSlice t x y => rw [h x (by simp), h y (by simp)]
  case slice t x lo hi mx =>
    rw [h x (by simp)]
    cases mx with
    | none =>
      simp only []
      rw [boundK_congr 0 lo fun y hy => h y (by subst hy; simp)]
      have : ∀ n, boundK T n hi = boundK T' n hi := fun n => boundK_congr n hi fun y hy => h y (by subst hy; simp)
      simp only [this]
    | some mx =>
      cases lo with
      | some _ => rfl
      | none =>
        cases hi with
        | none => rfl
        | some hi =>
          simp only []
          rw [h hi (by simp), h mx (by simp)]
  case fieldAddr s x f => rw [h x (by simp)]
  case field s x f => rw [h x (by simp)]
  case indexAddr t x i => rw [h x (by simp), h i (by simp)]
  case index t x i => rw [h x (by simp), h i (by simp)]
  case extract x i => rw [h x (by simp)]
  case makeMap t r => cases r <;> rfl
  case lookup t x k ok => rw [h x (by simp), h k (by simp)]
  case mapUpdate t x k y => rw [h x (by simp), h k (by simp), h y (by simp)]
  case mapEntry t x k => rw [h x (by simp), h k (by simp)]
  case entryStore t x k y => rw [h x (by simp), h k (by simp), h y (by simp)]
  case call k =>
    obtain ⟨callee, args, ats⟩ := k
    simp only [Call.operands] at h
    cases callee with
    | invoke r n => rfl
    | value f =>
      simp only []
      rw [h f (by simp), evL_congr _ fun x hx => h x (by simp; exact .inr (by simpa using hx))]
    | builtin b =>
      have hx : ∀ x ∈ args.toList, ev T x = ev T' x := fun x hx => h x (by simpa using hx)
      cases b <;> try rfl
      case len =>
        simp only []
        split
        · rename_i x t ha ht
          rw [hx x (by rw [ha]; simp)]
        · rfl
      case append =>
        simp only []
        split
        · rename_i x y st xt ha ht
          rw [hx x (by rw [ha]; simp), hx y (by rw [ha]; simp)]
        · rfl
      case min =>
        simp only []
        split
        · rename_i x y ha
          rw [hx x (by rw [ha]; simp), hx y (by rw [ha]; simp)]
        · rfl
      case max =>
        simp only []
        split
        · rename_i x y ha
          rw [hx x (by rw [ha]; simp), hx y (by rw [ha]; simp)]
        · rfl

theorem embedL_still {c : Cx} (hs : c.still = true) : ∀ (ps ps' : List (Nat × V)) (H H' : Heap), embedL c H ps = some (ps', H') → H' = H ∧ ∀ H2, embedL c H2 ps = some (ps', H2)
  | [], ps', H, H', h => by
    simp only [embedL, Option.some.injEq, Prod.mk.injEq] at h
    obtain ⟨rfl, rfl⟩ := h
    exact ⟨rfl, fun _ => rfl⟩
  | (i, v) :: ps, ps', H, H', h => by
    simp only [embedL, Option.bind_eq_some_iff, Option.map_eq_some_iff, Prod.exists, Prod.mk.injEq] at h
    obtain ⟨v1, H1, hv, ps2, H3, h2, rfl, rfl⟩ := h
    have key : H1 = H ∧ ∀ H2, embed c H2 v = some (v1, H2) := by
      unfold embed at hv ⊢
      rw [hs] at hv ⊢
      split at hv
      · rename_i hk
        simp only [Option.some.injEq, Prod.mk.injEq] at hv
        obtain ⟨rfl, rfl⟩ := hv
        exact ⟨rfl, fun H2 => by rw [if_pos hk]⟩
      · rename_i hk
        simp only [if_true] at hv
        split at hv
        · rename_i hc
          simp only [Option.some.injEq, Prod.mk.injEq] at hv
          obtain ⟨rfl, rfl⟩ := hv
          exact ⟨rfl, fun H2 => by rw [if_neg hk]; simp only [if_true]; rw [if_pos hc]⟩
        · cases hv
    obtain ⟨rfl, k1⟩ := key
    obtain ⟨rfl, k2⟩ := embedL_still hs ps ps2 H1 H3 h2
    refine ⟨rfl, fun H2 => ?_⟩
    simp only [embedL, k1 H2, Option.bind_some, k2 H2, Option.map_some]

theorem map_same {x : Option V} {H H2 : Heap} : (x.map fun v => (v, H2)) = (x.map fun v => (v, H)).map fun r => (r.1, H2) := by
  cases x <;> rfl

theorem opK_param {c : Cx} {o : Oper} (hp : isPure o = true) (hb : ∀ t n ps, o.op ≠ .buildSlice t n ps) {T : Nat → V} {H H2 : Heap} : opK c o { T := T, H := H2 } = (opK c o { T := T, H := H }).map fun r => (r.1, H2) := by
  unfold isPure at hp
  cases ho : o.op <;> simp only [ho, Bool.false_eq_true] at hp <;> simp only [opK, ho]
  case buildSlice t n ps => exact absurd ho (hb t n ps)
  case move x => exact map_same
  case assign x => exact map_same
  case pick k x y => split <;> first | exact map_same | rfl
  case build t ps =>
    cases evP T ps.toList with
    | none => rfl
    | some ps => cases zeroOf c.P t with
      | none => rfl
      | some z => cases placesK c.P t with
        | none => rfl
        | some pl => exact map_same
  case nilCheck x => split <;> rfl
  case binOp op t x y t2 =>
    cases ev T x with
    | none => rfl
    | some p => cases ev T y with
      | none => rfl
      | some q => exact map_same
  case unOp op t x =>
    cases ev T x with
    | none => rfl
    | some p => exact map_same
  case convert s d x =>
    split
    · rfl
    · split
      · exact map_same
      · rfl
    · rfl
  case makeFunc fn first caps =>
    split
    · cases evL T caps.toList <;> rfl
    · rfl
  case slice t x lo hi mx =>
    cases ev T x with
    | none => cases mx <;> cases lo <;> cases hi <;> rfl
    | some v => cases hl : lenK v with
      | none => cases mx <;> cases lo <;> cases hi <;> simp [hl]
      | some n =>
        cases mx with
        | none =>
          simp only [Option.bind_some, hl]
          cases boundK T 0 lo with
          | none => rfl
          | some l => cases boundK T n hi with
            | none => rfl
            | some r => cases elemT c.P t with
              | none => rfl
              | some e =>
                simp only [Option.bind_some]
                cases szOf c.P e with
                | none => rfl
                | some sz =>
                  simp only [Option.bind_some]
                  split
                  · split <;> first | rfl | exact map_same
                  · rfl
        | some mx =>
          cases lo with
          | some _ => rfl
          | none => cases hi with
            | none => rfl
            | some hi =>
              simp only [Option.bind_some, hl]
              cases elemT c.P t with
              | none => rfl
              | some e =>
                simp only [Option.bind_some]
                cases szOf c.P e with
                | none => rfl
                | some sz =>
                  simp only [Option.bind_some]
                  split
                  · split <;> rfl
                  · rfl
  case fieldAddr s x f =>
    cases fieldOff c.P s f with
    | none => rfl
    | some off =>
      simp only [Option.bind_some]
      split <;> rfl
  case field s x f =>
    cases fieldOff c.P s f with
    | none => rfl
    | some off =>
      simp only [Option.bind_some]
      split
      · split
        · exact map_same
        · rfl
      · rfl
  case indexAddr t x i =>
    cases elemT c.P t with
    | none => rfl
    | some e =>
      simp only [Option.bind_some]
      cases szOf c.P e with
      | none => rfl
      | some sz => cases ev T x with
        | none => rfl
        | some v =>
          simp only [Option.bind_some]
          split
          · cases lenK v with
            | none => rfl
            | some n =>
              simp only [Option.bind_some]
              split
              · split <;> rfl
              · rfl
          · rfl
  case index t x i =>
    split
    · split
      · exact map_same
      · rfl
    · rfl
  case extract x i =>
    split
    · exact map_same
    · rfl
  case call k =>
    obtain ⟨callee, args, ats⟩ := k
    cases callee with
    | invoke r n => simp at hp
    | value f => simp at hp
    | builtin b =>
      cases b <;> simp only [Bool.false_eq_true] at hp
      case len =>
        simp only []
        split
        · split
          · rfl
          · rename_i v _ _
            cases lenK v <;> rfl
          · rfl
        · rfl
      case min =>
        simp only []
        split
        · split <;> rfl
        · rfl
      case max =>
        simp only []
        split
        · split <;> rfl
        · rfl

theorem opK_pure {c : Cx} (hs : c.still = true) {o : Oper} (hp : isPure o = true) {T : Nat → V} {H H' : Heap} {v : V} (h : opK c o { T := T, H := H } = some (v, H')) : H' = H ∧ ∀ H2, opK c o { T := T, H := H2 } = some (v, H2) := by
  by_cases hb : ∀ t n ps, o.op ≠ .buildSlice t n ps
  · have h1 := opK_param (c := c) hp hb (T := T) (H := H) (H2 := H)
    rw [h] at h1
    simp only [Option.map_some, Option.some.injEq, Prod.mk.injEq, true_and] at h1
    exact ⟨h1, fun H2 => by rw [opK_param (c := c) hp hb (T := T) (H := H) (H2 := H2), h]; rfl⟩
  · obtain ⟨t, n, ps, ho⟩ : ∃ t n ps, o.op = .buildSlice t n ps := Classical.byContradiction fun hx => hb fun t n ps e => hx ⟨t, n, ps, e⟩
    simp only [opK, ho] at h ⊢
    simp only [Option.bind_eq_some_iff, Prod.exists] at h
    obtain ⟨ps1, h1, ps2, H1, h2, e, h3, sz, h4, z, h5, h6⟩ := h
    obtain ⟨rfl, k⟩ := embedL_still hs _ _ _ _ h2
    split at h6
    case isFalse => cases h6
    rename_i hc
    simp only [Option.map_eq_some_iff, Prod.mk.injEq] at h6
    obtain ⟨cs, h7, rfl, rfl⟩ := h6
    refine ⟨rfl, fun H2 => ?_⟩
    simp only [h1, Option.bind_some, k H2, h3, h4, h5]
    rw [if_pos hc, h7]
    rfl

end Go.Proofs.Ytblodpbcinkehaa.K
