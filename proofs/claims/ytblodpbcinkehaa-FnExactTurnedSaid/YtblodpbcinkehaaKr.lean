/-
  From a row's arguments to typed values, and from the interpreter's run back to the row. No conditions.
-/
import Derived.Test.YtblodpbcinkehaaKq
import Derived.WalkKit
import Derived.ProofKit
import Derived.OpenShut
import Derived.ShutString
import Derived.ChangeOld
import Derived.Below
import Derived.SizedLaws
import Derived.Carry
set_option linter.unusedVariables false
set_option linter.unusedSimpArgs false
namespace Go.Proofs.Ytblodpbcinkehaa.K
open Go.RowKit

/-- The memory at a row's start: nothing of it is named. -/
def ground (W : World) : Env := { w := W, φ := fun b => b, H := [], lk := [], n := 0, m := 0, hid := [] }
theorem ground_U (W : World) (lv : Option Nat) (g i : Nat) : ¬ (ground W).U lv g i := by
  intro h
  rcases h with h | h
  · cases h
  cases lv with
  | some lv =>
    obtain ⟨b, _, _, h⟩ := h
    have h : match ([] : Heap)[b]? with
      | some (.cells _ _) | some (.mp _) => True
      | some (.bld l n sz) => lv < l ∨ n * sz ≤ i
      | _ => False := h
    simp at h
  | none =>
    obtain ⟨b, _, h⟩ := h
    have h : match ([] : Heap)[b]? with
      | some (.cells _ _) | some (.mp _) => True
      | some (.bld _ n sz) => n * sz ≤ i
      | _ => False := h
    simp at h
theorem ground_rel (W : World) : RelH (ground W) where
  cells := fun b sz cs h => by have h : ([] : Heap)[b]? = some (.cells sz cs) := h; simp at h
  bld := fun b l n sz h => by have h : ([] : Heap)[b]? = some (.bld l n sz) := h; simp at h
  lvl := fun b l n sz h => by have h : ([] : Heap)[b]? = some (.bld l n sz) := h; simp at h
  dm := Nat.le_refl _
  inj := fun b b' h _ _ => by have h : live ([] : Heap)[b]? := h; simp [live] at h
  maps := fun b kvs h => by have h : ([] : Heap)[b]? = some (.mp kvs) := h; simp at h
  hid := fun g hg => by cases hg

theorem law_walk {P : Program} (hfol : P.follows .mixedOrders = true) {h : Hints} {k : FuncId} {args : Array Value} {W : World} {vs : List V} (hrep : RepVs (ground W) vs args.toList) (hrun : runL P h k vs [] [[]] = some (.bool true, [])) :
    Calls P k args W fun e W' => e = .returned (.bool true) ∧ Below W.heap.size W W' := by
  have hc := (runL_sound P hfol h).run k vs [] [] [] (.bool true) [] hrun (ground W) args.toList rfl rfl rfl rfl (ground_rel W) (by simp) ((Keeps.locks (ground W) [] (Nat.le_refl _)).repVs _ _ hrep)
  have he : args.toList.toArray = args := by simp
  rw [he] at hc
  refine hc.mono fun e W' hR => ?_
  cases e with
  | returned u =>
    obtain ⟨E1, rfl, hb, hr⟩ := hR
    simp only [RepV] at hr
    subst hr
    refine ⟨rfl, hb.evo.os, hb.evo.tape, hb.evo.output, hb.evo.size, fun g hg => hb.evo.block g hg fun i hu => ?_⟩
    rcases hu with hu | ⟨b, _, _, hu⟩
    · cases hu
    have hx : ((ground W).lock []).H[b]? = none := by show ([] : Heap)[b]? = none; rfl
    rw [hx] at hu
    exact hu
  | _ => exact hR.elim

/-- What a type's reading yields. -/
def Reads (P : Program) (t : TypeId) (α : Type) [GoT α] (fits : α → Prop) : Prop :=
  ∀ {K : Type} (enc : TypeId × Value → K) (W : World) (sp : Nat → Bool) (fuel : Nat) (cs : List Value) (d : DataW K) (ps : List MemPlace), DataW.trod enc P W 0 sp true fuel t cs = some (d, ps) → ∃ x : α, RepVs (ground W) ((GoT.encL 0) x) cs ∧ fits x

abbrev fitsI (x : Int) : Prop := -9223372036854775808 ≤ x ∧ x ≤ 9223372036854775807
abbrev fitsL {α : Type} (f : α → Prop) (xs : List α) : Prop := xs.length ≤ 9223372036854775807 ∧ ∀ x ∈ xs, f x

section
variable {P : Program} {t : TypeId}
theorem reads_int (ht : P.underlying t = some (.int .i64)) : Reads P t Int fitsI := by
  intro K enc W sp fuel cs d ps h
  cases fuel with
  | zero => simp [DataW.trod] at h
  | succ fuel =>
    simp only [DataW.trod, ht] at h
    split at h <;> try (simp_all; done)
    rename_i k k' n heq
    split at h
    case isFalse => cases h
    rename_i hc
    simp only [Option.some.injEq, TypeDesc.int.injEq] at heq
    subst heq
    obtain ⟨rfl, hw⟩ := hc
    simp only [Lit.wf, Bool.and_eq_true, decide_eq_true_eq] at hw
    refine ⟨n, ?_, ?_⟩
    · show RepVs _ [.int .i64 n] _
      simp only [RepVs, RepV]
      exact ⟨_, _, rfl, rfl, rfl⟩
    · have h1 : IntKind.min .i64 = -9223372036854775808 := rfl
      have h2 : IntKind.max .i64 = 9223372036854775807 := rfl
      rw [h1, h2] at hw
      exact hw
theorem reads_bool (ht : P.underlying t = some .bool) : Reads P t Bool fun _ => True := by
  intro K enc W sp fuel cs d ps h
  cases fuel with
  | zero => simp [DataW.trod] at h
  | succ fuel =>
    simp only [DataW.trod, ht] at h
    split at h <;> try (simp_all; done)
    rename_i b heq
    refine ⟨b, ?_, trivial⟩
    show RepVs _ [.bool b] _
    simp only [RepVs, RepV]
    exact ⟨_, _, rfl, rfl, rfl⟩
theorem reads_str (ht : P.underlying t = some .string) : Reads P t ByteArray fun s => s.size ≤ 9223372036854775807 := by
  intro K enc W sp fuel cs d ps h
  cases fuel with
  | zero => simp [DataW.trod] at h
  | succ fuel =>
    simp only [DataW.trod, ht] at h
    split at h <;> try (simp_all; done)
    rename_i s heq
    split at h
    case isFalse => cases h
    rename_i hc
    refine ⟨s, ?_, hc⟩
    show RepVs _ [.str s] _
    simp only [RepVs, RepV]
    exact ⟨_, _, rfl, rfl, rfl⟩

theorem cells_get {W : World} {a : Addr} {n : Nat} {cs : List Value} (h : W.cells? 0 a n = some cs) : cs.length = n ∧ ∀ i, i < n → ∃ u, cs[i]? = some u ∧ W.cell? (a.add i) = some u := by
  unfold World.cells? at h
  rw [if_pos (Nat.zero_le _)] at h
  have key : ∀ (l : List Nat) (cs : List Value), (l.mapM fun i => W.cell? (a.add i)) = some cs → cs.length = l.length ∧ ∀ (i j : Nat), l[i]? = some j → ∃ u, cs[i]? = some u ∧ W.cell? (a.add j) = some u := by
    intro l
    induction l with
    | nil =>
      intro cs h
      simp only [List.mapM_nil, Option.pure_def, Option.some.injEq] at h
      subst h
      exact ⟨rfl, fun i j h => by simp at h⟩
    | cons x l ih =>
      intro cs h
      simp only [List.mapM_cons, Option.bind_eq_bind, Option.bind_eq_some_iff, Option.pure_def, Option.some.injEq] at h
      obtain ⟨u, hu, us, hus, rfl⟩ := h
      obtain ⟨h1, h2⟩ := ih us hus
      refine ⟨by simp [h1], fun i j hij => ?_⟩
      cases i with
      | zero =>
        simp only [List.getElem?_cons_zero, Option.some.injEq] at hij
        subst hij
        exact ⟨u, rfl, hu⟩
      | succ i => exact h2 i j (by simpa using hij)
  obtain ⟨h1, h2⟩ := key _ _ h
  refine ⟨by simpa using h1, fun i hi => h2 i i ?_⟩
  rw [List.getElem?_range hi]
theorem repL_of {W : World} {lv : Option Nat} {g : Nat} : ∀ {vs : List V} {cs : List Value} {o : Nat}, RepVs (ground W) vs cs → (∀ i u, cs[i]? = some u → W.cell? ⟨g, o + i, none⟩ = some u) → RepL (ground W) lv g o vs
  | [], cs, o, _, _ => by simp only [RepL]
  | v :: vs, cs, o, h, hc => by
    simp only [RepVs] at h
    obtain ⟨u, us, rfl, h1, h2⟩ := h
    simp only [RepL]
    refine ⟨⟨u, hc 0 u rfl, h1⟩, ground_U _ _ _ _, repL_of h2 fun i u hi => ?_⟩
    have := hc (i + 1) u (by simpa using hi)
    rw [show o + 1 + i = o + (i + 1) by omega]
    exact this
theorem repL_app {W : World} {lv : Option Nat} {g : Nat} : ∀ {vs ws : List V} {o : Nat}, RepL (ground W) lv g o vs → RepL (ground W) lv g (o + vs.length) ws → RepL (ground W) lv g o (vs ++ ws)
  | [], ws, o, _, h => h
  | v :: vs, ws, o, h, h' => by
    simp only [RepL, List.cons_append] at h ⊢
    exact ⟨h.1, h.2.1, repL_app h.2.2 (by rw [show o + 1 + vs.length = o + (v :: vs).length by simp; omega]; exact h')⟩

theorem reads_slice {e : TypeId} {α : Type} [GoT α] {f : α → Prop} (ht : P.underlying t = some (.slice e)) (hz : P.cellsOf e = GoT.sz α) (he : Reads P e α f) : Reads P t (List α) (fitsL f) := by
  intro K enc W sp fuel cs d ps h
  cases fuel with
  | zero => simp [DataW.trod] at h
  | succ fuel =>
    simp only [DataW.trod, ht] at h
    split at h <;> try (simp_all; done)
    · refine ⟨[], ?_, by simp [fitsL]⟩
      show RepVs _ [.lit 0 0 []] _
      simp only [RepVs, RepV]
      exact ⟨_, _, rfl, ⟨Nat.le_refl _, none, 0, rfl, Nat.le_refl _, .inl trivial⟩, rfl⟩
    · rename_i e' a len cap heq
      simp only [Option.some.injEq, TypeDesc.slice.injEq] at heq
      subst heq
      split at h
      case isFalse => cases h
      rename_i hc
      simp only [Option.bind_eq_some_iff] at h
      obtain ⟨es, hes, _⟩ := h
      have key : ∀ (n k : Nat) (es : List (DataW K × List MemPlace)), ((List.range' k n).mapM fun i => (W.cells? 0 (a.add (i * P.cellsOf e)) (P.cellsOf e)).bind (DataW.trod enc P W 0 sp true fuel e)) = some es →
          ∃ xs : List α, xs.length = n ∧ (∀ x ∈ xs, f x) ∧ ((0 < n → k = 0 → a.spot = none) ∧ (n = 0 ∨ 0 < k ∨ a.spot = none) → ∀ lv, RepL (ground W) lv a.block (a.off + k * GoT.sz α) ((flatL 0) xs)) ∧ (0 < n → k = 0 → a.spot = none) := by
        intro n
        induction n with
        | zero => intro k es _; exact ⟨[], rfl, by simp, fun _ lv => by rw [flat_nil]; simp only [RepL], fun h => absurd h (Nat.lt_irrefl _)⟩
        | succ n ih =>
          intro k es h
          rw [List.range'_succ] at h
          simp only [List.mapM_cons, Option.bind_eq_bind, Option.bind_eq_some_iff, Option.pure_def, Option.some.injEq] at h
          obtain ⟨y, ⟨cs, hcs, hy⟩, ys, hys, rfl⟩ := h
          obtain ⟨x, hx, hfx⟩ := he enc W sp fuel cs y.1 y.2 hy
          obtain ⟨xs, h1, h2, h3, _⟩ := ih (k + 1) ys hys
          obtain ⟨c1, c2⟩ := cells_get hcs
          have hpos : 0 < P.cellsOf e := by rw [hz]; exact GoT.pos
          have hspot : k = 0 → a.spot = none := by
            intro hk
            subst hk
            obtain ⟨u, _, hu⟩ := c2 0 hpos
            have e1 : ((a.add (0 * P.cellsOf e)).add 0) = a := by simp [Addr.add]
            rw [e1] at hu
            unfold World.cell? at hu
            split at hu
            · split at hu
              · cases hu
              · rename_i hs; simpa using hs
            · cases hu
          refine ⟨x :: xs, by simp [h1], fun z hz' => ?_, fun _ lv => ?_, fun _ => hspot⟩
          · rcases List.mem_cons.1 hz' with rfl | hz'
            · exact hfx
            · exact h2 z hz'
          · rw [flat_cons]
            refine repL_app (repL_of hx fun i u hi => ?_) ?_
            · have hlt : i < P.cellsOf e := by rw [← c1]; exact (List.getElem?_eq_some_iff.1 hi).1
              obtain ⟨u', hu1, hu2⟩ := c2 i hlt
              rw [hi] at hu1
              simp only [Option.some.injEq] at hu1
              subst hu1
              have e1 : W.cell? ((a.add (k * P.cellsOf e)).add i) = W.cell? ⟨a.block, a.off + k * GoT.sz α + i, none⟩ := by
                congr 1
                rw [← hz]
                unfold Addr.add
                by_cases h1 : k * P.cellsOf e = 0
                · have hk : k = 0 := by
                    rcases Nat.mul_eq_zero.1 h1 with h | h
                    · exact h
                    · omega
                  have hs := hspot hk
                  by_cases h2 : i = 0
                  · simp only [h1, h2, if_true, Nat.add_zero]
                    cases a; simp_all
                  · simp only [h1, h2, if_true, if_false, Nat.add_zero]
                · by_cases h2 : i = 0
                  · simp only [h1, h2, if_true, if_false, Nat.add_zero]
                  · simp only [h1, h2, if_false]
              rw [← e1]
              exact hu2
            · rw [GoT.len, show a.off + k * GoT.sz α + GoT.sz α = a.off + (k + 1) * GoT.sz α by rw [Nat.succ_mul]; omega]
              exact h3 ⟨fun _ h => by omega, .inr (.inl (Nat.succ_pos k))⟩ lv
      rw [List.range_eq_range'] at hes
      obtain ⟨xs, h1, h2, h3, h4⟩ := key len 0 es hes
      refine ⟨xs, ?_, ?_, h2⟩
      · show RepVs _ [.lit 0 xs.length ((flatL 0) xs)] _
        simp only [RepVs, RepV]
        refine ⟨_, _, rfl, ⟨Nat.le_refl _, some a, cap, by rw [h1], by rw [h1]; exact hc.2.1, ?_⟩, rfl⟩
        rcases Nat.eq_zero_or_pos len with hl | hl
        · exact .inl (by rw [h1, hl])
        · have hs := h4 hl rfl
          refine .inr ⟨a.block, a.off, by cases a; simp_all, ?_⟩
          have := h3 ⟨fun _ _ => hs, .inr (.inr hs)⟩ (some 0)
          simpa using this
      · rw [h1]
        have := hc.2.2
        have hm : maxLen = 9223372036854775807 := rfl
        omega

theorem fld {E : Env} {xs ys : List V} {cs : List Value} {off sz : Nat} (h1 : RepVs E xs ((cs.drop off).take sz)) (h2 : RepVs E ys (cs.drop (off + sz))) : RepVs E (xs ++ ys) (cs.drop off) := by
  have := repVs_append h1 (by rw [← List.drop_drop] at h2; exact h2)
  rwa [List.take_append_drop] at this
theorem fldLast {E : Env} {xs : List V} {cs : List Value} {off sz : Nat} (hl : cs.length = off + sz) (h1 : RepVs E xs ((cs.drop off).take sz)) : RepVs E xs (cs.drop off) := by
  rwa [List.take_of_length_le (by rw [List.length_drop]; omega)] at h1
/-- The parts of a struct's reading. -/
theorem trod_struct {K : Type} {enc : TypeId × Value → K} {W : World} {sp : Nat → Bool} {fuel : Nat} {cs : List Value} {d : DataW K} {ps : List MemPlace} {fs : Array Field} (ht : P.underlying t = some (.struct fs)) (h : DataW.trod enc P W 0 sp true fuel t cs = some (d, ps)) :
    ∃ fuel', cs.length = P.cellsOf t ∧ ∀ f ∈ fs.toList, ∃ d' ps', DataW.trod enc P W 0 sp true fuel' f.type ((cs.drop f.offset).take (P.cellsOf f.type)) = some (d', ps') := by
  cases fuel with
  | zero => simp [DataW.trod] at h
  | succ fuel =>
    simp only [DataW.trod, ht] at h
    split at h
    case isFalse => cases h
    rename_i hc
    simp only [Option.map_eq_some_iff] at h
    obtain ⟨xs, hxs, hx2⟩ := h
    refine ⟨fuel, hc, ?_⟩
    clear ht hc hx2
    generalize fs.toList = l at hxs ⊢
    induction l generalizing xs with
    | nil => simp
    | cons f l ih =>
      simp only [List.mapM_cons, Option.bind_eq_bind, Option.bind_eq_some_iff, Option.pure_def, Option.some.injEq] at hxs
      obtain ⟨y, hy, ys, hys, rfl⟩ := hxs
      intro g hg
      rcases List.mem_cons.1 hg with rfl | hg
      · exact ⟨y.1, y.2, hy⟩
      · exact ih ys hys g hg
end

/-- A type whose values are one cell. -/
def oneCell (P : Program) (t : TypeId) : Bool := match P.underlying t with | some (.int _) | some .bool | some .string | some (.slice _) => true | _ => false
theorem arg_cell {P : Program} {t : TypeId} {W : World} {base : Nat} {v : Value} (ht : oneCell P t = true) (ho : Value.okWide P W .any base t v) (cs : Array Value) : v ≠ .agg cs := by
  rintro rfl
  unfold oneCell at ht
  unfold Value.okWide Cell.okWide Cell.ok at ho
  split at ht <;> rename_i hu
  all_goals (try (rw [hu] at ho; simp at ho; done))
  all_goals cases ht
theorem arg_struct {P : Program} {t : TypeId} {fs : Array Field} {W : World} {base : Nat} {v : Value} (ht : P.underlying t = some (.struct fs)) (ho : Value.okWide P W .any base t v) : ∃ cs, v = .agg cs := by
  unfold Value.okWide at ho
  rw [ht] at ho
  obtain ⟨cs, h, _⟩ := ho
  exact ⟨cs, h⟩
theorem argA {E : Env} {xs : List V} {v : Value} (hv : ∃ cs, v = .agg cs) (h : RepVs E xs v.cells.toList) : RepV E (.agg xs) v := by
  obtain ⟨cs, rfl⟩ := hv
  simp only [RepV]
  exact ⟨cs, rfl, h⟩
theorem arg1 {E : Env} {x : V} {v : Value} (hv : ∀ cs, v ≠ .agg cs) (h : RepVs E [x] v.cells.toList) : RepV E x v := by
  have hc : v.cells = #[v] := by
    cases v <;> first | rfl | exact absurd rfl (hv _)
  rw [hc] at h
  simp only [RepVs] at h
  obtain ⟨u, us, h1, h2, _⟩ := h
  simp only [List.cons.injEq] at h1
  rw [h1.1]
  exact h2
theorem args0 (E : Env) : RepVs E [] [] := by simp only [RepVs]
theorem args1 {E : Env} {x : V} {xs : List V} {v : Value} {vs : List Value} (h : RepV E x v) (hs : RepVs E xs vs) : RepVs E (x :: xs) (v :: vs) := by
  simp only [RepVs]
  exact ⟨v, vs, rfl, h, hs⟩

end Go.Proofs.Ytblodpbcinkehaa.K
