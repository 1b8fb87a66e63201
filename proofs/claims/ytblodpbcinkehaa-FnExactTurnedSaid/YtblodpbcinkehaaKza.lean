/-
  Mutable values: lists whose elements bear lists, each in a block of its own. No conditions.
-/
import Derived.Test.YtblodpbcinkehaaKz
set_option linter.unusedVariables false
set_option linter.unusedSimpArgs false
namespace Go.Proofs.Ytblodpbcinkehaa.K

/-- The cells of a list's elements, one after the other. -/
def trL {α : Type} (tr : Heap → α → List V → List Nat → Prop) (G : Heap) : List α → List V → List Nat → Prop
  | [], cs, F => cs = [] ∧ F = []
  | x :: xs, cs, F => ∃ c1 c2 F1 F2, cs = c1 ++ c2 ∧ F = F1 ++ F2 ∧ tr G x c1 F1 ∧ trL tr G xs c2 F2
/-- A value as it leaves, its blocks made anew from number 'lo' on. -/
def Leaves (tr : Heap → List V → List Nat → Prop) (lo : Nat) (f : Heap × List Blk → V → Option (V × Heap × List Blk)) (cs : List V) (F : List Nat) (X : Heap × List Blk) : Prop :=
  ∃ cs' X1 L F', resV.resL f X cs = some (cs', X1, X.2 ++ L) ∧ (∀ b, b ∉ F → X1[b]? = X.1[b]?) ∧ F'.Nodup ∧ (∀ b ∈ F', lo + X.2.length ≤ b ∧ b < lo + X.2.length + L.length) ∧ ∀ A : Heap, A.length = lo → tr (A ++ (X.2 ++ L)) cs' F'
/-- What a mutable value is in a heap: its cells, and the blocks that it bears. -/
class GoM (α : Type) [GoT α] where
  tr : Heap → α → List V → List Nat → Prop
  dep : Nat
  len : ∀ {G x cs F}, tr G x cs F → cs.length = GoT.sz α
  cell : ∀ {G x cs F}, tr G x cs F → cs.all V.isCell = true
  frame : ∀ {G G' x cs F}, tr G x cs F → (∀ b ∈ F, G'[b]? = G[b]?) → tr G' x cs F
  bound : ∀ {G x cs F}, tr G x cs F → ∀ b ∈ F, b < G.length
  lend : ∀ {G x cs F}, tr G x cs F → ∀ lv k, ∃ M, lendV.lendL (lendV lv G (k + dep)) cs = some (GoT.encL lv x, M) ∧ ∀ b ∈ M, b ∈ F
  res : ∀ {G x cs F}, tr G x cs F → F.Nodup → ∀ lo d, (∀ b ∈ F, lo ≤ b) → ∀ k X, (∀ b ∈ F, X.1[b]? = G[b]?) → Leaves (fun G => tr G x) lo (resV true lo d (k + dep)) cs F X

theorem lendL_append {f : V → Option (V × List Nat)} : ∀ {a b a' b' : List V} {M N : List Nat}, lendV.lendL f a = some (a', M) → lendV.lendL f b = some (b', N) → lendV.lendL f (a ++ b) = some (a' ++ b', M ++ N)
  | [], b, a', b', M, N, h1, h2 => by
    simp only [lendV.lendL, Option.some.injEq, Prod.mk.injEq] at h1
    obtain ⟨rfl, rfl⟩ := h1
    simpa using h2
  | x :: a, b, a', b', M, N, h1, h2 => by
    simp only [lendV.lendL, Option.bind_eq_some_iff, Option.map_eq_some_iff, Prod.exists, Prod.mk.injEq] at h1
    obtain ⟨x', M1, e1, a2, M2, e2, rfl, rfl⟩ := h1
    simp only [List.cons_append, lendV.lendL, e1, Option.bind_some, lendL_append e2 h2, Option.map_some, List.append_assoc]
theorem resL_append {f : Heap × List Blk → V → Option (V × Heap × List Blk)} : ∀ {a b a' b' : List V} {X Y Z : Heap × List Blk}, resV.resL f X a = some (a', Y) → resV.resL f Y b = some (b', Z) → resV.resL f X (a ++ b) = some (a' ++ b', Z)
  | [], b, a', b', X, Y, Z, h1, h2 => by
    simp only [resV.resL, Option.some.injEq, Prod.mk.injEq] at h1
    obtain ⟨rfl, rfl⟩ := h1
    simpa using h2
  | x :: a, b, a', b', X, Y, Z, h1, h2 => by
    simp only [resV.resL, Option.bind_eq_some_iff, Option.map_eq_some_iff, Prod.exists, Prod.mk.injEq] at h1
    obtain ⟨x', X1, X2, e1, a2, X3, X4, e2, rfl, rfl⟩ := h1
    simp only [List.cons_append, resV.resL, e1, Option.bind_some, resL_append e2 h2, Option.map_some]
theorem nodup_app {A B : List Nat} (h : (A ++ B).Nodup) : A.Nodup ∧ B.Nodup ∧ ∀ x ∈ A, x ∉ B := by
  rw [List.nodup_append] at h
  exact ⟨h.1, h.2.1, fun x hx hx' => h.2.2 x hx x hx' rfl⟩
theorem Leaves.pair {t1 t2 : Heap → List V → List Nat → Prop} {lo : Nat} {f : Heap × List Blk → V → Option (V × Heap × List Blk)} {c1 c2 : List V} {F1 F2 : List Nat} {X : Heap × List Blk}
    (m1 : ∀ {G G' cs F}, t1 G cs F → (∀ b ∈ F, G'[b]? = G[b]?) → t1 G' cs F) (h1 : Leaves t1 lo f c1 F1 X) (h2 : ∀ Y : Heap × List Blk, (∀ b, b ∉ F1 → Y.1[b]? = X.1[b]?) → Leaves t2 lo f c2 F2 Y) :
    Leaves (fun G cs F => ∃ c1 c2 F1 F2, cs = c1 ++ c2 ∧ F = F1 ++ F2 ∧ t1 G c1 F1 ∧ t2 G c2 F2) lo f (c1 ++ c2) (F1 ++ F2) X := by
  obtain ⟨c1', X1, L1, F1', e1, s1, n1, b1, r1⟩ := h1
  obtain ⟨c2', X2, L2, F2', e2, s2, n2, b2, r2⟩ := h2 (X1, X.2 ++ L1) s1
  simp only [List.length_append] at b2
  refine ⟨c1' ++ c2', X2, L1 ++ L2, F1' ++ F2', by rw [← List.append_assoc]; exact resL_append e1 e2, fun b hb => ?_, ?_, fun b hb => ?_, fun A hA => ⟨c1', c2', F1', F2', rfl, rfl, m1 (r1 A hA) fun b hb => ?_, by rw [← List.append_assoc X.2]; exact r2 A hA⟩⟩
  · rw [s2 b fun h => hb (List.mem_append_right _ h)]
    exact s1 b fun h => hb (List.mem_append_left _ h)
  · rw [List.nodup_append]
    refine ⟨n1, n2, fun x hx y hy e => ?_⟩
    have := b1 x hx
    have := b2 y hy
    omega
  · rw [List.length_append]
    rcases List.mem_append.1 hb with hb | hb
    · have := b1 b hb; omega
    · have := b2 b hb; omega
  · rw [← List.append_assoc X.2, ← List.append_assoc A (X.2 ++ L1), List.getElem?_append_left]
    rw [List.length_append, List.length_append, hA]
    have := b1 b hb
    omega

section
variable {α : Type} [GoT α] [GoM α] {G G' : Heap}
theorem trL_len : ∀ {xs : List α} {cs F}, trL GoM.tr G xs cs F → cs.length = xs.length * GoT.sz α
  | [], cs, F, h => by obtain ⟨rfl, rfl⟩ := h; simp
  | x :: xs, cs, F, h => by
    obtain ⟨c1, c2, F1, F2, rfl, rfl, h1, h2⟩ := h
    rw [List.length_append, GoM.len h1, trL_len h2, List.length_cons, Nat.succ_mul, Nat.add_comm]
theorem trL_cell : ∀ {xs : List α} {cs F}, trL GoM.tr G xs cs F → cs.all V.isCell = true
  | [], cs, F, h => by obtain ⟨rfl, rfl⟩ := h; rfl
  | x :: xs, cs, F, h => by
    obtain ⟨c1, c2, F1, F2, rfl, rfl, h1, h2⟩ := h
    rw [List.all_append, GoM.cell h1, trL_cell h2]; rfl
theorem trL_frame : ∀ {xs : List α} {cs F}, trL GoM.tr G xs cs F → (∀ b ∈ F, G'[b]? = G[b]?) → trL GoM.tr G' xs cs F
  | [], cs, F, h, _ => h
  | x :: xs, cs, F, h, hf => by
    obtain ⟨c1, c2, F1, F2, rfl, rfl, h1, h2⟩ := h
    exact ⟨c1, c2, F1, F2, rfl, rfl, GoM.frame h1 fun b hb => hf b (List.mem_append_left _ hb), trL_frame h2 fun b hb => hf b (List.mem_append_right _ hb)⟩
theorem trL_bound : ∀ {xs : List α} {cs F}, trL GoM.tr G xs cs F → ∀ b ∈ F, b < G.length
  | [], cs, F, h => by obtain ⟨rfl, rfl⟩ := h; intro b hb; cases hb
  | x :: xs, cs, F, h => by
    obtain ⟨c1, c2, F1, F2, rfl, rfl, h1, h2⟩ := h
    intro b hb
    rcases List.mem_append.1 hb with hb | hb
    · exact GoM.bound h1 b hb
    · exact trL_bound h2 b hb
theorem trL_lend (lv k : Nat) : ∀ {xs : List α} {cs F}, trL GoM.tr G xs cs F → ∃ M, lendV.lendL (lendV lv G (k + GoM.dep α)) cs = some (flatL lv xs, M) ∧ ∀ b ∈ M, b ∈ F
  | [], cs, F, h => by obtain ⟨rfl, rfl⟩ := h; exact ⟨[], rfl, fun b hb => hb⟩
  | x :: xs, cs, F, h => by
    obtain ⟨c1, c2, F1, F2, rfl, rfl, h1, h2⟩ := h
    obtain ⟨M1, e1, m1⟩ := GoM.lend h1 lv k
    obtain ⟨M2, e2, m2⟩ := trL_lend lv k h2
    refine ⟨M1 ++ M2, lendL_append e1 e2, fun b hb => ?_⟩
    rcases List.mem_append.1 hb with hb | hb
    · exact List.mem_append_left _ (m1 b hb)
    · exact List.mem_append_right _ (m2 b hb)
theorem trL_res (lo d k : Nat) : ∀ {xs : List α} {cs F}, trL GoM.tr G xs cs F → F.Nodup → (∀ b ∈ F, lo ≤ b) → ∀ X, (∀ b ∈ F, X.1[b]? = G[b]?) → Leaves (fun G => trL GoM.tr G xs) lo (resV true lo d (k + GoM.dep α)) cs F X
  | [], cs, F, h, _, _, X, _ => by
    obtain ⟨rfl, rfl⟩ := h
    exact ⟨[], X.1, [], [], by rw [List.append_nil]; rfl, fun _ _ => rfl, .nil, fun b hb => (by cases hb), fun _ _ => ⟨rfl, rfl⟩⟩
  | x :: xs, cs, F, h, hn, hF, X, hX => by
    obtain ⟨c1, c2, F1, F2, rfl, rfl, h1, h2⟩ := h
    obtain ⟨n1, n2, n3⟩ := nodup_app hn
    refine Leaves.pair (fun h => GoM.frame h) (GoM.res h1 n1 lo d (fun b hb => hF b (List.mem_append_left _ hb)) k X fun b hb => hX b (List.mem_append_left _ hb)) fun Y hY => ?_
    exact trL_res lo d k h2 n2 (fun b hb => hF b (List.mem_append_right _ hb)) Y fun b hb => by rw [hY b fun h => n3 b h hb]; exact hX b (List.mem_append_right _ hb)
/-- An element, and how another one comes into its place. -/
theorem trL_at : ∀ {xs : List α} {j : Nat} {x : α} {cs F}, trL GoM.tr G xs cs F → xs[j]? = some x → ∃ c1 c2 c3 F1 F2 F3, cs = c1 ++ (c2 ++ c3) ∧ F = F1 ++ (F2 ++ F3) ∧ c1.length = j * GoT.sz α ∧ GoM.tr G x c2 F2 ∧
    ∀ G' y c F', (∀ b ∈ F1 ++ F3, G'[b]? = G[b]?) → GoM.tr G' y c F' → trL GoM.tr G' (xs.set j y) (c1 ++ (c ++ c3)) (F1 ++ (F' ++ F3))
  | [], j, x, cs, F, h, hx => by simp at hx
  | z :: xs, 0, x, cs, F, h, hx => by
    simp only [List.getElem?_cons_zero, Option.some.injEq] at hx
    subst hx
    obtain ⟨c1, c2, F1, F2, rfl, rfl, h1, h2⟩ := h
    exact ⟨[], c1, c2, [], F1, F2, rfl, rfl, by simp, h1, fun G' y c F' hG hy => ⟨c, c2, F', F2, rfl, rfl, hy, trL_frame h2 hG⟩⟩
  | z :: xs, j + 1, x, cs, F, h, hx => by
    simp only [List.getElem?_cons_succ] at hx
    obtain ⟨c1, c2, F1, F2, rfl, rfl, h1, h2⟩ := h
    obtain ⟨d1, d2, d3, E1, E2, E3, rfl, rfl, hl, h3, h4⟩ := trL_at h2 hx
    refine ⟨c1 ++ d1, d2, d3, F1 ++ E1, E2, E3, by rw [List.append_assoc], by rw [List.append_assoc], by rw [List.length_append, GoM.len h1, hl, Nat.succ_mul, Nat.add_comm], h3, fun G' y c F' hG hy => ?_⟩
    refine ⟨c1, d1 ++ (c ++ d3), F1, E1 ++ (F' ++ E3), by rw [List.append_assoc], by rw [List.append_assoc], GoM.frame h1 fun b hb => hG b (by simp [hb]), h4 G' y c F' (fun b hb => hG b ?_) hy⟩
    rw [List.append_assoc]; exact List.mem_append_right _ hb
end

instance : GoM Int where
  tr := fun _ x cs F => cs = [.int .i64 x] ∧ F = []
  dep := 1
  len := fun h => by obtain ⟨rfl, rfl⟩ := h; rfl
  cell := fun h => by obtain ⟨rfl, rfl⟩ := h; rfl
  frame := fun h _ => h
  bound := fun h => by obtain ⟨rfl, rfl⟩ := h; intro b hb; cases hb
  lend := fun h lv k => by obtain ⟨rfl, rfl⟩ := h; exact ⟨[], rfl, fun b hb => hb⟩
  res := fun h _ lo d _ k X _ => by obtain ⟨rfl, rfl⟩ := h; exact ⟨_, X.1, [], [], by rw [List.append_nil]; rfl, fun _ _ => rfl, .nil, fun b hb => (by cases hb), fun _ _ => ⟨rfl, rfl⟩⟩
instance : GoM Bool where
  tr := fun _ x cs F => cs = [.bool x] ∧ F = []
  dep := 1
  len := fun h => by obtain ⟨rfl, rfl⟩ := h; rfl
  cell := fun h => by obtain ⟨rfl, rfl⟩ := h; rfl
  frame := fun h _ => h
  bound := fun h => by obtain ⟨rfl, rfl⟩ := h; intro b hb; cases hb
  lend := fun h lv k => by obtain ⟨rfl, rfl⟩ := h; exact ⟨[], rfl, fun b hb => hb⟩
  res := fun h _ lo d _ k X _ => by obtain ⟨rfl, rfl⟩ := h; exact ⟨_, X.1, [], [], by rw [List.append_nil]; rfl, fun _ _ => rfl, .nil, fun b hb => (by cases hb), fun _ _ => ⟨rfl, rfl⟩⟩
instance : GoM ByteArray where
  tr := fun _ x cs F => cs = [.str x] ∧ F = []
  dep := 1
  len := fun h => by obtain ⟨rfl, rfl⟩ := h; rfl
  cell := fun h => by obtain ⟨rfl, rfl⟩ := h; rfl
  frame := fun h _ => h
  bound := fun h => by obtain ⟨rfl, rfl⟩ := h; intro b hb; cases hb
  lend := fun h lv k => by obtain ⟨rfl, rfl⟩ := h; exact ⟨[], rfl, fun b hb => hb⟩
  res := fun h _ lo d _ k X _ => by obtain ⟨rfl, rfl⟩ := h; exact ⟨_, X.1, [], [], by rw [List.append_nil]; rfl, fun _ _ => rfl, .nil, fun b hb => (by cases hb), fun _ _ => ⟨rfl, rfl⟩⟩
instance {α : Type} [GoT α] [GoM α] : GoM (List α) where
  tr := fun G xs cs F => (xs = [] ∧ cs = [.tl 0 []] ∧ F = []) ∨ ∃ b cells F', cs = [.sl b 0 xs.length] ∧ G[b]? = some (.cells (GoT.sz α) cells) ∧ trL GoM.tr G xs cells F' ∧ F = b :: F'
  dep := GoM.dep α + 1
  len := fun h => by
    rcases h with ⟨rfl, rfl, rfl⟩ | ⟨b, cells, F', rfl, _⟩ <;> rfl
  cell := fun h => by
    rcases h with ⟨rfl, rfl, rfl⟩ | ⟨b, cells, F', rfl, _⟩ <;> rfl
  frame := fun h hf => by
    rcases h with ⟨rfl, rfl, rfl⟩ | ⟨b, cells, F', rfl, h1, h2, rfl⟩
    · exact .inl ⟨rfl, rfl, rfl⟩
    · exact .inr ⟨b, cells, F', rfl, by rw [hf b (List.mem_cons_self ..)]; exact h1, trL_frame h2 fun c hc => hf c (List.mem_cons_of_mem _ hc), rfl⟩
  bound := fun h => by
    rcases h with ⟨rfl, rfl, rfl⟩ | ⟨b, cells, F', rfl, h1, h2, rfl⟩
    · intro b hb; cases hb
    · intro c hc
      rcases List.mem_cons.1 hc with rfl | hc
      · exact (List.getElem?_eq_some_iff.1 h1).1
      · exact trL_bound h2 c hc
  lend := fun h lv k => by
    rcases h with ⟨rfl, rfl, rfl⟩ | ⟨b, cells, F', rfl, h1, h2, rfl⟩
    · exact ⟨[], rfl, fun b hb => hb⟩
    · obtain ⟨M, e, m⟩ := trL_lend lv k h2
      refine ⟨b :: M, ?_, fun c hc => ?_⟩
      · have hl := trL_len h2
        have e0 : ¬ cells.length < 0 + cells.length := by omega
        have e1 : (List.drop 0 cells).take cells.length = cells := by rw [List.drop_zero]; exact List.take_of_length_le (Nat.le_refl _)
        simp only [lendV.lendL, ← Nat.add_assoc, lendV, h1]
        have e' : lendV.lendL (lendV lv _ (k.add (GoM.dep α))) cells = _ := e
        rw [← hl, if_neg e0, e1, e']
        simp only [Option.map_some, Option.bind_some, List.append_nil]
        rfl
      · rcases List.mem_cons.1 hc with rfl | hc
        · exact List.mem_cons_self ..
        · exact List.mem_cons_of_mem _ (m c hc)
  res := fun {G x cs F} h hn lo d hF k X hX => by
    rcases h with ⟨rfl, rfl, rfl⟩ | ⟨b, cells, F', rfl, h1, h2, rfl⟩
    · exact ⟨[.tl 0 []], X.1, [], [], by rw [List.append_nil, ← Nat.add_assoc]; rfl, fun _ _ => rfl, .nil, fun b hb => (by cases hb), fun _ _ => .inl ⟨rfl, rfl, rfl⟩⟩
    · have hl := trL_len h2
      have hb := hF b (List.mem_cons_self ..)
      rw [List.nodup_cons] at hn
      have hXb : X.1[b]? = some (.cells (GoT.sz α) cells) := by rw [hX b (List.mem_cons_self ..)]; exact h1
      obtain ⟨c', X1, L, E, e1, s1, n1, b1, r1⟩ := trL_res lo d k h2 hn.2 (fun c hc => hF c (List.mem_cons_of_mem _ hc)) (X.1.set b .dead, X.2) fun c hc => by
        simp only [set_get]
        rw [if_neg (by rintro ⟨rfl, _⟩; exact hn.1 hc)]
        exact hX c (List.mem_cons_of_mem _ hc)
      have e0 : ¬ cells.length < 0 + cells.length := by omega
      have e2 : (List.drop 0 cells).take cells.length = cells := by rw [List.drop_zero]; exact List.take_of_length_le (Nat.le_refl _)
      refine ⟨[.sl (lo + (X.2 ++ L).length) 0 x.length], X1, L ++ [.cells (GoT.sz α) c'], (lo + (X.2 ++ L).length) :: E, ?_, fun c hc => ?_, ?_, fun c hc => ?_, fun A hA => .inr ⟨_, c', E, rfl, ?_, ?_, rfl⟩⟩
      · simp only [resV.resL, ← Nat.add_assoc, resV, if_neg (Nat.not_lt.2 hb), hXb]
        have e' : resV.resL (resV true lo d (k.add (GoM.dep α))) (X.1.set b .dead, X.2) cells = _ := e1
        rw [← hl, if_neg e0, e2, e']
        simp only [Option.bind_some, if_true]
        rw [if_pos ⟨trivial, trivial⟩]
        simp only [Option.bind_some, Option.map_some, List.append_assoc]
      · rw [s1 c fun h => hc (List.mem_cons_of_mem _ h)]
        simp only [set_get]
        rw [if_neg (by rintro ⟨rfl, _⟩; exact hc (List.mem_cons_self ..))]
      · rw [List.nodup_cons]
        refine ⟨fun h => ?_, n1⟩
        have := b1 _ h
        rw [List.length_append] at this
        simp only at this
        omega
      · rw [List.length_append, List.length_singleton]
        rcases List.mem_cons.1 hc with rfl | hc
        · rw [List.length_append]; omega
        · have := b1 c hc; simp only at this; omega
      · rw [← List.append_assoc X.2, ← List.append_assoc A, List.getElem?_append_right (by rw [List.length_append, hA]; exact Nat.le_refl _), show lo + (X.2 ++ L).length - (A ++ (X.2 ++ L)).length = 0 by rw [List.length_append (as := A), hA]; omega]; rfl
      · refine trL_frame (r1 A hA) fun c hc => ?_
        rw [← List.append_assoc X.2, ← List.append_assoc A, List.getElem?_append_left]
        rw [List.length_append, List.length_append, hA]
        have := b1 c hc
        simp only at this
        omega
instance {α β : Type} [GoT α] [GoT β] : GoT (α × β) := ⟨GoT.sz α + GoT.sz β, Nat.add_pos_left GoT.pos _, fun l x => GoT.encL l x.1 ++ GoT.encL l x.2, fun x => by rw [List.length_append, GoT.len, GoT.len], fun x h => by rw [cleanL_append, GoT.cleanM _ h, GoT.cleanM _ h]; rfl, fun x => by rw [List.all_append, GoT.cell, GoT.cell]; rfl⟩
theorem lendL_up {lv : Nat} {α : Type} [GoT α] [GoM α] {G : Heap} {x : α} {cs F} (h : GoM.tr G x cs F) {n : Nat} (hn : GoM.dep α ≤ n) (k : Nat) : ∃ M, lendV.lendL (lendV lv G (k + n)) cs = some (GoT.encL lv x, M) ∧ ∀ b ∈ M, b ∈ F := by
  have := GoM.lend h lv (k + (n - GoM.dep α))
  rwa [show k + (n - GoM.dep α) + GoM.dep α = k + n by omega] at this
theorem leaves_up {α : Type} [GoT α] [GoM α] {G : Heap} {x : α} {cs F} (h : GoM.tr G x cs F) (hn : F.Nodup) (lo d : Nat) (hF : ∀ b ∈ F, lo ≤ b) {n : Nat} (hm : GoM.dep α ≤ n) (k : Nat) (X : Heap × List Blk) (hX : ∀ b ∈ F, X.1[b]? = G[b]?) : Leaves (fun G => GoM.tr G x) lo (resV true lo d (k + n)) cs F X := by
  have := GoM.res h hn lo d hF (k + (n - GoM.dep α)) X hX
  rwa [show k + (n - GoM.dep α) + GoM.dep α = k + n by omega] at this
instance {α β : Type} [GoT α] [GoM α] [GoT β] [GoM β] : GoM (α × β) where
  tr := fun G x cs F => ∃ c1 c2 F1 F2, cs = c1 ++ c2 ∧ F = F1 ++ F2 ∧ GoM.tr G x.1 c1 F1 ∧ GoM.tr G x.2 c2 F2
  dep := max (GoM.dep α) (GoM.dep β)
  len := fun h => by obtain ⟨c1, c2, F1, F2, rfl, rfl, h1, h2⟩ := h; rw [List.length_append, GoM.len h1, GoM.len h2]; rfl
  cell := fun h => by obtain ⟨c1, c2, F1, F2, rfl, rfl, h1, h2⟩ := h; rw [List.all_append, GoM.cell h1, GoM.cell h2]; rfl
  frame := fun h hf => by
    obtain ⟨c1, c2, F1, F2, rfl, rfl, h1, h2⟩ := h
    exact ⟨c1, c2, F1, F2, rfl, rfl, GoM.frame h1 fun b hb => hf b (List.mem_append_left _ hb), GoM.frame h2 fun b hb => hf b (List.mem_append_right _ hb)⟩
  bound := fun h b hb => by
    obtain ⟨c1, c2, F1, F2, rfl, rfl, h1, h2⟩ := h
    rcases List.mem_append.1 hb with hb | hb
    · exact GoM.bound h1 b hb
    · exact GoM.bound h2 b hb
  lend := fun h lv k => by
    obtain ⟨c1, c2, F1, F2, rfl, rfl, h1, h2⟩ := h
    obtain ⟨M1, e1, m1⟩ := lendL_up h1 (Nat.le_max_left _ (GoM.dep β)) k
    obtain ⟨M2, e2, m2⟩ := lendL_up h2 (Nat.le_max_right (GoM.dep α) _) k
    refine ⟨M1 ++ M2, lendL_append e1 e2, fun b hb => ?_⟩
    rcases List.mem_append.1 hb with hb | hb
    · exact List.mem_append_left _ (m1 b hb)
    · exact List.mem_append_right _ (m2 b hb)
  res := fun h hn lo d hF k X hX => by
    obtain ⟨c1, c2, F1, F2, rfl, rfl, h1, h2⟩ := h
    obtain ⟨n1, n2, n3⟩ := nodup_app hn
    refine Leaves.pair (fun h => GoM.frame h) (leaves_up h1 n1 lo d (fun b hb => hF b (List.mem_append_left _ hb)) (Nat.le_max_left _ _) k X fun b hb => hX b (List.mem_append_left _ hb)) fun Y hY => ?_
    exact leaves_up h2 n2 lo d (fun b hb => hF b (List.mem_append_right _ hb)) (Nat.le_max_right _ _) k Y fun b hb => by rw [hY b fun h => n3 b h hb]; exact hX b (List.mem_append_right _ hb)
/-- A struct is as its fields are. -/
abbrev GoM.via {α β : Type} [GoT α] [GoT β] [GoM β] (f : α → β) (hz : GoT.sz α = GoT.sz β) (he : ∀ l x, GoT.encL l x = GoT.encL l (f x)) : GoM α where
  tr := fun G x cs F => GoM.tr G (f x) cs F
  dep := GoM.dep β
  len := fun h => by rw [hz]; exact GoM.len h
  cell := fun h => GoM.cell h
  frame := fun h hf => GoM.frame h hf
  bound := fun h => GoM.bound h
  lend := fun h lv k => by rw [he]; exact GoM.lend h lv k
  res := fun h hn lo d hF k X hX => GoM.res h hn lo d hF k X hX

end Go.Proofs.Ytblodpbcinkehaa.K
