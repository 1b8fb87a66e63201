/-
  What the canonical values stand for in the model's memory, and what a run may change of it. No conditions.
-/
import Derived.Test.YtblodpbcinkehaaKa
import Derived.RowKit3
import Derived.Laws.Rows
set_option linter.unusedVariables false
set_option linter.unusedSimpArgs false
namespace Go.Proofs.Ytblodpbcinkehaa.K

/-- The cells that a list of level lv must keep clear of, by the locks 'lk': of blocks that are not locked, all; of a builder, those behind what it holds, or (of a deeper call's) all. -/
def Wr (φ : Nat → Nat) (H : Heap) (lk : Lk) (lv g i : Nat) : Prop :=
  ∃ b, φ b = g ∧ unlocked lk b = true ∧ match H[b]? with
    | some (.cells _ _) | some (.mp _) => True
    | some (.bld l n sz) => lv < l ∨ n * sz ≤ i
    | _ => False
/-- The cells that somebody may write, whatever is locked. -/
def Sr (φ : Nat → Nat) (H : Heap) (g i : Nat) : Prop :=
  ∃ b, φ b = g ∧ match H[b]? with
    | some (.cells _ _) | some (.mp _) => True
    | some (.bld _ n sz) => n * sz ≤ i
    | _ => False

/-- World, map of blocks, canonical heap, locks; how many blocks may be named, and from what depth lists may be lent. -/
structure Env where
  w : World
  φ : Nat → Nat
  H : Heap
  lk : Lk
  n : Nat
  m : Nat
  hid : List Nat

/-- 'hid': memory that was made ahead of its turn and has no name yet; no list lies there. -/
def Env.U (E : Env) (lv : Option Nat) (g i : Nat) : Prop :=
  g ∈ E.hid ∨ match lv with
  | some lv => Wr E.φ E.H (E.lk.take lv) lv g i
  | none => Sr E.φ E.H g i
def lvOk (m : Nat) : Option Nat → Prop
  | some lv => lv ≤ m
  | none => True

def notBld (H : Heap) (b : Nat) : Prop := ∀ l n sz, H[b]? ≠ some (.bld l n sz)
def notCells (H : Heap) (b : Nat) : Prop := ∀ sz cs, H[b]? ≠ some (.cells sz cs)

def live : Option Blk → Prop
  | some (.cells _ _) | some (.bld _ _ _) | some (.mp _) => True
  | _ => False
/-- No block lies there whose name is not to be used. -/
def Env.away (E : Env) (g : Nat) : Prop := ∀ b, E.n ≤ b → live E.H[b]? → E.φ b ≠ g

mutual
def RepV (E : Env) : V → Value → Prop
  | .int k n, v => v = .int k n
  | .bool b, v => v = .bool b
  | .str s, v => v = .string s
  | .nilp, v => v = .pointer none
  | .nilfn, v => v = .nilFunc
  | .ptr b off, v => b < E.n ∧ v = .pointer (some ⟨E.φ b, off, none⟩) ∧ notBld E.H b
  | .mref b, v => b < E.n ∧ v = .map (some (E.φ b)) ∧ notBld E.H b
  | .lp lv cs off, v => lv ≤ E.m ∧ ∃ g o, v = .pointer (some ⟨g, o + off, none⟩) ∧ RepL E (some lv) g o cs
  | .lit lv len cs, v => lv ≤ E.m ∧ ∃ A cap, v = .slice A len cap ∧ len ≤ cap ∧ (len = 0 ∨ ∃ g o, A = some ⟨g, o, none⟩ ∧ RepL E (some lv) g o cs)
  | .tl len cs, v => ∃ A, v = .slice A len len ∧ (len = 0 ∨ ∃ g o, A = some ⟨g, o, none⟩ ∧ RepL E (some 0) g o cs)
  | .snap b len cs, v => b < E.n ∧ (∃ A cap, v = .slice A len cap ∧ len ≤ cap ∧ (∃ g o, A = some ⟨g, o, none⟩ ∧ (0 < cs.length → E.away g) ∧ RepL E none g o cs) ∧
      (∀ l n sz, E.H[b]? = some (.bld l n sz) → len ≤ n ∧ (len = n → A = some ⟨E.φ b, 0, none⟩ ∧ ∃ c t, E.w.heap[E.φ b]? = some (.cells c t (0, 0)) ∧ cap * sz = c.size))) ∧ notCells E.H b
  | .pre b m0 len cs, v => b < E.n ∧ (∃ A cap, v = .slice A len cap ∧ len ≤ cap ∧ (∃ g o, A = some ⟨g, o, none⟩ ∧ (0 < cs.length → E.away g) ∧ RepL E none g o cs) ∧
      (∀ l n sz, E.H[b]? = some (.bld l n sz) → m0 ≤ n ∧ (m0 = n → A = some ⟨E.φ b, 0, none⟩ ∧ ∃ c t, E.w.heap[E.φ b]? = some (.cells c t (0, 0))))) ∧ notCells E.H b
  | .sl b off len, v => b < E.n ∧ (∃ cap, v = .slice (some ⟨E.φ b, off, none⟩) len cap ∧ len ≤ cap) ∧ notBld E.H b
  | .agg cs, v => ∃ vs : Array Value, v = .agg vs ∧ RepVs E cs vs.toList
  | .tup cs, v => ∃ vs : Array Value, v = .tuple vs ∧ RepVs E cs vs.toList
  | .fn f cs, v => ∃ vs : Array Value, v = .func (.func f) #[] vs ∧ RepVs E cs vs.toList
/-- A row of cells in memory from (g, o) on, that no write of level lv reaches. -/
def RepL (E : Env) (lv : Option Nat) (g o : Nat) : List V → Prop
  | [] => True
  | c :: cs => (∃ u, E.w.cell? ⟨g, o, none⟩ = some u ∧ RepV E c u) ∧ ¬ E.U lv g o ∧ RepL E lv g (o + 1) cs
def RepVs (E : Env) : List V → List Value → Prop
  | [], vs => vs = []
  | c :: cs, vs => ∃ u us, vs = u :: us ∧ RepV E c u ∧ RepVs E cs us
end

structure RelH (E : Env) : Prop where
  cells : ∀ b sz cs, E.H[b]? = some (.cells sz cs) → ∃ c t, E.w.heap[E.φ b]? = some (.cells c t (0, 0)) ∧ cs.length ≤ c.size ∧ ∀ (i : Nat) v, cs[i]? = some v → ∃ u, c[i]? = some u ∧ RepV E v u
  bld : ∀ (b l n sz : Nat), E.H[b]? = some (Blk.bld l n sz) → ∃ c t, E.w.heap[E.φ b]? = some (.cells c t (0, 0)) ∧ n * sz ≤ c.size
  lvl : ∀ (b l n sz : Nat), E.H[b]? = some (Blk.bld l n sz) → l ≤ E.lk.length
  dm : E.m ≤ E.lk.length
  inj : ∀ b b', live E.H[b]? → live E.H[b']? → E.φ b = E.φ b' → b = b'
  maps : ∀ b kvs, E.H[b]? = some (.mp kvs) → E.w.heap[E.φ b]? = some (.map (esOf kvs) kvs.length) ∧ ∀ x ∈ kvs, isPlain x.1 = true ∧ isPlain x.2 = true
  hid : ∀ g ∈ E.hid, g < E.w.heap.size ∧ ∀ b, live E.H[b]? → E.φ b ≠ g

/-- How the world and the canonical heap go on within a call: what is not to be written stays. -/
structure Evo (E E' : Env) : Prop where
  lk : E'.lk = E.lk
  os : E'.w.os = E.w.os
  tape : E'.w.tape = E.w.tape
  output : E'.w.output = E.w.output
  size : E.w.heap.size ≤ E'.w.heap.size
  len : E.n ≤ E'.n
  mm : E'.m = E.m
  cell : ∀ g i u, E.w.cell? ⟨g, i, none⟩ = some u → ¬ E.U (some E.lk.length) g i → E'.w.cell? ⟨g, i, none⟩ = some u
  block : ∀ g, g < E.w.heap.size → (∀ i, ¬ E.U (some E.lk.length) g i) → E'.w.heap[g]? = E.w.heap[g]?
  mono : ∀ lv g i, lvOk E.lk.length lv → E'.U lv g i → E.U lv g i ∨ E.w.heap.size ≤ g
  phi : ∀ b, b < E.n → notBld E.H b → E'.φ b = E.φ b ∧ notBld E'.H b
  cells : ∀ b, b < E.n → notCells E.H b → notCells E'.H b
  bld : ∀ (b l n' sz' : Nat), b < E.n → E'.H[b]? = some (Blk.bld l n' sz') → ∃ n, E.H[b]? = some (.bld l n sz') ∧ n ≤ n' ∧
    (n = n' → E'.φ b = E.φ b ∧ ∀ c t, E.w.heap[E.φ b]? = some (.cells c t (0, 0)) → ∃ c', E'.w.heap[E.φ b]? = some (.cells c' t (0, 0)) ∧ c'.size = c.size)
  fresh : ∀ b, live E'.H[b]? → (E'.φ b = E.φ b ∧ live E.H[b]?) ∨ E.w.heap.size ≤ E'.φ b
  hid : ∀ g, g ∈ E.hid → g ∈ E'.hid
  hidF : ∀ g, g ∈ E'.hid → g ∈ E.hid ∨ E.w.heap.size ≤ g
  hidW : ∀ g, g ∈ E.hid → g < E.w.heap.size → E'.w.heap[g]? = E.w.heap[g]?

theorem unlocked_take {lk : Lk} {b : Nat} (n : Nat) (h : unlocked lk b = true) : unlocked (lk.take n) b = true := by
  unfold unlocked at *
  rw [List.all_eq_true] at *
  exact fun x hx => h x (List.mem_of_mem_take hx)
theorem unlocked_take_le {lk : Lk} {b n m : Nat} (hnm : n ≤ m) (h : unlocked (lk.take m) b = true) : unlocked (lk.take n) b = true := by
  unfold unlocked at *
  rw [List.all_eq_true] at *
  intro x hx
  refine h x ?_
  rw [show lk.take n = (lk.take m).take n by rw [List.take_take, Nat.min_eq_left hnm]] at hx
  exact List.mem_of_mem_take hx
theorem Env.U_anti {E : Env} {lv lv' g i : Nat} (hl : lv ≤ lv') (h : E.U (some lv') g i) : E.U (some lv) g i := by
  rcases h with h | h
  · exact .inl h
  obtain ⟨b, h1, h2, h3⟩ := h
  refine .inr ⟨b, h1, unlocked_take_le hl h2, ?_⟩
  split at h3
  · trivial
  · trivial
  · rcases h3 with h3 | h3
    · exact .inl (Nat.lt_of_le_of_lt hl h3)
    · exact .inr h3
  · exact h3.elim
theorem RelH.sub {E : Env} (h : RelH E) {lv g i : Nat} (hl : E.lk.length ≤ lv) (hu : E.U (some lv) g i) : E.U none g i := by
  rcases hu with hu | hu
  · exact .inl hu
  obtain ⟨b, h1, h2, h3⟩ := hu
  refine .inr ⟨b, h1, ?_⟩
  split at h3
  · trivial
  · trivial
  · rename_i he
    rcases h3 with h3 | h3
    · have := h.lvl _ _ _ _ he; omega
    · exact h3
  · exact h3.elim

theorem cell_lt {w : World} {a : Addr} {v : Value} (h : w.cell? a = some v) : a.block < w.heap.size := block_lt_of_cell h

theorem Evo.refl (E : Env) : Evo E E where
  lk := rfl
  os := rfl
  tape := rfl
  output := rfl
  size := Nat.le_refl _
  len := Nat.le_refl _
  mm := rfl
  cell := fun _ _ _ h _ => h
  block := fun _ _ _ => rfl
  mono := fun _ _ _ _ h => .inl h
  phi := fun _ _ h => ⟨rfl, h⟩
  cells := fun _ _ h => h
  bld := fun _ _ n _ _ h => ⟨n, h, Nat.le_refl _, fun _ => ⟨rfl, fun c _ hc => ⟨c, hc, rfl⟩⟩⟩
  fresh := fun _ h => .inl ⟨rfl, h⟩
  hid := fun _ h => h
  hidF := fun _ h => .inl h
  hidW := fun _ _ _ => rfl

theorem Evo.trans {A B C : Env} (h : Evo A B) (k : Evo B C) : Evo A C where
  lk := k.lk.trans h.lk
  os := k.os.trans h.os
  tape := k.tape.trans h.tape
  output := k.output.trans h.output
  size := Nat.le_trans h.size k.size
  len := Nat.le_trans h.len k.len
  mm := k.mm.trans h.mm
  cell := by
    intro g i u hc hu
    refine k.cell g i u (h.cell g i u hc hu) ?_
    rw [h.lk]
    intro hB
    rcases h.mono (some _) _ _ (Nat.le_refl _) hB with h' | h'
    · exact hu h'
    · exact absurd (cell_lt hc) (Nat.not_lt.2 h')
  block := by
    intro g hg hu
    rw [k.block g (Nat.lt_of_lt_of_le hg h.size), h.block g hg hu]
    intro i
    rw [h.lk]
    intro hB
    rcases h.mono (some _) _ _ (Nat.le_refl _) hB with h' | h'
    · exact hu i h'
    · exact absurd hg (Nat.not_lt.2 h')
  mono := by
    intro lv g i hl hC
    rcases k.mono _ _ _ (by rw [h.lk]; exact hl) hC with h' | h'
    · exact h.mono _ _ _ hl h'
    · exact .inr (Nat.le_trans h.size h')
  phi := by
    intro b hb hn
    obtain ⟨h1, h2⟩ := h.phi b hb hn
    obtain ⟨k1, k2⟩ := k.phi b (Nat.lt_of_lt_of_le hb h.len) h2
    exact ⟨k1.trans h1, k2⟩
  cells := fun b hb hn => k.cells b (Nat.lt_of_lt_of_le hb h.len) (h.cells b hb hn)
  bld := by
    intro b l n' sz' hb hC
    obtain ⟨m, hm, hle, hk⟩ := k.bld b l n' sz' (Nat.lt_of_lt_of_le hb h.len) hC
    obtain ⟨n, hn, hle', hk'⟩ := h.bld b l m sz' hb hm
    refine ⟨n, hn, Nat.le_trans hle' hle, fun e => ?_⟩
    have e1 : n = m := by omega
    have e2 : m = n' := by omega
    obtain ⟨p1, p2⟩ := hk' e1
    obtain ⟨q1, q2⟩ := hk e2
    refine ⟨q1.trans p1, fun c t hc => ?_⟩
    obtain ⟨c1, hc1, hs1⟩ := p2 c t hc
    rw [p1] at q2
    obtain ⟨c2, hc2, hs2⟩ := q2 c1 t hc1
    exact ⟨c2, hc2, hs2.trans hs1⟩
  fresh := by
    intro b hC
    rcases k.fresh b hC with ⟨h1, h2⟩ | h1
    · rcases h.fresh b h2 with ⟨h3, h4⟩ | h3
      · exact .inl ⟨h1.trans h3, h4⟩
      · rw [← h1] at h3; exact .inr h3
    · exact .inr (Nat.le_trans h.size h1)
  hid := fun g hg => k.hid g (h.hid g hg)
  hidF := by
    intro g hg
    rcases k.hidF g hg with h1 | h1
    · exact h.hidF g h1
    · exact .inr (Nat.le_trans h.size h1)
  hidW := fun g hg hl => (k.hidW g (h.hid g hg) (Nat.lt_of_lt_of_le hl h.size)).trans (h.hidW g hg hl)

/-- What is enough for every value to stand for what it stood for. -/
structure Keeps (E E' : Env) : Prop where
  len : E.n ≤ E'.n
  lvl : E.m ≤ E'.m
  cell : ∀ lv g i u, lvOk E.m lv → (lv = none → E.away g) → E.w.cell? ⟨g, i, none⟩ = some u → ¬ E.U lv g i → E'.w.cell? ⟨g, i, none⟩ = some u ∧ ¬ E'.U lv g i
  phi : ∀ b, b < E.n → notBld E.H b → E'.φ b = E.φ b ∧ notBld E'.H b
  cells : ∀ b, b < E.n → notCells E.H b → notCells E'.H b
  bld : ∀ (b l n' sz' : Nat), b < E.n → E'.H[b]? = some (Blk.bld l n' sz') → ∃ l0 n, E.H[b]? = some (.bld l0 n sz') ∧ n ≤ n' ∧
    (n = n' → E'.φ b = E.φ b ∧ ∀ c t, E.w.heap[E.φ b]? = some (.cells c t (0, 0)) → ∃ c', E'.w.heap[E.φ b]? = some (.cells c' t (0, 0)) ∧ c'.size = c.size)
  fresh : ∀ b g i u, E.w.cell? ⟨g, i, none⟩ = some u → ¬ E.U none g i → E'.n ≤ b → live E'.H[b]? → E'.φ b = g → ∃ b', E.n ≤ b' ∧ live E.H[b']? ∧ E.φ b' = g

theorem lvOk.up {m m' : Nat} {lv : Option Nat} (h : lvOk m lv) (hm : m ≤ m') : lvOk m' lv := by
  cases lv with
  | none => trivial
  | some l => exact Nat.le_trans h hm

theorem Evo.keeps {E E' : Env} (h : Evo E E') (hh : RelH E) : Keeps E E' where
  len := h.len
  lvl := by rw [h.mm]; exact Nat.le_refl _
  phi := h.phi
  cells := h.cells
  bld := fun b l n' sz' hb hB => let ⟨n, h1, h2, h3⟩ := h.bld b l n' sz' hb hB; ⟨l, n, h1, h2, h3⟩
  cell := by
    intro lv g i u hlv _ h1 h3
    refine ⟨h.cell g i u h1 (fun hu => h3 ?_), fun hu => ?_⟩
    · cases lv with
      | none => exact hh.sub (Nat.le_refl _) hu
      | some lv => exact Env.U_anti (Nat.le_trans hlv hh.dm) hu
    · rcases h.mono _ _ _ (hlv.up hh.dm) hu with h' | h'
      · exact h3 h'
      · exact absurd (cell_lt h1) (Nat.not_lt.2 h')
  fresh := by
    intro b g i u h1 _ hb hl he
    rcases h.fresh b hl with ⟨h2, h3⟩ | h2
    · exact ⟨b, Nat.le_trans h.len hb, h3, by rw [← h2]; exact he⟩
    · exact absurd (cell_lt h1) (Nat.not_lt.2 (by rw [← he]; exact h2))

theorem Keeps.locks (E : Env) (L : List Nat) (hd : E.m ≤ E.lk.length) : Keeps E { E with lk := E.lk ++ [L], m := E.m + 1 } where
  len := Nat.le_refl _
  lvl := Nat.le_succ _
  phi := fun _ _ h => ⟨rfl, h⟩
  cells := fun _ _ h => h
  bld := fun _ l n _ _ h => ⟨l, n, h, Nat.le_refl _, fun _ => ⟨rfl, fun c _ hc => ⟨c, hc, rfl⟩⟩⟩
  cell := by
    intro lv g i u hlv _ h1 h3
    refine ⟨h1, fun hu => h3 ?_⟩
    cases lv with
    | none => exact hu
    | some lv =>
      have hle : lv ≤ E.lk.length := Nat.le_trans hlv hd
      rcases hu with hu | hu
      · exact .inl hu
      obtain ⟨b, p1, p2, p3⟩ := hu
      refine .inr ⟨b, p1, ?_, p3⟩
      have : (E.lk ++ [L]).take lv = E.lk.take lv := List.take_append_of_le_length hle
      rw [← this]
      exact p2
  fresh := fun b _ _ _ _ _ hb hl he => ⟨b, hb, hl, he⟩

theorem Keeps.away {E E' : Env} (h : Keeps E E') {g i : Nat} {u : Value} (hc : E.w.cell? ⟨g, i, none⟩ = some u) (hu : ¬ E.U none g i) (ha : E.away g) : E'.away g := by
  intro b hb hl he
  obtain ⟨b', h1, h2, h3⟩ := h.fresh b g i u hc hu hb hl he
  exact ha b' h1 h2 h3

theorem RepL.first {E : Env} {lv : Option Nat} {g o : Nat} {cs : List V} (h : RepL E lv g o cs) (hl : 0 < cs.length) : ∃ u, E.w.cell? ⟨g, o, none⟩ = some u ∧ ¬ E.U lv g o := by
  cases cs with
  | nil => simp at hl
  | cons c cs =>
    simp only [RepL] at h
    obtain ⟨⟨u, h1, _⟩, h2, _⟩ := h
    exact ⟨u, h1, h2⟩

mutual
theorem Keeps.rep {E E' : Env} (h : Keeps E E') : ∀ (v : V) (u : Value), RepV E v u → RepV E' v u
  | .int .., _, r => by simpa only [RepV] using r
  | .bool _, _, r => by simpa only [RepV] using r
  | .str _, _, r => by simpa only [RepV] using r
  | .nilp, _, r => by simpa only [RepV] using r
  | .nilfn, _, r => by simpa only [RepV] using r
  | .ptr b off, _, r => by
    simp only [RepV] at r ⊢
    obtain ⟨h1, h2, h3⟩ := r
    obtain ⟨p1, p2⟩ := h.phi b h1 h3
    exact ⟨Nat.lt_of_lt_of_le h1 h.len, by rw [p1]; exact h2, p2⟩
  | .mref b, _, r => by
    simp only [RepV] at r ⊢
    obtain ⟨h1, h2, h3⟩ := r
    obtain ⟨p1, p2⟩ := h.phi b h1 h3
    exact ⟨Nat.lt_of_lt_of_le h1 h.len, by rw [p1]; exact h2, p2⟩
  | .lp lv cs off, _, r => by
    simp only [RepV] at r ⊢
    obtain ⟨hl, g, o, h1, h2⟩ := r
    exact ⟨Nat.le_trans hl h.lvl, g, o, h1, h.repL (some lv) g hl o cs (fun e => by cases e) h2⟩
  | .lit lv len cs, _, r => by
    simp only [RepV] at r ⊢
    obtain ⟨hl, A, cap, h1, h2, h3⟩ := r
    refine ⟨Nat.le_trans hl h.lvl, A, cap, h1, h2, ?_⟩
    rcases h3 with h3 | ⟨g, o, h3, h4⟩
    · exact .inl h3
    · exact .inr ⟨g, o, h3, h.repL (some lv) g hl o cs (fun e => by cases e) h4⟩
  | .tl len cs, _, r => by
    simp only [RepV] at r ⊢
    obtain ⟨A, h1, h3⟩ := r
    refine ⟨A, h1, ?_⟩
    rcases h3 with h3 | ⟨g, o, h3, h4⟩
    · exact .inl h3
    · exact .inr ⟨g, o, h3, h.repL (some 0) g (Nat.zero_le _) o cs (fun e => by cases e) h4⟩
  | .snap b len cs, _, r => by
    simp only [RepV] at r ⊢
    obtain ⟨hb, ⟨A, cap, h1, h2, ⟨g, o, h3, ha, h4⟩, h5⟩, h6⟩ := r
    refine ⟨Nat.lt_of_lt_of_le hb h.len, ⟨A, cap, h1, h2, ⟨g, o, h3, fun hl => (h4.first hl).elim fun u hu => h.away hu.1 hu.2 (ha hl), h.repL none g trivial o cs (fun _ => ha) h4⟩, fun l n sz hn => ?_⟩, h.cells b hb h6⟩
    obtain ⟨l0, m, hm, hle, hk⟩ := h.bld b l n sz hb hn
    obtain ⟨q1, q2⟩ := h5 l0 m sz hm
    refine ⟨Nat.le_trans q1 hle, fun e => ?_⟩
    obtain ⟨p1, p2⟩ := hk (by omega)
    obtain ⟨q3, c, t, q4, q5⟩ := q2 (by omega)
    obtain ⟨c', hc', hs⟩ := p2 c t q4
    exact ⟨by rw [p1]; exact q3, c', t, by rw [p1]; exact hc', by rw [hs]; exact q5⟩
  | .pre b m0 len cs, _, r => by
    simp only [RepV] at r ⊢
    obtain ⟨hb, ⟨A, cap, h1, h2, ⟨g, o, h3, ha, h4⟩, h5⟩, h6⟩ := r
    refine ⟨Nat.lt_of_lt_of_le hb h.len, ⟨A, cap, h1, h2, ⟨g, o, h3, fun hl => (h4.first hl).elim fun u hu => h.away hu.1 hu.2 (ha hl), h.repL none g trivial o cs (fun _ => ha) h4⟩, fun l n sz hn => ?_⟩, h.cells b hb h6⟩
    obtain ⟨l0, m, hm, hle, hk⟩ := h.bld b l n sz hb hn
    obtain ⟨q1, q2⟩ := h5 l0 m sz hm
    refine ⟨Nat.le_trans q1 hle, fun e => ?_⟩
    obtain ⟨p1, p2⟩ := hk (by omega)
    obtain ⟨q3, c, t, q4⟩ := q2 (by omega)
    obtain ⟨c', hc', hs⟩ := p2 c t q4
    exact ⟨by rw [p1]; exact q3, c', t, by rw [p1]; exact hc'⟩
  | .sl b off len, _, r => by
    simp only [RepV] at r ⊢
    obtain ⟨h1, h2, h3⟩ := r
    obtain ⟨p1, p2⟩ := h.phi b h1 h3
    exact ⟨Nat.lt_of_lt_of_le h1 h.len, by rw [p1]; exact h2, p2⟩
  | .agg cs, _, r => by
    simp only [RepV] at r ⊢
    obtain ⟨vs, h1, h2⟩ := r
    exact ⟨vs, h1, h.repVs cs _ h2⟩
  | .tup cs, _, r => by
    simp only [RepV] at r ⊢
    obtain ⟨vs, h1, h2⟩ := r
    exact ⟨vs, h1, h.repVs cs _ h2⟩
  | .fn f cs, _, r => by
    simp only [RepV] at r ⊢
    obtain ⟨vs, h1, h2⟩ := r
    exact ⟨vs, h1, h.repVs cs _ h2⟩
theorem Keeps.repL {E E' : Env} (h : Keeps E E') (lv : Option Nat) (g : Nat) (hlv : lvOk E.m lv) : ∀ (o : Nat) (cs : List V), (lv = none → 0 < cs.length → E.away g) → RepL E lv g o cs → RepL E' lv g o cs
  | _, [], _, _ => by simp only [RepL]
  | o, c :: cs, ha, r => by
    simp only [RepL] at r ⊢
    obtain ⟨⟨u, h1, h2⟩, h3, h4⟩ := r
    obtain ⟨k1, k2⟩ := h.cell lv g o u hlv (fun e => ha e (by simp)) h1 h3
    exact ⟨⟨u, k1, h.rep c u h2⟩, k2, h.repL lv g hlv (o + 1) cs (fun e _ => ha e (by simp)) h4⟩
theorem Keeps.repVs {E E' : Env} (h : Keeps E E') : ∀ (cs : List V) (vs : List Value), RepVs E cs vs → RepVs E' cs vs
  | [], _, r => by simpa only [RepVs] using r
  | c :: cs, _, r => by
    simp only [RepVs] at r ⊢
    obtain ⟨u, us, h1, h2, h3⟩ := r
    exact ⟨u, us, h1, h.rep c u h2, h.repVs cs us h3⟩
end

/-- The same, seen with fewer names and fewer depths. -/
def Env.shrink (E : Env) (n m : Nat) : Env := { E with n := n, m := m }
theorem Keeps.grow (E : Env) {n m : Nat} (hn : n ≤ E.n) (hm : m ≤ E.m) : Keeps (E.shrink n m) E where
  len := hn
  lvl := hm
  phi := fun _ _ h => ⟨rfl, h⟩
  cells := fun _ _ h => h
  bld := fun _ l k _ _ h => ⟨l, k, h, Nat.le_refl _, fun _ => ⟨rfl, fun c _ hc => ⟨c, hc, rfl⟩⟩⟩
  cell := fun _ _ _ _ _ _ h k => ⟨h, k⟩
  fresh := fun b _ _ _ _ _ hb hl he => ⟨b, Nat.le_trans hn hb, hl, he⟩
theorem Evo.shrink {E E' : Env} (h0 : Evo E E') (hh : RelH E) {n m : Nat} (hn : n ≤ E.n) (hm : m ≤ E.m) : Keeps (E.shrink n m) (E'.shrink n m) where
  len := Nat.le_refl _
  lvl := Nat.le_refl _
  phi := fun b hb => h0.phi b (Nat.lt_of_lt_of_le hb hn)
  cells := fun b hb => h0.cells b (Nat.lt_of_lt_of_le hb hn)
  bld := fun b l n' sz' hb => (h0.keeps hh).bld b l n' sz' (Nat.lt_of_lt_of_le hb hn)
  cell := fun lv g i u hlv _ h1 h3 => by
    have hl : lvOk E.m lv := lvOk.up hlv hm
    refine ⟨h0.cell g i u h1 (fun hu => h3 ?_), fun hu => ?_⟩
    · cases lv with
      | none => exact hh.sub (Nat.le_refl _) hu
      | some lv => exact Env.U_anti (E := E) (Nat.le_trans hl hh.dm) hu
    · rcases h0.mono _ _ _ (hl.up hh.dm) hu with h' | h'
      · exact h3 h'
      · exact absurd (cell_lt h1) (Nat.not_lt.2 h')
  fresh := by
    intro b g i u h1 _ hb hl he
    rcases h0.fresh b hl with ⟨h2, h3⟩ | h2
    · exact ⟨b, hb, h3, by show E.φ b = g; rw [← h2]; exact he⟩
    · exact absurd (cell_lt h1) (Nat.not_lt.2 (by rw [← he]; exact h2))

theorem Evo.rep {E E' : Env} (h : Evo E E') (hh : RelH E) (v : V) (u : Value) (r : RepV E v u) : RepV E' v u := (h.keeps hh).rep v u r
theorem Evo.repVs {E E' : Env} (h : Evo E E') (hh : RelH E) (cs : List V) (vs : List Value) (r : RepVs E cs vs) : RepVs E' cs vs := (h.keeps hh).repVs cs vs r

end Go.Proofs.Ytblodpbcinkehaa.K
