/-
  How a run is followed: what must hold ahead of a piece of code for something to hold behind it. No conditions.
-/
import Derived.Test.YtblodpbcinkehaaKn
set_option linter.unusedVariables false
set_option linter.unusedSimpArgs false
namespace Go.Proofs.Ytblodpbcinkehaa.K

/-- What holds behind code. -/
def wpL (c : Cx) (b : Code) (S : St) (Q : X → St → Prop) : Prop := ∃ x S', execL c b S = some (x, S') ∧ Q x S'
/-- The same, where it goes on if it ends normally. -/
def goOn (k : St → Prop) (Q : X → St → Prop) (x : X) (S : St) : Prop := match x with | .normal => k S | x => Q x S
def upd (T : Nat → V) (d : Nat) (v : V) : Nat → V := fun i => if i = d then v else T i
theorem upd_get (T : Nat → V) (d : Nat) (v : V) (i : Nat) : upd T d v i = if i = d then v else T i := rfl

def opsR (c : Cx) (ops : Array Oper) : List (Bool × Bool × Oper) → St → Option St
  | [], S => some S
  | (s, k, o) :: l, S => (gstepK (c.care s k) ops o S).bind fun S' => opsR c ops l S'
def wpR (c : Cx) (ops : Array Oper) (l : List (Bool × Bool × Oper)) (S : St) (Q : St → Prop) : Prop := ∃ S', opsR c ops l S = some S' ∧ Q S'
def wpV (x : Option (V × Heap)) (Q : V → Heap → Prop) : Prop := ∃ v H, x = some (v, H) ∧ Q v H
def wpO {α : Type} (x : Option α) (Q : α → Prop) : Prop := ∃ v, x = some v ∧ Q v
def opV (c : Cx) (op : Op) (S : St) : Option (V × Heap) := opK c ⟨none, op, 0, "", #[], none⟩ S
theorem opK_opV (c : Cx) (o : Oper) (S : St) : opK c o S = opV c o.op S := rfl

theorem wpV_some (v : V) (H : Heap) (Q : V → Heap → Prop) : wpV (some (v, H)) Q = Q v H := by
  apply propext
  constructor
  · rintro ⟨v', H', h, hq⟩
    simp only [Option.some.injEq, Prod.mk.injEq] at h
    obtain ⟨rfl, rfl⟩ := h
    exact hq
  · exact fun h => ⟨v, H, rfl, h⟩
theorem wpV_map {α : Type} (x : Option α) (f : α → V × Heap) (Q : V → Heap → Prop) : wpV (x.map f) Q = wpO x fun a => Q (f a).1 (f a).2 := by
  apply propext
  cases x with
  | none => simp [wpV, wpO]
  | some a => simp only [Option.map_some, wpV, wpO, Option.some.injEq]; constructor
              · rintro ⟨v, H, h, hq⟩; exact ⟨a, rfl, by rw [h]; exact hq⟩
              · rintro ⟨b, rfl, hq⟩; exact ⟨_, _, rfl, hq⟩
theorem wpV_bind {α : Type} (x : Option α) (f : α → Option (V × Heap)) (Q : V → Heap → Prop) : wpV (x.bind f) Q = wpO x fun a => wpV (f a) Q := by
  apply propext
  cases x with
  | none => simp [wpV, wpO]
  | some a => simp [wpO]
theorem wpO_some {α : Type} (a : α) (Q : α → Prop) : wpO (some a) Q = Q a := by
  apply propext
  simp [wpO]
theorem wpO_map {α β : Type} (x : Option α) (f : α → β) (Q : β → Prop) : wpO (x.map f) Q = wpO x fun a => Q (f a) := by
  cases x <;> simp [wpO]
theorem wpO_bind {α β : Type} (x : Option α) (f : α → Option β) (Q : β → Prop) : wpO (x.bind f) Q = wpO x fun a => wpO (f a) Q := by
  cases x <;> simp [wpO]
theorem wpO_none {α : Type} (Q : α → Prop) : wpO none Q = False := by simp [wpO]
theorem wpV_none (Q : V → Heap → Prop) : wpV none Q = False := by simp [wpV]
theorem wpO_ite {α : Type} (p : Prop) [Decidable p] (x y : Option α) (Q : α → Prop) : wpO (if p then x else y) Q = if p then wpO x Q else wpO y Q := by split <;> rfl
theorem wpV_ite (p : Prop) [Decidable p] (x y : Option (V × Heap)) (Q : V → Heap → Prop) : wpV (if p then x else y) Q = if p then wpV x Q else wpV y Q := by split <;> rfl

section
variable {c : Cx} {ops : Array Oper} {S : St} {Q : X → St → Prop}

theorem wp_one {x : X} : (∃ x' S', some (x, S) = some (x', S') ∧ Q x' S') ↔ Q x S := by
  constructor
  · rintro ⟨x', S', h, hq⟩
    simp only [Option.some.injEq, Prod.mk.injEq] at h
    obtain ⟨rfl, rfl⟩ := h
    exact hq
  · exact fun h => ⟨_, _, rfl, h⟩
theorem wpL_skip : wpL c .skip S Q = Q .normal S := by
  apply propext; unfold wpL; rw [execL_skip]; exact wp_one
theorem wpL_exit (id : Nat) : wpL c (.exit id) S Q = Q (.exit id) S := by
  apply propext; unfold wpL; rw [execL_exit]; exact wp_one
theorem wpL_ret : wpL c .ret S Q = Q .ret S := by
  apply propext; unfold wpL; rw [execL_ret]; exact wp_one
theorem wpL_seq (p q : Code) : wpL c (.seq p q) S Q = wpL c p S (goOn (fun S' => wpL c q S' Q) Q) := by
  apply propext
  unfold wpL
  simp only [execL_seq, thenL]
  constructor
  · rintro ⟨x, S', h, hq⟩
    split at h
    · rename_i S1 h1
      exact ⟨.normal, S1, h1, x, S', h, hq⟩
    · rename_i hne
      refine ⟨x, S', h, ?_⟩
      cases x with
      | normal => exact absurd h (hne S')
      | exit i => exact hq
      | ret => exact hq
  · rintro ⟨x, S', h, hq⟩
    rw [h]
    cases x with
    | normal => exact hq
    | exit i => exact ⟨_, _, rfl, hq⟩
    | ret => exact ⟨_, _, rfl, hq⟩
def wpIf (v : V) (A B : Prop) : Prop := match v with | .bool true => A | .bool false => B | _ => False
theorem wpIf_bool (b : Bool) (A B : Prop) : wpIf (.bool b) A B = if b then A else B := by cases b <;> rfl
theorem wpL_cond (y : Operand) (p q : Code) : wpL c (.cond y p q) S Q = wpO (ev S.T y) fun v => wpIf v (wpL c p S Q) (wpL c q S Q) := by
  apply propext
  unfold wpL
  simp only [execL_cond, wpO]
  constructor
  · rintro ⟨x, S', h, hq⟩
    split at h
    · rename_i hy; exact ⟨_, hy, x, S', h, hq⟩
    · rename_i hy; exact ⟨_, hy, x, S', h, hq⟩
    · cases h
  · rintro ⟨v, hv, h⟩
    rw [hv]
    unfold wpIf at h
    split at h
    · exact h
    · exact h
    · exact h.elim
theorem wpL_block (id : Nat) (p : Code) : wpL c (.block id p) S Q = wpL c p S fun x S' => match x with | .exit i => if i = id then Q .normal S' else Q (.exit i) S' | x => Q x S' := by
  apply propext
  unfold wpL
  simp only [execL_block]
  constructor
  · rintro ⟨x, S', h, hq⟩
    split at h
    · rename_i i S1 h1
      refine ⟨_, _, h1, ?_⟩
      split at h <;>
      · rename_i hi
        simp only [Option.some.injEq, Prod.mk.injEq] at h
        obtain ⟨rfl, rfl⟩ := h
        simp only [hi, if_true, if_false]
        exact hq
    · rename_i hne
      refine ⟨x, S', h, ?_⟩
      cases x with
      | normal => exact hq
      | exit i => exact absurd h (hne i S')
      | ret => exact hq
  · rintro ⟨x, S', h, hq⟩
    rw [h]
    cases x with
    | normal => exact ⟨_, _, rfl, hq⟩
    | exit i =>
      simp only [] at hq ⊢
      split at hq
      · rename_i hi; rw [if_pos hi]; exact ⟨_, _, rfl, hq⟩
      · rename_i hi; rw [if_neg hi]; exact ⟨_, _, rfl, hq⟩
    | ret => exact ⟨_, _, rfl, hq⟩
theorem wpL_mono {b : Code} {Q' : X → St → Prop} (h : wpL c b S Q) (hq : ∀ x S, Q x S → Q' x S) : wpL c b S Q' :=
  let ⟨x, S', h1, h2⟩ := h; ⟨x, S', h1, hq _ _ h2⟩
/-- A loop: what holds with k rounds to go at most. -/
theorem wpL_loop {p : Code} (I : Nat → St → Prop) : ∀ (n : Nat) {S : St}, I n S → (∀ k S, k ≤ n → I k S → wpL c p S (goOn (fun S' => ∃ j, j < k ∧ I j S') Q)) → wpL c (.loop p) S Q := by
  intro n
  induction n using Nat.strongRecOn with
  | _ n ih =>
    intro S h0 hstep
    obtain ⟨x, S1, h1, h2⟩ := hstep n S (Nat.le_refl _) h0
    unfold wpL
    rw [execL_loop, h1]
    unfold goOn at h2
    cases x with
    | normal =>
      obtain ⟨j, hj, hI⟩ := h2
      exact ih j hj hI fun k S hk hI => hstep k S (by omega) hI
    | exit i => exact ⟨_, _, rfl, h2⟩
    | ret => exact ⟨_, _, rfl, h2⟩
theorem goOn_normal (k : St → Prop) : goOn k Q .normal S = k S := rfl
theorem goOn_exit (k : St → Prop) (i : Nat) : goOn k Q (.exit i) S = Q (.exit i) S := rfl
theorem goOn_ret (k : St → Prop) : goOn k Q .ret S = Q .ret S := rfl

theorem opsR_of {cf : Nat → Cx} {fl : Nat → Bool × Bool} (hcf : ∀ i, cf i = c.care (fl i).1 (fl i).2) : ∀ (l : List Nat) (l' : List (Bool × Bool × Oper)) (S : St), (l.map fun i => (ops[i]?).map fun o => ((fl i).1, (fl i).2, o)) = l'.map some → opsK cf ops l S = opsR c ops l' S
  | [], l', S, h => by
    cases l' with
    | nil => rfl
    | cons x l' => simp at h
  | i :: l, l', S, h => by
    cases l' with
    | nil => simp at h
    | cons x l' =>
      simp only [List.map_cons, List.cons.injEq] at h
      obtain ⟨h1, h2⟩ := h
      cases ho : ops[i]? with
      | none => rw [ho] at h1; cases h1
      | some o =>
        rw [ho] at h1
        simp only [Option.map_some, Option.some.injEq] at h1
        subst h1
        simp only [opsK, ho, opsR, hcf i]
        congr 1
        funext S'
        exact opsR_of hcf l l' S' h2
def plainL (ops : Array Oper) : List (Bool × Bool × Oper) := ops.toList.map fun o => (false, false, o)
theorem range_get (l : List Oper) : (List.range l.length).map (fun i => l[i]?) = l.map some := by
  apply List.ext_getElem?
  intro i
  simp only [List.getElem?_map]
  by_cases h : i < l.length
  · simp [h]
  · rw [List.getElem?_eq_none (by simp; omega), List.getElem?_eq_none (by omega)]
    rfl
theorem wpL_region (hc : c.still = false ∧ c.calm = false) (id : Nat) (ops : Array Oper) : wpL c (.region id ops false) S Q = wpR c ops (plainL ops) S (Q .normal) := by
  have h1 : opsK (fun _ => c) ops (List.range ops.size) S = opsR c ops (plainL ops) S := by
    refine opsR_of (fl := fun _ => (false, false)) (fun i => ?_) _ _ _ ?_
    · unfold Cx.care
      cases c
      simp only [Cx.mk.injEq, true_and] at hc ⊢
      exact ⟨hc.1, hc.2, trivial⟩
    · have := range_get ops.toList
      unfold plainL
      rw [List.map_map]
      have h2 := congrArg (List.map (Option.map fun o => (false, false, o))) this
      simp only [List.map_map] at h2
      simpa [Function.comp_def] using h2
  apply propext
  unfold wpL wpR
  rw [execL_region, h1]
  constructor
  · rintro ⟨x, S', h, hq⟩
    simp only [Option.map_eq_some_iff, Prod.mk.injEq] at h
    obtain ⟨S1, h1, rfl, rfl⟩ := h
    exact ⟨S1, h1, hq⟩
  · rintro ⟨S', h, hq⟩
    exact ⟨.normal, S', by rw [h]; rfl, hq⟩
/-- The order and the care of a region that draws, as the check finds them. -/
def drawP (ops : Array Oper) (l : List (Nat × Bool)) (ps : List (Nat × Nat)) : Bool := drawOk ops && ordK ops == l.map (·.1) && (l.all fun x => calmAt ops (ancK ops) x.1 == x.2) && lsAll ops (ancK ops) == ps
def drawL (ops : Array Oper) (l : List (Nat × Bool)) : Bool := drawP ops l []
def drawnL (ops : Array Oper) (l : List (Nat × Bool)) : List (Bool × Bool × Oper) := l.filterMap fun x => (ops[x.1]?).map fun o => (true, x.2, o)
/-- A region that draws; 'ps': the loads and stores that no order binds, whose places lie apart. -/
theorem wpL_drawP {id : Nat} (l : List (Nat × Bool)) (ps : List (Nat × Nat)) (h : drawP ops l ps = true) (hq : wpR c ops (drawnL ops l) S fun S' => (ps.all fun p => placesOk c.base (S'.T p.1) (S'.T p.2)) = true ∧ Q .normal S') : wpL c (.region id ops true) S Q := by
  unfold drawP at h
  rw [Bool.and_eq_true, beq_iff_eq] at h
  obtain ⟨h, hps⟩ := h
  simp only [Bool.and_eq_true, beq_iff_eq, List.all_eq_true] at h
  obtain ⟨⟨hok, hord⟩, hcalm⟩ := h
  obtain ⟨S', h1, hpo, h2⟩ := hq
  refine ⟨.normal, S', ?_, h2⟩
  rw [execL_draw, if_pos hok, hord]
  have hlt : ∀ x ∈ l, x.1 < ops.size := by
    intro x hx
    refine (drawOk_spec hok).2.1 x.1 ?_
    rw [hord]
    exact List.mem_map.2 ⟨x, hx, rfl⟩
  have : opsK (drawCx c ops) ops (l.map (·.1)) S = opsR c ops (drawnL ops l) S := by
    refine opsR_of (fl := fun i => (true, calmAt ops (ancK ops) i)) (fun i => rfl) _ _ _ ?_
    clear h1 hord
    unfold drawnL
    induction l with
    | nil => rfl
    | cons x l ih =>
      have hx := hlt x (List.mem_cons_self ..)
      have hcx := hcalm x (List.mem_cons_self ..)
      have ih := ih (fun y hy => hcalm y (List.mem_cons_of_mem _ hy)) (fun y hy => hlt y (List.mem_cons_of_mem _ hy))
      simp only [List.map_cons, List.filterMap_cons, Array.getElem?_eq_getElem hx, Option.map_some, hcx, List.cons.injEq, true_and]
      exact ih
  rw [this, h1, Option.bind_some, if_pos]
  · rfl
  · unfold partOk
    rw [hps]
    exact hpo
theorem wpL_draw {id : Nat} (l : List (Nat × Bool)) (h : drawL ops l = true) (hq : wpR c ops (drawnL ops l) S (Q .normal)) : wpL c (.region id ops true) S Q :=
  wpL_drawP l [] h (by obtain ⟨S', h1, h2⟩ := hq; exact ⟨S', h1, rfl, h2⟩)

theorem wpR_nil (Q : St → Prop) : wpR c ops [] S Q = Q S := by
  apply propext; simp [wpR, opsR]
theorem wpR_some {s k : Bool} {d : Nat} {op : Op} {ty : TypeId} {pos : String} {aft : Array Edge} {l : List (Bool × Bool × Oper)} {Q : St → Prop} :
    wpR c ops ((s, k, ⟨some d, op, ty, pos, aft, none⟩) :: l) S Q = (d < c.ntmps ∧ wpV (opV (c.care s k) op S) fun v H => wpR c ops l ⟨upd S.T d v, H⟩ Q) := by
  apply propext
  unfold wpR wpV
  simp only [opsR, gstepK, wantedK, Option.bind_some, if_true, stepK]
  constructor
  · rintro ⟨S', h, hq⟩
    simp only [Option.bind_eq_some_iff] at h
    obtain ⟨S1, h1, h2⟩ := h
    split at h1
    case isFalse => cases h1
    rename_i hd
    simp only [Option.map_eq_some_iff, Prod.exists] at h1
    obtain ⟨v, H, h3, rfl⟩ := h1
    exact ⟨hd, v, H, h3, S', h2, hq⟩
  · rintro ⟨hd, v, H, h3, S', h2, hq⟩
    refine ⟨S', ?_, hq⟩
    have hd' : d < (c.care s k).ntmps := hd
    rw [if_pos hd', opK_opV, h3]
    exact h2
theorem wpR_none {s k : Bool} {op : Op} {ty : TypeId} {pos : String} {aft : Array Edge} {l : List (Bool × Bool × Oper)} {Q : St → Prop} :
    wpR c ops ((s, k, ⟨none, op, ty, pos, aft, none⟩) :: l) S Q = wpV (opV (c.care s k) op S) fun v H => wpR c ops l ⟨S.T, H⟩ Q := by
  apply propext
  unfold wpR wpV
  simp only [opsR, gstepK, wantedK, Option.bind_some, if_true, stepK]
  constructor
  · rintro ⟨S', h, hq⟩
    simp only [Option.bind_eq_some_iff, Option.map_eq_some_iff, Prod.exists] at h
    obtain ⟨S1, ⟨v, H, h3, rfl⟩, h2⟩ := h
    exact ⟨v, H, h3, S', h2, hq⟩
  · rintro ⟨v, H, h3, S', h2, hq⟩
    refine ⟨S', ?_, hq⟩
    rw [opK_opV, h3]
    exact h2
def guardV (ops : Array Oper) (T : Nat → V) (j : Nat) (w : Bool) : Option Bool :=
  ((ops[j]?).bind (·.dst)).bind fun t => match T t with
    | .bool b => some (b == w)
    | .tup [] => some false
    | _ => none
theorem wpR_guard {s k : Bool} {d : Nat} {op : Op} {ty : TypeId} {pos : String} {aft : Array Edge} {j : Nat} {w : Bool} {l : List (Bool × Bool × Oper)} {Q : St → Prop} :
    wpR c ops ((s, k, ⟨some d, op, ty, pos, aft, some (j, w)⟩) :: l) S Q = (d < c.ntmps ∧ wpO (guardV ops S.T j w) fun b => if b then wpV (opV (c.care s k) op S) fun v H => wpR c ops l ⟨upd S.T d v, H⟩ Q else wpR c ops l ⟨upd S.T d undefV, S.H⟩ Q) := by
  have hw : wantedK ops S.T ⟨some d, op, ty, pos, aft, some (j, w)⟩ = guardV ops S.T j w := by
    unfold wantedK guardV
    simp only []
    cases (ops[j]?).bind (·.dst) <;> rfl
  apply propext
  unfold wpR wpV wpO
  simp only [opsR, gstepK, hw, stepK]
  constructor
  · rintro ⟨S', h, hq⟩
    simp only [Option.bind_eq_some_iff] at h
    obtain ⟨S1, ⟨b, hb, h1⟩, h2⟩ := h
    cases b with
    | true =>
      simp only [if_true] at h1
      split at h1
      case isFalse => cases h1
      rename_i hd
      simp only [Option.map_eq_some_iff, Prod.exists] at h1
      obtain ⟨v, H, h3, rfl⟩ := h1
      exact ⟨hd, true, hb, by rw [if_pos rfl]; exact ⟨v, H, h3, S', h2, hq⟩⟩
    | false =>
      simp only [Bool.false_eq_true, if_false] at h1
      split at h1
      case isFalse => cases h1
      rename_i hd
      simp only [Option.some.injEq] at h1
      subst h1
      exact ⟨hd, false, hb, by rw [if_neg (by simp)]; exact ⟨S', h2, hq⟩⟩
  · rintro ⟨hd, b, hb, h⟩
    have hd' : d < (c.care s k).ntmps := hd
    cases b with
    | true =>
      rw [if_pos rfl] at h
      obtain ⟨v, H, h3, S', h2, hq⟩ := h
      refine ⟨S', ?_, hq⟩
      simp only [hb, Option.bind_some, if_true, if_pos hd', opK_opV, h3]
      exact h2
    | false =>
      rw [if_neg (by simp)] at h
      obtain ⟨S', h2, hq⟩ := h
      refine ⟨S', ?_, hq⟩
      simp only [hb, Option.bind_some, Bool.false_eq_true, if_false, if_pos hd']
      exact h2

theorem opV_move (x : Operand) : opV c (.move x) S = (ev S.T x).map fun v => (v, S.H) := rfl
theorem opV_assign (x : Operand) : opV c (.assign x) S = (ev S.T x).map fun v => (v, S.H) := rfl
def pickV (v : V) (x y : Option V) : Option V := match v with | .bool true => x | .bool false => y | _ => none
theorem pickV_true (x y : Option V) : pickV (.bool true) x y = x := rfl
theorem pickV_false (x y : Option V) : pickV (.bool false) x y = y := rfl
theorem opV_pick (a x y : Operand) : opV c (.pick a x y) S = ((ev S.T a).bind fun v => pickV v (ev S.T x) (ev S.T y)).map fun v => (v, S.H) := by
  unfold opV opK pickV
  simp only []
  cases ev S.T a with
  | none => rfl
  | some v =>
    cases v with
    | bool b => cases b <;> rfl
    | _ => rfl
theorem opV_alloc (t : TypeId) : opV c (.alloc t) S = (szOf c.P t).bind fun sz => (zeroOf c.P t).bind fun z => some (.ptr S.H.length 0, S.H ++ [.cells sz z]) := rfl
theorem opV_box (t : TypeId) (x : Operand) : opV c (.box t x) S = (szOf c.P t).bind fun sz => (ev S.T x).bind fun v => if v.cellsOf.all V.isCell then some (.ptr S.H.length 0, S.H ++ [.cells sz v.cellsOf]) else none := rfl
theorem opV_build (t : TypeId) (ps : Array (Nat × Operand)) : opV c (.build t ps) S = (evP S.T ps.toList).bind fun ps => (zeroOf c.P t).bind fun z => (placesK c.P t).bind fun pl => ((partsK (fun i => pl[i]?) z ps).map .agg).map fun v => (v, S.H) := rfl
theorem opV_load (t : TypeId) (a : Operand) : opV c (.load t a) S = (ev S.T a).bind fun v => (loadK c.P t S.H v).map fun v => (v, S.H) := rfl
theorem opV_store (t : TypeId) (a x : Operand) : opV c (.store t a x) S = (ev S.T a).bind fun p => (ev S.T x).bind fun v => (storeK c t S.H p v).map fun H => (undefV, H) := rfl
def checkP (v : V) : Option V := match v with | .ptr b off => some (.ptr b off) | .lp lv cs off => some (.lp lv cs off) | _ => none
theorem opV_nilCheck (x : Operand) : opV c (.nilCheck x) S = (ev S.T x).bind fun v => (checkP v).map fun v => (v, S.H) := by
  unfold opV opK checkP
  simp only []
  cases ev S.T x with
  | none => rfl
  | some v => cases v <;> rfl
theorem opV_binOp (op : BinOp) (t x y) (t2) : opV c (.binOp op t x y t2) S = (ev S.T x).bind fun a => (ev S.T y).bind fun b => (binK c.P op t a b).map fun v => (v, S.H) := rfl
theorem opV_unOp (op : UnOp) (t x) : opV c (.unOp op t x) S = (ev S.T x).bind fun a => (unK op a).map fun v => (v, S.H) := rfl
theorem opV_makeFunc (f : FuncId) (caps : Array Operand) : opV c (.makeFunc (.func f) #[] caps) S = (evL S.T caps.toList).bind fun vs => some (.fn f vs, S.H) := rfl
def offP (v : V) (off : Nat) : Option V := match v with | .ptr b o => some (.ptr b (o + off)) | .lp lv cs o => some (.lp lv cs (o + off)) | _ => none
theorem opV_fieldAddr (s : TypeId) (x : Operand) (f : Nat) : opV c (.fieldAddr s x f) S = (fieldOff c.P s f).bind fun off => (ev S.T x).bind fun v => (offP v off).map fun v => (v, S.H) := by
  unfold opV opK offP
  simp only []
  cases fieldOff c.P s f with
  | none => rfl
  | some off =>
    simp only [Option.bind_some]
    cases ev S.T x with
    | none => rfl
    | some v => cases v <;> rfl
/-- The type of a field. -/
def fieldT (P : Program) (s : TypeId) (f : Nat) : Option TypeId := match P.underlying s with
  | some (.struct fs) => (fs[f]?).map (·.type)
  | _ => none
def aggCells (v : V) : Option (List V) := match v with | .agg cs => some cs | _ => none
theorem opV_field (s : TypeId) (x : Operand) (f : Nat) : opV c (.field s x f) S = (fieldOff c.P s f).bind fun off => (fieldT c.P s f).bind fun t => (ev S.T x).bind fun v => (aggCells v).bind fun cs => (readCells c.P t cs off).map fun v => (v, S.H) := by
  unfold opV opK fieldT aggCells
  simp only []
  cases fieldOff c.P s f with
  | none => rfl
  | some off =>
    simp only [Option.bind_some]
    cases c.P.underlying s with
    | none => rfl
    | some d =>
      cases d with
      | struct fs =>
        simp only []
        cases fs[f]? with
        | none => rfl
        | some g =>
          simp only [Option.map_some, Option.bind_some]
          cases ev S.T x with
          | none => rfl
          | some v => cases v <;> rfl
      | _ => rfl
def asInt (v : V) : Option Int := match v with | .int _ n => some n | _ => none
def idxP (d sz : Nat) (v : V) (n : Int) : Option V := (lenK v).bind fun len => if 0 ≤ n ∧ n < len then
  match v with
  | .lit lv _ cs => some (.lp lv cs (n.toNat * sz))
  | .tl _ cs => some (.lp 0 cs (n.toNat * sz))
  | .snap _ _ cs => some (.lp d cs (n.toNat * sz))
  | .pre _ _ _ cs => some (.lp d cs (n.toNat * sz))
  | .sl b off _ => some (.ptr b (off + n.toNat * sz))
  | _ => none
  else none
theorem opV_indexAddr (t : TypeId) (x i : Operand) : opV c (.indexAddr t x i) S = (elemT c.P t).bind fun e => (szOf c.P e).bind fun sz => (ev S.T x).bind fun v => (ev S.T i).bind fun w => (asInt w).bind fun n => (idxP c.d sz v n).map fun v => (v, S.H) := by
  unfold opV opK asInt idxP
  simp only []
  cases elemT c.P t with
  | none => rfl
  | some e =>
    simp only [Option.bind_some]
    cases szOf c.P e with
    | none => rfl
    | some sz =>
      simp only [Option.bind_some]
      cases ev S.T x with
      | none => rfl
      | some v =>
        simp only [Option.bind_some]
        cases ev S.T i with
        | none => rfl
        | some w =>
          cases w with
          | int k n =>
            simp only [Option.bind_some]
            cases lenK v with
            | none => rfl
            | some len =>
              simp only [Option.bind_some]
              split
              · cases v <;> rfl
              · rfl
          | _ => rfl
theorem opV_makeSlice (t : TypeId) (n m : Operand) : opV c (.makeSlice t n m) S = (ev S.T n).bind fun a => (ev S.T m).bind fun b => makeK c.P (c.hints.keep c.fn) t S.H a b := rfl
def tupAt (v : V) (i : Nat) : Option V := match v with | .tup vs => vs[i]? | _ => none
theorem opV_extract (x : Operand) (i : Nat) : opV c (.extract x i) S = (ev S.T x).bind fun v => (tupAt v i).map fun v => (v, S.H) := by
  unfold opV opK tupAt
  simp only []
  cases ev S.T x with
  | none => rfl
  | some v => cases v <;> rfl
def fnOf (v : V) : Option (FuncId × List V) := match v with | .fn g caps => some (g, caps) | _ => none
theorem opV_call (f : Operand) (args : Array Operand) (ats : Array TypeId) : opV c (.call ⟨.value f, args, ats⟩) S = (ev S.T f).bind fun fv => (fnOf fv).bind fun g => (evL S.T args.toList).bind fun vs =>
    (lendArgs c (c.hints.modes g.1) S.H (vs ++ g.2)).bind fun r => c.Γ g.1 r.1 r.2.2 (c.lk ++ [c.locksFor g.1 r.2.1 r.2.2]) := by
  unfold opV opK fnOf
  simp only []
  cases ev S.T f with
  | none => rfl
  | some v => cases v <;> rfl
def lenV (v : V) (isStr : Bool) : Option Nat := match v with | .str s => if isStr then some s.size else none | v => if isStr then none else lenK v
def strT (P : Program) (t : TypeId) : Option Bool := match P.underlying t with | some .string => some true | some (.slice _) => some false | _ => none
theorem opV_len (x : Operand) (t : TypeId) : opV c (.call ⟨.builtin .len, #[x], #[t]⟩) S = (strT c.P t).bind fun b => (ev S.T x).bind fun v => (lenV v b).map fun n => (.int .i64 n, S.H) := by
  unfold opV opK strT lenV
  simp only [List.getElem?_toArray, List.getElem?_cons_zero]
  cases c.P.underlying t with
  | none => rfl
  | some d =>
    cases d with
    | string =>
      simp only [Option.bind_some, if_true]
      cases ev S.T x with
      | none => rfl
      | some v => cases v <;> rfl
    | slice e =>
      simp only [Option.bind_some, Bool.false_eq_true, if_false]
      cases ev S.T x with
      | none => rfl
      | some v =>
        simp only [Option.bind_some]
        cases v <;> simp [lenK]
    | _ => rfl
theorem opV_append (a b : Operand) (st xt : TypeId) : opV c (.call ⟨.builtin .append, #[a, b], #[st, xt]⟩) S = (ev S.T a).bind fun x => (ev S.T b).bind fun y => appendK c st xt S.H x y := rfl
theorem ev_tmp (T : Nat → V) (t : Nat) : ev T (.tmp t) = some (T t) := rfl
theorem ev_const (T : Nat → V) (v : Value) : ev T (.const v) = ofValue v := rfl
theorem ev_func (T : Nat → V) (f : FuncId) : ev T (.func f) = some (.fn f []) := rfl

theorem run_of_wp {P : Program} {h : Hints} {k : FuncId} {fn : Func} {body : Code} (hfn : P.funcs[k]? = some fn) (hb : fn.body = some body) {args : List V} {H : Heap} {lk : Lk} {n : Nat} (hn : fn.ntmps = n) (hns : nilShape body = none) (hlen : args.length ≤ n) (hname : (fn.name == "runtime.NumGoroutine") = false) {rs : Array ResultVar} (hrs : fn.results = rs) {r : V × Heap}
    (hr : wpL (cxL P h k n H.length lk) body ⟨argsT args, H⟩ fun x S => (x = .normal ∨ x = .ret) ∧ ((resultsK P S.H S.T rs.toList).bind fun vs => leaveK h k H.length lk.length (oneOf vs) S.H) = some r) : runL P h k args H lk = some r := by
  subst hn hrs
  obtain ⟨x, S, h1, h2, h3⟩ := hr
  refine runL_intro hfn hb hns hlen hname ?_
  rw [h1]
  rcases h2 with rfl | rfl
  · exact h3
  · exact h3
end

end Go.Proofs.Ytblodpbcinkehaa.K
