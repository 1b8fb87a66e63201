/-
  Each operation that only computes or reads gives in the model what it gives in the interpreter. No conditions.
-/
import Derived.Test.YtblodpbcinkehaaKb
import Derived.Laws.StructEq
import Derived.Laws.Append
import Derived.Laws.CopyRow
import Derived.Laws.Cells
import Derived.WideLaws
import Derived.Lib.MinMax
set_option linter.unusedVariables false
set_option linter.unusedSimpArgs false
namespace Go.Proofs.Ytblodpbcinkehaa.K

theorem rep_ofCell (E : Env) (x : Value) (v : V) (h : ofCell x = some v) : RepV E v x := by
  cases x with
  | int k n => simp only [ofCell, Option.some.injEq] at h; subst h; simp only [RepV]
  | bool b => simp only [ofCell, Option.some.injEq] at h; subst h; simp only [RepV]
  | string s => simp only [ofCell, Option.some.injEq] at h; subst h; simp only [RepV]
  | pointer p => cases p with
    | none => simp only [ofCell, Option.some.injEq] at h; subst h; simp only [RepV]
    | some a => simp [ofCell] at h
  | slice p n m =>
    simp only [ofCell] at h
    split at h <;> simp_all
    subst h
    simp only [RepV]
    exact ⟨none, rfl, .inl trivial⟩
  | nilFunc => simp only [ofCell, Option.some.injEq] at h; subst h; simp only [RepV]
  | _ => simp [ofCell] at h

theorem rep_ofCells (E : Env) : ∀ (xs : List Value) (vs : List V), ofCells xs = some vs → RepVs E vs xs
  | [], vs, h => by simp only [ofCells, Option.some.injEq] at h; subst h; simp only [RepVs]
  | x :: xs, vs, h => by
    simp only [ofCells, Option.bind_eq_some_iff, Option.map_eq_some_iff] at h
    obtain ⟨v, hv, ws, hw, rfl⟩ := h
    simp only [RepVs]
    exact ⟨x, xs, rfl, rep_ofCell E x v hv, rep_ofCells E xs ws hw⟩

theorem rep_ofValue (E : Env) (x : Value) (v : V) (h : ofValue x = some v) : RepV E v x := by
  cases x with
  | agg cs =>
    simp only [ofValue, Option.map_eq_some_iff] at h
    obtain ⟨vs, hv, rfl⟩ := h
    simp only [RepV]
    exact ⟨cs, rfl, rep_ofCells E _ _ hv⟩
  | _ => exact rep_ofCell E _ v (by simpa only [ofValue] using h)

structure Sim (c : Cx) (E : Env) (S : St) (a : Act) : Prop where
  H : E.H = S.H
  lk : E.lk = c.lk
  n : E.n = S.H.length
  m : E.m = c.lk.length
  tmps : ∀ i, RepV E (S.T i) (a.tmps.getD i undef)
  size : a.tmps.size = c.ntmps
  heap : RelH E
  base : c.base ≤ S.H.length
  locks : ∀ l ∈ c.lk, ∀ x ∈ l, x < c.base
  deep : 0 < c.lk.length

theorem rep_ev {c : Cx} {E : Env} {S : St} {a : Act} (hs : Sim c E S a) (x : Operand) (v : V) (h : ev S.T x = some v) : RepV E v (a.eval x) := by
  cases x with
  | tmp t => simp only [ev, Option.some.injEq] at h; subst h; exact hs.tmps t
  | const c => exact rep_ofValue E c v h
  | global g => simp [ev] at h
  | func f =>
    simp only [ev, Option.some.injEq] at h; subst h
    simp only [RepV, Act.eval]
    exact ⟨#[], rfl, by simp only [RepVs]⟩

theorem rep_evL {c : Cx} {E : Env} {S : St} {a : Act} (hs : Sim c E S a) : ∀ (xs : List Operand) (vs : List V), evL S.T xs = some vs → RepVs E vs (xs.map a.eval)
  | [], vs, h => by simp only [evL, Option.some.injEq] at h; subst h; simp only [RepVs, List.map_nil]
  | x :: xs, vs, h => by
    simp only [evL, Option.bind_eq_some_iff, Option.map_eq_some_iff] at h
    obtain ⟨v, hv, ws, hw, rfl⟩ := h
    simp only [RepVs, List.map_cons]
    exact ⟨_, _, rfl, rep_ev hs x v hv, rep_evL hs xs ws hw⟩

/-- An operation that gives a value and leaves the world alone. -/
def Gives (c : Cx) (E : Env) (a : Act) (o : Oper) (v : V) : Prop :=
  ∃ u, (execOp a.eval o).run c.P E.w = .ok (.value u) E.w ∧ RepV E v u

section
variable {c : Cx} {E : Env} {S : St} {a : Act} {o : Oper}

theorem gives_move (hs : Sim c E S a) {x : Operand} {v : V} (ho : o.op = .move x) (h : ev S.T x = some v) : Gives c E a o v :=
  ⟨a.eval x, by simp [execOp, ho], rep_ev hs x v h⟩
theorem gives_assign (hs : Sim c E S a) {x : Operand} {v : V} (ho : o.op = .assign x) (h : ev S.T x = some v) : Gives c E a o v :=
  ⟨a.eval x, by simp [execOp, ho], rep_ev hs x v h⟩
theorem gives_pick (hs : Sim c E S a) {k x y : Operand} {b : Bool} {v : V} (ho : o.op = .pick k x y) (hk : ev S.T k = some (.bool b)) (h : ev S.T (if b then x else y) = some v) : Gives c E a o v := by
  have hb := rep_ev hs k _ hk
  simp only [RepV] at hb
  refine ⟨_, ?_, rep_ev hs _ v h⟩
  simp only [execOp, ho, hb, asBool]
  cases b <;> simp
theorem gives_nilCheck_ptr (hs : Sim c E S a) {x : Operand} {b off : Nat} (ho : o.op = .nilCheck x) (h : ev S.T x = some (.ptr b off)) : Gives c E a o (.ptr b off) := by
  have hr := rep_ev hs x _ h
  have hr' := hr
  simp only [RepV] at hr'
  refine ⟨a.eval x, ?_, hr⟩
  simp [execOp, ho, hr'.2.1]
theorem gives_nilCheck_lp (hs : Sim c E S a) {x : Operand} {lv off : Nat} {cs : List V} (ho : o.op = .nilCheck x) (h : ev S.T x = some (.lp lv cs off)) : Gives c E a o (.lp lv cs off) := by
  have hr := rep_ev hs x _ h
  have hr' := hr
  simp only [RepV] at hr'
  obtain ⟨_, g, o', h1, _⟩ := hr'
  refine ⟨a.eval x, ?_, hr⟩
  simp [execOp, ho, h1]

theorem gives_unOp (hs : Sim c E S a) {op : UnOp} {t : TypeId} {x : Operand} {u v : V} (ho : o.op = .unOp op t x) (hx : ev S.T x = some u) (h : unK op u = some v) : Gives c E a o v := by
  have hr := rep_ev hs x _ hx
  unfold unK at h
  split at h <;> simp only [Option.some.injEq, reduceCtorEq] at h
  · subst h
    simp only [RepV] at hr
    exact ⟨_, by simp only [execOp, ho, hr, Op.unary, Sem.run_bind, Sem.run_pure, Result.andThen_ok]; rfl, by simp only [RepV]⟩
  · subst h
    simp only [RepV] at hr
    exact ⟨_, by simp only [execOp, ho, hr, Op.unary, Op.intArith, Sem.run_bind, Sem.run_pure, Result.andThen_ok]; rfl, by simp only [RepV]⟩

theorem intOp_run {P : Program} {w : World} {op : BinOp} {t : TypeId} {k : IntKind} {a b : Int} {v : V} (h : intOp op k a b = some v) :
    ∃ u, (binOp op t (.int k a) (.int k b)).run P w = .ok u w ∧ ∀ E, RepV E v u := by
  unfold intOp at h
  split at h
  case h_6 => simp only [Option.some.injEq] at h; subst h; exact ⟨_, by simp only [binOp_xor, Op.intBits, Sem.run_pure]; rfl, fun E => by simp only [RepV]⟩
  case h_4 =>
    split at h <;> simp only [Option.some.injEq, reduceCtorEq] at h
    rename_i hb
    subst h; exact ⟨_, by simp only [binOp_quo, Op.intDiv, hb, if_false, Sem.run_pure]; rfl, fun E => by simp only [RepV]⟩
  case h_5 =>
    split at h <;> simp only [Option.some.injEq, reduceCtorEq] at h
    rename_i hb
    subst h; exact ⟨_, by simp only [binOp_rem, Op.intDiv, hb, if_false, Sem.run_pure]; rfl, fun E => by simp only [RepV]⟩
  all_goals (try simp only [Option.some.injEq, reduceCtorEq] at h)
  all_goals (subst h; exact ⟨_, by simp only [binOp_add, binOp_sub, binOp_mul, binOp_eql, binOp_neq, binOp_lss, binOp_leq, binOp_gtr, binOp_geq, Op.intArith, Sem.run_pure]; rfl, fun E => by simp only [RepV]⟩)


theorem run_boolEq {P : Program} {w : World} {t : TypeId} (a b : Bool) (ht : P.underlying t = some .bool) : (binOp .eql t (.bool a) (.bool b)).run P w = .ok (.bool (a == b)) w := by
  simp only [binOp, Op.equal, Op.maxDepth, Sem.run_bind, run_equalIn_bool' w 9999 t a b ht, Result.andThen_ok, Sem.run_pure]
theorem run_boolNeq {P : Program} {w : World} {t : TypeId} (a b : Bool) (ht : P.underlying t = some .bool) : (binOp .neq t (.bool a) (.bool b)).run P w = .ok (.bool (!(a == b))) w := by
  simp only [binOp, Op.equal, Op.maxDepth, Sem.run_bind, run_equalIn_bool' w 9999 t a b ht, Result.andThen_ok, Sem.run_pure]

theorem repVs_get {E : Env} : ∀ (xs : List V) (us : List Value), RepVs E xs us → xs.length = us.length ∧ ∀ (i : Nat) v, xs[i]? = some v → ∃ u, us[i]? = some u ∧ RepV E v u
  | [], us, h => by simp only [RepVs] at h; subst h; exact ⟨rfl, fun i v h => by simp at h⟩
  | x :: xs, us, h => by
    simp only [RepVs] at h
    obtain ⟨u, us', rfl, h1, h2⟩ := h
    obtain ⟨hl, hg⟩ := repVs_get xs us' h2
    refine ⟨by simp [hl], fun i v hi => ?_⟩
    cases i with
    | zero => simp only [List.getElem?_cons_zero, Option.some.injEq] at hi; subst hi; exact ⟨u, rfl, h1⟩
    | succ i => simpa using hg i v (by simpa using hi)

theorem run_isAgg_no {P : Program} {w : World} {t : TypeId} (h : aggT P t = some false) : (isAgg t).run P w = .ok false w := by
  unfold aggT at h
  unfold isAgg
  split at h
  · simp at h
  · simp at h
  · rename_i d h1 h2 hd
    simp only [Sem.run_bind, run_underlying hd, Result.andThen_ok]
    cases d <;> first | (exact absurd rfl (h1 _)) | (exact absurd rfl (h2 _ _)) | simp only [Sem.run_pure]
  · simp at h
theorem run_isAgg_yes {P : Program} {w : World} {t : TypeId} (h : aggT P t = some true) : (isAgg t).run P w = .ok true w := by
  unfold aggT at h
  unfold isAgg
  split at h
  · rename_i d hd; simp only [Sem.run_bind, run_underlying hd, Result.andThen_ok, Sem.run_pure]
  · rename_i hd; simp only [Sem.run_bind, run_underlying hd, Result.andThen_ok, Sem.run_pure]
  · simp at h
  · simp at h
theorem run_sizeOf' {P : Program} {w : World} {t : TypeId} {n : Nat} (h : szOf P t = some n) : (sizeOf t).run P w = .ok n w := by
  unfold szOf at h
  simp only [Option.map_eq_some_iff] at h
  obtain ⟨i, hi, rfl⟩ := h
  simp [sizeOf, typeInfo, hi]
theorem aggT_scalar {P : Program} {t : TypeId} {k : Sc} (h : scalarT P t = some k) : aggT P t = some false := by
  unfold scalarT at h
  unfold aggT
  split at h <;> simp_all

theorem run_eqCell {P : Program} {w : World} {E : Env} {t : TypeId} {k : Sc} (hk : scalarT P t = some k) (x y : V) (u v : Value) (hx : RepV E x u) (hy : RepV E y v) (b : Bool) (h : eqCell k x y = some b) (d : Nat) :
    (Op.equalIn (d + 1) t u v).run P w = .ok b w := by
  unfold eqCell at h
  unfold scalarT at hk
  split at h
  · split at h <;> simp only [Option.some.injEq, reduceCtorEq] at h
    rename_i hkk
    subst hkk h
    simp only [RepV] at hx hy
    subst hx hy
    split at hk <;> simp only [Option.some.injEq, reduceCtorEq] at hk
    rename_i ht
    exact run_equalIn_int w d t _ _ _ _ ht
  · simp only [Option.some.injEq] at h
    subst h
    simp only [RepV] at hx hy
    subst hx hy
    split at hk <;> simp only [Option.some.injEq, reduceCtorEq] at hk
    rename_i ht
    exact run_equalIn_bool' w d t _ _ ht
  · simp only [Option.some.injEq] at h
    subst h
    simp only [RepV] at hx hy
    subst hx hy
    split at hk <;> simp only [Option.some.injEq, reduceCtorEq] at hk
    rename_i ht
    exact run_equalIn_string w d t _ _ ht
  · simp at h

theorem run_eqFields {P : Program} {w : World} {E : Env} (d : Nat) (us vs : Array Value) : ∀ (fs : List Field) (n : Nat) (ks : List Sc) (xs ys : List V) (b : Bool),
    flatFields P n fs = some ks → RepVs E xs (us.toList.drop n) → RepVs E ys (vs.toList.drop n) → eqCells ks xs ys = some b → (Op.eqFields (d + 1) us vs fs).run P w = .ok b w
  | [], n, ks, xs, ys, b, hf, hx, hy, h => by
    simp only [flatFields, Option.some.injEq] at hf
    subst hf
    simp only [eqCells, Option.some.injEq] at h
    subst h
    simp only [Op.eqFields, Sem.run_pure]
  | f :: fs, n, ks, xs, ys, b, hf, hx, hy, h => by
    simp only [flatFields] at hf
    split at hf <;> simp only [Option.bind_eq_some_iff, Option.map_eq_some_iff, reduceCtorEq] at hf
    rename_i hc
    obtain ⟨hn, ho, hz⟩ := hc
    obtain ⟨k, hk, ks', hks, rfl⟩ := hf
    cases xs with
    | nil => simp [eqCells] at h
    | cons x xs =>
      cases ys with
      | nil => simp [eqCells] at h
      | cons y ys =>
        simp only [eqCells, Option.bind_eq_some_iff] at h
        obtain ⟨b1, hb1, h⟩ := h
        simp only [RepVs] at hx hy
        obtain ⟨u, us', hu, hxu, hxs⟩ := hx
        obtain ⟨v, vs', hv, hyv, hys⟩ := hy
        have hu0 : us[n]? = some u := by
          have := congrArg (fun l => l[0]?) hu
          simpa using this
        have hv0 : vs[n]? = some v := by
          have := congrArg (fun l => l[0]?) hv
          simpa using this
        have hus : us.toList.drop (n + 1) = us' := by
          have := congrArg List.tail hu
          simpa using this
        have hvs : vs.toList.drop (n + 1) = vs' := by
          have := congrArg List.tail hv
          simpa using this
        have hag := run_isAgg_no (P := P) (w := w) (aggT_scalar hk)
        simp only [Op.eqFields, hn, ne_eq, not_false_eq_true, if_true, Sem.run_bind, part, hag, Result.andThen_ok, Bool.false_eq_true, if_false, ho, hu0, hv0, Sem.run_pure, run_eqCell hk x y u v hxu hyv b1 hb1 d]
        cases b1 with
        | false => simp at h; subst h; simp
        | true =>
          simp only [if_true] at h
          have ih := run_eqFields (P := P) (w := w) d us vs fs (n + 1) ks' xs ys b hks (by rw [hus]; exact hxs) (by rw [hvs]; exact hys) h
          simpa using ih

theorem gives_binOp (hs : Sim c E S a) {op : BinOp} {t t2 : TypeId} {x y : Operand} {p q v : V} (ho : o.op = .binOp op t x y t2) (hx : ev S.T x = some p) (hy : ev S.T y = some q)
    (h : binK c.P op t p q = some v) : Gives c E a o v := by
  have hrx := rep_ev hs x _ hx
  have hry := rep_ev hs y _ hy
  unfold binK at h
  split at h
  · split at h
    case isFalse => simp at h
    rename_i hk
    subst hk
    simp only [RepV] at hrx hry
    obtain ⟨u, hu, hr⟩ := intOp_run (P := c.P) (w := E.w) (t := t) h
    exact ⟨u, by simp only [execOp, ho, hrx, hry, eqGuard_at_int, Sem.run_bind, Sem.run_pure, Result.andThen_ok, hu], hr E⟩
  · simp only [RepV] at hrx hry
    split at h <;> simp only [Option.some.injEq, reduceCtorEq] at h
    · rename_i ht
      subst h
      exact ⟨_, by simp only [execOp, ho, hrx, hry, eqGuard_at_bool, Sem.run_bind, Sem.run_pure, Result.andThen_ok, run_boolEq _ _ ht]; rfl, by simp only [RepV]⟩
    · rename_i ht
      subst h
      exact ⟨_, by simp only [execOp, ho, hrx, hry, eqGuard_at_bool, Sem.run_bind, Sem.run_pure, Result.andThen_ok, run_boolNeq _ _ ht]; rfl, by simp only [RepV]⟩
  · simp only [RepV] at hrx hry
    split at h
    · simp only [Option.some.injEq] at h
      subst h
      exact ⟨_, by simp only [execOp, ho, hrx, hry, eqGuard_at_string, Sem.run_bind, Sem.run_pure, Result.andThen_ok, binOp, Op.stringOp]; rfl, by simp only [RepV]⟩
    · simp only [Option.some.injEq] at h
      subst h
      exact ⟨_, by simp only [execOp, ho, hrx, hry, eqGuard_at_string, Sem.run_bind, Sem.run_pure, Result.andThen_ok, binOp, Op.stringOp]; rfl, by simp only [RepV]⟩
    · split at h <;> simp only [Option.some.injEq, reduceCtorEq] at h
      rename_i hsz
      subst h
      have hn0 : ∀ n : Nat, n ≤ 1099511627776 → ¬ ((n : Int) > IntKind.i64.max) := fun n h => by rw [IntKind.max_i64]; omega
      have hn := hn0 _ hsz
      exact ⟨_, by simp only [execOp, ho, hrx, hry, eqGuard_at_string, Sem.run_bind, Sem.run_pure, Result.andThen_ok, binOp, Op.stringOp, hn, if_false]; rfl, by simp only [RepV]⟩
    · simp at h
  · simp only [RepV] at hrx hry
    obtain ⟨us, hu, hxs⟩ := hrx
    obtain ⟨vs, hv, hys⟩ := hry
    simp only [Option.bind_eq_some_iff] at h
    obtain ⟨ks, hks, h⟩ := h
    unfold flatT at hks
    split at hks
    case h_2 => simp at hks
    rename_i fs hu'
    split at hks
    case isFalse => simp at hks
    rename_i hg
    simp only [Bool.and_eq_true, Bool.not_eq_true'] at hg
    obtain ⟨hg1, hg2⟩ := hg
    have hfo : c.P.fieldsOf t = fs := by simp only [Program.fieldsOf, hu']
    have hu2 : c.P.underlying t = some (.struct (c.P.fieldsOf t)) := by rw [hfo]; exact hu'
    have key : ∀ xs ys b, RepVs E xs us.toList → RepVs E ys vs.toList → eqCells ks xs ys = some b → (Op.equalIn 10000 t (.agg us) (.agg vs)).run c.P E.w = .ok b E.w := by
      intro xs ys b hxs hys hb
      rw [run_equalIn_struct E.w 9999 t us vs hu2 hg1, hfo]
      exact run_eqFields 9998 us vs fs.toList 0 ks _ _ b hks (by simpa using hxs) (by simpa using hys) hb
    split at h
    · simp only [Option.map_eq_some_iff] at h
      obtain ⟨b, hb, rfl⟩ := h
      exact ⟨_, by simp only [execOp, ho, hu, hv, run_eqGuard_agg E.w _ _ _ _ _ _ hg2, Sem.run_bind, Result.andThen_ok, run_eql_struct, key _ _ b hxs hys hb, Sem.run_pure]; rfl, by simp only [RepV]⟩
    · simp only [Option.map_eq_some_iff] at h
      obtain ⟨b, hb, rfl⟩ := h
      exact ⟨_, by simp only [execOp, ho, hu, hv, run_eqGuard_agg E.w _ _ _ _ _ _ hg2, Sem.run_bind, Result.andThen_ok, run_neq_struct, key _ _ b hxs hys hb, Sem.run_pure]; rfl, by simp only [RepV]⟩
    · simp at h
  · simp at h
end

section
variable {c : Cx} {E : Env} {S : St} {a : Act} {o : Oper}

theorem gives_convert (hs : Sim c E S a) {src dst : TypeId} {x : Operand} {k0 k k' : IntKind} {n : Int} (ho : o.op = .convert src dst x) (h1 : c.P.underlying src = some (.int k0)) (h2 : c.P.underlying dst = some (.int k)) (hx : ev S.T x = some (.int k' n)) : Gives c E a o (.int k (k.wrap n)) := by
  have hr := rep_ev hs x _ hx
  simp only [RepV] at hr
  exact ⟨_, by simp only [execOp, ho, hr, convert, Sem.run_bind, run_underlying h1, run_underlying h2, Result.andThen_ok, Conv.intToInt, Sem.run_pure]; rfl, by simp only [RepV]⟩

theorem repL_get' {E : Env} {lv : Option Nat} {g : Nat} : ∀ (cs : List V) (o : Nat), RepL E lv g o cs → ∀ (i : Nat) v, cs[i]? = some v → ∃ u, E.w.cell? ⟨g, o + i, none⟩ = some u ∧ RepV E v u ∧ ¬ E.U lv g (o + i)
  | [], o, _, i, v, h => by simp at h
  | x :: cs, o, hr, i, v, h => by
    simp only [RepL] at hr
    obtain ⟨⟨u, h1, h2⟩, h3, h4⟩ := hr
    cases i with
    | zero => simp only [List.getElem?_cons_zero, Option.some.injEq] at h; subst h; exact ⟨u, h1, h2, h3⟩
    | succ i =>
      have := repL_get' cs (o + 1) h4 i v (by simpa using h)
      rw [show o + 1 + i = o + (i + 1) by omega] at this
      exact this
theorem bytesV_ns : ∀ {cs : List V} {acc s : ByteArray}, bytesV acc cs = some s → ∃ ns : List Int, cs = ns.map (V.int .u8) ∧ s = ns.foldl (fun r n => r.push (UInt8.ofNat n.toNat)) acc
  | [], acc, s, h => by
    simp only [bytesV, Option.some.injEq] at h
    exact ⟨[], rfl, h.symm⟩
  | c :: cs, acc, s, h => by
    unfold bytesV at h
    split at h
    · rename_i e; cases e
    · rename_i n cs' e
      cases e
      obtain ⟨ns, h1, h2⟩ := bytesV_ns h
      exact ⟨n :: ns, by rw [h1]; rfl, h2⟩
    · cases h
theorem gives_convert_bytes (hs : Sim c E S a) {src dst e : TypeId} {x : Operand} {cs : List V} {s : ByteArray} (ho : o.op = .convert src dst x) (h1 : c.P.underlying src = some (.slice e)) (h2 : c.P.underlying dst = some .string) (he : c.P.underlying e = some (.int .u8)) (hx : ev S.T x = some (.tl cs.length cs)) (hb : bytesV .empty cs = some s) : Gives c E a o (.str s) := by
  have hr := rep_ev hs x _ hx
  simp only [RepV] at hr
  obtain ⟨A, hv, hA⟩ := hr
  obtain ⟨ns, rfl, rfl⟩ := bytesV_ns hb
  refine ⟨.string (ns.foldl (fun r n => r.push (UInt8.ofNat n.toNat)) ByteArray.empty), ?_, by simp only [RepV]⟩
  simp only [execOp, ho, hv, Sem.run_bind, run_convert_bytes_string E.w src dst e A _ _ h1 he h2]
  cases A with
  | none =>
    rcases hA with h0 | ⟨g, o', hg, _⟩
    · have : ns = [] := List.eq_nil_of_length_eq_zero (by simpa using h0)
      subst this
      rfl
    · cases hg
  | some A =>
    have hl : (loadCells A (ns.map (V.int .u8)).length).run c.P E.w = .ok (ns.map (Value.int .u8)).toArray E.w := by
      have := run_loadCells_list (P := c.P) (w := E.w) A (ns.map (Value.int .u8)) (fun j v hj => by
        rcases hA with h0 | ⟨g, o', hg, hc⟩
        · have : ns = [] := List.eq_nil_of_length_eq_zero (by simpa using h0)
          subst this
          simp at hj
        · cases hg
          simp only [List.getElem?_map, Option.map_eq_some_iff] at hj
          obtain ⟨n, hn, rfl⟩ := hj
          obtain ⟨u, q1, q2, _⟩ := repL_get' _ _ hc j (.int .u8 n) (by simp [List.getElem?_map, hn])
          simp only [RepV] at q2
          subst q2
          exact (show (Addr.add ⟨g, o', none⟩ j) = ⟨g, o' + j, none⟩ by simp [Addr.add]) ▸ q1)
      simpa using this
    rw [run_bytesToString E.w A _ _ ns hl]
    rfl

theorem gives_makeFunc (hs : Sim c E S a) {f : FuncId} {caps : Array Operand} {vs : List V} (ho : o.op = .makeFunc (.func f) #[] caps) (h : evL S.T caps.toList = some vs) : Gives c E a o (.fn f vs) := by
  have hr := rep_evL hs _ _ h
  refine ⟨.func (.func f) #[] (caps.map a.eval), by simp [execOp, ho, Instr.makeFunc], ?_⟩
  simp only [RepV]
  exact ⟨_, rfl, by simpa using hr⟩

theorem gives_extract (hs : Sim c E S a) {x : Operand} {i : Nat} {vs : List V} {v : V} (ho : o.op = .extract x i) (hx : ev S.T x = some (.tup vs)) (h : vs[i]? = some v) : Gives c E a o v := by
  have hr := rep_ev hs x _ hx
  simp only [RepV] at hr
  obtain ⟨us, hu, hr⟩ := hr
  obtain ⟨u, h1, h2⟩ := (repVs_get _ _ hr).2 i v h
  exact ⟨u, by simp [execOp, ho, hu, Instr.extract, show us[i]? = some u by simpa using h1], h2⟩

theorem fieldOff_some {P : Program} {s : TypeId} {f off : Nat} (h : fieldOff P s f = some off) :
    ∃ fs g n, P.underlying s = some (.struct fs) ∧ fs[f]? = some g ∧ szOf P g.type = some (n + 1) ∧ g.offset = off := by
  unfold fieldOff at h
  split at h
  · split at h
    · split at h
      · rename_i hfs _ _ hg _ _ hn
        simp only [Option.some.injEq] at h
        exact ⟨_, _, _, hfs, hg, hn, h⟩
      · simp at h
    · simp at h
  · simp at h
theorem run_fieldAt {P : Program} {w : World} {s : TypeId} {f off g o : Nat} (h : fieldOff P s f = some off) :
    (Instr.fieldAt s (.pointer (some ⟨g, o, none⟩)) f).run P w = .ok (.pointer (some ⟨g, o + off, none⟩)) w := by
  obtain ⟨fs, fd, n, h1, h2, h3, rfl⟩ := fieldOff_some h
  simp only [Instr.fieldAt, Sem.run_bind, run_underlying h1, Result.andThen_ok, h2, Instr.sureAddr, Sem.run_pure, fieldPlace, run_sizeOf' h3, Nat.succ_ne_zero, if_false, Addr.add_lit]

theorem gives_fieldAddr_ptr (hs : Sim c E S a) {s : TypeId} {x : Operand} {f off b i : Nat} (ho : o.op = .fieldAddr s x f) (h : fieldOff c.P s f = some off) (hx : ev S.T x = some (.ptr b i)) : Gives c E a o (.ptr b (i + off)) := by
  have hr := rep_ev hs x _ hx
  simp only [RepV] at hr
  refine ⟨_, by simp only [execOp, ho, hr.2.1, run_fieldAt h, Sem.run_bind, Result.andThen_ok, Sem.run_pure]; rfl, ?_⟩
  simp only [RepV]
  exact ⟨hr.1, trivial, hr.2.2⟩
theorem gives_fieldAddr_lp (hs : Sim c E S a) {s : TypeId} {x : Operand} {f off lv i : Nat} {cs : List V} (ho : o.op = .fieldAddr s x f) (h : fieldOff c.P s f = some off) (hx : ev S.T x = some (.lp lv cs i)) : Gives c E a o (.lp lv cs (i + off)) := by
  have hr := rep_ev hs x _ hx
  simp only [RepV] at hr
  obtain ⟨hl, g, q, h1, h2⟩ := hr
  refine ⟨_, by simp only [execOp, ho, h1, run_fieldAt h, Sem.run_bind, Result.andThen_ok, Sem.run_pure]; rfl, ?_⟩
  simp only [RepV]
  exact ⟨hl, g, q, by rw [Nat.add_assoc], h2⟩

theorem repL_get {E : Env} {lv : Option Nat} {g : Nat} : ∀ (cs : List V) (o : Nat), RepL E lv g o cs → ∀ (i : Nat) v, cs[i]? = some v → ∃ u, E.w.cell? ⟨g, o + i, none⟩ = some u ∧ RepV E v u ∧ ¬ E.U lv g (o + i)
  | [], o, _, i, v, h => by simp at h
  | x :: cs, o, hr, i, v, h => by
    simp only [RepL] at hr
    obtain ⟨⟨u, h1, h2⟩, h3, h4⟩ := hr
    cases i with
    | zero => simp only [List.getElem?_cons_zero, Option.some.injEq] at h; subst h; exact ⟨u, h1, h2, h3⟩
    | succ i =>
      have := repL_get cs (o + 1) h4 i v (by simpa using h)
      rw [show o + 1 + i = o + (i + 1) by omega] at this
      exact this
theorem repL_of_get {E : Env} {lv : Option Nat} {g : Nat} : ∀ (cs : List V) (o : Nat), (∀ (i : Nat) v, cs[i]? = some v → ∃ u, E.w.cell? ⟨g, o + i, none⟩ = some u ∧ RepV E v u ∧ ¬ E.U lv g (o + i)) → RepL E lv g o cs
  | [], o, _ => by simp only [RepL]
  | x :: cs, o, h => by
    simp only [RepL]
    obtain ⟨u, h1, h2, h3⟩ := h 0 x rfl
    refine ⟨⟨u, h1, h2⟩, h3, repL_of_get cs (o + 1) fun i v hi => ?_⟩
    have := h (i + 1) v (by simpa using hi)
    rwa [show o + (i + 1) = o + 1 + i by omega] at this
theorem repVs_of_get {E : Env} : ∀ (cs : List V) (us : List Value), cs.length = us.length → (∀ (i : Nat) v u, cs[i]? = some v → us[i]? = some u → RepV E v u) → RepVs E cs us
  | [], us, hl, _ => by
    simp only [RepVs]
    cases us with
    | nil => rfl
    | cons => simp at hl
  | x :: cs, us, hl, h => by
    cases us with
    | nil => simp at hl
    | cons u us =>
      simp only [RepVs]
      exact ⟨u, us, rfl, h 0 x u rfl rfl, repVs_of_get cs us (by simpa using hl) fun i v w hi hj => h (i + 1) v w (by simpa using hi) (by simpa using hj)⟩

/-- Reading at a place of memory whose cells stand for 'cs'. -/
theorem run_read {P : Program} {E : Env} {t : TypeId} {cs : List V} {g o off : Nat} {v : V} (hc : ∀ (i : Nat) v, cs[i]? = some v → ∃ u, E.w.cell? ⟨g, o + i, none⟩ = some u ∧ RepV E v u)
    (h : readCells P t cs off = some v) : ∃ u, (loadVar t ⟨g, o + off, none⟩).run P E.w = .ok u E.w ∧ RepV E v u := by
  unfold readCells at h
  split at h
  · rename_i ha
    simp only [Option.bind_eq_some_iff] at h
    obtain ⟨n, hn, h⟩ := h
    split at h
    case isFalse => simp at h
    simp only [Option.some.injEq] at h
    rename_i hl
    subst h
    have hex : ∀ i, i < n → ∃ u, E.w.cell? ⟨g, o + off + i, none⟩ = some u ∧ ∀ v, cs[off + i]? = some v → RepV E v u := by
      intro i hi
      obtain ⟨u, h1, h2⟩ := hc (off + i) cs[off + i] (List.getElem?_eq_getElem (by omega))
      refine ⟨u, by rw [Nat.add_assoc]; exact h1, fun v hv => ?_⟩
      rw [List.getElem?_eq_getElem (by omega)] at hv
      simp only [Option.some.injEq] at hv
      subst hv
      exact h2
    have hcells := run_loadCells (P := P) E.w ⟨g, o + off, none⟩ n (fun j => (E.w.cell? ⟨g, o + off + j, none⟩).getD undef) (fun j hj => by
      obtain ⟨u, h1, _⟩ := hex j hj
      rw [Addr.add_lit, h1]; rfl)
    refine ⟨.agg ((List.range n).map fun j => (E.w.cell? ⟨g, o + off + j, none⟩).getD undef).toArray, ?_, ?_⟩
    · simp only [loadVar, Sem.run_bind, run_isAgg_yes ha, Result.andThen_ok, if_true, run_sizeOf' hn, hcells, Sem.run_pure]
    · simp only [RepV]
      refine ⟨_, rfl, repVs_of_get _ _ (by simp; omega) fun i v u hi hj => ?_⟩
      have hin : i < n := by
        rcases Nat.lt_or_ge i n with h | h
        · exact h
        · rw [List.getElem?_eq_none (by rw [List.length_take]; omega)] at hi; cases hi
      simp only [List.getElem?_take, hin, if_true, List.getElem?_drop] at hi
      simp only [List.getElem?_map, List.getElem?_range hin, Option.map_some, Option.some.injEq] at hj
      obtain ⟨u', h1, h2⟩ := hex i hin
      rw [h1] at hj
      simp only [Option.getD_some] at hj
      subst hj
      exact h2 v hi
  · rename_i ha
    obtain ⟨u, h1, h2⟩ := hc off v h
    refine ⟨u, ?_, h2⟩
    simp only [loadVar, Sem.run_bind, run_isAgg_no ha, Result.andThen_ok, Bool.false_eq_true, if_false, run_load, h1]
  · simp at h

theorem cells_at {E : Env} (hh : RelH E) {b sz : Nat} {cs : List V} (hb : E.H[b]? = some (.cells sz cs)) (i : Nat) (v : V) (hv : cs[i]? = some v) : ∃ u, E.w.cell? ⟨E.φ b, 0 + i, none⟩ = some u ∧ RepV E v u := by
  obtain ⟨cc, t, h1, h2, h3⟩ := hh.cells b sz cs hb
  obtain ⟨u, h4, h5⟩ := h3 i v hv
  exact ⟨u, by rw [cell_of_row _ _ _ _ _ _ h1, Nat.zero_add]; exact h4, h5⟩

theorem loadK_run {P : Program} {E : Env} (hh : RelH E) {t : TypeId} {p v : V} {u : Value} (hp : RepV E p u) (h : loadK P t E.H p = some v) :
    ∃ x, (Instr.loadAt t u).run P E.w = .ok x E.w ∧ RepV E v x := by
  unfold loadK at h
  split at h
  · split at h
    case h_2 => simp at h
    rename_i b off _ sz cs hb
    simp only [RepV] at hp
    obtain ⟨_, hp, _⟩ := hp
    obtain ⟨x, h1, h2⟩ := run_read (P := P) (o := 0) (cells_at hh hb) h
    refine ⟨x, ?_, h2⟩
    rw [Nat.zero_add] at h1
    simp only [Instr.loadAt, hp, Instr.sureAddr, Sem.run_bind, Sem.run_pure, Result.andThen_ok, h1]
  · simp only [RepV] at hp
    obtain ⟨_, g, o, hp, hr⟩ := hp
    obtain ⟨x, h1, h2⟩ := run_read (P := P) (o := o) (fun i v hi => by
      obtain ⟨u, h1, h2, _⟩ := repL_get _ _ hr i v hi
      exact ⟨u, h1, h2⟩) h
    refine ⟨x, ?_, h2⟩
    simp only [Instr.loadAt, hp, Instr.sureAddr, Sem.run_bind, Sem.run_pure, Result.andThen_ok, h1]
  · simp at h

theorem gives_load (hs : Sim c E S a) {t : TypeId} {x : Operand} {p v : V} (ho : o.op = .load t x) (hx : ev S.T x = some p) (h : loadK c.P t S.H p = some v) : Gives c E a o v := by
  have hr := rep_ev hs x _ hx
  rw [← hs.H] at h
  obtain ⟨u, h1, h2⟩ := loadK_run (P := c.P) hs.heap hr h
  exact ⟨u, by simp only [execOp, ho, h1, Sem.run_bind, Result.andThen_ok, Sem.run_pure], h2⟩


theorem gives_field (hs : Sim c E S a) {t : TypeId} {x : Operand} {f off : Nat} {fs : Array Field} {g : Field} {cs : List V} {v : V} (ho : o.op = .field t x f) (h : fieldOff c.P t f = some off) (hf : c.P.underlying t = some (.struct fs)) (hg : fs[f]? = some g)
    (hx : ev S.T x = some (.agg cs)) (hv : readCells c.P g.type cs off = some v) : Gives c E a o v := by
  have hr := rep_ev hs x _ hx
  simp only [RepV] at hr
  obtain ⟨us, hu, hr⟩ := hr
  obtain ⟨fs', g', n, h1, h2, h3, h4⟩ := fieldOff_some h
  rw [hf] at h1
  simp only [Option.some.injEq, TypeDesc.struct.injEq] at h1
  subst h1
  rw [hg] at h2
  simp only [Option.some.injEq] at h2
  subst h2 h4
  obtain ⟨hl, hget⟩ := repVs_get _ _ hr
  unfold readCells at hv
  split at hv
  · rename_i ha
    simp only [Option.bind_eq_some_iff] at hv
    obtain ⟨m, hm, hv⟩ := hv
    split at hv
    case isFalse => simp at hv
    simp only [Option.some.injEq] at hv
    subst hv
    refine ⟨.agg (us.extract g.offset (g.offset + m)), ?_, ?_⟩
    · simp only [execOp, ho, hu, Instr.field, asAgg, part, Sem.run_bind, run_underlying hf, Result.andThen_ok, hg, Sem.run_pure, run_isAgg_yes ha, if_true, run_sizeOf' hm]
    · simp only [RepV]
      refine ⟨_, rfl, repVs_of_get _ _ ?_ fun i v u hi hj => ?_⟩
      · simp [hl]
      · have hj' : us.toList[g.offset + i]? = some u := by
          simp only [Array.toList_extract, List.extract_eq_take_drop, List.getElem?_take] at hj
          split at hj
          · simpa using hj
          · cases hj
        have hi' : cs[g.offset + i]? = some v := by
          rw [List.getElem?_take] at hi
          split at hi
          · simpa using hi
          · cases hi
        obtain ⟨u', k1, k2⟩ := hget _ v hi'
        rw [hj'] at k1
        simp only [Option.some.injEq] at k1
        subst k1
        exact k2
  · rename_i ha
    obtain ⟨u, k1, k2⟩ := hget _ v hv
    refine ⟨u, ?_, k2⟩
    simp only [execOp, ho, hu, Instr.field, asAgg, part, Sem.run_bind, run_underlying hf, Result.andThen_ok, hg, Sem.run_pure, run_isAgg_no ha, Bool.false_eq_true, if_false, show us[g.offset]? = some u by simpa using k1]
  · simp at hv

theorem elemT_some {P : Program} {t e : TypeId} (h : elemT P t = some e) : P.underlying t = some (.slice e) := by
  unfold elemT at h
  split at h <;> simp only [Option.some.injEq, reduceCtorEq] at h
  subst h; assumption

theorem run_indexAt {P : Program} {w : World} {t e : TypeId} {sz len cap g o : Nat} {k : IntKind} {n : Int} (ht : elemT P t = some e) (hz : szOf P e = some sz) (h0 : 0 ≤ n) (h1 : n < len) :
    (Instr.indexAt t (.slice (some ⟨g, o, none⟩) len cap) (.int k n)).run P w = .ok (.pointer (some ⟨g, o + n.toNat * sz, none⟩)) w := by
  simp only [Instr.indexAt, asIntOf, Sem.run_bind, Sem.run_pure, Result.andThen_ok, run_underlying (elemT_some ht), h0, h1, and_self, if_true, run_sizeOf' hz, Addr.add_lit]

theorem gives_index_sl (hs : Sim c E S a) {t e : TypeId} {x i : Operand} {sz b off len : Nat} {k : IntKind} {n : Int} (ho : o.op = .indexAddr t x i) (ht : elemT c.P t = some e) (hz : szOf c.P e = some sz)
    (hx : ev S.T x = some (.sl b off len)) (hi : ev S.T i = some (.int k n)) (h0 : 0 ≤ n) (h1 : n < len) : Gives c E a o (.ptr b (off + n.toNat * sz)) := by
  have hr := rep_ev hs x _ hx
  have hri := rep_ev hs i _ hi
  simp only [RepV] at hr hri
  obtain ⟨hb, ⟨cap, hv, _⟩, hn⟩ := hr
  refine ⟨_, by simp only [execOp, ho, hv, hri, run_indexAt ht hz h0 h1, Sem.run_bind, Result.andThen_ok, Sem.run_pure]; rfl, ?_⟩
  simp only [RepV]
  exact ⟨hb, trivial, hn⟩

theorem gives_index_row {x i : Operand} {t e : TypeId} {sz lv len : Nat} {cs : List V} {k : IntKind} {n : Int} {A : Option Addr} {cap : Nat} (ho : o.op = .indexAddr t x i) (ht : elemT c.P t = some e) (hz : szOf c.P e = some sz)
    (hlv : lv ≤ E.m) (hx : a.eval x = .slice A len cap) (hA : ∃ g q, A = some ⟨g, q, none⟩ ∧ RepL E (some lv) g q cs) (hi : a.eval i = .int k n) (h0 : 0 ≤ n) (h1 : n < len) : Gives c E a o (.lp lv cs (n.toNat * sz)) := by
  obtain ⟨g, q, rfl, hr⟩ := hA
  refine ⟨_, by simp only [execOp, ho, hx, hi, run_indexAt ht hz h0 h1, Sem.run_bind, Result.andThen_ok, Sem.run_pure]; rfl, ?_⟩
  simp only [RepV]
  exact ⟨hlv, g, q, rfl, hr⟩

/-- What every list's value looks like. -/
theorem rep_len {E : Env} {v : V} {u : Value} {n : Nat} (hr : RepV E v u) (h : lenK v = some n) : ∃ A cap, u = .slice A n cap ∧ n ≤ cap := by
  unfold lenK at h
  split at h <;> simp only [Option.some.injEq, reduceCtorEq] at h <;> subst h <;> simp only [RepV] at hr
  · obtain ⟨_, A, cap, h1, h2, _⟩ := hr; exact ⟨A, cap, h1, h2⟩
  · obtain ⟨A, h1, _⟩ := hr; exact ⟨A, _, h1, Nat.le_refl _⟩
  · obtain ⟨_, ⟨A, cap, h1, h2, _⟩, _⟩ := hr; exact ⟨A, cap, h1, h2⟩
  · obtain ⟨_, ⟨A, cap, h1, h2, _⟩, _⟩ := hr; exact ⟨A, cap, h1, h2⟩
  · obtain ⟨_, ⟨cap, h1, h2⟩, _⟩ := hr; exact ⟨_, cap, h1, h2⟩

theorem gives_len (hs : Sim c E S a) {x : Operand} {t : TypeId} {e : TypeId} {v : V} {n : Nat} {args : Array Operand} {ats : Array TypeId} (ho : o.op = .call { callee := .builtin .len, args := args, argTypes := ats }) (ha : args.toList = [x]) (hat : ats[0]? = some t)
    (ht : c.P.underlying t = some (.slice e)) (hx : ev S.T x = some v) (hn : lenK v = some n) : Gives c E a o (.int .i64 n) := by
  obtain ⟨A, cap, hu, _⟩ := rep_len (rep_ev hs x _ hx) hn
  have hargs : args = #[x] := by apply Array.ext'; simpa using ha
  subst hargs
  refine ⟨_, by simp only [execOp, ho, resolve, Sem.run_bind, Sem.run_pure, Result.andThen_ok, invoke, builtin, Builtin.len_, hat, List.map_toArray, List.map_cons, List.map_nil, hu, run_underlying ht, List.getElem?_toArray, List.getElem?_cons_zero]; rfl, ?_⟩
  simp only [RepV]; rfl

theorem gives_lenS (hs : Sim c E S a) {x : Operand} {t : TypeId} {s : ByteArray} {args : Array Operand} {ats : Array TypeId} (ho : o.op = .call { callee := .builtin .len, args := args, argTypes := ats }) (ha : args.toList = [x]) (hat : ats[0]? = some t)
    (ht : c.P.underlying t = some .string) (hx : ev S.T x = some (.str s)) : Gives c E a o (.int .i64 s.size) := by
  have hu := rep_ev hs x _ hx
  simp only [RepV] at hu
  have hargs : args = #[x] := by apply Array.ext'; simpa using ha
  subst hargs
  refine ⟨_, by simp only [execOp, ho, resolve, Sem.run_bind, Sem.run_pure, Result.andThen_ok, invoke, builtin, Builtin.len_, hat, List.map_toArray, List.map_cons, List.map_nil, hu, run_underlying ht, List.getElem?_toArray, List.getElem?_cons_zero]; rfl, ?_⟩
  simp only [RepV]; rfl

theorem gives_min (hs : Sim c E S a) {x y : Operand} {k k' : IntKind} {p q : Int} {args : Array Operand} {ats : Array TypeId} (ho : o.op = .call { callee := .builtin .min, args := args, argTypes := ats }) (ha : args.toList = [x, y])
    (hx : ev S.T x = some (.int k p)) (hy : ev S.T y = some (.int k' q)) : Gives c E a o (.int k (if q < p then q else p)) := by
  have hu := rep_ev hs x _ hx
  have hv := rep_ev hs y _ hy
  simp only [RepV] at hu hv
  have hargs : args = #[x, y] := by apply Array.ext'; simpa using ha
  subst hargs
  refine ⟨_, by simp only [execOp, ho, resolve, Sem.run_bind, Sem.run_pure, Result.andThen_ok, invoke, builtin, Builtin.min_, Builtin.min2, List.map_toArray, List.map_cons, List.map_nil, hu, hv, List.foldlM_cons, List.foldlM_nil]; rfl, ?_⟩
  simp only [RepV]
theorem gives_max (hs : Sim c E S a) {x y : Operand} {k k' : IntKind} {p q : Int} {args : Array Operand} {ats : Array TypeId} (ho : o.op = .call { callee := .builtin .max, args := args, argTypes := ats }) (ha : args.toList = [x, y])
    (hx : ev S.T x = some (.int k p)) (hy : ev S.T y = some (.int k' q)) : Gives c E a o (.int k (if q > p then q else p)) := by
  have hu := rep_ev hs x _ hx
  have hv := rep_ev hs y _ hy
  simp only [RepV] at hu hv
  have hargs : args = #[x, y] := by apply Array.ext'; simpa using ha
  subst hargs
  refine ⟨_, by simp only [execOp, ho, resolve, Sem.run_bind, Sem.run_pure, Result.andThen_ok, invoke, builtin, Builtin.max_, Builtin.max2, List.map_toArray, List.map_cons, List.map_nil, hu, hv, List.foldlM_cons, List.foldlM_nil]; rfl, ?_⟩
  simp only [RepV]

theorem gives_indexS (hs : Sim c E S a) {x i : Operand} {t : TypeId} {s : ByteArray} {k : IntKind} {n : Int} {b : UInt8} (ho : o.op = .index t x i) (ht : c.P.underlying t = some .string) (hx : ev S.T x = some (.str s)) (hi : ev S.T i = some (.int k n))
    (h0 : 0 ≤ n) (hb : s[n.toNat]? = some b) : Gives c E a o (.int .u8 b.toNat) := by
  have hu := rep_ev hs x _ hx
  have hv := rep_ev hs i _ hi
  simp only [RepV] at hu hv
  refine ⟨_, by simp only [execOp, ho, hu, hv, Instr.index, asIntOf, Sem.run_bind, Sem.run_pure, Result.andThen_ok, run_underlying ht, h0, if_true, hb]; rfl, ?_⟩
  simp only [RepV]

theorem repL_take {E : Env} {lv : Option Nat} {g : Nat} (cs : List V) (o i n : Nat) (h : RepL E lv g o cs) : RepL E lv g (o + i) ((cs.drop i).take n) := by
  refine repL_of_get _ _ fun j v hj => ?_
  rw [List.getElem?_take] at hj
  split at hj
  · rw [List.getElem?_drop] at hj
    have := repL_get _ _ h _ v hj
    rw [Nat.add_assoc]
    exact this
  · cases hj

theorem run_bounds (hs : Sim c E S a) {len cap l h : Nat} (lo hi : Option Operand) (hlo : boundK S.T 0 lo = some l) (hhi : boundK S.T len hi = some h) (hlc : len ≤ cap) (hlh : l ≤ h) (hhl : h ≤ len) :
    (Instr.sliceBounds true len cap (lo.map a.eval) (hi.map a.eval) none).run c.P E.w = .ok (l, h, cap) E.w := by
  have h1 : ∀ (x : Operand) (y n : Nat) (z : BoundsCode) m, boundK S.T m (some x) = some n → n ≤ y → (Instr.sliceBound (a.eval x) y z).run c.P E.w = .ok n E.w := by
    intro x y n z m hx hn
    simp only [boundK] at hx
    split at hx
    · rename_i k i hk
      split at hx
      case isFalse => cases hx
      rename_i hi0
      simp only [Option.some.injEq] at hx
      subst hx
      have hr := rep_ev hs x _ hk
      simp only [RepV] at hr
      simp only [Instr.sliceBound, hr, asIntOf, Sem.run_bind, Sem.run_pure, Result.andThen_ok]
      rw [if_pos ⟨hi0, by omega⟩]
      rfl
    · cases hx
  cases hi with
  | none =>
    simp only [boundK, Option.some.injEq] at hhi
    subst hhi
    cases lo with
    | none =>
      simp only [boundK, Option.some.injEq] at hlo
      subst hlo
      simp [Instr.sliceBounds]
    | some x =>
      have := h1 x len l .sliceB 0 hlo hlh
      simp [Instr.sliceBounds, this]
  | some y =>
    have hy := h1 y cap h .sliceAcap len hhi (by omega)
    cases lo with
    | none =>
      simp only [boundK, Option.some.injEq] at hlo
      subst hlo
      simp [Instr.sliceBounds, hy]
    | some x =>
      have := h1 x h l .sliceB 0 hlo hlh
      simp [Instr.sliceBounds, hy, this]


theorem run_sliceAt (hs : Sim c E S a) {t e : TypeId} {A : Option Addr} {len cap l h sz : Nat} (lo hi : Option Operand) (ht : elemT c.P t = some e) (hz : szOf c.P e = some sz) (hlo : boundK S.T 0 lo = some l) (hhi : boundK S.T len hi = some h) (hlc : len ≤ cap) (hlh : l ≤ h) (hhl : h ≤ len) :
    (Instr.sliceAt t (.slice A len cap) (lo.map a.eval) (hi.map a.eval) none).run c.P E.w = .ok (.slice (if cap = l then A else A.map (·.add (l * sz))) (h - l) (cap - l)) E.w := by
  have hu := elemT_some ht
  simp only [Instr.sliceAt, Instr.slice, Sem.run_bind, run_underlying hu, Result.andThen_ok, run_bounds hs lo hi hlo hhi hlc hlh hhl, run_sizeOf' hz, Sem.run_pure]

theorem gives_slice_row (hs : Sim c E S a) {t e : TypeId} {x : Operand} {lo hi : Option Operand} {lv len l h sz cap : Nat} {cs : List V} {A : Option Addr} (ho : o.op = .slice t x lo hi none) (ht : elemT c.P t = some e) (hz : szOf c.P e = some sz)
    (hlv : lv ≤ E.m) (hx : a.eval x = .slice A len cap) (hlc : len ≤ cap) (hA : len = 0 ∨ ∃ g q, A = some ⟨g, q, none⟩ ∧ RepL E (some lv) g q cs)
    (hlo : boundK S.T 0 lo = some l) (hhi : boundK S.T len hi = some h) (hlh : l ≤ h) (hhl : h ≤ len) : Gives c E a o (.lit lv (h - l) ((cs.drop (l * sz)).take ((h - l) * sz))) := by
  refine ⟨_, by simp only [execOp, ho, hx, run_sliceAt hs lo hi ht hz hlo hhi hlc hlh hhl, Sem.run_bind, Result.andThen_ok, Sem.run_pure, Option.map_none]; rfl, ?_⟩
  simp only [RepV]
  refine ⟨hlv, _, _, rfl, by omega, ?_⟩
  by_cases h0 : h - l = 0
  · exact .inl h0
  · right
    rcases hA with hA | ⟨g, q, rfl, hr⟩
    · omega
    · refine ⟨g, q + l * sz, ?_, repL_take cs q _ _ hr⟩
      rw [if_neg (by omega)]
      simp only [Option.map_some, Addr.add_lit]

theorem gives_slice_sl (hs : Sim c E S a) {t e : TypeId} {x : Operand} {lo hi : Option Operand} {b off len l h sz : Nat} (ho : o.op = .slice t x lo hi none) (ht : elemT c.P t = some e) (hz : szOf c.P e = some sz)
    (hx : ev S.T x = some (.sl b off len)) (hlo : boundK S.T 0 lo = some l) (hhi : boundK S.T len hi = some h) (hlh : l ≤ h) (hhl : h ≤ len) : Gives c E a o (if l = h then .lit 0 0 [] else .sl b (off + l * sz) (h - l)) := by
  have hr := rep_ev hs x _ hx
  simp only [RepV] at hr
  obtain ⟨hb, ⟨cap, hv, hlc⟩, hn⟩ := hr
  refine ⟨_, by simp only [execOp, ho, hv, run_sliceAt hs lo hi ht hz hlo hhi hlc hlh hhl, Sem.run_bind, Result.andThen_ok, Sem.run_pure, Option.map_none]; rfl, ?_⟩
  split
  · simp only [RepV]
    exact ⟨Nat.zero_le _, _, _, by rw [show h - l = 0 by omega], by omega, .inl trivial⟩
  · simp only [RepV]
    refine ⟨hb, ⟨cap - l, ?_, by omega⟩, hn⟩
    rw [if_neg (by omega)]
    simp only [Option.map_some, Addr.add_lit]

theorem gives_slice0 (hs : Sim c E S a) {t e : TypeId} {x y z : Operand} {v : V} {n : Nat} {k k' : IntKind} (ho : o.op = .slice t x none (some y) (some z)) (ht : elemT c.P t = some e) {sz : Nat} (hz : szOf c.P e = some sz)
    (hx : ev S.T x = some v) (hn : lenK v = some n) (hy : ev S.T y = some (.int k 0)) (hzz : ev S.T z = some (.int k' 0)) : Gives c E a o (.tl 0 []) := by
  obtain ⟨A, cap, hu, _⟩ := rep_len (rep_ev hs x _ hx) hn
  have h1 := rep_ev hs y _ hy
  have h2 := rep_ev hs z _ hzz
  simp only [RepV] at h1 h2
  have hu' := elemT_some ht
  refine ⟨.slice A 0 0, ?_, by simp only [RepV]; exact ⟨A, rfl, .inl trivial⟩⟩
  simp [execOp, ho, hu, h1, h2, Instr.sliceAt, Instr.slice, run_underlying hu', Instr.sliceBounds, Instr.sliceBound, asIntOf, run_sizeOf' hz]

end

end Go.Proofs.Ytblodpbcinkehaa.K
