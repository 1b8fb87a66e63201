/-
  Maps: entries of plain values, in the order in which they came. No conditions.
-/
import Derived.Test.YtblodpbcinkehaaKf
import Derived.MapKept
set_option linter.unusedVariables false
set_option linter.unusedSimpArgs false
namespace Go.Proofs.Ytblodpbcinkehaa.K

/-! ### Plain values -/
def scalarV : V → Bool
  | .int .. | .bool _ | .str _ => true
  | _ => false
theorem plain_cells {E : Env} : ∀ (cs : List V) (us : List Value), (cs.all fun | .int .. | .bool _ | .str _ => true | _ => false) = true → RepVs E cs us → us = cs.map plainC
  | [], us, _, h => by simp only [RepVs] at h; exact h
  | c :: cs, us, hp, h => by
    simp only [List.all_cons, Bool.and_eq_true] at hp
    simp only [RepVs] at h
    obtain ⟨u, us', rfl, h1, h2⟩ := h
    rw [plain_cells cs us' hp.2 h2, List.map_cons]
    congr 1
    cases c <;> simp_all [RepV, plainC]
theorem plain_rep {E : Env} {v : V} {u : Value} (hp : isPlain v = true) (h : RepV E v u) : u = plainV v := by
  cases v with
  | agg cs =>
    simp only [RepV] at h
    obtain ⟨vs, rfl, h⟩ := h
    have := plain_cells cs vs.toList hp h
    simp only [plainV]
    rw [← this]
  | int _ _ => simp only [RepV] at h; exact h
  | bool _ => simp only [RepV] at h; exact h
  | str _ => simp only [RepV] at h; exact h
  | _ => simp [isPlain] at hp
theorem rep_cells_plain {E : Env} : ∀ (cs : List V), (cs.all fun | .int .. | .bool _ | .str _ => true | _ => false) = true → RepVs E cs (cs.map plainC)
  | [], _ => by simp only [RepVs, List.map_nil]
  | c :: cs, hp => by
    simp only [List.all_cons, Bool.and_eq_true] at hp
    simp only [RepVs, List.map_cons]
    refine ⟨_, _, rfl, ?_, rep_cells_plain cs hp.2⟩
    cases c <;> simp_all [RepV, plainC]
theorem rep_plain (E : Env) {v : V} (hp : isPlain v = true) : RepV E v (plainV v) := by
  cases v with
  | agg cs =>
    simp only [RepV, plainV]
    exact ⟨_, rfl, by simpa using rep_cells_plain cs hp⟩
  | int _ _ => simp only [RepV, plainV, plainC]
  | bool _ => simp only [RepV, plainV, plainC]
  | str _ => simp only [RepV, plainV, plainC]
  | _ => simp [isPlain] at hp

/-! ### Keys -/
theorem eqCell_plain {q : Sc} {x y : V} (hs : q ≠ .s) (h : eqCell q x y = some true) : plainC x = plainC y := by
  cases q <;> cases x <;> cases y <;> simp_all [eqCell, plainC]
theorem eqCells_plain : ∀ {ks : List Sc} {xs ys : List V}, (ks.all fun q => decide (q ≠ .s)) = true → xs.length = ks.length → ys.length = ks.length → eqCells ks xs ys = some true → xs.map plainC = ys.map plainC
  | [], xs, ys, _, hx, hy, _ => by
    rw [List.eq_nil_of_length_eq_zero hx, List.eq_nil_of_length_eq_zero hy]
  | k :: ks, [], _, _, hx, _, _ => by simp at hx
  | k :: ks, _ :: _, [], _, _, hy, _ => by simp at hy
  | k :: ks, x :: xs, y :: ys, hk, hx, hy, h => by
    simp only [List.all_cons, Bool.and_eq_true, decide_eq_true_eq] at hk
    simp only [eqCells, Option.bind_eq_some_iff] at h
    obtain ⟨b, h1, h2⟩ := h
    cases b with
    | false => simp at h2
    | true =>
      simp only [if_true] at h2
      simp only [List.map_cons, eqCell_plain hk.1 h1, eqCells_plain hk.2 (by simpa using hx) (by simpa using hy) h2]
theorem keyT_many {P : Program} {k : TypeId} {ks : List Sc} (h : keyT P k = some (.many ks)) : flatT P k = some ks ∧ (ks.all fun q => decide (q ≠ .s)) = true := by
  unfold keyT at h
  split at h
  · cases h
  · simp only [Option.bind_eq_some_iff] at h
    obtain ⟨ks', h1, h2⟩ := h
    split at h2
    · rename_i hc
      simp only [Option.some.injEq, KT.many.injEq] at h2
      subst h2
      exact ⟨h1, hc⟩
    · cases h2
theorem keyT_one {P : Program} {k : TypeId} {q : Sc} (h : keyT P k = some (.one q)) : scalarT P k = some q := by
  unfold keyT at h
  split at h
  · rename_i h1
    simp only [Option.some.injEq, KT.one.injEq] at h
    rw [h1, h]
  · simp only [Option.bind_eq_some_iff] at h
    obtain ⟨ks', h1, h2⟩ := h
    split at h2 <;> cases h2
theorem eqKey_many {ks : List Sc} {x y : V} {b : Bool} (h : eqKey (.many ks) x y = some b) : ∃ xs ys, x = .agg xs ∧ y = .agg ys ∧ xs.length = ks.length ∧ ys.length = ks.length ∧ eqCells ks xs ys = some b := by
  cases x <;> cases y <;> simp only [eqKey] at h <;> try (cases h; done)
  rename_i xs ys
  split at h
  case isFalse => cases h
  rename_i hc
  exact ⟨xs, ys, rfl, rfl, hc.1, hc.2, h⟩
theorem eqKey_plain {P : Program} {k : TypeId} {kt : KT} (hk : keyT P k = some kt) {x y : V} (h : eqKey kt x y = some true) : plainV x = plainV y := by
  cases kt with
  | one q =>
    cases q with
    | s =>
      cases x <;> cases y <;> simp only [eqKey] at h <;> try (cases h; done)
      simp only [Option.some.injEq] at h
      simp only [plainV, plainC, (Go.MapKept.bytes_beq _ _).1 h]
    | b => cases x <;> cases y <;> simp_all [eqKey, eqCell, plainV, plainC]
    | i => cases x <;> cases y <;> simp_all [eqKey, eqCell, plainV, plainC]
  | many ks =>
    obtain ⟨xs, ys, rfl, rfl, h1, h2, h3⟩ := eqKey_many h
    simp only [plainV]
    rw [eqCells_plain (keyT_many hk).2 h1 h2 h3]

/-! ### What the operations on keys do in the model -/
def mkE (x : (V × V) × Nat) : MapEntry := { key := plainV x.1.1, val := plainV x.1.2, born := x.2 }
def esl (kvs : List (V × V)) (i : Nat) : List MapEntry := (kvs.zipIdx i).map mkE
theorem esOf_toList (kvs : List (V × V)) : (esOf kvs).toList = esl kvs 0 := rfl
theorem esl_cons (e : V × V) (kvs : List (V × V)) (i : Nat) : esl (e :: kvs) i = mkE (e, i) :: esl kvs (i + 1) := rfl

section
variable {P : Program} {k : TypeId} {w : World}
theorem run_checkKey_scalar {q : Sc} (hk : scalarT P k = some q) (em : Bool) (n : Nat) (v : Value) : (Instr.checkKey em (n + 1) k v).run P w = .ok () w := by
  unfold scalarT at hk
  unfold Instr.checkKey
  split at hk <;> rename_i hu <;> first | cases hk | skip
  all_goals simp only [Sem.run_bind, run_underlying hu, Result.andThen_ok]
  all_goals cases v <;> simp
theorem run_checkKey_flat (em : Bool) (m : Nat) (us : Array Value) : ∀ (fs : List Field) (n : Nat) (ks : List Sc), flatFields P n fs = some ks → n + ks.length ≤ us.size →
    (forIn (m := Sem) fs PUnit.unit (fun f _ => do
      if f.name ≠ "_" then
        Instr.checkKey em (m + 1) f.type (← part f.type us f.offset)
        pure (ForInStep.yield PUnit.unit)
      else pure (ForInStep.yield PUnit.unit))).run P w = .ok PUnit.unit w
  | [], n, ks, _, _ => by simp
  | f :: fs, n, ks, hf, hl => by
    simp only [flatFields] at hf
    split at hf <;> simp only [Option.bind_eq_some_iff, Option.map_eq_some_iff, reduceCtorEq] at hf
    rename_i hc
    obtain ⟨hn, ho, hz⟩ := hc
    obtain ⟨q, hk, ks', hks, rfl⟩ := hf
    simp only [List.length_cons] at hl
    have hu0 : us[n]? = some us[n] := Array.getElem?_eq_getElem (by omega)
    have hag := run_isAgg_no (P := P) (w := w) (aggT_scalar hk)
    have ih := run_checkKey_flat em m us fs (n + 1) ks' hks (by omega)
    simp only [List.forIn_cons, Sem.run_bind, hn, ne_eq, not_false_eq_true, if_true, part, hag, Result.andThen_ok, Bool.false_eq_true, if_false, ho, hu0, Sem.run_pure, run_checkKey_scalar hk]
    exact ih
theorem flatT_struct {ks : List Sc} (h : flatT P k = some ks) : ∃ fs, P.underlying k = some (.struct fs) ∧ P.stoodInHeld k = false ∧ flatFields P 0 fs.toList = some ks := by
  unfold flatT at h
  split at h
  case h_2 => cases h
  rename_i fs hu
  split at h
  case isFalse => cases h
  rename_i hg
  simp only [Bool.and_eq_true, Bool.not_eq_true'] at hg
  exact ⟨fs, hu, hg.1, h⟩
theorem run_check {kt : KT} (hk : keyT P k = some kt) {key : V} (hself : eqKey kt key key = some true) (em : Bool) : (Instr.checkKey em 10000 k (plainV key)).run P w = .ok () w := by
  cases kt with
  | one q => exact run_checkKey_scalar (keyT_one hk) em 9999 _
  | many ks =>
    obtain ⟨hf, _⟩ := keyT_many hk
    obtain ⟨fs, hu, _, hff⟩ := flatT_struct hf
    obtain ⟨xs, ys, e0, _, hc, _, _⟩ := eqKey_many hself
    have e : plainV key = .agg (xs.map plainC).toArray := by rw [e0]; rfl
    rw [e, show (10000 : Nat) = 9999 + 1 from rfl, Instr.checkKey]
    simp only [Sem.run_bind, run_underlying hu, Result.andThen_ok]
    rw [← Array.forIn_toList]
    have := run_checkKey_flat (P := P) (w := w) em 9998 (xs.map plainC).toArray fs.toList 0 ks hff (by simp; omega)
    simp only [this]
    first | rfl | simp

theorem same_one {q : Sc} {d : TypeDesc} (hk : scalarT P k = some q) (hd : P.underlying k = some d) {x y : V} {b : Bool} (h : eqKey (.one q) x y = some b) : Instr.sameNow d (plainV x) (plainV y) = some b := by
  unfold scalarT at hk
  rw [hd] at hk
  cases q <;> cases x <;> cases y <;> simp_all [eqKey, eqCell, plainV, plainC] <;> (split at hk <;> simp_all [Instr.sameNow])
theorem findNow_one {q : Sc} {d : TypeDesc} (hk : scalarT P k = some q) (hd : P.underlying k = some d) {key : V} : ∀ (kvs : List (V × V)) (i : Nat) (r : Option (Nat × V)), findM (.one q) key kvs i = some r → Instr.findNow d (plainV key) (esl kvs i) i = some (r.map fun x => (x.1, plainV x.2))
  | [], i, r, h => by
    simp only [findM, Option.some.injEq] at h
    subst h
    rfl
  | e :: kvs, i, r, h => by
    simp only [findM, Option.bind_eq_some_iff] at h
    obtain ⟨b, hb, h⟩ := h
    have h1 := same_one hk hd hb
    rw [esl_cons]
    simp only [Instr.findNow, mkE, h1]
    cases b with
    | true =>
      simp only [if_true, Option.some.injEq] at h
      subst h
      rfl
    | false =>
      simp only [Bool.false_eq_true, if_false] at h
      exact findNow_one hk hd kvs (i + 1) r h
theorem eq_many (E : Env) {ks : List Sc} (hf : flatT P k = some ks) {x y : V} (hx : isPlain x = true) (hy : isPlain y = true) {b : Bool} (h : eqKey (.many ks) x y = some b) : (Op.equal k (plainV x) (plainV y)).run P w = .ok b w := by
  obtain ⟨fs, hu, hst, hff⟩ := flatT_struct hf
  obtain ⟨xs, ys, rfl, rfl, _, _, h⟩ := eqKey_many h
  have hfo : P.fieldsOf k = fs := by simp only [Program.fieldsOf, hu]
  have hu2 : P.underlying k = some (.struct (P.fieldsOf k)) := by rw [hfo]; exact hu
  show (Op.equalIn 10000 k _ _).run P w = _
  simp only [plainV]
  rw [run_equalIn_struct w 9999 k _ _ hu2 hst, hfo]
  exact run_eqFields (E := E) 9998 _ _ fs.toList 0 ks xs ys b hff (by simpa using rep_cells_plain xs hx) (by simpa using rep_cells_plain ys hy) h
theorem findAsk_many (E : Env) {ks : List Sc} (hf : flatT P k = some ks) {key : V} (hkey : isPlain key = true) : ∀ (kvs : List (V × V)) (i : Nat) (r : Option (Nat × V)), (∀ x ∈ kvs, isPlain x.1 = true ∧ isPlain x.2 = true) → findM (.many ks) key kvs i = some r →
    (Instr.findAsking k (plainV key) (esl kvs i) i).run P w = .ok (r.map fun x => (x.1, plainV x.2)) w
  | [], i, r, _, h => by
    simp only [findM, Option.some.injEq] at h
    subst h
    simp [esl, Instr.findAsking]
  | e :: kvs, i, r, hp, h => by
    simp only [findM, Option.bind_eq_some_iff] at h
    obtain ⟨b, hb, h⟩ := h
    have h1 := eq_many E hf (w := w) hkey (hp e (List.mem_cons_self ..)).1 hb
    rw [esl_cons]
    simp only [Instr.findAsking, mkE, Sem.run_bind, h1, Result.andThen_ok]
    cases b with
    | true =>
      simp only [if_true, Option.some.injEq] at h
      subst h
      simp
    | false =>
      simp only [Bool.false_eq_true, if_false] at h ⊢
      exact findAsk_many E hf hkey kvs (i + 1) r (fun x hx => hp x (List.mem_cons_of_mem _ hx)) h
theorem run_find (E : Env) {kt : KT} (hk : keyT P k = some kt) {key : V} (hkey : isPlain key = true) {kvs : List (V × V)} (hp : ∀ x ∈ kvs, isPlain x.1 = true ∧ isPlain x.2 = true) {r : Option (Nat × V)} (h : findM kt key kvs 0 = some r) :
    (Instr.findKey k (plainV key) (esOf kvs).toList).run P w = .ok (r.map fun x => (x.1, plainV x.2)) w := by
  rw [esOf_toList]
  cases kt with
  | one q =>
    have hs := keyT_one hk
    have : ∃ d, P.underlying k = some d := by
      unfold scalarT at hs
      split at hs <;> rename_i hu <;> first | exact ⟨_, hu⟩ | cases hs
    obtain ⟨d, hd⟩ := this
    exact Go.MapKept.run_findKey hd (findNow_one hs hd kvs 0 r h)
  | many ks =>
    obtain ⟨hf, _⟩ := keyT_many hk
    obtain ⟨fs, hu, _, _⟩ := flatT_struct hf
    cases kvs with
    | nil =>
      simp only [findM, Option.some.injEq] at h
      subst h
      exact Go.MapKept.run_findKey hu rfl
    | cons e kvs =>
      have hn : Instr.findNow (.struct fs) (plainV key) (esl (e :: kvs) 0) 0 = none := by
        rw [esl_cons]
        simp only [Instr.findNow, Instr.sameNow]
      have := findAsk_many E hf (w := w) hkey (e :: kvs) 0 r hp h
      simp only [Instr.findKey, Sem.run_bind, run_underlying hu, Result.andThen_ok, hn, this]
theorem zip_same {α : Type} : ∀ (l : List α), ∀ x ∈ l.zip l, x.1 = x.2 ∧ x.1 ∈ l
  | [], x, h => by simp at h
  | y :: l, x, h => by
    simp only [List.zip_cons_cons, List.mem_cons] at h
    rcases h with rfl | h
    · exact ⟨rfl, List.mem_cons_self ..⟩
    · obtain ⟨h1, h2⟩ := zip_same l x h
      exact ⟨h1, List.mem_cons_of_mem _ h2⟩
theorem sameBits_scalar (n : Nat) {v : V} (h : (match v with | .int .. | .bool _ | .str _ => true | _ => false) = true) : Instr.sameBits n (plainC v) (plainC v) = true := by
  cases v <;> simp_all [plainC, Instr.sameBits]
  exact (Go.MapKept.bytes_beq _ _).2 rfl
theorem sameBits_plain {v : V} (h : isPlain v = true) : Instr.sameBits 10000 (plainV v) (plainV v) = true := by
  cases v with
  | agg cs =>
    simp only [plainV]
    rw [show (10000 : Nat) = 9999 + 1 from rfl, Instr.sameBits]
    simp only [beq_self_eq_true, Bool.true_and, List.all_eq_true]
    intro x hx
    obtain ⟨h1, h2⟩ := zip_same _ x hx
    obtain ⟨x1, x2⟩ := x
    simp only at h1
    subst h1
    simp only [List.mem_map] at h2
    obtain ⟨v, hv, rfl⟩ := h2
    unfold isPlain at h
    rw [List.all_eq_true] at h
    exact sameBits_scalar 9999 (h v hv)
  | int _ _ => simp [plainV, plainC, Instr.sameBits]
  | bool _ => simp [plainV, plainC, Instr.sameBits]
  | str _ => simp only [plainV, plainC, Instr.sameBits]; exact (Go.MapKept.bytes_beq _ _).2 rfl
  | _ => simp [isPlain] at h
theorem run_stays {v : V} (h : isPlain v = true) : (Instr.keyThatStays (plainV v) (plainV v)).run P w = .ok (plainV v) w := by
  simp only [Instr.keyThatStays, sameBits_plain h, if_true, Sem.run_pure]
theorem findM_get {kt : KT} {key : V} : ∀ (kvs : List (V × V)) (i j : Nat) (v : V), findM kt key kvs i = some (some (j, v)) → ∃ n kk, j = i + n ∧ kvs[n]? = some (kk, v) ∧ eqKey kt key kk = some true
  | [], i, j, v, h => by simp [findM] at h
  | e :: kvs, i, j, v, h => by
    simp only [findM, Option.bind_eq_some_iff] at h
    obtain ⟨b, hb, h⟩ := h
    cases b with
    | true =>
      simp only [if_true, Option.some.injEq, Prod.mk.injEq] at h
      obtain ⟨rfl, rfl⟩ := h
      exact ⟨0, e.1, rfl, rfl, hb⟩
    | false =>
      simp only [Bool.false_eq_true, if_false] at h
      obtain ⟨n, kk, h1, h2, h3⟩ := findM_get kvs (i + 1) j v h
      exact ⟨n + 1, kk, by omega, h2, h3⟩
theorem esOf_get (kvs : List (V × V)) (i : Nat) : (esOf kvs)[i]? = (kvs[i]?).map fun x => { key := plainV x.1, val := plainV x.2, born := i } := by
  unfold esOf
  rw [List.getElem?_toArray, List.getElem?_map, List.getElem?_zipIdx]
  cases kvs[i]? <;> simp
theorem esOf_size (kvs : List (V × V)) : (esOf kvs).size = kvs.length := by simp [esOf]
theorem esOf_push (kvs : List (V × V)) (k v : V) : (esOf kvs).push { key := plainV k, val := plainV v, born := kvs.length } = esOf (kvs ++ [(k, v)]) := by
  apply Array.ext_getElem?
  intro i
  rw [Array.getElem?_push, esOf_size, esOf_get, esOf_get]
  by_cases h : i = kvs.length
  · subst h; simp
  · rw [if_neg h]
    rcases Nat.lt_or_ge i kvs.length with hl | hl
    · rw [List.getElem?_append_left hl]
    · rw [List.getElem?_eq_none hl, List.getElem?_eq_none (by simp; omega)]
theorem esOf_set (kvs : List (V × V)) (i : Nat) (k v : V) (f : MapEntry → MapEntry) (h : ∀ x, kvs[i]? = some x → f { key := plainV x.1, val := plainV x.2, born := i } = { key := plainV k, val := plainV v, born := i }) : (esOf kvs).modify i f = esOf (kvs.set i (k, v)) := by
  apply Array.ext_getElem?
  intro j
  rw [Array.getElem?_modify, esOf_get, esOf_get, List.getElem?_set]
  by_cases hij : i = j
  · subst hij
    rw [if_pos rfl, if_pos rfl]
    cases hx : kvs[i]? with
    | none =>
      rw [if_neg]
      · rfl
      · intro hl
        rw [List.getElem?_eq_getElem hl] at hx
        cases hx
    | some x =>
      rw [if_pos (List.getElem?_eq_some_iff.1 hx).1]
      simp only [Option.map_some, h x hx]
  · rw [if_neg hij, if_neg hij]
end

/-! ### A new map; an entry written -/
structure PushedM (E E' : Env) : Prop where
  heap : E'.w.heap = E.w.heap.push (.map #[] 0)
  os : E'.w.os = E.w.os
  tape : E'.w.tape = E.w.tape
  output : E'.w.output = E.w.output
  phi : ∀ b, E'.φ b = if b = E.H.length then E.w.heap.size else E.φ b
  H : E'.H = E.H ++ [.mp []]
  lk : E'.lk = E.lk
  n : E'.n = E.n + 1
  m : E'.m = E.m
  hid : E'.hid = E.hid
  n0 : E.n = E.H.length
theorem PushedM.getH {E E' : Env} (h : PushedM E E') (b : Nat) : E'.H[b]? = if b = E.H.length then some (.mp []) else E.H[b]? := by
  rw [h.H]
  by_cases hb : b = E.H.length
  · subst hb; simp
  · rw [if_neg hb]
    rcases Nat.lt_or_ge b E.H.length with hl | hl
    · rw [List.getElem?_append_left hl]
    · rw [List.getElem?_eq_none (by simp; omega), List.getElem?_eq_none hl]
theorem PushedM.getW {E E' : Env} (h : PushedM E E') (g : Nat) : E'.w.heap[g]? = if g = E.w.heap.size then some (.map #[] 0) else E.w.heap[g]? := by
  rw [h.heap, Array.getElem?_push]
theorem PushedM.evo {E E' : Env} (h : PushedM E E') : Evo E E' where
  lk := h.lk
  os := h.os
  tape := h.tape
  output := h.output
  size := by rw [h.heap]; simp
  len := by rw [h.n]; omega
  mm := h.m
  cell := by
    intro g i u hc _
    have hg := cell_lt hc
    simp only [World.cell?, h.getW g] at hc ⊢
    rw [if_neg (by simp at hg; omega)]
    exact hc
  block := by
    intro g hg _
    rw [h.getW g, if_neg (by omega)]
  mono := by
    intro lv g i _ hu
    rcases hu with hu | hu
    · exact .inl (.inl (by rw [h.hid] at hu; exact hu))
    cases lv with
    | some lv =>
      obtain ⟨b, h1, h2, h3⟩ := hu
      rw [h.lk] at h2
      rw [h.getH b] at h3
      rw [h.phi b] at h1
      by_cases hb : b = E.H.length
      · rw [if_pos hb] at h1; right; omega
      · rw [if_neg hb] at h1 h3
        exact .inl (.inr ⟨b, h1, h2, h3⟩)
    | none =>
      obtain ⟨b, h1, h3⟩ := hu
      rw [h.getH b] at h3
      rw [h.phi b] at h1
      by_cases hb : b = E.H.length
      · rw [if_pos hb] at h1; right; omega
      · rw [if_neg hb] at h1 h3
        exact .inl (.inr ⟨b, h1, h3⟩)
  phi := by
    intro b hb hn
    have : b ≠ E.H.length := by have := h.n0; omega
    refine ⟨by rw [h.phi b, if_neg this], fun l n sz => ?_⟩
    rw [h.getH b, if_neg this]
    exact hn l n sz
  cells := by
    intro b hb hn sz cs
    have : b ≠ E.H.length := by have := h.n0; omega
    rw [h.getH b, if_neg this]
    exact hn sz cs
  bld := by
    intro b l n' sz' hb hB
    have hne : b ≠ E.H.length := by have := h.n0; omega
    rw [h.getH b, if_neg hne] at hB
    refine ⟨n', hB, Nat.le_refl _, fun _ => ⟨by rw [h.phi b, if_neg hne], fun c' t' hc => ⟨c', ?_, rfl⟩⟩⟩
    rw [h.getW]
    split
    · rename_i he
      have := Array.getElem?_eq_some_iff.1 hc |>.1
      omega
    · exact hc
  fresh := by
    intro b hl
    rw [h.getH b] at hl
    rw [h.phi b]
    by_cases hb : b = E.H.length
    · rw [if_pos hb]; exact .inr (Nat.le_refl _)
    · rw [if_neg hb] at hl ⊢; exact .inl ⟨rfl, hl⟩
  hid := fun g hg => by rw [h.hid]; exact hg
  hidF := fun g hg => .inl (by rw [h.hid] at hg; exact hg)
  hidW := fun g _ hl => by rw [h.getW g, if_neg (by omega)]

theorem PushedM.rel {E E' : Env} (h : PushedM E E') (hh : RelH E) : RelH E' where
  cells := by
    intro b sz cs hB
    rw [h.getH b] at hB
    rw [h.phi b]
    split at hB
    · cases hB
    · rename_i he
      obtain ⟨c', t', h1, h2, h3⟩ := hh.cells b sz cs hB
      rw [if_neg he, h.getW, if_neg (by have := Array.getElem?_eq_some_iff.1 h1 |>.1; omega)]
      exact ⟨c', t', h1, h2, fun i v hv => let ⟨u, h4, h5⟩ := h3 i v hv; ⟨u, h4, h.evo.rep hh v u h5⟩⟩
  dm := by rw [h.m, h.lk]; exact hh.dm
  lvl := by
    intro b l n sz hB
    rw [h.getH b] at hB
    rw [h.lk]
    split at hB
    · cases hB
    · exact hh.lvl b l n sz hB
  bld := by
    intro b l n sz hB
    rw [h.getH b] at hB
    rw [h.phi b]
    split at hB
    · cases hB
    · rename_i he
      obtain ⟨c', t', h1, h2⟩ := hh.bld b l n sz hB
      rw [if_neg he, h.getW, if_neg (by have := Array.getElem?_eq_some_iff.1 h1 |>.1; omega)]
      exact ⟨c', t', h1, h2⟩
  maps := by
    intro b kvs hB
    rw [h.getH b] at hB
    rw [h.phi b]
    split at hB
    · rename_i he
      simp only [Option.some.injEq, Blk.mp.injEq] at hB
      subst hB
      rw [if_pos he, h.getW, if_pos rfl]
      exact ⟨rfl, fun x hx => by cases hx⟩
    · rename_i he
      obtain ⟨h1, h2⟩ := hh.maps b kvs hB
      rw [if_neg he, h.getW, if_neg (by have := Array.getElem?_eq_some_iff.1 h1 |>.1; omega)]
      exact ⟨h1, h2⟩
  inj := by
    intro b b' h1 h2 he
    rw [h.getH] at h1 h2
    rw [h.phi, h.phi] at he
    by_cases hb : b = E.H.length <;> by_cases hb' : b' = E.H.length
    · omega
    · rw [if_pos hb, if_neg hb'] at he
      rw [if_neg hb'] at h2
      have := live_lt hh h2
      omega
    · rw [if_neg hb, if_pos hb'] at he
      rw [if_neg hb] at h1
      have := live_lt hh h1
      omega
    · rw [if_neg hb, if_neg hb'] at he
      rw [if_neg hb] at h1
      rw [if_neg hb'] at h2
      exact hh.inj b b' h1 h2 he
  hid := fun g hg => by
    rw [h.hid] at hg
    obtain ⟨h1, h2⟩ := hh.hid g hg
    refine ⟨by rw [h.heap, Array.size_push]; omega, fun b hl => ?_⟩
    rw [h.getH] at hl
    rw [h.phi]
    by_cases hb : b = E.H.length
    · rw [if_pos hb]; omega
    · rw [if_neg hb] at hl ⊢; exact h2 b hl
theorem PushedM.foreign {E E' : Env} (h : PushedM E E') {base nb d : Nat} (hb : base ≤ E.n) (hnb : nb ≤ E.n) (hd : d ≤ E.m) (hf : RelF E base nb d) (hh : RelH E) : RelF E' base nb d := by
  intro b sz cs hlt hB c' t' hc i v u hv hu
  have hne : b ≠ E.H.length := by have := h.n0; omega
  rw [h.getH, if_neg hne] at hB
  rw [h.phi, if_neg hne, h.getW] at hc
  split at hc
  · rename_i he
    have := live_lt hh (b := b) (by rw [hB]; trivial)
    omega
  · exact (h.evo.shrink hh hnb hd).rep v u (hf b sz cs hlt hB c' t' hc i v u hv hu)


structure WroteM (E E' : Env) (b : Nat) (kvs kvs' : List (V × V)) : Prop where
  heap : ∀ g, E'.w.heap[g]? = if g = E.φ b then some (.map (esOf kvs') kvs'.length) else E.w.heap[g]?
  size : E'.w.heap.size = E.w.heap.size
  os : E'.w.os = E.w.os
  tape : E'.w.tape = E.w.tape
  output : E'.w.output = E.w.output
  phi : E'.φ = E.φ
  H : E'.H = E.H.set b (.mp kvs')
  lk : E'.lk = E.lk
  n : E'.n = E.n
  m : E'.m = E.m
  hid : E'.hid = E.hid
  was : E.H[b]? = some (.mp kvs)
  row : E.w.heap[E.φ b]? = some (.map (esOf kvs) kvs.length)
  nohid : E.φ b ∉ E.hid
  free : unlocked E.lk b = true
theorem WroteM.getH {E E' : Env} {b : Nat} {kvs kvs' : List (V × V)} (h : WroteM E E' b kvs kvs') (x : Nat) : E'.H[x]? = if b = x then some (.mp kvs') else E.H[x]? := by
  rw [h.H, set_get]
  have := (List.getElem?_eq_some_iff.1 h.was).1
  simp [this]
theorem WroteM.evo {E E' : Env} {b : Nat} {kvs kvs' : List (V × V)} (h : WroteM E E' b kvs kvs') : Evo E E' where
  lk := h.lk
  os := h.os
  tape := h.tape
  output := h.output
  size := by rw [h.size]; exact Nat.le_refl _
  len := by rw [h.n]; exact Nat.le_refl _
  mm := h.m
  cell := by
    intro g i u hc _
    have hne : g ≠ E.φ b := by
      rintro rfl
      simp only [World.cell?, h.row] at hc
      cases hc
    simp only [World.cell?, h.heap g, if_neg hne] at hc ⊢
    exact hc
  block := by
    intro g hg hu
    rw [h.heap g, if_neg]
    rintro rfl
    refine hu 0 (.inr ⟨b, rfl, unlocked_take _ h.free, ?_⟩)
    rw [h.was]
    trivial
  mono := by
    intro lv g i _ hu
    rcases hu with hu | hu
    · exact .inl (.inl (by rw [h.hid] at hu; exact hu))
    cases lv with
    | some lv =>
      obtain ⟨x, h1, h2, h3⟩ := hu
      rw [h.lk] at h2
      rw [h.phi] at h1
      rw [h.getH x] at h3
      refine .inl (.inr ⟨x, h1, h2, ?_⟩)
      by_cases hb : b = x
      · subst hb; rw [h.was]; trivial
      · rw [if_neg hb] at h3; exact h3
    | none =>
      obtain ⟨x, h1, h3⟩ := hu
      rw [h.phi] at h1
      rw [h.getH x] at h3
      refine .inl (.inr ⟨x, h1, ?_⟩)
      by_cases hb : b = x
      · subst hb; rw [h.was]; trivial
      · rw [if_neg hb] at h3; exact h3
  phi := by
    intro x hx hn
    refine ⟨by rw [h.phi], fun l n sz => ?_⟩
    rw [h.getH x]
    split
    · simp
    · exact hn l n sz
  cells := by
    intro x hx hn sz cs
    rw [h.getH x]
    split
    · simp
    · exact hn sz cs
  bld := by
    intro x l n' sz' hx hB
    rw [h.getH x] at hB
    by_cases hb : b = x
    · rw [if_pos hb] at hB; cases hB
    · rw [if_neg hb] at hB
      refine ⟨n', hB, Nat.le_refl _, fun _ => ⟨by rw [h.phi], fun c2 t2 hc => ⟨c2, ?_, rfl⟩⟩⟩
      rw [h.heap, if_neg]
      · exact hc
      · intro e
        rw [e, h.row] at hc
        cases hc
  fresh := by
    intro x hl
    rw [h.getH x] at hl
    rw [h.phi]
    refine .inl ⟨rfl, ?_⟩
    by_cases hb : b = x
    · subst hb; rw [h.was]; trivial
    · rw [if_neg hb] at hl; exact hl
  hid := fun g hg => by rw [h.hid]; exact hg
  hidF := fun g hg => .inl (by rw [h.hid] at hg; exact hg)
  hidW := fun g hg _ => by rw [h.heap g, if_neg (fun e => h.nohid (by rw [← e]; exact hg))]
theorem WroteM.rel {E E' : Env} {b : Nat} {kvs kvs' : List (V × V)} (h : WroteM E E' b kvs kvs') (hh : RelH E) (hp : ∀ x ∈ kvs', isPlain x.1 = true ∧ isPlain x.2 = true) : RelH E' where
  cells := by
    intro x sz cs hB
    rw [h.getH x] at hB
    rw [h.phi]
    by_cases hx : b = x
    · rw [if_pos hx] at hB; cases hB
    · rw [if_neg hx] at hB
      obtain ⟨c2, t2, h1, h2, h3⟩ := hh.cells x sz cs hB
      rw [h.heap, if_neg (by intro e; rw [e, h.row] at h1; cases h1)]
      exact ⟨c2, t2, h1, h2, fun i v hv => let ⟨u, h4, h5⟩ := h3 i v hv; ⟨u, h4, h.evo.rep hh v u h5⟩⟩
  dm := by rw [h.m, h.lk]; exact hh.dm
  lvl := by
    intro x l n sz hB
    rw [h.getH x] at hB
    rw [h.lk]
    by_cases hx : b = x
    · rw [if_pos hx] at hB; cases hB
    · rw [if_neg hx] at hB
      exact hh.lvl x l n sz hB
  bld := by
    intro x l n sz hB
    rw [h.getH x] at hB
    rw [h.phi]
    by_cases hx : b = x
    · rw [if_pos hx] at hB; cases hB
    · rw [if_neg hx] at hB
      obtain ⟨c2, t2, h1, h2⟩ := hh.bld x l n sz hB
      rw [h.heap, if_neg (by intro e; rw [e, h.row] at h1; cases h1)]
      exact ⟨c2, t2, h1, h2⟩
  maps := by
    intro x ks hB
    rw [h.getH x] at hB
    rw [h.phi]
    by_cases hx : b = x
    · subst hx
      rw [if_pos rfl] at hB
      simp only [Option.some.injEq, Blk.mp.injEq] at hB
      subst hB
      rw [h.heap, if_pos rfl]
      exact ⟨rfl, hp⟩
    · rw [if_neg hx] at hB
      obtain ⟨h1, h2⟩ := hh.maps x ks hB
      have hne : E.φ x ≠ E.φ b := fun e => hx (hh.inj b x (by rw [h.was]; trivial) (by rw [hB]; trivial) e.symm)
      rw [h.heap, if_neg hne]
      exact ⟨h1, h2⟩
  inj := by
    intro x y h1 h2 he
    rw [h.getH] at h1 h2
    rw [h.phi] at he
    refine hh.inj x y ?_ ?_ he
    · by_cases hx : b = x
      · subst hx; rw [h.was]; trivial
      · rw [if_neg hx] at h1; exact h1
    · by_cases hx : b = y
      · subst hx; rw [h.was]; trivial
      · rw [if_neg hx] at h2; exact h2
  hid := fun g hg => by
    rw [h.hid] at hg
    obtain ⟨h1, h2⟩ := hh.hid g hg
    refine ⟨by rw [h.size]; exact h1, fun x hl => ?_⟩
    rw [h.getH] at hl
    rw [h.phi]
    by_cases hx : b = x
    · subst hx; exact fun e => h.nohid (e ▸ hg)
    · rw [if_neg hx] at hl; exact h2 x hl
theorem WroteM.foreign {E E' : Env} {b : Nat} {kvs kvs' : List (V × V)} (h : WroteM E E' b kvs kvs') {base nb d : Nat} (hnb : nb ≤ E.n) (hd : d ≤ E.m) (hf : RelF E base nb d) (hh : RelH E) : RelF E' base nb d := by
  intro x sz cs hlt hB c2 t2 hc i v u hv hu
  rw [h.getH] at hB
  by_cases hx : b = x
  · rw [if_pos hx] at hB; cases hB
  · rw [if_neg hx] at hB
    rw [h.phi, h.heap] at hc
    split at hc
    · cases hc
    · exact (h.evo.shrink hh hnb hd).rep v u (hf x sz cs hlt hB c2 t2 hc i v u hv hu)

section
variable {c : Cx} {E : Env} {S : St} {a : Act} {o : Oper}
theorem PushedM.after (hs : Sim c E S a) {E' : Env} (h : PushedM E E') (hr : RelH E') : After c E E' (S.H ++ [.mp []]) where
  H := by rw [h.H, hs.H]
  n := by rw [h.n, hs.n]; simp
  m := h.m
  evo := h.evo
  heap := hr
  forN := fun _ base nb d hb hn hd hf => h.foreign (by have := hs.base; have := hs.n; omega) hn hd hf hs.heap
  forG := fun _ base d hb hd hf => (h.foreign (by have := hs.base; have := hs.n; omega) (Nat.le_refl _) hd hf hs.heap).up h.evo.len
  kept := fun b hb _ => by rw [hs.H, List.getElem?_append_left (by have := hs.base; omega)]
theorem WroteM.after (hs : Sim c E S a) {E' : Env} {b : Nat} {kvs kvs' : List (V × V)} (h : WroteM E E' b kvs kvs') (hm : c.mayWrite b = true) (hr : RelH E') : After c E E' (S.H.set b (.mp kvs')) where
  H := by rw [h.H, hs.H]
  n := by rw [h.n, hs.n]; simp
  m := h.m
  evo := h.evo
  heap := hr
  forN := fun _ base nb d hb hn hd hf => h.foreign hn hd hf hs.heap
  forG := fun _ base d hb hd hf => (h.foreign (Nat.le_refl _) hd hf hs.heap).up h.evo.len
  kept := fun x hx hl => by
    rw [hs.H, set_get, if_neg]
    rintro ⟨rfl, _⟩
    unfold Cx.mayWrite at hm
    simp only [Bool.or_eq_true, decide_eq_true_eq] at hm
    rcases hm with hm | hm
    · omega
    · rw [hm] at hl; cases hl

theorem undef_rep0 (E : Env) : RepV E undefV undef := by
  simp only [undefV, RepV]
  exact ⟨#[], rfl, by simp only [RepVs]⟩
theorem makes_makeMap (hs : Sim c E S a) {t : TypeId} (ho : o.op = .makeMap t none) : Makes c E a o (.mref S.H.length) (S.H ++ [.mp []]) := by
  have hp : PushedM E { w := E.w.alloc (.map #[] 0), φ := fun b => if b = E.H.length then E.w.heap.size else E.φ b, H := E.H ++ [.mp []], lk := E.lk, n := E.n + 1, m := E.m, hid := E.hid } :=
    ⟨rfl, rfl, rfl, rfl, fun _ => rfl, rfl, rfl, rfl, rfl, rfl, by rw [hs.n, hs.H]⟩
  refine ⟨_, hp.after hs (hp.rel hs.heap), .inl ⟨.map (some E.w.heap.size), ?_, ?_⟩⟩
  · simp only [execOp, ho]; rfl
  · simp only [RepV]
    rw [hs.H, hs.n]
    refine ⟨by omega, by rw [if_pos rfl], fun l n z => ?_⟩
    simp
/-- A map's row in memory. -/
theorem map_row (hs : Sim c E S a) {b : Nat} {kvs : List (V × V)} (hb : S.H[b]? = some (.mp kvs)) {u : Value} (hr : RepV E (.mref b) u) : u = .map (some (E.φ b)) ∧ E.w.heap[E.φ b]? = some (.map (esOf kvs) kvs.length) ∧ ∀ x ∈ kvs, isPlain x.1 = true ∧ isPlain x.2 = true := by
  simp only [RepV] at hr
  have := hs.heap.maps b kvs (by rw [hs.H]; exact hb)
  exact ⟨hr.2.1, this.1, this.2⟩
theorem mapK_some {P : Program} {t : TypeId} {q : KT × TypeId} (h : mapK P t = some q) : ∃ k, P.underlying t = some (.map k q.2) ∧ keyT P k = some q.1 := by
  unfold mapK at h
  split at h
  case h_2 => cases h
  rename_i k e hu
  simp only [Option.map_eq_some_iff] at h
  obtain ⟨kt, h1, rfl⟩ := h
  exact ⟨k, hu, h1⟩
theorem zero1_run {P : Program} {e : TypeId} {z : V} (h : zero1 P e = some z) (w : World) : ∃ x, (zeroValue e).run P w = .ok x w ∧ ofValue x = some z := by
  unfold zero1 at h
  simp only [Option.bind_eq_some_iff] at h
  obtain ⟨x, ⟨i, h1, h2⟩, h3⟩ := h
  exact ⟨x, by simp [zeroValue, typeInfo, h1, h2], h3⟩
theorem gives_lookup (hs : Sim c E S a) {t : TypeId} {x k : Operand} {ok : Bool} {m kv v : V} (ho : o.op = .lookup t x k ok) (hx : ev S.T x = some m) (hk : ev S.T k = some kv) (h : lookK c.P t S.H m kv ok = some v) : Gives c E a o v := by
  have r1 := rep_ev hs x _ hx
  have r2 := rep_ev hs k _ hk
  unfold lookK at h
  split at h
  case h_2 => cases h
  rename_i b
  split at h
  case h_2 => cases h
  rename_i kvs hb
  simp only [Option.bind_eq_some_iff] at h
  obtain ⟨q, hq, h⟩ := h
  split at h
  case isFalse => cases h
  rename_i hc
  simp only [Option.bind_eq_some_iff] at h
  obtain ⟨r, hr, h⟩ := h
  obtain ⟨e1, e2, e3⟩ := map_row hs hb r1
  obtain ⟨kt, hu, hkt⟩ := mapK_some hq
  have ek := plain_rep hc.1 r2
  have hchk := run_check (P := c.P) (w := E.w) hkt hc.2 (esOf kvs).isEmpty
  have hfind := run_find (P := c.P) (w := E.w) E hkt hc.1 e3 hr
  cases r with
  | some r =>
    obtain ⟨j, vv⟩ := r
    simp only [Option.some.injEq] at h
    obtain ⟨n, kk, h1, h2, h3⟩ := findM_get kvs 0 j vv hr
    have hpl := (e3 _ (List.mem_of_getElem? h2)).2
    refine ⟨if ok then .tuple #[plainV vv, .bool true] else plainV vv, ?_, ?_⟩
    · simp only [execOp, ho, Instr.lookup, e1, ek, Sem.run_bind, run_underlying hu, Result.andThen_ok, Go.MapKept.run_getObj_map e2, Sem.run_pure, hchk, hfind, Option.map_some]
    · subst h
      cases ok with
      | true =>
        simp only [if_true, RepV]
        refine ⟨_, rfl, ?_⟩
        simp only [RepVs, RepV]
        exact ⟨_, _, rfl, rep_plain E hpl, _, _, rfl, rfl, rfl⟩
      | false => exact rep_plain E hpl
  | none =>
    simp only [Option.map_eq_some_iff] at h
    obtain ⟨z, hz, rfl⟩ := h
    obtain ⟨zx, hzr, hzo⟩ := zero1_run hz E.w
    refine ⟨if ok then .tuple #[zx, .bool false] else zx, ?_, ?_⟩
    · simp only [execOp, ho, Instr.lookup, e1, ek, Sem.run_bind, run_underlying hu, Result.andThen_ok, Go.MapKept.run_getObj_map e2, Sem.run_pure, hchk, hfind, Option.map_none, hzr]
    · have hrz := rep_ofValue E zx z hzo
      cases ok with
      | true =>
        simp only [if_true, RepV]
        refine ⟨_, rfl, ?_⟩
        simp only [RepVs, RepV]
        exact ⟨_, _, rfl, hrz, _, _, rfl, rfl, rfl⟩
      | false => exact hrz

def Env.mset (E : Env) (b : Nat) (kvs' : List (V × V)) : Env := { E with w := { E.w with heap := E.w.heap.setIfInBounds (E.φ b) (.map (esOf kvs') kvs'.length) }, H := E.H.set b (.mp kvs') }
theorem wroteM {b : Nat} {kvs kvs' : List (V × V)} (hrow : E.w.heap[E.φ b]? = some (.map (esOf kvs) kvs.length)) (hb : E.H[b]? = some (.mp kvs)) (hfree : unlocked E.lk b = true) (hnh : E.φ b ∉ E.hid) : WroteM E (E.mset b kvs') b kvs kvs' where
  heap := fun g => by
    show (E.w.heap.setIfInBounds (E.φ b) _)[g]? = _
    rw [Array.getElem?_setIfInBounds]
    have := (Array.getElem?_eq_some_iff.1 hrow).1
    by_cases hg : E.φ b = g
    · rw [if_pos hg, if_pos hg.symm, if_pos (by omega)]
    · rw [if_neg hg, if_neg (fun e => hg e.symm)]
  size := by show (E.w.heap.setIfInBounds _ _).size = _; simp
  os := rfl
  tape := rfl
  output := rfl
  phi := rfl
  H := rfl
  lk := rfl
  n := rfl
  m := rfl
  was := hb
  hid := rfl
  nohid := hnh
  row := hrow
  free := hfree
theorem wp_mset (hs : Sim c E S a) {b : Nat} {kvs kvs' : List (V × V)} (hb : S.H[b]? = some (.mp kvs)) (hrow : E.w.heap[E.φ b]? = some (.map (esOf kvs) kvs.length)) (hm : c.mayWrite b = true) (hp : ∀ x ∈ kvs', isPlain x.1 = true ∧ isPlain x.2 = true) : After c E (E.mset b kvs') (S.H.set b (.mp kvs')) := by
  have hw := wroteM (kvs' := kvs') hrow (by rw [hs.H]; exact hb) (by rw [hs.lk]; exact unlocked_base hs.locks hm) (fun e => (hs.heap.hid _ e).2 b (by rw [hs.H, hb]; trivial) rfl)
  exact hw.after hs hm (hw.rel hs.heap hp)
theorem makes_update (hs : Sim c E S a) {t : TypeId} {x k y : Operand} {m kv v : V} {H' : Heap} (ho : o.op = .mapUpdate t x k y) (hx : ev S.T x = some m) (hk : ev S.T k = some kv) (hy : ev S.T y = some v) (h : updK c t S.H m kv v = some H') : Makes c E a o undefV H' := by
  have r1 := rep_ev hs x _ hx
  have r2 := rep_ev hs k _ hk
  have r3 := rep_ev hs y _ hy
  unfold updK at h
  split at h
  case h_2 => cases h
  rename_i b
  split at h
  case h_2 => cases h
  rename_i kvs hb
  simp only [Option.bind_eq_some_iff] at h
  obtain ⟨q, hq, h⟩ := h
  split at h
  case isFalse => cases h
  rename_i hc
  obtain ⟨c1, c2, c3, c4⟩ := hc
  simp only [Option.map_eq_some_iff] at h
  obtain ⟨r, hr, h⟩ := h
  obtain ⟨e1, e2, e3⟩ := map_row hs hb r1
  obtain ⟨kt, hu, hkt⟩ := mapK_some hq
  have ek := plain_rep c1 r2
  have ev' := plain_rep c2 r3
  have hchk := run_check (P := c.P) (w := E.w) hkt c3 false
  have hfind := run_find (P := c.P) (w := E.w) E hkt c1 e3 hr
  have hmem : ∀ (l : List (V × V)), (∀ x ∈ l, x ∈ kvs ∨ x = (kv, v)) → ∀ x ∈ l, isPlain x.1 = true ∧ isPlain x.2 = true := fun l hl x hx => by
    rcases hl x hx with h | rfl
    · exact e3 x h
    · exact ⟨c1, c2⟩
  cases r with
  | some r =>
    obtain ⟨j, vv⟩ := r
    simp only [] at h
    subst h
    obtain ⟨n, kk, h1, h2, h3⟩ := findM_get kvs 0 j vv hr
    have hj : j = n := by omega
    subst hj
    have hkk := eqKey_plain hkt h3
    refine ⟨_, wp_mset hs hb e2 c4 (hmem _ fun x hx => ?_), .inr ⟨?_, undef_rep0 _⟩⟩
    · rcases List.mem_or_eq_of_mem_set hx with h | h
      · exact .inl h
      · exact .inr h
    · have hst := run_stays (P := c.P) (w := E.w) c1
      have hes : (esOf kvs)[j]? = some { key := plainV kv, val := plainV vv, born := j } := by rw [esOf_get, h2, hkk]; rfl
      have hset := esOf_set kvs j kv v (fun e => { e with key := plainV kv, val := plainV v }) (fun _ _ => rfl)
      simp only [execOp, ho, Instr.mapUpdate, e1, ek, ev', Sem.run_bind, run_underlying hu, Result.andThen_ok, Go.MapKept.run_getObj_map e2, Sem.run_pure, hchk, hfind, Option.map_some, hes, Option.getD_some, hst, Go.MapKept.run_setObj_map _ e2]
      rw [hset]
      show _ = Result.ok _ ({ E.w with heap := E.w.heap.setIfInBounds (E.φ b) (.map (esOf (kvs.set j (kv, v))) (kvs.set j (kv, v)).length) })
      rw [List.length_set]
  | none =>
    simp only [] at h
    subst h
    refine ⟨_, wp_mset hs hb e2 c4 (hmem _ fun x hx => ?_), .inr ⟨?_, undef_rep0 _⟩⟩
    · rcases List.mem_append.1 hx with h | h
      · exact .inl h
      · exact .inr (List.mem_singleton.1 h)
    · have hpush := esOf_push kvs kv v
      simp only [execOp, ho, Instr.mapUpdate, e1, ek, ev', Sem.run_bind, run_underlying hu, Result.andThen_ok, Go.MapKept.run_getObj_map e2, Sem.run_pure, hchk, hfind, Option.map_none, Go.MapKept.run_setObj_map _ e2]
      rw [hpush]
      show _ = Result.ok _ ({ E.w with heap := E.w.heap.setIfInBounds (E.φ b) (.map (esOf (kvs ++ [(kv, v)])) (kvs ++ [(kv, v)]).length) })
      rw [List.length_append]
      rfl
theorem rep_tup2 {E : Env} {z : V} {u : Value} {i : Nat} (h : RepV E z u) : RepV E (.tup [z, .int .i64 i]) (.tuple #[u, .int .i64 i]) := by
  simp only [RepV]
  refine ⟨_, rfl, ?_⟩
  simp only [RepVs, RepV]
  exact ⟨_, _, rfl, h, _, _, rfl, rfl, rfl⟩
theorem makes_entry (hs : Sim c E S a) {t : TypeId} {x k : Operand} {m kv v : V} {H' : Heap} (ho : o.op = .mapEntry t x k) (hx : ev S.T x = some m) (hk : ev S.T k = some kv) (h : entryK c t S.H m kv = some (v, H')) : Makes c E a o v H' := by
  have r1 := rep_ev hs x _ hx
  have r2 := rep_ev hs k _ hk
  unfold entryK at h
  split at h
  case h_2 => cases h
  rename_i b
  split at h
  case h_2 => cases h
  rename_i kvs hb
  simp only [Option.bind_eq_some_iff] at h
  obtain ⟨q, hq, h⟩ := h
  split at h
  case isFalse => cases h
  rename_i hc
  obtain ⟨c1, c3, c4⟩ := hc
  simp only [Option.bind_eq_some_iff] at h
  obtain ⟨r, hr, h⟩ := h
  obtain ⟨e1, e2, e3⟩ := map_row hs hb r1
  obtain ⟨kt, hu, hkt⟩ := mapK_some hq
  have ek := plain_rep c1 r2
  have hchk := run_check (P := c.P) (w := E.w) hkt c3 false
  have hfind := run_find (P := c.P) (w := E.w) E hkt c1 e3 hr
  cases r with
  | some r =>
    obtain ⟨j, vv⟩ := r
    simp only [Option.some.injEq, Prod.mk.injEq] at h
    obtain ⟨rfl, rfl⟩ := h
    obtain ⟨n, kk, h1, h2, h3⟩ := findM_get kvs 0 j vv hr
    have hj : j = n := by omega
    subst hj
    have hkk := eqKey_plain hkt h3
    have hpl := (e3 _ (List.mem_of_getElem? h2)).2
    have hA := wp_mset (kvs' := kvs.set j (kv, vv)) hs hb e2 c4 (fun x hx => by
      rcases List.mem_or_eq_of_mem_set hx with h | h
      · exact e3 x h
      · subst h; exact ⟨c1, hpl⟩)
    refine ⟨_, hA, .inl ⟨.tuple #[plainV vv, .int .i64 j], ?_, rep_tup2 (rep_plain _ hpl)⟩⟩
    have hst := run_stays (P := c.P) (w := E.w) c1
    have hes : (esOf kvs)[j]? = some { key := plainV kv, val := plainV vv, born := j } := by rw [esOf_get, h2, hkk]; rfl
    have hset := esOf_set kvs j kv vv (fun e => { e with key := plainV kv }) (fun x hx => by rw [h2] at hx; cases hx; rfl)
    simp only [execOp, ho, Instr.mapEntry, e1, ek, Sem.run_bind, run_underlying hu, Result.andThen_ok, Go.MapKept.run_getObj_map e2, Sem.run_pure, hchk, hfind, Option.map_some, hes, Option.getD_some, hst, Go.MapKept.run_setObj_map _ e2]
    rw [hset]
    show _ = Result.ok _ ({ E.w with heap := E.w.heap.setIfInBounds (E.φ b) (.map (esOf (kvs.set j (kv, vv))) (kvs.set j (kv, vv)).length) })
    rw [List.length_set]
    rfl
  | none =>
    simp only [Option.bind_eq_some_iff] at h
    obtain ⟨z, hz, h⟩ := h
    split at h
    case isFalse => cases h
    rename_i hzp
    simp only [Option.some.injEq, Prod.mk.injEq] at h
    obtain ⟨rfl, rfl⟩ := h
    obtain ⟨zx, hzr, hzo⟩ := zero1_run hz E.w
    have ez : zx = plainV z := plain_rep hzp (rep_ofValue E zx z hzo)
    have hA := wp_mset (kvs' := kvs ++ [(kv, z)]) hs hb e2 c4 (fun x hx => by
      rcases List.mem_append.1 hx with h | h
      · exact e3 x h
      · rw [List.mem_singleton.1 h]; exact ⟨c1, hzp⟩)
    refine ⟨_, hA, .inl ⟨.tuple #[zx, .int .i64 kvs.length], ?_, rep_tup2 (by rw [ez]; exact rep_plain _ hzp)⟩⟩
    have hpush := esOf_push kvs kv z
    rw [← ez] at hpush
    simp only [execOp, ho, Instr.mapEntry, e1, ek, Sem.run_bind, run_underlying hu, Result.andThen_ok, Go.MapKept.run_getObj_map e2, Sem.run_pure, hchk, hfind, Option.map_none, hzr, Go.MapKept.run_setObj_map _ e2]
    rw [hpush]
    show _ = Result.ok _ ({ E.w with heap := E.w.heap.setIfInBounds (E.φ b) (.map (esOf (kvs ++ [(kv, z)])) (kvs ++ [(kv, z)]).length) })
    rw [List.length_append]
    rfl
theorem makes_enter (hs : Sim c E S a) {t : TypeId} {x st y : Operand} {m sv v : V} {H' : Heap} (ho : o.op = .entryStore t x st y) (hx : ev S.T x = some m) (hst : ev S.T st = some sv) (hy : ev S.T y = some v) (h : enterK c S.H m sv v = some H') : Makes c E a o undefV H' := by
  have r1 := rep_ev hs x _ hx
  have r2 := rep_ev hs st _ hst
  have r3 := rep_ev hs y _ hy
  unfold enterK at h
  split at h
  case h_2 => cases h
  rename_i b kd i
  split at h
  case h_2 => cases h
  rename_i kvs hb
  split at h
  case isFalse => cases h
  rename_i hc
  obtain ⟨c1, c2, c4⟩ := hc
  simp only [Option.map_eq_some_iff] at h
  obtain ⟨e, he, rfl⟩ := h
  obtain ⟨e1, e2, e3⟩ := map_row hs hb r1
  simp only [RepV] at r2
  have ev' := plain_rep c2 r3
  have hel := e3 _ (List.mem_of_getElem? he)
  have hA := wp_mset (kvs' := kvs.set i.toNat (e.1, v)) hs hb e2 c4 (fun x hx => by
    rcases List.mem_or_eq_of_mem_set hx with h | h
    · exact e3 x h
    · subst h; exact ⟨hel.1, c2⟩)
  refine ⟨_, hA, .inr ⟨?_, undef_rep0 _⟩⟩
  have hlt := (List.getElem?_eq_some_iff.1 he).1
  have hfi : (esOf kvs).findIdx? (fun e => (e.born : Int) == i) = some i.toNat := by
    rw [Array.findIdx?_eq_some_iff_getElem]
    have hg : ∀ j (hj : j < (esOf kvs).size), (esOf kvs)[j].born = j := by
      intro j hj
      have h1 := esOf_get kvs j
      rw [Array.getElem?_eq_getElem hj] at h1
      have hj' : j < kvs.length := by rw [← esOf_size]; exact hj
      rw [List.getElem?_eq_getElem hj'] at h1
      simp only [Option.map_some, Option.some.injEq] at h1
      rw [h1]
    refine ⟨by rw [esOf_size]; exact hlt, ?_, fun j hj => ?_⟩
    · rw [hg]
      simp only [beq_iff_eq]
      omega
    · rw [hg]
      simp only [beq_iff_eq]
      omega
  have hset := esOf_set kvs i.toNat e.1 v (fun e => { e with val := plainV v }) (fun x hx => by rw [he] at hx; cases hx; rfl)
  simp only [execOp, ho, Instr.entryStore, e1, r2, ev', asInt, asIntOf, Sem.run_bind, Result.andThen_ok, Go.MapKept.run_getObj_map e2, Sem.run_pure, hfi, Go.MapKept.run_setObj_map _ e2]
  rw [hset]
  show _ = Result.ok _ ({ E.w with heap := E.w.heap.setIfInBounds (E.φ b) (.map (esOf (kvs.set i.toNat (e.1, v))) (kvs.set i.toNat (e.1, v)).length) })
  rw [List.length_set]
end

end Go.Proofs.Ytblodpbcinkehaa.K
