/-
  Each operation but a call of a function gives in the model what it gives in the interpreter. No conditions.
-/
import Derived.Test.YtblodpbcinkehaaKfm
set_option linter.unusedVariables false
set_option linter.unusedSimpArgs false
namespace Go.Proofs.Ytblodpbcinkehaa.K

section
variable {c : Cx} {E : Env} {S : St} {a : Act} {o : Oper}

theorem rep_row (hs : Sim c E S a) {v : V} {u : Value} {len : Nat} (hr : RepV E v u) : 
    (∀ lv cs, v = .lit lv len cs → lv ≤ E.m ∧ ∃ A cap, u = .slice A len cap ∧ len ≤ cap ∧ (len = 0 ∨ ∃ g q, A = some ⟨g, q, none⟩ ∧ RepL E (some lv) g q cs)) ∧
    (∀ cs, v = .tl len cs → ∃ A cap, u = .slice A len cap ∧ len ≤ cap ∧ (len = 0 ∨ ∃ g q, A = some ⟨g, q, none⟩ ∧ RepL E (some 0) g q cs)) ∧
    (∀ b cs, v = .snap b len cs → ∃ A cap, u = .slice A len cap ∧ len ≤ cap ∧ ∃ g q, A = some ⟨g, q, none⟩ ∧ RepL E (some c.d) g q cs) := by
  refine ⟨?_, ?_, ?_⟩
  · rintro lv cs rfl
    simp only [RepV] at hr
    exact hr
  · rintro cs rfl
    simp only [RepV] at hr
    obtain ⟨A, h1, h2⟩ := hr
    exact ⟨A, len, h1, Nat.le_refl _, h2⟩
  · rintro b cs rfl
    simp only [RepV] at hr
    obtain ⟨_, ⟨A, cap, h1, h2, ⟨g, q, h3, _, h4⟩, _⟩, _⟩ := hr
    exact ⟨A, cap, h1, h2, g, q, h3, RepL.all hs.heap (by rw [hs.lk]; exact Nat.le_refl _) h4⟩

theorem rep_pre (hs : Sim c E S a) {b m0 len : Nat} {cs : List V} {u : Value} (hr : RepV E (.pre b m0 len cs) u) : ∃ A cap, u = .slice A len cap ∧ len ≤ cap ∧ ∃ g q, A = some ⟨g, q, none⟩ ∧ RepL E (some c.d) g q cs := by
  simp only [RepV] at hr
  obtain ⟨_, ⟨A, cap, h1, h2, ⟨g, q, h3, _, h4⟩, _⟩, _⟩ := hr
  exact ⟨A, cap, h1, h2, g, q, h3, RepL.all hs.heap (by rw [hs.lk]; exact Nat.le_refl _) h4⟩
theorem gives_slice_pre (hs : Sim c E S a) {t e : TypeId} {x : Operand} {lo hi : Option Operand} {b m0 len h sz : Nat} {cs : List V} (ho : o.op = .slice t x lo hi none) (ht : elemT c.P t = some e) (hz : szOf c.P e = some sz)
    (hx : ev S.T x = some (.pre b m0 len cs)) (hlo : boundK S.T 0 lo = some 0) (hhi : boundK S.T len hi = some h) (hhl : h ≤ len) : Gives c E a o (.pre b m0 h (cs.take (h * sz))) := by
  have hr := rep_ev hs x _ hx
  simp only [RepV] at hr
  obtain ⟨hb, ⟨A, cap, hv, hlc, ⟨g, q, hA, haw, hr⟩, hcur⟩, hnc⟩ := hr
  refine ⟨_, by simp only [execOp, ho, hv, run_sliceAt hs lo hi ht hz hlo hhi hlc (Nat.zero_le _) hhl, Sem.run_bind, Result.andThen_ok, Sem.run_pure, Option.map_none]; rfl, ?_⟩
  have e : (if cap = 0 then A else A.map (·.add (0 * sz))) = A := by
    split
    · rfl
    · rw [hA, Nat.zero_mul]; simp only [Option.map_some, Addr.add_lit, Nat.add_zero]
  simp only [RepV]
  rw [e, Nat.sub_zero, Nat.sub_zero]
  refine ⟨hb, ⟨A, cap, rfl, by omega, ⟨g, q, hA, fun hl => haw (by rw [List.length_take] at hl; omega), ?_⟩, hcur⟩, hnc⟩
  have := repL_take cs q 0 (h * sz) hr
  simpa using this

theorem d_le (hs : Sim c E S a) : c.d ≤ E.m := by rw [hs.m]; exact Nat.le_refl _

theorem makes_op (hs : Sim c E S a) {v : V} {H' : Heap} (hc : isCall o = false) (h : opK c o S = some (v, H')) : Makes c E a o v H' := by
  cases ho : o.op with
  | move x =>
    simp only [opK, ho, Option.map_eq_some_iff, Prod.mk.injEq] at h
    obtain ⟨_, hx, rfl, rfl⟩ := h
    exact (gives_move hs ho hx).makes hs
  | assign x =>
    simp only [opK, ho, Option.map_eq_some_iff, Prod.mk.injEq] at h
    obtain ⟨_, hx, rfl, rfl⟩ := h
    exact (gives_assign hs ho hx).makes hs
  | pick k x y =>
    simp only [opK, ho] at h
    split at h
    · rename_i hk
      simp only [Option.map_eq_some_iff, Prod.mk.injEq] at h
      obtain ⟨_, hx, rfl, rfl⟩ := h
      exact (gives_pick hs ho hk (by simpa using hx)).makes hs
    · rename_i hk
      simp only [Option.map_eq_some_iff, Prod.mk.injEq] at h
      obtain ⟨_, hx, rfl, rfl⟩ := h
      exact (gives_pick hs ho hk (by simpa using hx)).makes hs
    · cases h
  | alloc t =>
    simp only [opK, ho, Option.bind_eq_some_iff, Option.some.injEq, Prod.mk.injEq] at h
    obtain ⟨sz, _, z, hz, rfl, rfl⟩ := h
    exact makes_alloc hs ho hz
  | box t x =>
    simp only [opK, ho, Option.bind_eq_some_iff] at h
    obtain ⟨sz, _, w, hw, h⟩ := h
    split at h
    · rename_i hcell
      simp only [Option.some.injEq, Prod.mk.injEq] at h
      obtain ⟨rfl, rfl⟩ := h
      exact makes_box hs ho hw hcell
    · cases h
  | build t parts =>
    simp only [opK, ho, Option.bind_eq_some_iff, Option.map_eq_some_iff, Prod.mk.injEq] at h
    obtain ⟨ps, hp, z, hz, pl, hpl, _, ⟨cs, hcs, rfl⟩, rfl, rfl⟩ := h
    exact (gives_build hs ho hp hz hpl hcs).makes hs
  | buildSlice t n parts =>
    simp only [opK, ho, Option.bind_eq_some_iff] at h
    obtain ⟨ps, hp, ⟨ps', H1⟩, hem, e, he, sz, hsz, z, hz, h⟩ := h
    split at h
    · rename_i hcond
      obtain ⟨h1, h2, h3⟩ := hcond
      simp only [Option.map_eq_some_iff, Prod.mk.injEq] at h
      obtain ⟨cs, hcs, rfl, rfl⟩ := h
      exact makes_buildSlice hs ho hp hem he hsz hz h1 h2 h3 hcs
    · cases h
  | load t x =>
    simp only [opK, ho, Option.bind_eq_some_iff, Option.map_eq_some_iff, Prod.mk.injEq] at h
    obtain ⟨p, hp, _, hl, rfl, rfl⟩ := h
    exact (gives_load hs ho hp hl).makes hs
  | store t p x =>
    simp only [opK, ho, Option.bind_eq_some_iff, Option.map_eq_some_iff, Prod.mk.injEq] at h
    obtain ⟨P, hp, X, hx, H1, h1, rfl, rfl⟩ := h
    exact makes_store hs ho hp hx h1
  | nilCheck x =>
    simp only [opK, ho] at h
    split at h
    · rename_i hx
      simp only [Option.map_some, Option.some.injEq, Prod.mk.injEq] at h
      obtain ⟨rfl, rfl⟩ := h
      exact (gives_nilCheck_ptr hs ho hx).makes hs
    · rename_i hx
      simp only [Option.map_some, Option.some.injEq, Prod.mk.injEq] at h
      obtain ⟨rfl, rfl⟩ := h
      exact (gives_nilCheck_lp hs ho hx).makes hs
    · cases h
  | binOp op t x y t2 =>
    simp only [opK, ho, Option.bind_eq_some_iff, Option.map_eq_some_iff, Prod.mk.injEq] at h
    obtain ⟨p, hp, q, hq, _, hb, rfl, rfl⟩ := h
    exact (gives_binOp hs ho hp hq hb).makes hs
  | unOp op t x =>
    simp only [opK, ho, Option.bind_eq_some_iff, Option.map_eq_some_iff, Prod.mk.injEq] at h
    obtain ⟨p, hp, _, hb, rfl, rfl⟩ := h
    exact (gives_unOp hs ho hp hb).makes hs
  | convert src dst x =>
    simp only [opK, ho] at h
    split at h
    · rename_i h1 h2 h3
      simp only [Option.map_some, Option.some.injEq, Prod.mk.injEq] at h
      obtain ⟨rfl, rfl⟩ := h
      exact (gives_convert hs ho h1 h2 h3).makes hs
    · rename_i e n cs h1 h2 h3
      split at h
      · rename_i hn
        obtain ⟨rfl, he⟩ := hn
        simp only [Option.map_eq_some_iff, Prod.mk.injEq] at h
        obtain ⟨_, ⟨s, hb, rfl⟩, rfl, rfl⟩ := h
        unfold u8T at he
        split at he
        · rename_i he'
          exact (gives_convert_bytes hs ho h1 h2 he' h3 hb).makes hs
        · cases he
      · cases h
    · cases h
  | makeFunc fn first caps =>
    simp only [opK, ho] at h
    split at h
    case h_2 => cases h
    rename_i f hf
    have hf' : first = #[] := by apply Array.ext'; simpa using hf
    subst hf'
    simp only [Option.bind_eq_some_iff, Option.map_some, Option.some.injEq, Prod.mk.injEq] at h
    obtain ⟨vs, hvs, rfl, rfl⟩ := h
    exact (gives_makeFunc hs ho hvs).makes hs
  | makeSlice t n m =>
    simp only [opK, ho, Option.bind_eq_some_iff] at h
    obtain ⟨N, hn, M, hm, h⟩ := h
    exact makes_make hs ho hn hm h
  | slice t x lo hi mx =>
    cases mx with
    | none =>
      simp only [opK, ho, Option.bind_eq_some_iff] at h
      obtain ⟨w, hx, n, hn, l, hl, r, hr, e, he, sz, hsz, h⟩ := h
      split at h
      case isFalse => cases h
      rename_i hc
      obtain ⟨h1, h2⟩ := hc
      have hrx := rep_ev hs x _ hx
      split at h
      · simp only [Option.map_some, Option.some.injEq, Prod.mk.injEq, lenK] at h hn
        subst hn
        obtain ⟨rfl, rfl⟩ := h
        obtain ⟨k0, A, cap, k1, k2, k3⟩ := (rep_row hs hrx).1 _ _ rfl
        exact (gives_slice_row hs ho he hsz k0 k1 k2 k3 hl hr h1 h2).makes hs
      · simp only [Option.map_some, Option.some.injEq, Prod.mk.injEq, lenK] at h hn
        subst hn
        obtain ⟨rfl, rfl⟩ := h
        obtain ⟨A, cap, k1, k2, k3⟩ := (rep_row hs hrx).2.1 _ rfl
        exact (gives_slice_row hs ho he hsz (Nat.zero_le _) k1 k2 k3 hl hr h1 h2).makes hs
      · simp only [Option.map_some, Option.some.injEq, Prod.mk.injEq, lenK] at h hn
        subst hn
        obtain ⟨rfl, rfl⟩ := h
        obtain ⟨A, cap, k1, k2, k3⟩ := (rep_row hs hrx).2.2 _ _ rfl
        exact (gives_slice_row hs ho he hsz (d_le hs) k1 k2 (.inr k3) hl hr h1 h2).makes hs
      · split at h
        case isFalse => cases h
        rename_i hl0
        subst hl0
        simp only [Option.map_some, Option.some.injEq, Prod.mk.injEq, lenK] at h hn
        subst hn
        obtain ⟨rfl, rfl⟩ := h
        exact (gives_slice_pre hs ho he hsz hx hl hr h2).makes hs
      · simp only [Option.map_some, Option.some.injEq, Prod.mk.injEq, lenK] at h hn
        subst hn
        obtain ⟨rfl, rfl⟩ := h
        exact (gives_slice_sl hs ho he hsz hx hl hr h1 h2).makes hs
      · cases h
    | some mx =>
      simp only [opK, ho] at h
      split at h
      case h_2 => cases h
      rename_i hi
      simp only [Option.bind_eq_some_iff] at h
      obtain ⟨w, hx, n, hn, e, he, sz, hsz, h⟩ := h
      split at h
      case h_2 => cases h
      rename_i k i k' j h1 h2
      split at h
      case isFalse => cases h
      rename_i hc
      obtain ⟨rfl, rfl⟩ := hc
      simp only [Option.map_some, Option.some.injEq, Prod.mk.injEq] at h
      obtain ⟨rfl, rfl⟩ := h
      exact (gives_slice0 hs ho he hsz hx hn h1 h2).makes hs
  | fieldAddr s x f =>
    simp only [opK, ho, Option.bind_eq_some_iff] at h
    obtain ⟨off, hoff, h⟩ := h
    split at h
    · rename_i hx
      simp only [Option.map_some, Option.some.injEq, Prod.mk.injEq] at h
      obtain ⟨rfl, rfl⟩ := h
      exact (gives_fieldAddr_ptr hs ho hoff hx).makes hs
    · rename_i hx
      simp only [Option.map_some, Option.some.injEq, Prod.mk.injEq] at h
      obtain ⟨rfl, rfl⟩ := h
      exact (gives_fieldAddr_lp hs ho hoff hx).makes hs
    · cases h
  | field s x f =>
    simp only [opK, ho, Option.bind_eq_some_iff] at h
    obtain ⟨off, hoff, h⟩ := h
    split at h
    case h_2 => cases h
    rename_i fs hfs
    split at h
    case h_2 => cases h
    rename_i g cs hg hx
    simp only [Option.map_eq_some_iff, Prod.mk.injEq] at h
    obtain ⟨_, hr, rfl, rfl⟩ := h
    exact (gives_field hs ho hoff hfs hg hx hr).makes hs
  | indexAddr t x i =>
    simp only [opK, ho, Option.bind_eq_some_iff] at h
    obtain ⟨e, he, sz, hsz, w, hx, h⟩ := h
    split at h
    case h_2 => cases h
    rename_i k n hi
    simp only [Option.bind_eq_some_iff] at h
    obtain ⟨len, hn, h⟩ := h
    split at h
    case isFalse => cases h
    rename_i hc
    obtain ⟨h0, h1⟩ := hc
    have hrx := rep_ev hs x _ hx
    have hri := rep_ev hs i _ hi
    simp only [RepV] at hri
    have hpos : ¬ len = 0 := by omega
    split at h
    · simp only [Option.map_some, Option.some.injEq, Prod.mk.injEq, lenK] at h hn
      subst hn
      obtain ⟨rfl, rfl⟩ := h
      obtain ⟨k0, A, cap, k1, k2, k3⟩ := (rep_row hs hrx).1 _ _ rfl
      exact (gives_index_row ho he hsz k0 k1 (k3.resolve_left hpos) hri h0 h1).makes hs
    · simp only [Option.map_some, Option.some.injEq, Prod.mk.injEq, lenK] at h hn
      subst hn
      obtain ⟨rfl, rfl⟩ := h
      obtain ⟨A, cap, k1, k2, k3⟩ := (rep_row hs hrx).2.1 _ rfl
      exact (gives_index_row ho he hsz (Nat.zero_le _) k1 (k3.resolve_left hpos) hri h0 h1).makes hs
    · simp only [Option.map_some, Option.some.injEq, Prod.mk.injEq, lenK] at h hn
      subst hn
      obtain ⟨rfl, rfl⟩ := h
      obtain ⟨A, cap, k1, k2, k3⟩ := (rep_row hs hrx).2.2 _ _ rfl
      exact (gives_index_row ho he hsz (d_le hs) k1 k3 hri h0 h1).makes hs
    · simp only [Option.map_some, Option.some.injEq, Prod.mk.injEq, lenK] at h hn
      subst hn
      obtain ⟨rfl, rfl⟩ := h
      obtain ⟨A, cap, k1, k2, k3⟩ := rep_pre hs hrx
      exact (gives_index_row ho he hsz (d_le hs) k1 k3 hri h0 h1).makes hs
    · simp only [Option.map_some, Option.some.injEq, Prod.mk.injEq, lenK] at h hn
      subst hn
      obtain ⟨rfl, rfl⟩ := h
      exact (gives_index_sl hs ho he hsz hx hi h0 h1).makes hs
    · cases h
  | index t x i =>
    simp only [opK, ho] at h
    split at h
    case h_2 => cases h
    rename_i ht hx hi
    split at h
    case isFalse => cases h
    rename_i h0
    simp only [Option.map_eq_some_iff, Prod.mk.injEq] at h
    obtain ⟨_, ⟨b, hb, rfl⟩, rfl, rfl⟩ := h
    exact (gives_indexS hs ho ht hx hi h0 hb).makes hs
  | extract x i =>
    simp only [opK, ho] at h
    split at h
    case h_2 => cases h
    rename_i vs hx
    simp only [Option.map_eq_some_iff, Prod.mk.injEq] at h
    obtain ⟨_, hv, rfl, rfl⟩ := h
    exact (gives_extract hs ho hx hv).makes hs
  | call k =>
    obtain ⟨callee, args, ats⟩ := k
    cases callee with
    | value f => simp [isCall, ho] at hc
    | invoke r n => simp [opK, ho] at h
    | builtin b =>
      cases b with
      | len =>
        simp only [opK, ho] at h
        split at h
        case h_2 => cases h
        rename_i x t ha ht
        split at h
        · rename_i h1 h2
          simp only [Option.map_some, Option.some.injEq, Prod.mk.injEq] at h
          obtain ⟨rfl, rfl⟩ := h
          exact (gives_lenS hs ho ha ht h1 h2).makes hs
        · rename_i h1 h2
          simp only [Option.bind_eq_some_iff, Option.map_some, Option.some.injEq, Prod.mk.injEq] at h
          obtain ⟨n, hn, rfl, rfl⟩ := h
          exact (gives_len hs ho ha ht h1 h2 hn).makes hs
        · cases h
      | append =>
        simp only [opK, ho] at h
        split at h
        case h_2 => cases h
        rename_i s x st xt ha ht
        simp only [Option.bind_eq_some_iff] at h
        obtain ⟨p, hp, q, hq, h⟩ := h
        exact makes_append hs ho ha ht hp hq h
      | min =>
        simp only [opK, ho] at h
        split at h
        case h_2 => cases h
        rename_i x y ha
        split at h
        case h_2 => cases h
        rename_i hx hy
        simp only [Option.map_some, Option.some.injEq, Prod.mk.injEq] at h
        obtain ⟨rfl, rfl⟩ := h
        exact (gives_min hs ho ha hx hy).makes hs
      | max =>
        simp only [opK, ho] at h
        split at h
        case h_2 => cases h
        rename_i x y ha
        split at h
        case h_2 => cases h
        rename_i hx hy
        simp only [Option.map_some, Option.some.injEq, Prod.mk.injEq] at h
        obtain ⟨rfl, rfl⟩ := h
        exact (gives_max hs ho ha hx hy).makes hs
      | _ => simp [opK, ho] at h
  | makeMap t r =>
    cases r with
    | none =>
      simp only [opK, ho, Option.some.injEq, Prod.mk.injEq] at h
      obtain ⟨rfl, rfl⟩ := h
      exact makes_makeMap hs ho
    | some r => simp [opK, ho] at h
  | lookup t x k ok =>
    simp only [opK, ho, Option.bind_eq_some_iff, Option.map_eq_some_iff, Prod.mk.injEq] at h
    obtain ⟨m, hm, kv, hk, w, hw, rfl, rfl⟩ := h
    exact (gives_lookup hs ho hm hk hw).makes hs
  | mapUpdate t x k y =>
    simp only [opK, ho, Option.bind_eq_some_iff, Option.map_eq_some_iff, Prod.mk.injEq] at h
    obtain ⟨m, hm, kv, hk, w, hw, H1, h1, rfl, rfl⟩ := h
    exact makes_update hs ho hm hk hw h1
  | mapEntry t x k =>
    simp only [opK, ho, Option.bind_eq_some_iff] at h
    obtain ⟨m, hm, kv, hk, h⟩ := h
    exact makes_entry hs ho hm hk h
  | entryStore t x st y =>
    simp only [opK, ho, Option.bind_eq_some_iff, Option.map_eq_some_iff, Prod.mk.injEq] at h
    obtain ⟨m, hm, sv, hsv, w, hw, H1, h1, rfl, rfl⟩ := h
    exact makes_enter hs ho hm hsv hw h1
  | _ => simp [opK, ho] at h

end

end Go.Proofs.Ytblodpbcinkehaa.K
