/-
 Part of a proof. No conditions.
-/
import Derived.Test.YtjklepgidjimfaaGreatK0
set_option linter.unusedVariables false
set_option linter.unusedSimpArgs false
namespace Go.Proofs.YtjklepgidjimfaaGreat.K
open Go renaming Oper → fc, Value → eu, TypeId → ea, Operand → ed, FuncId → jc, World → je, Program → ep, ResultVar → ir
open Nat renaming le_refl → dz, zero_le → ga, sub_zero → ri, lt_of_lt_of_le → fw, le_trans → fg, not_lt → ib, lt_or_ge → fp, le_succ → mg, le_succ_of_le → oa, strongRecOn → qq, zero_add → kb, add_sub_cancel_left → nq, eq_zero_or_pos → ke, le_add_right → qm, le_max_left → kz, le_max_right → km
open Option renaming map_some → dq, map_eq_some_iff → dn, bind_eq_some_iff → dj, bind_some → ba, getD_some → ji, isSome_iff_exists → mr
open List renaming length_take → gh, append_cancel_right → ot, take_append_of_le_length → mc, mem_append → eb, mem_cons → fi, getElem?_eq_some_iff → du, all_eq_true → gb, mem_range → ik, mem_singleton → dt, map_cons → gq, mem_append_left → ew, mem_filterMap → nt, getElem?_append_left → eh, eq_nil_of_length_eq_zero → ff, all_cons → jr, cons_append → ie, mem_cons_of_mem → fm, mem_cons_self → fh, contains_eq_mem → jh, getElem?_take_of_lt → jg, replicate → gf, length_map → ja, getElem?_eq_none → en, mem_filter → ql, nodup_nil → mw, nodup_cons → ia, mem_map → iw, nil_append → gu, append_of_mem → jw, map_append → ju, nodup_append → fy, mem_map_of_mem → kc, foldl_append → qd, map_nil → jx, range → gj, prefix_refl → qh, getElem?_append_right → fe, getElem?_eq_getElem → dr, getD_eq_getElem?_getD → ml, getElem?_drop → jd, getElem?_take → gm, prefix_append → kg, length_singleton → jm, getElem_cons_zero → ng, length_append → dw, mapM_cons → nu
open Option.some renaming injEq → an
open Prod.mk renaming injEq → dk
open _root_.Array renaming ext' → mf, getElem?_eq_some_iff → ef, getD_eq_getD_getElem? → iq, getElem?_eq_getElem → lf, replicate → nc, getElem?_replicate → oo, getElem?_toList → jf
open Bool renaming false_eq_true → ei, eq_false_iff → mv, and_eq_true → ec, or_eq_true → gg, not_eq_true' → jj
open Classical renaming byContradiction → jk, choose → iy, choose_spec → fz
open List.cons renaming injEq → js
section
variable {c : Cx} {E : Ab} {S : St} {a : Act} {o : fc}
theorem Kf (hs : D1 c E S a) {v : V} {u : eu} {len : Nat} (hr : AA E v u) :
  (∀ lv cs, v = .lit lv len cs → lv ≤ E.m ∧ ∃ A cap, u = .slice A len cap ∧ len ≤ cap ∧ (len = 0 ∨ ∃ g q, A = some ⟨g, q, none⟩ ∧ CR E (some lv) g q cs)) ∧
  (∀ cs, v = .tl len cs → ∃ A cap, u = .slice A len cap ∧ len ≤ cap ∧ (len = 0 ∨ ∃ g q, A = some ⟨g, q, none⟩ ∧ CR E (some 0) g q cs)) ∧
  (∀ b cs, v = .snap b len cs → ∃ A cap, u = .slice A len cap ∧ len ≤ cap ∧ ∃ g q, A = some ⟨g, q, none⟩ ∧ CR E (some c.d) g q cs) := by
 refine ⟨?_, ?_, ?_⟩
 ·rintro lv cs rfl
  simp only [AA] at hr
  exact hr
 ·rintro cs rfl
  simp only [AA] at hr
  obtain ⟨A, h1, h2⟩ := hr
  exact ⟨A, len, h1, dz _, h2⟩
 ·rintro b cs rfl
  simp only [AA] at hr
  obtain ⟨_, ⟨A, cap, h1, h2, ⟨g, q, h3, _, h4⟩, _⟩, _⟩ := hr
  exact ⟨A, cap, h1, h2, g, q, h3, CR.all hs.heap (by rw [hs.lk]; exact dz _) h4⟩
theorem jE (hs : D1 c E S a) {b m0 len : Nat} {cs : List V} {u : eu} (hr : AA E (.pre b m0 len cs) u) : ∃ A cap, u = .slice A len cap ∧ len ≤ cap ∧ ∃ g q, A = some ⟨g, q, none⟩ ∧ CR E (some c.d) g q cs := by
 simp only [AA] at hr
 obtain ⟨_, ⟨A, cap, h1, h2, ⟨g, q, h3, _, h4⟩, _⟩, _⟩ := hr
 exact ⟨A, cap, h1, h2, g, q, h3, CR.all hs.heap (by rw [hs.lk]; exact dz _) h4⟩
theorem O1 (hs : D1 c E S a) {t e : ea} {x : ed} {lo hi : Option ed} {b m0 len h sz : Nat} {cs : List V} (ho : o.op = .slice t x lo hi none) (ht : B0 c.P t = some e) (hz : B3 c.P e = some sz)
  (hx : ev S.T x = some (.pre b m0 len cs)) (hlo : Cy S.T 0 lo = some 0) (hhi : Cy S.T len hi = some h) (hhl : h ≤ len) : Dp c E a o (.pre b m0 h (cs.take (h * sz))) := by
 have hr := BB hs x _ hx
 simp only [AA] at hr
 obtain ⟨hb, ⟨A, cap, hv, hlc, ⟨g, q, hA, haw, hr⟩, xa⟩, hnc⟩ := hr
 refine ⟨_, by simp only [execOp, ho, hv, KE hs lo hi ht hz hlo hhi hlc (ga _) hhl, Sem.run_bind, Result.andThen_ok, Sem.run_pure, Option.map_none]; rfl, ?_⟩
 have e : (if cap = 0 then A else A.map (·.add (0 * sz))) = A := by
  split
  ·rfl
  ·rw [hA, Nat.zero_mul]; simp only [dq, Addr.add_lit, Nat.add_zero]
 simp only [AA]
 rw [e, ri, ri]
 refine ⟨hb, ⟨A, cap, rfl, by omega, ⟨g, q, hA, fun hl => haw (by rw [gh] at hl; omega), ?_⟩, xa⟩, hnc⟩
 have := SC cs q 0 (h * sz) hr
 simpa using this
theorem lT (hs : D1 c E S a) : c.d ≤ E.m := by rw [hs.m]; exact dz _
theorem Ya (hs : D1 c E S a) {r : V × A5} {v : V} {H' : A5} (hm : GA c E a o r.1 r.2) (h : MM c r = some (v, H')) : GA c E a o v H' := by
 obtain ⟨E1, h1, h2⟩ := hm
 have key : ∀ w, AV c.base Ba r.2 w = some (v, H') → w = r.1 → GA c E a o v H' := by
  rintro w hg rfl
  obtain ⟨g1, g2, g3, g4⟩ := IK hs h1 hg
  refine ⟨_, g1, h2.imp (fun ⟨u, e, hr⟩ => ⟨u, e, ?_⟩) fun ⟨e, hr⟩ => ⟨e, ?_⟩⟩
  ·exact (Ca.grow (E1.heap H') (n := 0) (m := 0) (ga _) (ga _)).rep _ _ (g3 u hr)
  ·exact (Ca.grow (E1.heap H') (n := 0) (m := 0) (ga _) (ga _)).rep _ _ (g3 _ hr)
 unfold MM at h
 split at h
 case isFalse => simp only [an] at h; subst h; exact ⟨E1, h1, h2⟩
 split at h
 ·rename_i b n cs he
  split at h
  case isFalse => cases h
  split at h
  case h_2 => cases h
  exact key _ h he.symm
 ·rename_i n cs he
  split at h
  case isFalse => cases h
  exact key _ h he.symm
 ·cases h
theorem dM (hs : D1 c E S a) {v : V} {H' : A5} (hc : FF o = false) (h : Cn c o S = some (v, H')) : GA c E a o v H' := by
 cases ho : o.op with
 | move x =>
  simp only [Cn, ho, dn, dk] at h
  obtain ⟨_, hx, rfl, rfl⟩ := h
  exact (W6 hs ho hx).makes hs
 | assign x =>
  simp only [Cn, ho, dn, dk] at h
  obtain ⟨_, hx, rfl, rfl⟩ := h
  exact (TB hs ho hx).makes hs
 | pick k x y =>
  simp only [Cn, ho] at h
  split at h
  ·rename_i hk
   simp only [dn, dk] at h
   obtain ⟨_, hx, rfl, rfl⟩ := h
   exact (QK hs ho hk (by simpa using hx)).makes hs
  ·rename_i hk
   simp only [dn, dk] at h
   obtain ⟨_, hx, rfl, rfl⟩ := h
   exact (QK hs ho hk (by simpa using hx)).makes hs
  ·cases h
 | alloc t =>
  simp only [Cn, ho, dj, an, dk] at h
  obtain ⟨sz, _, z, hz, rfl, rfl⟩ := h
  exact Uo hs ho hz
 | box t x =>
  simp only [Cn, ho, dj] at h
  obtain ⟨sz, _, w, hw, h⟩ := h
  split at h
  ·rename_i vh
   simp only [an, dk] at h
   obtain ⟨rfl, rfl⟩ := h
   exact YZ hs ho hw vh
  ·cases h
 | build t parts =>
  simp only [Cn, ho, dj, dn, dk] at h
  obtain ⟨ps, hp, z, hz, pl, hpl, _, ⟨cs, hcs, rfl⟩, rfl, rfl⟩ := h
  exact (UZ hs ho hp hz hpl hcs).makes hs
 | buildSlice t n parts =>
  simp only [Cn, ho, dj] at h
  obtain ⟨ps, hp, ⟨wu, H1⟩, hem, e, he, sz, tu, z, hz, h⟩ := h
  split at h
  ·rename_i uc
   obtain ⟨h1, h2, h3⟩ := uc
   simp only [dn] at h
   obtain ⟨cs, hcs, h⟩ := h
   split at h
   ·rename_i xn
    simp only [dk] at h
    obtain ⟨rfl, rfl⟩ := h
    exact MY hs ho hp hem he tu hz h1 h2 h3 (fun h0 => by subst h0; exact absurd xn (by simp [Cx.own])) hcs
   ·simp only [dk] at h
    obtain ⟨rfl, rfl⟩ := h
    exact N8 hs ho hp hem he tu hz h1 h2 h3 hcs
  ·cases h
 | load t x =>
  simp only [Cn, ho, dj, dn, dk] at h
  obtain ⟨p, hp, _, hl, rfl, rfl⟩ := h
  exact (W5 hs ho hp hl).makes hs
 | store t p x =>
  simp only [Cn, ho, dj, dn, dk] at h
  obtain ⟨P, hp, X, hx, H1, h1, rfl, rfl⟩ := h
  exact Ur hs ho hp hx h1
 | nilCheck x =>
  simp only [Cn, ho] at h
  split at h
  ·rename_i hx
   simp only [dq, an, dk] at h
   obtain ⟨rfl, rfl⟩ := h
   exact (LD hs ho hx).makes hs
  ·rename_i hx
   simp only [dq, an, dk] at h
   obtain ⟨rfl, rfl⟩ := h
   exact (MN hs ho hx).makes hs
  ·cases h
 | binOp op t x y t2 =>
  simp only [Cn, ho, dj, dn, dk] at h
  obtain ⟨p, hp, q, hq, _, hb, rfl, rfl⟩ := h
  exact (UY hs ho hp hq hb).makes hs
 | unOp op t x =>
  simp only [Cn, ho, dj, dn, dk] at h
  obtain ⟨p, hp, _, hb, rfl, rfl⟩ := h
  exact (W7 hs ho hp hb).makes hs
 | convert src dst x =>
  simp only [Cn, ho] at h
  split at h
  ·rename_i h1 h2 h3
   simp only [dq, an, dk] at h
   obtain ⟨rfl, rfl⟩ := h
   exact (RM hs ho h1 h2 h3).makes hs
  ·rename_i e n cs h1 h2 h3
   split at h
   ·rename_i hn
    obtain ⟨rfl, he⟩ := hn
    simp only [dn, dk] at h
    obtain ⟨_, ⟨s, hb, rfl⟩, rfl, rfl⟩ := h
    unfold tI at he
    split at he
    ·rename_i he'
     exact (Ki hs ho h1 h2 he' h3 hb).makes hs
    ·cases he
   ·cases h
  ·cases h
 | makeFunc fn first caps =>
  simp only [Cn, ho] at h
  split at h
  case h_2 => cases h
  rename_i f hf
  have hf' : first = #[] := by apply mf; simpa using hf
  subst hf'
  simp only [dj, dq, an, dk] at h
  obtain ⟨vs, wy, rfl, rfl⟩ := h
  exact (QJ hs ho wy).makes hs
 | makeSlice t n m =>
  simp only [Cn, ho, dj] at h
  obtain ⟨N, hn, M, hm, h⟩ := h
  exact WN hs ho hn hm h
 | slice t x lo hi mx =>
  cases mx with
  | none =>
   simp only [Cn, ho, dj] at h
   obtain ⟨w, hx, n, hn, l, hl, r, hr, e, he, sz, tu, h⟩ := h
   split at h
   case isFalse => cases h
   rename_i hc
   obtain ⟨h1, h2⟩ := hc
   have xj := BB hs x _ hx
   split at h
   ·simp only [dq, an, dk, D4] at h hn
    subst hn
    obtain ⟨rfl, rfl⟩ := h
    obtain ⟨k0, A, cap, k1, k2, k3⟩ := (Kf hs xj).1 _ _ rfl
    exact (HE hs ho he tu k0 k1 k2 k3 hl hr h1 h2).makes hs
   ·simp only [dq, an, dk, D4] at h hn
    subst hn
    obtain ⟨rfl, rfl⟩ := h
    obtain ⟨A, cap, k1, k2, k3⟩ := (Kf hs xj).2.1 _ rfl
    exact (HE hs ho he tu (ga _) k1 k2 k3 hl hr h1 h2).makes hs
   ·simp only [dq, an, dk, D4] at h hn
    subst hn
    obtain ⟨rfl, rfl⟩ := h
    obtain ⟨A, cap, k1, k2, k3⟩ := (Kf hs xj).2.2 _ _ rfl
    exact (HE hs ho he tu (lT hs) k1 k2 (.inr k3) hl hr h1 h2).makes hs
   ·split at h
    case isFalse => cases h
    rename_i hl0
    subst hl0
    simp only [dq, an, dk, D4] at h hn
    subst hn
    obtain ⟨rfl, rfl⟩ := h
    exact (O1 hs ho he tu hx hl hr h2).makes hs
   ·simp only [dq, an, dk, D4] at h hn
    subst hn
    obtain ⟨rfl, rfl⟩ := h
    exact (QL hs ho he tu hx hl hr h1 h2).makes hs
   ·cases h
  | some mx =>
   simp only [Cn, ho] at h
   split at h
   case h_2 => cases h
   rename_i hi
   simp only [dj] at h
   obtain ⟨w, hx, n, hn, e, he, sz, tu, h⟩ := h
   split at h
   case h_2 => cases h
   rename_i k i k' j h1 h2
   split at h
   case isFalse => cases h
   rename_i hc
   obtain ⟨rfl, rfl⟩ := hc
   simp only [dq, an, dk] at h
   obtain ⟨rfl, rfl⟩ := h
   exact (TE hs ho he tu hx hn h1 h2).makes hs
 | fieldAddr s x f =>
  simp only [Cn, ho, dj] at h
  obtain ⟨off, hoff, h⟩ := h
  split at h
  ·rename_i hx
   simp only [dq, an, dk] at h
   obtain ⟨rfl, rfl⟩ := h
   exact (Kj hs ho hoff hx).makes hs
  ·rename_i hx
   simp only [dq, an, dk] at h
   obtain ⟨rfl, rfl⟩ := h
   exact (LC hs ho hoff hx).makes hs
  ·cases h
 | field s x f =>
  simp only [Cn, ho, dj] at h
  obtain ⟨off, hoff, h⟩ := h
  split at h
  case h_2 => cases h
  rename_i fs hfs
  split at h
  case h_2 => cases h
  rename_i g cs hg hx
  simp only [dn, dk] at h
  obtain ⟨_, hr, rfl, rfl⟩ := h
  exact (Ua hs ho hoff hfs hg hx hr).makes hs
 | indexAddr t x i =>
  simp only [Cn, ho, dj] at h
  obtain ⟨e, he, sz, tu, w, hx, h⟩ := h
  split at h
  case h_2 => cases h
  rename_i k n hi
  simp only [dj] at h
  obtain ⟨len, hn, h⟩ := h
  split at h
  case isFalse => cases h
  rename_i hc
  obtain ⟨h0, h1⟩ := hc
  have xj := BB hs x _ hx
  have hri := BB hs i _ hi
  simp only [AA] at hri
  have hpos : ¬ len = 0 := by omega
  split at h
  ·simp only [dq, an, dk, D4] at h hn
   subst hn
   obtain ⟨rfl, rfl⟩ := h
   obtain ⟨k0, A, cap, k1, k2, k3⟩ := (Kf hs xj).1 _ _ rfl
   exact (Fk ho he tu k0 k1 (k3.resolve_left hpos) hri h0 h1).makes hs
  ·simp only [dq, an, dk, D4] at h hn
   subst hn
   obtain ⟨rfl, rfl⟩ := h
   obtain ⟨A, cap, k1, k2, k3⟩ := (Kf hs xj).2.1 _ rfl
   exact (Fk ho he tu (ga _) k1 (k3.resolve_left hpos) hri h0 h1).makes hs
  ·simp only [dq, an, dk, D4] at h hn
   subst hn
   obtain ⟨rfl, rfl⟩ := h
   obtain ⟨A, cap, k1, k2, k3⟩ := (Kf hs xj).2.2 _ _ rfl
   exact (Fk ho he tu (lT hs) k1 k3 hri h0 h1).makes hs
  ·simp only [dq, an, dk, D4] at h hn
   subst hn
   obtain ⟨rfl, rfl⟩ := h
   obtain ⟨A, cap, k1, k2, k3⟩ := jE hs xj
   exact (Fk ho he tu (lT hs) k1 k3 hri h0 h1).makes hs
  ·simp only [dq, an, dk, D4] at h hn
   subst hn
   obtain ⟨rfl, rfl⟩ := h
   exact (QI hs ho he tu hx hi h0 h1).makes hs
  ·cases h
 | index t x i =>
  simp only [Cn, ho] at h
  split at h
  case h_2 => cases h
  rename_i ht hx hi
  split at h
  case isFalse => cases h
  rename_i h0
  simp only [dn, dk] at h
  obtain ⟨_, ⟨b, hb, rfl⟩, rfl, rfl⟩ := h
  exact (TC hs ho ht hx hi h0 hb).makes hs
 | extract x i =>
  simp only [Cn, ho] at h
  split at h
  case h_2 => cases h
  rename_i vs hx
  simp only [dn, dk] at h
  obtain ⟨_, hv, rfl, rfl⟩ := h
  exact (RN hs ho hx hv).makes hs
 | call k =>
  obtain ⟨callee, args, ats⟩ := k
  cases callee with
  | value f => simp [FF, ho] at hc
  | invoke r n => simp [Cn, ho] at h
  | builtin b =>
   cases b with
   | len =>
    simp only [Cn, ho] at h
    split at h
    case h_2 => cases h
    rename_i x t ha ht
    split at h
    ·rename_i h1 h2
     simp only [dq, an, dk] at h
     obtain ⟨rfl, rfl⟩ := h
     exact (W4 hs ho ha ht h1 h2).makes hs
    ·rename_i h1 h2
     simp only [dj, dq, an, dk] at h
     obtain ⟨n, hn, rfl, rfl⟩ := h
     exact (YN hs ho ha ht h1 h2 hn).makes hs
    ·cases h
   | append =>
    simp only [Cn, ho] at h
    split at h
    case h_2 => cases h
    rename_i s x st xt ha ht
    simp only [dj] at h
    obtain ⟨p, hp, q, hq, r, h, hf⟩ := h
    exact Ya hs (TL (v := r.1) (H' := r.2) hs ho ha ht hp hq h) hf
   | min =>
    simp only [Cn, ho] at h
    split at h
    case h_2 => cases h
    rename_i x y ha
    split at h
    case h_2 => cases h
    rename_i hx hy
    simp only [dq, an, dk] at h
    obtain ⟨rfl, rfl⟩ := h
    exact (YP hs ho ha hx hy).makes hs
   | max =>
    simp only [Cn, ho] at h
    split at h
    case h_2 => cases h
    rename_i x y ha
    split at h
    case h_2 => cases h
    rename_i hx hy
    simp only [dq, an, dk] at h
    obtain ⟨rfl, rfl⟩ := h
    exact (YO hs ho ha hx hy).makes hs
   | _ => simp [Cn, ho] at h
 | makeMap t r =>
  cases r with
  | none =>
   simp only [Cn, ho, an, dk] at h
   obtain ⟨rfl, rfl⟩ := h
   exact RR hs ho
  | some r => simp [Cn, ho] at h
 | lookup t x k ok =>
  simp only [Cn, ho, dj, dn, dk] at h
  obtain ⟨m, hm, kv, hk, w, hw, rfl, rfl⟩ := h
  exact (TD hs ho hm hk hw).makes hs
 | mapUpdate t x k y =>
  simp only [Cn, ho, dj, dn, dk] at h
  obtain ⟨m, hm, kv, hk, w, hw, H1, h1, rfl, rfl⟩ := h
  exact TM hs ho hm hk hw h1
 | mapEntry t x k =>
  simp only [Cn, ho, dj] at h
  obtain ⟨m, hm, kv, hk, h⟩ := h
  exact Uq hs ho hm hk h
 | entryStore t x st y =>
  simp only [Cn, ho, dj, dn, dk] at h
  obtain ⟨m, hm, sv, hsv, w, hw, H1, h1, rfl, rfl⟩ := h
  exact Up hs ho hm hsv hw h1
 | _ => simp [Cn, ho] at h
end
theorem GJ.unlock {E0 E1 : Ab} {L : List Nat} (h : GJ (E0.lock L) (E1.lock L)) (hd : E0.m ≤ E0.lk.length) : GJ E0 E1 := by
  have sn : E1.lk = E0.lk := ot (bs := [L]) h.lk
  have hU : ∀ (E : Ab) lv g i, Qf E.lk.length lv → ((E.lock L).U lv g i ↔ E.U lv g i) := by
    intro E lv g i hl
    cases lv with
    | none => rfl
    | some lv =>
      have : (E.lk ++ [L]).take lv = E.lk.take lv := mc hl
      show (g ∈ E.Bl ∨ Wr _ _ ((E.lk ++ [L]).take lv) lv g i) ↔ (g ∈ E.Bl ∨ Wr _ _ (E.lk.take lv) lv g i)
      rw [this]
      exact Iff.rfl
  have hanti : ∀ g i, (E0.lock L).U (some (E0.lock L).lk.length) g i → E0.U (some E0.lk.length) g i := by
    intro g i hu
    refine (hU E0 (some E0.lk.length) g i (dz _)).1 (Ab.Sa ?_ hu)
    simp
  exact
  { lk := sn
    os := h.os
    tape := h.tape
    output := h.output
    size := h.size
    len := h.len
    mm := by have := h.mm; simpa [Ab.lock] using this
    cell := fun g i u hc hu => h.cell g i u hc fun hx => hu (hanti g i hx)
    block := fun g hg hu => h.block g hg fun i hx => hu i (hanti g i hx)
    mono := fun lv g i hl hx => by
      rcases h.mono lv g i (hl.up (by simp)) ((hU E1 lv g i (by rw [sn]; exact hl)).2 hx) with h' | h'
      · exact .inl ((hU E0 lv g i hl).1 h')
      · exact .inr h'
    Ce := h.Ce
    cells := h.cells
    Bt := h.Bt
    fresh := h.fresh
    Bl := h.Bl
    Ix := h.Ix
    I8 := h.I8 }
structure VT (h : BX) (k : jc) (L : List Nat) (E0 E1 : Ab) (H' : A5) : Prop where
 H : E1.H = H'
 n : E1.n = H'.length
 Cz : GJ (E0.lock L) (E1.lock L)
 heap : Ch E1
 I7 : h.grow k = false → ∀ base nb d, base ≤ E0.n → nb ≤ E0.n → d ≤ E0.m → Dc E0 base nb d → Dc E1 base nb d
 Ib : h.grow k = true → ∀ base d, base ≤ E0.n → d ≤ E0.m → Dc E0 base E0.n d → Dc E1 base E1.n d
 kept : ∀ b, b < E0.n → AT (E0.lk ++ [L]) b = false → E1.H[b]? = E0.H[b]?
def tL (R : eu → je → Prop) : Ending → je → Prop
 | .returned v, w => R v w
 | _, _ => False
structure Hh (P : ep) (h : BX) (Γ : jc → List V → A5 → Lk → Option (V × A5)) : Prop where
 body : ∀ k args H lk r, Γ k args H lk = some r → ∃ fn, P.funcs[k]? = some fn ∧ fn.body.isNone = false ∧ (fn.name == "runtime.NumGoroutine") = false
 run : ∀ k args H lk L v H', Γ k args H (lk ++ [L]) = some (v, H') → ∀ (E0 : Ab) us, E0.H = H → E0.lk = lk → E0.n = H.length → E0.m = lk.length → Ch E0 → (∀ l ∈ lk ++ [L], ∀ x ∈ l, x < H.length) →
  AM (E0.lock L) args us → Calls P k us.toArray E0.w (tL fun u w' => ∃ E1 : Ab, E1.w = w' ∧ VT h k L E0 E1 H' ∧ AA E1 v u)
theorem MT {H : A5} {f : V → Option (V × List Nat)} (hf : ∀ v v' M, f v = some (v', M) → ∀ x ∈ M, x < H.length) :
  ∀ (vs so : List V) (M : List Nat), Al.lendL f vs = some (so, M) → ∀ x ∈ M, x < H.length
 | [], so, M, h => by
  simp only [Al.lendL, an, dk] at h
  obtain ⟨rfl, rfl⟩ := h
  intro x hx; cases hx
 | v :: vs, so, M, h => by
  simp only [Al.lendL, dj, dn, Prod.exists, dk] at h
  obtain ⟨v1, M1, h1, vs2, M2, h2, rfl, rfl⟩ := h
  intro x hx
  rcases eb.1 hx with hx | hx
  ·exact hf v v1 M1 h1 x hx
  ·exact MT hf vs vs2 M2 h2 x hx
theorem Oc (lv : Nat) (H : A5) : ∀ (k : Nat) (v v' : V) (M : List Nat), Al lv H k v = some (v', M) → ∀ x ∈ M, x < H.length
 | 0, v, v', M, h => by simp [Al] at h
 | k + 1, v, v', M, h => by
  have ih := MT fun v v' M h => Oc lv H k v v' M h
  have none_ : ∀ M, M = ([] : List Nat) → ∀ x ∈ M, x < H.length := by rintro M rfl x hx; cases hx
  cases v with
  | int _ _ => simp only [Al, an, dk] at h; exact none_ _ h.2.symm
  | bool _ => simp only [Al, an, dk] at h; exact none_ _ h.2.symm
  | str _ => simp only [Al, an, dk] at h; exact none_ _ h.2.symm
  | HV => simp only [Al, an, dk] at h; exact none_ _ h.2.symm
  | EI => simp only [Al, an, dk] at h; exact none_ _ h.2.symm
  | ptr _ _ => simp only [Al, an, dk] at h; exact none_ _ h.2.symm
  | Cm _ => simp only [Al, an, dk] at h; exact none_ _ h.2.symm
  | lp _ _ _ => simp only [Al, an, dk] at h; exact none_ _ h.2.symm
  | lit _ _ _ => simp only [Al, an, dk] at h; exact none_ _ h.2.symm
  | fn _ _ => simp only [Al, an, dk] at h; exact none_ _ h.2.symm
  | Ei _ => simp [Al] at h
  | tl n cs =>
   simp only [Al, dn, Prod.exists, dk] at h
   obtain ⟨sk, M1, h1, rfl, rfl⟩ := h
   exact ih cs sk M1 h1
  | snap b n cs =>
   simp only [Al, dn, Prod.exists, dk] at h
   obtain ⟨sk, M1, h1, rfl, rfl⟩ := h
   exact ih cs sk M1 h1
  | pre b m0 n cs =>
   simp only [Al, dn, Prod.exists, dk] at h
   obtain ⟨sk, M1, h1, rfl, rfl⟩ := h
   exact ih cs sk M1 h1
  | sl b off n =>
   simp only [Al] at h
   split at h
   case h_2 => cases h
   rename_i sz cs hb
   split at h
   ·cases h
   simp only [dn, Prod.exists, dk] at h
   obtain ⟨sk, M1, h1, rfl, rfl⟩ := h
   intro x hx
   rcases fi.1 hx with rfl | hx
   ·exact (du.1 hb).1
   ·exact ih _ sk M1 h1 x hx
  | agg cs =>
   simp only [Al, dn, Prod.exists, dk] at h
   obtain ⟨sk, M1, h1, rfl, rfl⟩ := h
   exact ih cs sk M1 h1
section
variable {c : Cx} {E : Ab} {S : St} {a : Act} {o : fc}
theorem B9.lk {E' : Ab} {H' : A5} (hs : D1 c E S a) (h : B9 c E E' H') : E'.lk = c.lk := by rw [h.Cz.lk, hs.lk]
theorem K2 (hs : D1 c E S a) : ∀ (vs : List V) (ms : List SZ) (H : A5) (so : List V) (M : List Nat) (H1 : A5) (E1 : Ab), AW c ms H vs = some (so, M, H1) → B9 c E E1 H → E1.w = E.w →
  B9 c E (E1.heap H1) H1 ∧ H1.length = H.length ∧ (∀ x ∈ M, x < H.length) ∧ ∀ L, (∀ x ∈ M, x ∈ L) → GJ (E1.lock L) ((E1.heap H1).lock L) ∧ ∀ us, AM E1 vs us → AM ((E1.heap H1).lock L) so us
 | [], ms, H, so, M, H1, E1, h, h0, hw => by
  simp only [AW, an, dk] at h
  obtain ⟨rfl, rfl, rfl⟩ := h
  have : E1.heap H = E1 := by rw [← h0.H]; rfl
  rw [this]
  refine ⟨h0, rfl, ?_, fun L _ => ⟨GJ.refl _, fun us hu => by simpa only [AM] using hu⟩⟩
  intro x hx; cases hx
 | v :: vs, ms, H, so, M, H1, E1, h, h0, hw => by
  simp only [AW, dj, dn, Prod.exists, dk] at h
  obtain ⟨v1, M1, Hm, h1, vs2, M2, H2, h2, rfl, rfl, rfl⟩ := h
  have hmm : E1.lk.length = E1.m := by rw [h0.m, hs.m, B9.lk hs h0]
  have key : ∀ (Em : Ab), Em = E1.heap Hm → B9 c E Em Hm → Hm.length = H.length → (∀ x ∈ M1, x < H.length) → (∀ L, (∀ x ∈ M1, x ∈ L) → GJ (E1.lock L) (Em.lock L) ∧ ∀ u, AA E1 v u → AA (Em.lock L) v1 u) → (∀ us, AM E1 vs us → AM Em vs us) →
    B9 c E (E1.heap H2) H2 ∧ H2.length = H.length ∧ (∀ x ∈ M1 ++ M2, x < H.length) ∧ ∀ L, (∀ x ∈ M1 ++ M2, x ∈ L) → GJ (E1.lock L) ((E1.heap H2).lock L) ∧ ∀ us, AM E1 (v :: vs) us → AM ((E1.heap H2).lock L) (v1 :: vs2) us := by
   rintro Em rfl ha hl hM1 hL wy
   obtain ⟨p1, p2, p3, p4⟩ := K2 hs vs ms.tail Hm vs2 M2 H2 (E1.heap Hm) h2 ha hw
   simp only [Ab.KS] at p1 p4
   refine ⟨p1, p2.trans hl, fun x hx => ?_, fun L hM => ?_⟩
   ·rcases eb.1 hx with hx | hx
    ·exact hM1 x hx
    ·rw [← hl]; exact p3 x hx
   ·obtain ⟨q1, q2⟩ := hL L fun x hx => hM x (eb.2 (.inl hx))
    obtain ⟨r1, r2⟩ := p4 L fun x hx => hM x (eb.2 (.inr hx))
    refine ⟨q1.trans r1, fun us hu => ?_⟩
    simp only [AM] at hu ⊢
    obtain ⟨u, tn, rfl, hu1, hu2⟩ := hu
    exact ⟨u, tn, rfl, r1.rep (ha.heap.lock L) _ _ (q2 u hu1), r2 tn (wy tn hu2)⟩
  have tg : E1.heap H = E1 := by rw [← h0.H]; rfl
  unfold E8 at h1
  cases vz : ms.headD .J1 with
  | J1 =>
   simp only [vz, dn, Prod.exists, dk] at h1
   obtain ⟨v1', M1', hl, rfl, rfl, rfl⟩ := h1
   have hd : c.d = E1.lk.length := by rw [B9.lk hs h0]; rfl
   rw [hd, ← h0.H] at hl
   refine key E1 tg.symm h0 rfl (by rw [← h0.H]; exact Oc _ _ _ _ _ _ hl) (fun L hM => ⟨GJ.refl _, fun u hu => LI hmm h0.heap Ba v v1' M1' hl hM u hu⟩) (fun us hu => hu)
  | exact =>
   simp only [vz, an, dk] at h1
   obtain ⟨rfl, rfl, rfl⟩ := h1
   exact key E1 tg.symm h0 rfl (fun x hx => by cases hx) (fun L _ => ⟨GJ.refl _, fun u hu => (Ca.Dv E1 L h0.heap.dm).rep v u hu⟩) (fun us hu => hu)
  | part =>
   simp only [vz, an, dk] at h1
   obtain ⟨rfl, rfl, rfl⟩ := h1
   exact key E1 tg.symm h0 rfl (fun x hx => by cases hx) (fun L _ => ⟨GJ.refl _, fun u hu => Yl _ _ ((Ca.Dv E1 L h0.heap.dm).rep v u hu)⟩) (fun us hu => hu)
  | share =>
   simp only [vz] at h1
   split at h1
   ·cases h1
   simp only [dn, Prod.exists, dk] at h1
   obtain ⟨v1', Hm', hg, rfl, rfl, rfl⟩ := h1
   obtain ⟨g1, g2, g3, g4⟩ := IK hs h0 hg
   refine key (E1.heap Hm') rfl g1 g4 (fun x hx => by cases hx) (fun L _ => ?_) (fun us hu => g2.Hz h0.heap _ _ hu)
   obtain ⟨k1, k2, k3⟩ := Hp c.base Ba (E1.lock L) v v1' Hm' (by rw [Ab.FG, h0.H]; exact hg) (h0.heap.lock L)
   refine ⟨k1, fun u hu => ?_⟩
   have := k3 u ((Ca.Dv E1 L h0.heap.dm).rep v u hu)
   exact (Ca.grow ((E1.lock L).heap Hm') (n := 0) (m := 0) (ga _) (ga _)).rep _ _ this
  | O2 k sh =>
   simp only [vz] at h1
   split at h1
   case h_2 => cases h1
   rename_i cs
   split at h1
   case isFalse => cases h1
   rename_i hn
   simp only [dj, Prod.exists] at h1
   obtain ⟨v0, M0, H0, h0', h1⟩ := h1
   split at h1
   case h_2 => cases h1
   rename_i xs
   simp only [an, dk] at h1
   obtain ⟨rfl, rfl, rfl⟩ := h1
   have glue : ∀ (Em : Ab), (∀ u, AA E1 (.agg (cs.take k)) u → AA Em (.agg xs) u) → ∀ u, AA E1 (.agg cs) u → AA Em (.agg (xs ++ cs.drop k)) u := by
    intro Em hp u hu
    simp only [AA] at hu
    obtain ⟨us, rfl, hu⟩ := hu
    rw [← List.take_append_drop k cs] at hu
    obtain ⟨us1, us2, he, q1, q2⟩ := Nm hu
    have := hp (.agg us1.toArray) (by simp only [AA]; exact ⟨_, rfl, by simpa using q1⟩)
    simp only [AA, Value.agg.injEq] at this
    obtain ⟨us3, e3, q3⟩ := this
    subst e3
    simp only [AA]
    exact ⟨us, rfl, by rw [he]; exact EU (by simpa using q3) (S5 hn q2)⟩
   cases sh with
   | false =>
    simp only [ei, if_false, dn, Prod.exists, dk] at h0'
    obtain ⟨v1', M1', hl, e1, rfl, rfl⟩ := h0'
    subst e1
    have hd : c.d = E1.lk.length := by rw [B9.lk hs h0]; rfl
    rw [hd, ← h0.H] at hl
    exact key E1 tg.symm h0 rfl (by rw [← h0.H]; exact Oc _ _ _ _ _ _ hl) (fun L hM => ⟨GJ.refl _, glue _ fun u hu => LI hmm h0.heap Ba _ _ M1' hl hM u hu⟩) (fun us hu => hu)
   | true =>
    simp only [if_true] at h0'
    split at h0'
    ·cases h0'
    simp only [dn, Prod.exists, dk] at h0'
    obtain ⟨v1', Hm', hg, e1, rfl, rfl⟩ := h0'
    subst e1
    obtain ⟨g1, g2, g3, g4⟩ := IK hs h0 hg
    refine key (E1.heap Hm') rfl g1 g4 (fun x hx => by cases hx) (fun L _ => ?_) (fun us hu => g2.Hz h0.heap _ _ hu)
    obtain ⟨k1, k2, k3⟩ := Hp c.base Ba (E1.lock L) _ _ Hm' (by rw [Ab.FG, h0.H]; exact hg) (h0.heap.lock L)
    refine ⟨k1, glue _ fun u hu => ?_⟩
    have := k3 u ((Ca.Dv E1 L h0.heap.dm).rep _ u hu)
    exact (Ca.grow ((E1.lock L).heap Hm') (n := 0) (m := 0) (ga _) (ga _)).rep _ _ this
def lL (c : Cx) (E : Ab) (a : Act) (o : fc) (v : V) (H' : A5) : Prop :=
 ∀ (next : Act → je → Prop) (Q : Exit → Act → je → Prop), (∀ E' u, B9 c E E' H' → AA E' v u → next (a.put o.dst u) E'.w) → o.wp c.P a E.w next Q
theorem GA.tQ {v : V} {H' : A5} (h : GA c E a o v H') : lL c E a o v H' := by
 intro next Q hn
 obtain ⟨E', ha, h⟩ := h
 unfold Oper.wp
 rcases h with ⟨u, h1, h2⟩ | ⟨h1, h2⟩
 ·rw [h1]; exact hn E' u ha h2
 ·rw [h1]; exact hn E' undef ha h2
theorem VT.lk {h : BX} {k : jc} {L : List Nat} {E0 E1 : Ab} {H' : A5} (hb : VT h k L E0 E1 H') : E1.lk = E0.lk := ot (bs := [L]) hb.Cz.lk
theorem Dc.locked {h : BX} {k : jc} {L : List Nat} {E0 E1 : Ab} {H' : A5} (hb : VT h k L E0 E1 H') (hh : Ch E0) {base nb d : Nat} (vb : base ≤ E0.n) (hL : ∀ b, b < base → b ∈ L) (va : nb ≤ E0.n) (hd : d ≤ E0.m) (hf : Dc E0 base nb d) : Dc E1 base nb d := by
 have vf := hb.Cz.unlock hh.dm
 intro b sz cs sd hB c t hc i v u hv hu
 have hbn : b < E0.n := fw sd vb
 have hlock : AT (E0.lk ++ [L]) b = false := by
  rw [mv]
  intro hx
  unfold AT at hx
  rw [gb] at hx
  have := hx L (by simp)
  simp [hL b sd] at this
 rw [hb.kept b hbn hlock] at hB
 have hphi := (vf.Ce b hbn (fun l n z => by rw [hB]; simp)).1
 rw [hphi] at hc
 have hblk : E1.w.heap[E0.φ b]? = E0.w.heap[E0.φ b]? := by
  obtain ⟨c0, t0, h1, _, _⟩ := hh.cells b sz cs hB
  have := hb.Cz.block (E0.φ b) (ef.1 h1).1 fun i => by
   have := Ma hh hB (hL b sd) i
   simpa using this
  exact this
 rw [hblk] at hc
 exact (vf.shrink hh va hd).rep v u (hf b sz cs sd hB c t hc i v u hv hu)
theorem Y0 (hs : D1 c E S a) (hΓ : Hh c.P c.hints c.Γ) {v : V} {H' : A5} (hc : FF o = true) (h : Cn c o S = some (v, H')) : lL c E a o v H' := by
 unfold FF at hc
 split at hc
 case h_2 => cases hc
 rename_i f args ats ho
 simp only [Cn, ho] at h
 split at h
 case h_2 => cases h
 rename_i g caps hf
 simp only [dj, Prod.exists] at h
 obtain ⟨vs, wy, as, M, H1, hl, hg⟩ := h
 intro next Q hn
 have hrf := BB hs f _ hf
 simp only [AA] at hrf
 obtain ⟨cv, hcv, hcr⟩ := hrf
 have hrv := TZ hs _ _ wy
 have vu : AM E (vs ++ caps) ((args.toList.map a.eval) ++ cv.toList) := EU hrv hcr
 obtain ⟨ha, hlen, hM, hL⟩ := K2 hs _ _ _ _ _ _ E hl (B9.refl hs) rfl
 let L := c.C6 g M H1
 have hML : ∀ x ∈ M, x ∈ L := by
  intro x hx
  show x ∈ c.C6 g M H1
  unfold Cx.C6
  split
  ·exact eb.2 (.inl hx)
  ·split
   ·exact eb.2 (.inl hx)
   ·exact hx
 have hLlt : ∀ x ∈ L, x < H1.length := by
  intro x hx
  have hx : x ∈ c.C6 g M H1 := hx
  unfold Cx.C6 at hx
  have hMl : ∀ x ∈ M, x < H1.length := by rw [hlen]; exact hM
  have hbl : c.base ≤ H1.length := by rw [hlen]; exact hs.base
  split at hx
  ·rcases eb.1 hx with hx | hx
   ·exact hMl x hx
   ·simpa using hx
  ·split at hx
   ·rcases eb.1 hx with hx | hx
    ·exact hMl x hx
    ·have := ik.1 hx
     omega
   ·exact hMl x hx
 obtain ⟨vf, xh⟩ := hL L hML
 have hlk1 : (E.heap H1).lk = c.lk := hs.lk
 obtain ⟨fn, zo, xu, ud⟩ := hΓ.body _ _ _ _ _ hg
 have ui := hΓ.run g as H1 c.lk L v H' hg (E.heap H1) _ rfl hlk1 ha.n (by rw [ha.m, hs.m]) ha.heap (by
  intro l hl x hx
  rcases eb.1 hl with hl | hl
  ·rw [hlen]; exact fw (hs.Dv l hl x hx) hs.base
  ·simp only [dt] at hl
   subst hl
   exact hLlt x hx) (xh _ vu)
 have hexec : (execOp a.eval o).run c.P E.w = .ok (.enter g (((args.toList.map a.eval) ++ cv.toList).toArray)) E.w := by
  have hA : (args.map a.eval) ++ cv = (((args.toList.map a.eval) ++ cv.toList)).toArray := by
   apply mf; simp
  simp only [execOp, ho, resolve, hcv, Deferred.ofValue, Sem.run_bind, Sem.run_pure, Result.andThen_ok, invoke, callFunc, run_program, zo, ud, xu, hA]
  simp
 unfold Oper.wp
 rw [hexec]
 refine Calls.mono ui ?_
 intro e w' hR
 cases e with
 | returned u =>
  obtain ⟨E1, rfl, hb, hr⟩ := hR
  refine hn E1 u (ha.trans (E'' := E1) ⟨hb.H, hb.n, ?_, hb.Cz.unlock ha.heap.dm, hb.heap, ?_, ?_, ?_⟩) hr
  ·have := (hb.Cz.unlock ha.heap.dm).mm; exact this
  ·intro hgf base nb d vb va hd hrf
   have ua : base ≤ (E.heap H1).n := by rw [ha.n, hlen]; exact fg vb hs.base
   cases hgk : c.hints.grow g with
   | false => exact hb.I7 hgk base nb d ua va hd hrf
   | true =>
    refine Dc.locked hb ha.heap ua (fun b sd => ?_) va hd hrf
    show b ∈ c.C6 g M H1
    unfold Cx.C6
    split
    ·refine eb.2 (.inr (ik.2 ?_))
     rw [hlen]; have := hs.base; omega
    ·rw [hgk, hgf]
     simp only [Bool.not_false, Bool.and_self, if_true]
     exact eb.2 (.inr (ik.2 (by omega)))
  ·intro hgf base d vb hd hrf
   have ua : base ≤ (E.heap H1).n := by rw [ha.n, hlen]; exact fg vb hs.base
   cases hgk : c.hints.grow g with
   | false => exact (hb.I7 hgk base _ d ua (dz _) hd hrf).up (hb.Cz.unlock ha.heap.dm).len
   | true => exact hb.Ib hgk base d ua hd hrf
  ·intro b hbl hbk
   rw [← hb.H]
   refine hb.kept b ?_ ?_
   ·rw [ha.n, hlen]; have := hs.base; omega
   ·rw [hlk1]
    rw [mv] at hbk ⊢
    intro hx
    refine hbk ?_
    unfold AT at hx ⊢
    rw [gb] at hx ⊢
    exact fun l hl => hx l (eb.2 (.inl hl))
 | panicked _ => exact hR.elim
 | outgrown => exact hR.elim
theorem X7 (hs : D1 c E S a) (hΓ : Hh c.P c.hints c.Γ) {v : V} {H' : A5} (h : Cn c o S = some (v, H')) : lL c E a o v H' := by
 cases hc : FF o with
 | false => exact (dM hs hc h).tQ
 | true => exact Y0 hs hΓ hc h
end
theorem Mw {T T' : Nat → V} : ∀ (l : List ed), (∀ x ∈ l, ev T x = ev T' x) → Ld T l = Ld T' l
 | [], _ => rfl
 | x :: l, h => by
  simp only [Ld]
  rw [h x (by simp), Mw l fun y hy => h y (by simp [hy])]
theorem Mx {T T' : Nat → V} : ∀ (l : List (Nat × ed)), (∀ x ∈ l.map (·.2), ev T x = ev T' x) → Sp T l = Sp T' l
 | [], _ => rfl
 | (i, x) :: l, h => by
  simp only [Sp]
  rw [h x (by simp), Mx l fun y hy => h y (by simp only [gq, fi]; exact .inr hy)]
theorem LX {T T' : Nat → V} (n : Nat) (o : Option ed) (h : ∀ x, o = some x → ev T x = ev T' x) : Cy T n o = Cy T' n o := by
 cases o with
 | none => rfl
 | some x => simp only [Cy]; rw [h x rfl]
theorem S7 (c : Cx) (o : fc) {T T' : Nat → V} {H : A5} (h : ∀ x ∈ o.op.operands, ev T x = ev T' x) : Cn c o { T := T, H := H } = Cn c o { T := T', H := H } := by
  cases ho : o.op <;> (rw [ho] at h; simp only [Op.operands] at h; simp only [Cn, ho])
  case move x => rw [h x (by simp)]
  case assign x => rw [h x (by simp)]
  case pick k x y => rw [h k (by simp), h x (by simp), h y (by simp)]
  case box t x => rw [h x (by simp)]
  case build t ps => rw [Mx _ fun x hx => h x (by simpa using hx)]
  case buildSlice t n ps => rw [Mx _ fun x hx => h x (by simpa using hx)]
  case load t x => rw [h x (by simp)]
  case store t x y => rw [h x (by simp), h y (by simp)]
  case nilCheck x => rw [h x (by simp)]
  case binOp op t x y t2 => rw [h x (by simp), h y (by simp)]
  case unOp op t x => rw [h x (by simp)]
  case convert s d x => rw [h x (by simp)]
  case makeFunc fn first caps => rw [Mw _ fun x hx => h x (by simp; exact .inr (by simpa using hx))]
  case makeSlice t x y => rw [h x (by simp), h y (by simp)]
  case slice t x lo hi mx =>
    rw [h x (by simp)]
    cases mx with
    | none =>
      simp only []
      rw [LX 0 lo fun y hy => h y (by subst hy; simp)]
      have : ∀ n, Cy T n hi = Cy T' n hi := fun n => LX n hi fun y hy => h y (by subst hy; simp)
      simp only [this]
    | some mx =>
      cases lo with
      | some _ => rfl
      | none =>
        cases hi with
        | none => rfl
        | some hi =>
          simp only []
          rw [h hi (by simp), h mx (by simp)]
  case fieldAddr s x f => rw [h x (by simp)]
  case field s x f => rw [h x (by simp)]
  case indexAddr t x i => rw [h x (by simp), h i (by simp)]
  case index t x i => rw [h x (by simp), h i (by simp)]
  case extract x i => rw [h x (by simp)]
  case makeMap t r => cases r <;> rfl
  case lookup t x k ok => rw [h x (by simp), h k (by simp)]
  case mapUpdate t x k y => rw [h x (by simp), h k (by simp), h y (by simp)]
  case mapEntry t x k => rw [h x (by simp), h k (by simp)]
  case entryStore t x k y => rw [h x (by simp), h k (by simp), h y (by simp)]
  case call k =>
    obtain ⟨callee, args, ats⟩ := k
    simp only [Call.operands] at h
    cases callee with
    | invoke r n => rfl
    | value f =>
      simp only []
      rw [h f (by simp), Mw _ fun x hx => h x (by simp; exact .inr (by simpa using hx))]
    | builtin b =>
      have hx : ∀ x ∈ args.toList, ev T x = ev T' x := fun x hx => h x (by simpa using hx)
      cases b <;> try rfl
      case len =>
        simp only []
        split
        · rename_i x t ha ht
          rw [hx x (by rw [ha]; simp)]
        · rfl
      case append =>
        simp only []
        split
        · rename_i x y st xt ha ht
          rw [hx x (by rw [ha]; simp), hx y (by rw [ha]; simp)]
        · rfl
      case min =>
        simp only []
        split
        · rename_i x y ha
          rw [hx x (by rw [ha]; simp), hx y (by rw [ha]; simp)]
        · rfl
      case max =>
        simp only []
        split
        · rename_i x y ha
          rw [hx x (by rw [ha]; simp), hx y (by rw [ha]; simp)]
        · rfl
theorem Lb {c : Cx} (hs : c.still = true) (hg : c.hints.iO c.fn = false) : ∀ (ps wu : List (Nat × V)) (H H' : A5), Cd c H ps = some (wu, H') → H' = H ∧ ∀ H2, Cd c H2 ps = some (wu, H2)
 | [], wu, H, H', h => by
  simp only [Cd, an, dk] at h
  obtain ⟨rfl, rfl⟩ := h
  exact ⟨rfl, fun _ => rfl⟩
 | (i, v) :: ps, wu, H, H', h => by
  simp only [Cd, dj, dn, Prod.exists, dk] at h
  obtain ⟨v1, H1, hv, ps2, H3, h2, rfl, rfl⟩ := h
  have key : H1 = H ∧ ∀ H2, Fb c H2 v = some (v1, H2) := by
   unfold Fb at hv ⊢
   rw [hs] at hv ⊢
   split at hv
   ·rename_i hk
    simp only [an, dk] at hv
    obtain ⟨rfl, rfl⟩ := hv
    exact ⟨rfl, fun H2 => by rw [ru hk]⟩
   ·rename_i hk
    simp only [if_true] at hv
    split at hv
    ·rename_i hc
     simp only [an, dk] at hv
     obtain ⟨rfl, rfl⟩ := hv
     exact ⟨rfl, fun H2 => by rw [rr hk]; simp only [if_true]; rw [ru hc]⟩
    ·rw [hg] at hv; simp at hv
  obtain ⟨rfl, k1⟩ := key
  obtain ⟨rfl, k2⟩ := Lb hs hg ps ps2 H1 H3 h2
  refine ⟨rfl, fun H2 => ?_⟩
  simp only [Cd, k1 H2, ba, k2 H2, dq]
theorem FH {x : Option V} {H H2 : A5} : (x.map fun v => (v, H2)) = (x.map fun v => (v, H)).map fun r => (r.1, H2) := by
 cases x <;> rfl
theorem ND {c : Cx} {ow : Bool} {o : fc} (hp : Ht ow o = true) (hb : ∀ t n ps, o.op ≠ .buildSlice t n ps) {T : Nat → V} {H H2 : A5} : Cn c o { T := T, H := H2 } = (Cn c o { T := T, H := H }).map fun r => (r.1, H2) := by
  unfold Ht at hp
  cases ho : o.op <;> simp only [ho, ei] at hp <;> simp only [Cn, ho]
  case buildSlice t n ps => exact absurd ho (hb t n ps)
  case move x => exact FH
  case assign x => exact FH
  case pick k x y => split <;> first | exact FH | rfl
  case build t ps =>
    cases Sp T ps.toList with
    | none => rfl
    | some ps => cases BH c.P t with
      | none => rfl
      | some z => cases Dy c.P t with
        | none => rfl
        | some pl => exact FH
  case nilCheck x => split <;> rfl
  case binOp op t x y t2 =>
    cases ev T x with
    | none => rfl
    | some p => cases ev T y with
      | none => rfl
      | some q => exact FH
  case unOp op t x =>
    cases ev T x with
    | none => rfl
    | some p => exact FH
  case convert s d x =>
    split
    · rfl
    · split
      · exact FH
      · rfl
    · rfl
  case makeFunc fn first caps =>
    split
    · cases Ld T caps.toList <;> rfl
    · rfl
  case slice t x lo hi mx =>
    cases ev T x with
    | none => cases mx <;> cases lo <;> cases hi <;> rfl
    | some v => cases hl : D4 v with
      | none => cases mx <;> cases lo <;> cases hi <;> simp [hl]
      | some n =>
        cases mx with
        | none =>
          simp only [ba, hl]
          cases Cy T 0 lo with
          | none => rfl
          | some l => cases Cy T n hi with
            | none => rfl
            | some r => cases B0 c.P t with
              | none => rfl
              | some e =>
                simp only [ba]
                cases B3 c.P e with
                | none => rfl
                | some sz =>
                  simp only [ba]
                  split
                  · split <;> first | rfl | exact FH
                  · rfl
        | some mx =>
          cases lo with
          | some _ => rfl
          | none => cases hi with
            | none => rfl
            | some hi =>
              simp only [ba, hl]
              cases B0 c.P t with
              | none => rfl
              | some e =>
                simp only [ba]
                cases B3 c.P e with
                | none => rfl
                | some sz =>
                  simp only [ba]
                  split
                  · split <;> rfl
                  · rfl
  case fieldAddr s x f =>
    cases AL c.P s f with
    | none => rfl
    | some off =>
      simp only [ba]
      split <;> rfl
  case field s x f =>
    cases AL c.P s f with
    | none => rfl
    | some off =>
      simp only [ba]
      split
      · split
        · exact FH
        · rfl
      · rfl
  case indexAddr t x i =>
    cases B0 c.P t with
    | none => rfl
    | some e =>
      simp only [ba]
      cases B3 c.P e with
      | none => rfl
      | some sz => cases ev T x with
        | none => rfl
        | some v =>
          simp only [ba]
          split
          · cases D4 v with
            | none => rfl
            | some n =>
              simp only [ba]
              split
              · split <;> rfl
              · rfl
          · rfl
  case index t x i =>
    split
    · split
      · exact FH
      · rfl
    · rfl
  case extract x i =>
    split
    · exact FH
    · rfl
  case call k =>
    obtain ⟨callee, args, ats⟩ := k
    cases callee with
    | invoke r n => simp at hp
    | value f => simp at hp
    | builtin b =>
      cases b <;> simp only [ei] at hp
      case len =>
        simp only []
        split
        · split
          · rfl
          · rename_i v _ _
            cases D4 v <;> rfl
          · rfl
        · rfl
      case min =>
        simp only []
        split
        · split <;> rfl
        · rfl
      case max =>
        simp only []
        split
        · split <;> rfl
        · rfl
theorem dR {c : Cx} (hs : c.still = true) {o : fc} (hp : Ht c.lits o = true) {T : Nat → V} {H H' : A5} {v : V} (h : Cn c o { T := T, H := H } = some (v, H')) : H' = H ∧ ∀ H2, Cn c o { T := T, H := H2 } = some (v, H2) := by
  by_cases hb : ∀ t n ps, o.op ≠ .buildSlice t n ps
  · have h1 := ND (c := c) hp hb (T := T) (H := H) (H2 := H)
    rw [h] at h1
    simp only [dq, an, dk, true_and] at h1
    exact ⟨h1, fun H2 => by rw [ND (c := c) hp hb (T := T) (H := H) (H2 := H2), h]; rfl⟩
  · obtain ⟨t, n, ps, ho⟩ : ∃ t n ps, o.op = .buildSlice t n ps := jk fun hx => hb fun t n ps e => hx ⟨t, n, ps, e⟩
    simp only [Cn, ho] at h ⊢
    simp only [dj, Prod.exists] at h
    obtain ⟨ps1, h1, ps2, H1, h2, e, h3, sz, h4, z, h5, h6⟩ := h
    have hlg : c.hints.lits c.fn = false ∧ c.hints.iO c.fn = false := by
      have : c.lits = false := by simpa [Ht, ho] using hp
      simpa only [Cx.lits, Bool.or_eq_false_iff] using this
    obtain ⟨rfl, k⟩ := Lb hs hlg.2 _ _ _ _ h2
    split at h6
    case isFalse => cases h6
    rename_i hc
    have xn : c.own n = false := by simp [Cx.own, hlg.1]
    simp only [xn, ei, if_false, dn, dk] at h6
    obtain ⟨cs, h7, rfl, rfl⟩ := h6
    refine ⟨rfl, fun H2 => ?_⟩
    simp only [h1, ba, k H2, h3, h4, h5, xn, ei, if_false]
    rw [ru hc, h7]
    rfl
def Dq (c : Cx) (ops : Array fc) (o : fc) (S : St) : Option (V × A5) := (DF ops S.T o).bind fun b => if b then Cn c o S else some (CT, S.H)
def JR (dst : Option Nat) (r : V × A5) (S : St) : St := { T := match dst with | some d => fun i => if i = d then r.1 else S.T i | none => S.T, H := r.2 }
def kF (c : Cx) (o : fc) : Bool := match o.dst with | some d => decide (d < c.ntmps) | none => true
theorem Ee (c : Cx) (ops : Array fc) (o : fc) (S : St) : C1 c ops o S = (Dq c ops o S).bind fun r => if kF c o = true then some (JR o.dst r S) else none := by
 unfold C1 Dq kF
 cases DF ops S.T o with
 | none => rfl
 | some b =>
  simp only [ba]
  cases b with
  | true =>
   simp only [if_true, Jg]
   cases o.dst with
   | none => cases Cn c o S <;> rfl
   | some d =>
    by_cases hd : d < c.ntmps
    ·simp only [hd, if_true, decide_true]; cases Cn c o S <;> rfl
    ·simp only [hd, if_false, decide_false]; cases Cn c o S <;> simp
  | false =>
   simp only [ei, if_false]
   cases o.dst with
   | none => rfl
   | some d =>
    by_cases hd : d < c.ntmps
    ·simp only [hd, if_true, decide_true, ba]; rfl
    ·simp only [hd, if_false, decide_false, ba]; simp
theorem RY {ops : Array fc} {o : fc} {T T' : Nat → V} (h : ∀ t ∈ o.looksAt ops, T t = T' t) : DF ops T o = DF ops T' o := by
 unfold DF
 cases hg : o.guard with
 | none => rfl
 | some gw =>
  obtain ⟨j, want⟩ := gw
  simp only []
  cases ht : (ops[j]?).bind (·.dst) with
  | none => rfl
  | some t =>
   simp only []
   rw [h t (by simp [Oper.looksAt, hg, ht])]
theorem JC {c : Cx} {ops : Array fc} {o : fc} {T T' : Nat → V} {H : A5} (h : ∀ t ∈ o.looksAt ops, T t = T' t) : Dq c ops o { T := T, H := H } = Dq c ops o { T := T', H := H } := by
  unfold Dq
  rw [RY (T := T) (T' := T') h, S7 c o (T := T) (T' := T') fun x hx => ?_]
  cases x with
  | tmp t =>
    simp only [ev]
    rw [h t (ew _ (nt.2 ⟨.tmp t, by simpa using hx, rfl⟩))]
  | _ => rfl
theorem Rj {c : Cx} (hs : c.still = true) {ops : Array fc} {o : fc} (hp : Ht c.lits o = true) {T : Nat → V} {H H' : A5} {v : V} (h : Dq c ops o { T := T, H := H } = some (v, H')) : H' = H ∧ ∀ H2, Dq c ops o { T := T, H := H2 } = some (v, H2) := by
  unfold Dq at h ⊢
  simp only [dj] at h
  obtain ⟨b, hb, h⟩ := h
  cases b with
  | true =>
    simp only [if_true] at h
    obtain ⟨k1, k2⟩ := dR hs hp h
    exact ⟨k1, fun H2 => by simp only [hb, ba, if_true]; exact k2 H2⟩
  | false =>
    simp only [ei, if_false, an, dk] at h
    obtain ⟨rfl, rfl⟩ := h
    exact ⟨rfl, fun H2 => by simp only [hb, ba, ei, if_false]⟩
def Am (H H' : A5) : Prop := (∀ (b sz : Nat) (cs : List V), H[b]? = some (.cells sz cs) → H'[b]? = some (.cells sz cs)) ∧ ∀ (b : Nat) (BC : List (V × V)), H[b]? = some (.mp BC) → H'[b]? = some (.mp BC)
theorem Am.refl (H : A5) : Am H H := ⟨fun _ _ _ h => h, fun _ _ h => h⟩
theorem Am.push (H x : A5) : Am H (H ++ x) := ⟨fun b z cs hB => by rw [eh (du.1 hB).1]; exact hB, fun b BC hB => by rw [eh (du.1 hB).1]; exact hB⟩
theorem Ri {c : Cx} {ops : Array fc} {o : fc} (hp : Hs o = true) {T : Nat → V} {H H' : A5} {v : V} (h : Dq c ops o { T := T, H := H } = some (v, H')) : H' = H ∧ ∀ H2, Am H H2 → Dq c ops o { T := T, H := H2 } = some (v, H2) := by
  unfold Dq at h ⊢
  simp only [dj] at h
  obtain ⟨b, hb, h⟩ := h
  cases b with
  | true =>
    simp only [if_true] at h
    unfold Hs at hp
    split at hp
    case h_3 => cases hp
    · rename_i t x ho
      simp only [Cn, ho, dj, dn, dk] at h
      obtain ⟨p, hx, v', hl, rfl, rfl⟩ := h
      refine ⟨rfl, fun H2 tg => ?_⟩
      simp only [hb, ba, if_true, Cn, ho, hx]
      have : Fg c.P t H2 p = some v' := by
        unfold Fg at hl ⊢
        cases p with
        | ptr b off =>
          simp only [] at hl ⊢
          split at hl
          case h_2 => cases hl
          rename_i sz cs hB
          rw [tg.1 b sz cs hB]
          exact hl
        | lp lv cs off => exact hl
        | _ => simp at hl
      rw [this]
      rfl
    · rename_i t x k ok ho
      simp only [Cn, ho, dj, dn, dk] at h
      obtain ⟨m, hx, kv, hk, v', hl, rfl, rfl⟩ := h
      refine ⟨rfl, fun H2 tg => ?_⟩
      simp only [hb, ba, if_true, Cn, ho, hx, hk]
      have : Jf c.P t H2 m kv ok = some v' := by
        unfold Jf at hl ⊢
        cases m with
        | Cm b =>
          simp only [] at hl ⊢
          split at hl
          case h_2 => cases hl
          rename_i BC hB
          rw [tg.2 b BC hB]
          exact hl
        | _ => simp at hl
      rw [this]
      rfl
  | false =>
    simp only [ei, if_false, an, dk] at h
    obtain ⟨rfl, rfl⟩ := h
    exact ⟨rfl, fun H2 _ => by simp only [hb, ba, ei, if_false]⟩
theorem Y1 {q : Sc} {x y : V} (hs : q ≠ .s) (h : Fw q x y = some true) : x = y := by
 cases q <;> cases x <;> cases y <;> simp_all [Fw]
theorem P9 : ∀ {ks : List Sc} {xs ys : List V}, (ks.all fun q => decide (q ≠ .s)) = true → xs.length = ks.length → ys.length = ks.length → DC ks xs ys = some true → xs = ys
 | [], xs, ys, _, hx, hy, _ => by rw [ff hx, ff hy]
 | k :: ks, [], _, _, hx, _, _ => by simp at hx
 | k :: ks, _ :: _, [], _, _, hy, _ => by simp at hy
 | k :: ks, x :: xs, y :: ys, hk, hx, hy, h => by
  simp only [jr, ec, ry] at hk
  simp only [DC, dj] at h
  obtain ⟨b, h1, h2⟩ := h
  cases b with
  | false => simp at h2
  | true =>
   simp only [if_true] at h2
   rw [Y1 hk.1 h1, P9 hk.2 (by simpa using hx) (by simpa using hy) h2]
theorem ZR {P : ep} {k : ea} {kt : KT} (hk : RP P k = some kt) {x y : V} (h : EM kt x y = some true) : x = y := by
 cases kt with
 | one q =>
  cases q with
  | s =>
   cases x <;> cases y <;> simp only [EM] at h <;> try (cases h; done)
   simp only [an] at h
   rw [(Go.MapKept.bytes_beq _ _).1 h]
  | b => cases x <;> cases y <;> simp_all [EM, Fw]
  | i => cases x <;> cases y <;> simp_all [EM, Fw]
 | many ks =>
  obtain ⟨xs, ys, rfl, rfl, h1, h2, h3⟩ := JD h
  rw [P9 (KW hk).2 h1 h2 h3]
theorem Px {kt : KT} {k z : V} (hs : EM kt k k = some true) : ∀ (BC : List (V × V)) (i : Nat), Fc kt k BC i = some none → Fc kt k (BC ++ [(k, z)]) i = some (some (i + BC.length, z))
 | [], i, _ => by simp [Fc, hs]
 | e :: BC, i, h => by
  simp only [Fc, dj] at h
  obtain ⟨b, hb, h⟩ := h
  cases b with
  | true => simp at h
  | false =>
   simp only [ei, if_false] at h
   simp only [ie, Fc, hb, ba, ei, if_false]
   rw [Px hs BC (i + 1) h, List.length_cons]
   congr 3
   omega
theorem WL {c : Cx} {t : ea} {H H' : A5} {m k v r : V} (h : IZ c t H m k = some (v, H')) (hl : Jf c.P t H m k false = some r) : Jf c.P t H' m k false = some r := by
 unfold IZ at h
 split at h
 case h_2 => cases h
 rename_i b
 split at h
 case h_2 => cases h
 rename_i BC hb
 simp only [dj] at h
 obtain ⟨q, hq, h⟩ := h
 split at h
 case isFalse => cases h
 rename_i hc
 simp only [dj] at h
 obtain ⟨f, hf, h⟩ := h
 obtain ⟨kt, _, hkt⟩ := KY hq
 have sd : b < H.length := (du.1 hb).1
 unfold Jf at hl ⊢
 simp only [hb, hq, ba, ru (show Be k = true ∧ EM q.1 k k = some true from ⟨hc.1, hc.2.1⟩), hf] at hl
 cases f with
 | some f =>
  obtain ⟨i, vv⟩ := f
  simp only [an, dk] at h
  obtain ⟨_, rfl⟩ := h
  obtain ⟨n, kk, h1, h2, h3⟩ := Is BC 0 i vv hf
  have : i = n := by omega
  subst this
  have hkk := ZR hkt h3
  subst hkk
  have hset : BC.set i (k, vv) = BC := by
   apply List.ext_getElem?
   intro j
   rw [List.getElem?_set]
   split
   ·rename_i e; subst e; rw [ru (du.1 h2).1, h2]
   ·rfl
  rw [hset]
  have hg : (H.set b (.mp BC))[b]? = some (.mp BC) := by rw [AX, ru ⟨rfl, sd⟩]
  simp only [hg, hq, ba, ru (show Be k = true ∧ EM q.1 k k = some true from ⟨hc.1, hc.2.1⟩), hf]
  exact hl
 | none =>
  simp only [dj] at h
  obtain ⟨z, hz, h⟩ := h
  split at h
  case isFalse => cases h
  simp only [an, dk] at h
  obtain ⟨_, rfl⟩ := h
  simp only [ba, hz, dq] at hl
  have hg : (H.set b (.mp (BC ++ [(k, z)])))[b]? = some (.mp (BC ++ [(k, z)])) := by rw [AX, ru ⟨rfl, sd⟩]
  simp only [hg, hq, ba, ru (show Be k = true ∧ EM q.1 k k = some true from ⟨hc.1, hc.2.1⟩), Px hc.2.1 BC 0 hf]
  exact hl
theorem eG {cx cy : Cx} (hP : cx.P = cy.P) (hx : cx.still = true) (hy : cy.still = true) (hl : cx.lits = cy.lits) {ops : Array fc} {x y : fc} (hsw : JW cx.lits ops x y = true) {S : St} {vx vy : V} {Hx Hy : A5} (h1 : Dq cx ops x S = some (vx, Hx)) (h2 : Dq cy ops y (JR x.dst (vx, Hx) S) = some (vy, Hy))
    (hk : Hs x = true → ET y = true → ∀ v H', Dq cy ops y S = some (v, H') → Am S.H H') :
    ∃ H1, Dq cy ops y S = some (vy, H1) ∧ Dq cx ops x (JR y.dst (vy, H1) S) = some (vx, Hy) := by
  unfold JW at hsw
  simp only [ec, gg] at hsw
  obtain ⟨⟨ha, _⟩, td⟩ := hsw
  obtain ⟨a1, a2, a3⟩ := Oper.apart_spec ha
  obtain ⟨T, H⟩ := S
  have ey : ∀ H', Dq cy ops y (JR x.dst (vx, H') { T := T, H := H }) = Dq cy ops y { T := T, H := H' } := by
    intro H'
    unfold JR
    refine JC fun t ht => ?_
    cases hd : x.dst with
    | none => rfl
    | some d =>
      simp only []
      rw [rr (fun (e : t = d) => a1 d hd (e ▸ ht))]
  have ex : ∀ v H', Dq cx ops x (JR y.dst (v, H') { T := T, H := H }) = Dq cx ops x { T := T, H := H' } := by
    intro v H'
    unfold JR
    refine JC fun t ht => ?_
    cases hd : y.dst with
    | none => rfl
    | some d =>
      simp only []
      rw [rr (fun (e : t = d) => a3 d hd (e ▸ ht))]
  rw [ey] at h2
  rcases td with ((hp | hp) | hp) | hp
  · obtain ⟨rfl, k⟩ := Rj hx hp h1
    exact ⟨Hy, h2, by rw [ex]; exact k Hy⟩
  · obtain ⟨rfl, k⟩ := Rj hy (hl ▸ hp) h2
    exact ⟨H, k H, by rw [ex]; exact h1⟩
  · obtain ⟨hl, hp⟩ := hp
    obtain ⟨rfl, k⟩ := Ri hl h1
    rcases hp with hp | hp
    · obtain ⟨rfl, _⟩ := Ri hp h2
      exact ⟨Hy, h2, by rw [ex]; exact h1⟩
    · exact ⟨Hy, h2, by rw [ex]; exact k Hy (hk hl hp _ _ h2)⟩
  · obtain ⟨⟨he, hgx⟩, hgy⟩ := hp
    unfold QS at he
    split at he
    case h_2 => cases he
    rename_i t ax kx t' ay ky hox hoy
    simp only [ec, beq_iff_eq] at he
    obtain ⟨⟨rfl, rfl⟩, rfl⟩ := he
    have g1 : x.guard = none := by unfold Ig at hgx; split at hgx; assumption; cases hgx
    have g2 : y.guard = none := by unfold Ig at hgy; split at hgy; assumption; cases hgy
    have e1 : ∀ H', Dq cx ops x { T := T, H := H' } = (Jf cx.P t H' (T ax) (T kx) false).map fun v => (v, H') := by
      intro H'
      simp only [Dq, DF, g1, ba, if_true, Cn, hox, ev]
    have e2 : Dq cy ops y { T := T, H := Hx } = IZ cy t Hx (T ax) (T kx) := by
      simp only [Dq, DF, g2, ba, if_true, Cn, hoy, ev]
    rw [e1, dn] at h1
    obtain ⟨r, hr, h1⟩ := h1
    simp only [dk] at h1
    obtain ⟨rfl, rfl⟩ := h1
    refine ⟨Hy, h2, ?_⟩
    rw [ex, e1]
    rw [e2] at h2
    rw [hP] at hr ⊢
    rw [WL h2 hr]
    rfl
theorem Nb {cx cy : Cx} {ops : Array fc} {x y : fc} (ha : Oper.apart ops x y = true) {S S1 S2 : St} (h1 : C1 cx ops x S = some S1) (h2 : C1 cy ops y S1 = some S2)
  (key : ∀ vx Hx vy Hy, Dq cx ops x S = some (vx, Hx) → Dq cy ops y (JR x.dst (vx, Hx) S) = some (vy, Hy) → ∃ H1, Dq cy ops y S = some (vy, H1) ∧ Dq cx ops x (JR y.dst (vy, H1) S) = some (vx, Hy)) :
  ∃ S1', C1 cy ops y S = some S1' ∧ C1 cx ops x S1' = some S2 := by
 rw [Ee] at h1 h2
 simp only [dj, Prod.exists] at h1 h2
 obtain ⟨vx, Hx, e1, h1⟩ := h1
 obtain ⟨vy, Hy, e2, h2⟩ := h2
 split at h1
 case isFalse => cases h1
 rename_i c1
 split at h2
 case isFalse => cases h2
 rename_i c2
 simp only [an] at h1 h2
 subst h1
 obtain ⟨H1, k1, k2⟩ := key _ _ _ _ e1 e2
 refine ⟨JR y.dst (vy, H1) S, ?_, ?_⟩
 ·rw [Ee, k1]
  simp only [ba]
  rw [ru c2]
 ·rw [Ee, k2]
  simp only [ba]
  rw [ru c1, ← h2]
  obtain ⟨_, a2, _⟩ := Oper.apart_spec ha
  unfold JR
  congr 1
  simp only [St.mk.injEq, and_true]
  cases hdx : x.dst with
  | none => rfl
  | some dx =>
   cases hdy : y.dst with
   | none => rfl
   | some dy =>
    have sq : dy ≠ dx := fun e => a2 dx hdx (by rw [hdy, e])
    funext i
    simp only []
    by_cases hi : i = dx
    ·subst hi
     rw [ru rfl, rr (fun e => sq e.symm), ru rfl]
    ·rw [rr hi]
     by_cases hj : i = dy
     ·rw [ru hj, ru hj]
     ·rw [rr hj, rr hj, rr hi]
theorem WA {cx cy : Cx} (hP : cx.P = cy.P) (hn : cx.ntmps = cy.ntmps) (hx : cx.still = true) (hy : cy.still = true) (hl : cx.lits = cy.lits) {ops : Array fc} {x y : fc} (hsw : JW cx.lits ops x y = true) {S S1 S2 : St} (h1 : C1 cx ops x S = some S1) (h2 : C1 cy ops y S1 = some S2)
  (hk : Hs x = true → ET y = true → ∀ v H', Dq cy ops y S = some (v, H') → Am S.H H') :
  ∃ S1', C1 cy ops y S = some S1' ∧ C1 cx ops x S1' = some S2 := by
 refine Nb ?_ h1 h2 fun vx Hx vy Hy e1 e2 => eG hP hx hy hl hsw e1 e2 hk
 unfold JW at hsw
 simp only [ec] at hsw
 exact hsw.1.1
theorem TF {c : Cx} {ops : Array fc} {o : fc} {S S' : St} (h : C1 c ops o S = some S') {a : Nat} (hd : o.dst ≠ some a) : S'.T a = S.T a := by
 rw [Ee] at h
 simp only [dj] at h
 obtain ⟨r, _, h⟩ := h
 split at h
 case isFalse => cases h
 simp only [an] at h
 subst h
 unfold JR
 cases hh : o.dst with
 | none => rfl
 | some d =>
  show (if a = d then _ else _) = _
  rw [rr]
  rintro rfl
  exact hd hh
theorem dU {cf : Nat → Cx} {ops : Array fc} {a : Nat} : ∀ (l : List Nat) {S S' : St}, Dr cf ops l S = some S' → (∀ k ∈ l, ∀ o, ops[k]? = some o → o.dst ≠ some a) → S'.T a = S.T a
 | [], S, S', h, _ => by simp only [Dr, an] at h; rw [h]
 | k :: l, S, S', h, hd => by
  simp only [Dr] at h
  split at h
  ·cases h
  rename_i o ho
  simp only [dj] at h
  obtain ⟨S1, h1, h2⟩ := h
  rw [dU l h2 fun k' hk' => hd k' (fm _ hk')]
  exact TF h1 (hd k (fh ..) o ho)
theorem eD {c : Cx} {t : ea} {H H' : A5} {q off : Nat} {w : V} (h : G0 c t H (.ptr q off) w = some H') (hq : c.base ≤ q) : ∃ x, H' = H.set q x := by
 unfold G0 at h
 simp only [rr (ib.2 hq), ba] at h
 split at h
 case isFalse => cases h
 split at h
 ·split at h
  ·simp only [an] at h
   exact ⟨_, h.symm⟩
  ·cases h
 ·cases h
theorem iX {cx cy : Cx} {ops : Array fc} {x y : fc} {t t' : ea} {a b : Nat} {v : ed} (hx : x.op = .load t (.tmp a)) (hy : y.op = .store t' (.tmp b) v) (gx : x.guard = none) (gy : y.guard = none) (ha : Oper.apart ops x y = true) {S S1 S2 : St} (h1 : C1 cx ops x S = some S1) (h2 : C1 cy ops y S1 = some S2)
    (hp : H6 cy.base (S.T a) (S.T b) = true) : ∃ S1', C1 cy ops y S = some S1' ∧ C1 cx ops x S1' = some S2 := by
  refine Nb ha h1 h2 fun vx Hx vy Hy e1 e2 => ?_
  obtain ⟨a1, a2, a3⟩ := Oper.apart_spec ha
  obtain ⟨T, H⟩ := S
  have ey : ∀ H', Dq cy ops y (JR x.dst (vx, H') { T := T, H := H }) = Dq cy ops y { T := T, H := H' } := by
    intro H'
    unfold JR
    refine JC fun t ht => ?_
    cases hd : x.dst with
    | none => rfl
    | some d =>
      simp only []
      rw [rr (fun (e : t = d) => a1 d hd (e ▸ ht))]
  have ex : ∀ v H', Dq cx ops x (JR y.dst (v, H') { T := T, H := H }) = Dq cx ops x { T := T, H := H' } := by
    intro v H'
    unfold JR
    refine JC fun t ht => ?_
    cases hd : y.dst with
    | none => rfl
    | some d =>
      simp only []
      rw [rr (fun (e : t = d) => a3 d hd (e ▸ ht))]
  have x1 : ∀ H', Dq cx ops x { T := T, H := H' } = (Fg cx.P t H' (T a)).map fun v => (v, H') := by
    intro H'
    simp only [Dq, DF, gx, ba, if_true, Cn, hx, ev]
  have y1 : ∀ H', Dq cy ops y { T := T, H := H' } = (ev T v).bind fun w => (G0 cy t' H' (T b) w).map fun H => (CT, H) := by
    intro H'
    simp only [Dq, DF, gy, ba, if_true, Cn, hy]
    rfl
  rw [ey] at e2
  rw [x1, dn] at e1
  obtain ⟨r, hr, e1⟩ := e1
  simp only [dk] at e1
  obtain ⟨rfl, rfl⟩ := e1
  refine ⟨Hy, e2, ?_⟩
  rw [ex, x1]
  rw [y1] at e2
  simp only [dj, dn, dk] at e2
  obtain ⟨w, _, H2, e2, _, rfl⟩ := e2
  have hl : Fg cx.P t H2 (T a) = Fg cx.P t H (T a) := by
    simp only [] at hp
    cases hb : T b with
    | ptr q off =>
      rw [hb] at hp e2
      cases hA : T a with
      | ptr p o =>
        rw [hA] at hp
        simp only [H6, ec, bne_iff_ne, ne_eq, ry] at hp
        obtain ⟨z, rfl⟩ := eD e2 hp.2
        unfold Fg
        simp only []
        rw [AX, rr]
        rintro ⟨e, _⟩
        exact hp.1 e.symm
      | lp _ _ _ => rfl
      | _ => rw [hA] at hp; simp [H6] at hp
    | _ => rw [hb] at hp; cases hA : T a <;> rw [hA] at hp <;> simp [H6] at hp
  rw [hl, hr]; rfl
def D2 (lo : Nat) (lk : Lk) (H H' : A5) : Prop := H.length ≤ H'.length ∧ ∀ b, b < lo → AT lk b = false → H'[b]? = H[b]?
theorem D2.refl (lo : Nat) (lk : Lk) (H : A5) : D2 lo lk H H := ⟨dz _, fun _ _ _ => rfl⟩
theorem D2.trans {lo : Nat} {lk : Lk} {A B C : A5} (h : D2 lo lk A B) (k : D2 lo lk B C) : D2 lo lk A C := ⟨fg h.1 k.1, fun b hb hl => (k.2 b hb hl).trans (h.2 b hb hl)⟩
def GS (Γ : jc → List V → A5 → Lk → Option (V × A5)) : Prop := ∀ k args H lk v H', Γ k args H lk = some (v, H') → D2 H.length lk H H'
theorem N6 {lo : Nat} {lk : Lk} {H : A5} (x : List Bv) (hl : lo ≤ H.length) : D2 lo lk H (H ++ x) :=
 ⟨by simp, fun b hb _ => by rw [eh (by omega)]⟩
theorem Iz {c : Cx} {H : A5} {b : Nat} {x : Bv} (hm : c.Bi b = true) : D2 c.base c.lk H (H.set b x) := by
 refine ⟨by simp, fun y hy hl => ?_⟩
 rw [AX, rr]
 rintro ⟨rfl, _⟩
 unfold Cx.Bi at hm
 simp only [gg, ry] at hm
 rcases hm with hm | hm
 ·omega
 ·rw [hm] at hl; cases hl
theorem Iy {lo k : Nat} {lk : Lk} {H H' : A5} {v v' : V} (h : AV lo k H v = some (v', H')) : D2 lo lk H H' :=
 ⟨by rw [Gx lo k H v v' H' h]; exact dz _, fun b hb _ => KQ lo k H v v' H' h b hb⟩
theorem Rs {c : Cx} : ∀ (vs : List V) (ms : List SZ) (H : A5) (so : List V) (M : List Nat) (H' : A5), AW c ms H vs = some (so, M, H') → D2 c.base c.lk H H' ∧ H'.length = H.length ∧ (c.calm = true → H' = H)
 | [], ms, H, so, M, H', h => by
  simp only [AW, an, dk] at h
  obtain ⟨_, _, rfl⟩ := h
  exact ⟨D2.refl _ _ _, rfl, fun _ => rfl⟩
 | v :: vs, ms, H, so, M, H', h => by
  simp only [AW, dj, dn, Prod.exists, dk] at h
  obtain ⟨v1, M1, Hm, h1, vs2, M2, H2, h2, _, _, rfl⟩ := h
  obtain ⟨k1, l1, c1⟩ := Rs vs ms.tail Hm vs2 M2 H2 h2
  have key : D2 c.base c.lk H Hm ∧ Hm.length = H.length ∧ (c.calm = true → Hm = H) := by
   unfold E8 at h1
   cases vz : ms.headD .J1 with
   | J1 =>
    simp only [vz, dn, Prod.exists, dk] at h1
    obtain ⟨_, _, _, _, _, rfl⟩ := h1
    exact ⟨D2.refl _ _ _, rfl, fun _ => rfl⟩
   | exact =>
    simp only [vz, an, dk] at h1
    obtain ⟨_, _, rfl⟩ := h1
    exact ⟨D2.refl _ _ _, rfl, fun _ => rfl⟩
   | part =>
    simp only [vz, an, dk] at h1
    obtain ⟨_, _, rfl⟩ := h1
    exact ⟨D2.refl _ _ _, rfl, fun _ => rfl⟩
   | share =>
    simp only [vz] at h1
    split at h1
    ·cases h1
    rename_i hc
    simp only [dn, Prod.exists, dk] at h1
    obtain ⟨v1', Hm', hg, _, _, rfl⟩ := h1
    exact ⟨Iy hg, Gx _ _ _ _ _ _ hg, fun hx => absurd hx hc⟩
   | O2 k sh =>
    simp only [vz] at h1
    split at h1
    case h_2 => cases h1
    split at h1
    case isFalse => cases h1
    simp only [dj, Prod.exists] at h1
    obtain ⟨v0, M0, H0, h0', h1⟩ := h1
    split at h1
    case h_2 => cases h1
    simp only [an, dk] at h1
    obtain ⟨_, _, rfl⟩ := h1
    cases sh with
    | false =>
     simp only [ei, if_false, dn, Prod.exists, dk] at h0'
     obtain ⟨_, _, _, _, _, rfl⟩ := h0'
     exact ⟨D2.refl _ _ _, rfl, fun _ => rfl⟩
    | true =>
     simp only [if_true] at h0'
     split at h0'
     ·cases h0'
     rename_i hc
     simp only [dn, Prod.exists, dk] at h0'
     obtain ⟨v1', Hm', hg, _, _, rfl⟩ := h0'
     exact ⟨Iy hg, Gx _ _ _ _ _ _ hg, fun hx => absurd hx hc⟩
  exact ⟨key.1.trans k1, l1.trans key.2.1, fun hx => (c1 hx).trans (key.2.2 hx)⟩
theorem QW {c : Cx} : ∀ (ps : List (Nat × V)) (H : A5) (wu : List (Nat × V)) (H' : A5), Cd c H ps = some (wu, H') → D2 c.base c.lk H H'
 | [], H, wu, H', h => by
  simp only [Cd, an, dk] at h
  obtain ⟨_, rfl⟩ := h
  exact D2.refl _ _ _
 | (i, v) :: ps, H, wu, H', h => by
  simp only [Cd, dj, dn, Prod.exists, dk] at h
  obtain ⟨v1, H1, hv, ps2, H3, h2, _, rfl⟩ := h
  refine D2.trans ?_ (QW ps H1 ps2 H3 h2)
  unfold Fb at hv
  split at hv
  ·simp only [an, dk] at hv
   obtain ⟨_, rfl⟩ := hv
   exact D2.refl _ _ _
  split at hv
  ·split at hv
   ·simp only [an, dk] at hv
    obtain ⟨_, rfl⟩ := hv
    exact D2.refl _ _ _
   ·split at hv
    ·exact Iy hv
    ·cases hv
  ·exact Iy hv
theorem Am.trans {A B C : A5} (h : Am A B) (k : Am B C) : Am A C := ⟨fun b z cs hB => k.1 _ _ _ (h.1 _ _ _ hB), fun b BC hB => k.2 _ _ (h.2 _ _ hB)⟩
theorem Am.kill {H : A5} {b l n sz : Nat} (h : H[b]? = some (.Bt l n sz)) : Am H (H.set b .dead) := by
 refine ⟨fun x z cs hX => ?_, fun x BC hX => ?_⟩
 ·rw [AX, rr]; exact hX
  rintro ⟨rfl, _⟩; rw [h] at hX; cases hX
 ·rw [AX, rr]; exact hX
  rintro ⟨rfl, _⟩; rw [h] at hX; cases hX
theorem Ro {lo k : Nat} {H H' : A5} {v v' : V} (hv : WB v = true) (h : AV lo (k + 2) H v = some (v', H')) : Am H H' := by
 cases v with
 | snap b n cs =>
  simp only [WB, ec] at hv
  rw [AV] at h
  split at h
  case h_2 => cases h
  rename_i l m sz hB
  split at h
  ·cases h
  rw [Du cs hv.1 hv.2] at h
  simp only [dq, an, dk] at h
  obtain ⟨_, rfl⟩ := h
  exact Am.kill hB
 | tl n cs =>
  simp only [WB, ec] at hv
  rw [AV, Du cs hv.1 hv.2] at h
  simp only [dq, an, dk] at h
  obtain ⟨_, rfl⟩ := h
  exact Am.refl _
 | lit lv n cs =>
  rw [AV] at h
  split at h
  ·simp only [an, dk] at h
   obtain ⟨_, rfl⟩ := h
   exact Am.refl _
  ·cases h
 | int _ _ => simp only [AV, an, dk] at h; obtain ⟨_, rfl⟩ := h; exact Am.refl _
 | bool _ => simp only [AV, an, dk] at h; obtain ⟨_, rfl⟩ := h; exact Am.refl _
 | str _ => simp only [AV, an, dk] at h; obtain ⟨_, rfl⟩ := h; exact Am.refl _
 | HV => simp only [AV, an, dk] at h; obtain ⟨_, rfl⟩ := h; exact Am.refl _
 | EI => simp only [AV, an, dk] at h; obtain ⟨_, rfl⟩ := h; exact Am.refl _
 | _ => simp [WB, clean] at hv
theorem QG {lo k : Nat} : ∀ {vs so : List V} {H H' : A5}, vs.all WB = true → AV.giveL (AV lo (k + 2)) H vs = some (so, H') → Am H H'
 | [], so, H, H', _, h => by
  simp only [AV.giveL, an, dk] at h
  obtain ⟨_, rfl⟩ := h
  exact Am.refl _
 | v :: vs, so, H, H', hv, h => by
  rw [jr, ec] at hv
  simp only [AV.giveL, dj, dn, Prod.exists, dk] at h
  obtain ⟨v1, H1, h1, vs2, H2, h2, _, rfl⟩ := h
  exact (Ro hv.1 h1).trans (QG hv.2 h2)
theorem W2 {lo : Nat} {H H' : A5} {v v' : V} (hv : sX v = true) (h : AV lo Ba H v = some (v', H')) : Am H H' := by
 cases v with
 | agg cs =>
  have h : AV lo (5 + 2 + 1) H (.agg cs) = some (v', H') := h
  rw [AV] at h
  simp only [dn, Prod.exists, dk] at h
  obtain ⟨vs, H1, h1, _, rfl⟩ := h
  exact QG hv h1
 | _ => refine Ro (k := 6) ?_ h; exact hv
theorem NV {c : Cx} (hs : c.still = true) : ∀ (ps : List (Nat × V)) (H : A5) (wu : List (Nat × V)) (H' : A5), Cd c H ps = some (wu, H') → Am H H'
 | [], H, wu, H', h => by
  simp only [Cd, an, dk] at h
  obtain ⟨_, rfl⟩ := h
  exact Am.refl _
 | (i, v) :: ps, H, wu, H', h => by
  simp only [Cd, dj, dn, Prod.exists, dk] at h
  obtain ⟨v1, H1, hv, ps2, H3, h2, _, rfl⟩ := h
  refine Am.trans ?_ (NV hs ps H1 ps2 H3 h2)
  unfold Fb at hv
  rw [hs] at hv
  split at hv
  ·simp only [an, dk] at hv
   obtain ⟨_, rfl⟩ := hv
   exact Am.refl _
  simp only [if_true] at hv
  split at hv
  ·simp only [an, dk] at hv
   obtain ⟨_, rfl⟩ := hv
   exact Am.refl _
  split at hv
  ·rename_i hg
   rw [ec] at hg
   exact W2 hg.2 hv
  ·cases hv
theorem WH {c : Cx} {t : ea} {H H' : A5} {p x : V} (h : G0 c t H p x = some H') : D2 c.base c.lk H H' := by
 cases p with
 | ptr b off =>
  simp only [G0] at h
  split at h
  case isFalse => cases h
  rename_i hm
  simp only [dj, Prod.exists] at h
  obtain ⟨x1, H1, hx, h⟩ := h
  split at h
  case h_2 => cases h
  split at h
  case isFalse => cases h
  simp only [an] at h
  subst h
  refine D2.trans ?_ (Iz hm)
  split at hx
  ·split at hx
   ·split at hx
    ·simp only [an, dk] at hx
     obtain ⟨_, rfl⟩ := hx
     exact D2.refl _ _ _
    ·cases hx
   ·exact Iy hx
  ·simp only [an, dk] at hx
   obtain ⟨_, rfl⟩ := hx
   exact D2.refl _ _ _
 | _ => simp [G0] at h
theorem cN {c : Cx} {r : V × A5} {v : V} {H' : A5} (h : MM c r = some (v, H')) : H' = r.2 ∨ ∃ b l n sz, r.2[b]? = some (.Bt l n sz) ∧ c.base ≤ b ∧ H' = r.2.set b .dead := by
 unfold MM at h
 split at h
 case isFalse => simp only [an] at h; subst h; exact .inl rfl
 split at h
 ·rename_i b n cs _
  split at h
  case isFalse => cases h
  rename_i hc
  rw [ec] at hc
  split at h
  case h_2 => cases h
  rename_i l m sz hB
  have e : AV c.base Ba r.2 (.snap b n cs) = if b < c.base ∨ m ≠ n then none else some (.lit 0 n cs, r.2.set b .dead) := by
   show AV c.base (6 + 1 + 1) r.2 (.snap b n cs) = _
   rw [AV]
   simp only [hB]
   split
   ·rfl
   ·rw [Du cs hc.1 hc.2]; rfl
  rw [e] at h
  split at h
  ·cases h
  rename_i hb
  simp only [an, dk] at h
  exact .inr ⟨b, l, m, sz, hB, by omega, h.2.symm⟩
 ·rename_i n cs _
  split at h
  case isFalse => cases h
  rename_i hc
  rw [ec] at hc
  have e : AV c.base Ba r.2 (.tl n cs) = some (.lit 0 n cs, r.2) := by
   show AV c.base (6 + 1 + 1) r.2 (.tl n cs) = _
   rw [AV, Du cs hc.1 hc.2]; rfl
  rw [e] at h
  simp only [an, dk] at h
  exact .inl h.2.symm
 ·cases h
theorem dA {c : Cx} {r : V × A5} {v : V} {H' : A5} (h : MM c r = some (v, H')) : D2 c.base c.lk r.2 H' ∧ Am r.2 H' := by
 rcases cN h with rfl | ⟨b, l, n, sz, hB, hb, rfl⟩
 ·exact ⟨D2.refl _ _ _, Am.refl _⟩
 ·have sq : ∀ x, x < c.base → (r.2.set b .dead)[x]? = r.2[x]? := fun x hx => by
   rw [AX, rr]; rintro ⟨rfl, _⟩; omega
  refine ⟨⟨by simp, fun x hx _ => sq x hx⟩, fun x z cs hX => ?_, fun x BC hX => ?_⟩
  ·rw [AX, rr]; exact hX
   rintro ⟨rfl, _⟩; rw [hB] at hX; cases hX
  ·rw [AX, rr]; exact hX
   rintro ⟨rfl, _⟩; rw [hB] at hX; cases hX
theorem Ul {c : Cx} {st xt : ea} {H H' : A5} {s x v : V} (hb : c.base ≤ H.length) (h : ER c st xt H s x = some (v, H')) : D2 c.base c.lk H H' ∧ Am H H' := by
 unfold ER at h
 simp only [dj] at h
 obtain ⟨e, _, sz, _, by_, _, z, _, h⟩ := h
 split at h
 case isFalse => cases h
 simp only [dj] at h
 obtain ⟨n, _, xs, _, h⟩ := h
 split at h
 case isFalse => cases h
 have none_ : some (s, H) = some (v, H') → D2 c.base c.lk H H' ∧ Am H H' := by
  intro h
  simp only [an, dk] at h
  obtain ⟨_, rfl⟩ := h
  exact ⟨D2.refl _ _ _, Am.refl _⟩
 split at h
 ·split at h
  ·exact none_ h
  ·split at h
   case isFalse => cases h
   simp only [an, dk] at h
   obtain ⟨_, rfl⟩ := h
   exact ⟨N6 _ hb, Am.push _ _⟩
 ·split at h
  ·exact none_ h
  ·split at h
   case h_2 => cases h
   rename_i l m' wg hB
   split at h
   case isFalse => cases h
   rename_i hc
   simp only [an, dk] at h
   obtain ⟨_, rfl⟩ := h
   refine ⟨Iz hc.2.2.2.2, fun b z cs hb => ?_, fun b BC hb => ?_⟩ <;>
   ·rw [AX, rr]
    ·exact hb
    ·rintro ⟨rfl, _⟩
     rw [hB] at hb
     cases hb
 ·cases h
theorem dB {c : Cx} {t : ea} {H H' : A5} {m k v : V} (h : Tl c t H m k v = some H') : D2 c.base c.lk H H' := by
 unfold Tl at h
 split at h
 case h_2 => cases h
 split at h
 case h_2 => cases h
 simp only [dj] at h
 obtain ⟨q, _, h⟩ := h
 split at h
 case isFalse => cases h
 rename_i hc
 simp only [dn] at h
 obtain ⟨r, _, rfl⟩ := h
 cases r <;> exact Iz hc.2.2.2
theorem WG {c : Cx} {t : ea} {H H' : A5} {m k v : V} (h : IZ c t H m k = some (v, H')) : D2 c.base c.lk H H' := by
 unfold IZ at h
 split at h
 case h_2 => cases h
 split at h
 case h_2 => cases h
 simp only [dj] at h
 obtain ⟨q, _, h⟩ := h
 split at h
 case isFalse => cases h
 rename_i hc
 simp only [dj] at h
 obtain ⟨r, _, h⟩ := h
 cases r with
 | some r =>
  obtain ⟨i, w⟩ := r
  simp only [an, dk] at h
  obtain ⟨_, rfl⟩ := h
  exact Iz hc.2.2
 | none =>
  simp only [dj] at h
  obtain ⟨z, _, h⟩ := h
  split at h
  case isFalse => cases h
  simp only [an, dk] at h
  obtain ⟨_, rfl⟩ := h
  exact Iz hc.2.2
theorem WE {c : Cx} {H H' : A5} {m s v : V} (h : L7 c H m s v = some H') : D2 c.base c.lk H H' := by
 unfold L7 at h
 split at h
 case h_2 => cases h
 split at h
 case h_2 => cases h
 split at h
 case isFalse => cases h
 rename_i hc
 simp only [dn] at h
 obtain ⟨e, _, rfl⟩ := h
 exact Iz hc.2.2
theorem Qr {c : Cx} {o : fc} {t : ea} {n : Nat} {ps : Array (Nat × ed)} (ho : o.op = .buildSlice t n ps) {S : St} {v : V} {H' : A5} (hb : c.base ≤ S.H.length) (h : Cn c o S = some (v, H')) : D2 c.base c.lk S.H H' := by
 simp only [Cn, ho, dj, Prod.exists] at h
 obtain ⟨ps1, h1, ps2, H1, h2, e, h3, sz, h4, z, h5, h6⟩ := h
 split at h6
 case isFalse => cases h6
 simp only [dn] at h6
 obtain ⟨cs, h7, h6⟩ := h6
 have hk := QW _ _ _ _ h2
 split at h6 <;> simp only [dk] at h6 <;> obtain ⟨rfl, rfl⟩ := h6
 ·exact hk.trans (N6 _ (fg hb hk.1))
 ·exact hk
theorem dQ {c : Cx} (hΓ : GS c.Γ) {o : fc} {S : St} {v : V} {H' : A5} (hb : c.base ≤ S.H.length) (h : Cn c o S = some (v, H')) :
  D2 c.base c.lk S.H H' ∧ (ET o = true → (FF o = true → c.calm = true) → c.still = true → Am S.H H') := by
 have push : ∀ x, D2 c.base c.lk S.H (S.H ++ x) ∧ Am S.H (S.H ++ x) := fun x =>
  ⟨N6 _ hb, Am.push _ _⟩
 by_cases hp : Ht true o = true
 ·by_cases hbs : ∀ t n ps, o.op ≠ .buildSlice t n ps
  ·obtain ⟨T, H⟩ := S
   have h1 := ND (c := c) hp hbs (T := T) (H := H) (H2 := H)
   rw [h] at h1
   simp only [dq, an, dk, true_and] at h1
   subst h1
   exact ⟨D2.refl _ _ _, fun _ _ _ => Am.refl _⟩
  ·obtain ⟨t, n, ps, ho⟩ : ∃ t n ps, o.op = .buildSlice t n ps := jk fun hx => hbs fun t n ps e => hx ⟨t, n, ps, e⟩
   simp [Ht, ho] at hp
 ·by_cases hbs : ∃ t n ps, o.op = .buildSlice t n ps
  ·obtain ⟨t, n, ps, ho⟩ := hbs
   refine ⟨Qr ho hb h, fun _ _ wi => ?_⟩
   simp only [Cn, ho, dj, Prod.exists] at h
   obtain ⟨ps1, h1, ps2, H1, h2, e, h3, sz, h4, z, h5, h6⟩ := h
   have k := NV wi _ _ _ _ h2
   split at h6
   case isFalse => cases h6
   simp only [dn] at h6
   obtain ⟨cs, h7, h6⟩ := h6
   split at h6 <;> simp only [dk] at h6 <;> obtain ⟨rfl, rfl⟩ := h6
   ·exact k.trans (Am.push _ _)
   ·exact k
  unfold Ht at hp
  cases ho : o.op <;> simp only [ho, not_true_eq_false] at hp <;> simp only [Cn, ho] at h <;> try (cases h; done)
  case buildSlice t n ps => exact absurd ⟨t, n, ps, ho⟩ hbs
  case alloc t =>
   simp only [dj, an, dk] at h
   obtain ⟨sz, _, z, hz, rfl, rfl⟩ := h
   exact ⟨(push _).1, fun _ _ _ => (push _).2⟩
  case box t x =>
   simp only [dj] at h
   obtain ⟨sz, _, w, hw, h⟩ := h
   split at h
   ·simp only [an, dk] at h
    obtain ⟨rfl, rfl⟩ := h
    exact ⟨(push _).1, fun _ _ _ => (push _).2⟩
   ·cases h
  case load t x =>
   simp only [dj, dn, dk] at h
   obtain ⟨p, hp, _, hl, rfl, rfl⟩ := h
   exact ⟨D2.refl _ _ _, fun _ _ _ => Am.refl _⟩
  case store t p x =>
   simp only [dj, dn, dk] at h
   obtain ⟨P, hp, X, hx, H1, h1, rfl, rfl⟩ := h
   exact ⟨WH h1, fun hk => by simp [ET, ho] at hk⟩
  case makeSlice t n m =>
   simp only [dj] at h
   obtain ⟨N, hn, M, hm, h⟩ := h
   unfold K5 at h
   split at h
   case h_2 => cases h
   simp only [dj] at h
   obtain ⟨e, he, sz, tu, by_, vd, z, hz, h⟩ := h
   split at h
   case isFalse => cases h
   simp only [an, dk] at h
   obtain ⟨rfl, rfl⟩ := h
   exact ⟨(push _).1, fun _ _ _ => (push _).2⟩
  case makeMap t r =>
   cases r with
   | none =>
    simp only [an, dk] at h
    obtain ⟨rfl, rfl⟩ := h
    exact ⟨(push _).1, fun _ _ _ => (push _).2⟩
   | some r => cases h
  case lookup t x k ok =>
   simp only [dj, dn, dk] at h
   obtain ⟨m, _, kv, _, _, _, _, rfl⟩ := h
   exact ⟨D2.refl _ _ _, fun _ _ _ => Am.refl _⟩
  case mapUpdate t x k y =>
   simp only [dj, dn, dk] at h
   obtain ⟨m, _, kv, _, w, _, H1, h1, _, rfl⟩ := h
   exact ⟨dB h1, fun hk => by simp [ET, ho] at hk⟩
  case mapEntry t x k =>
   simp only [dj] at h
   obtain ⟨m, _, kv, _, h⟩ := h
   exact ⟨WG h, fun hk => by simp [ET, ho] at hk⟩
  case entryStore t x st y =>
   simp only [dj, dn, dk] at h
   obtain ⟨m, _, sv, _, w, _, H1, h1, _, rfl⟩ := h
   exact ⟨WE h1, fun hk => by simp [ET, ho] at hk⟩
  case call k =>
   obtain ⟨callee, args, ats⟩ := k
   cases callee with
   | invoke r n => cases h
   | value f =>
    simp only [] at h
    split at h
    case h_2 => cases h
    rename_i g caps hf
    simp only [dj, Prod.exists] at h
    obtain ⟨vs, wy, as, M, H1, hl, hg⟩ := h
    obtain ⟨k1, k2, k3⟩ := Rs _ _ _ _ _ _ hl
    obtain ⟨q1, q2⟩ := hΓ _ _ _ _ _ _ hg
    have hlocked : c.calm = true → ∀ b, b < S.H.length → H'[b]? = S.H[b]? := fun hc b sd => by
     have hH := k3 hc
     subst hH
     refine q2 b sd ?_
     rw [mv]
     intro hx
     unfold AT at hx
     rw [gb] at hx
     have := hx _ (eb.2 (.inr (dt.2 rfl)))
     simp only [Cx.C6, hc, if_true, jj, jh, rv] at this
     exact this (eb.2 (.inr (ik.2 sd)))
    refine ⟨k1.trans ⟨q1, fun b tj hbl => q2 b (by rw [k2]; omega) ?_⟩, fun _ yx _ => ⟨fun b z cs hB => ?_, fun b BC hB => ?_⟩⟩
    ·rw [mv] at hbl ⊢
     intro hx
     refine hbl ?_
     unfold AT at hx ⊢
     rw [gb] at hx ⊢
     exact fun l hl => hx l (eb.2 (.inl hl))
    ·rw [hlocked (yx (by simp [FF, ho])) b (du.1 hB).1]; exact hB
    ·rw [hlocked (yx (by simp [FF, ho])) b (du.1 hB).1]; exact hB
   | builtin b =>
    cases b <;> simp only [not_true_eq_false] at hp <;> try (cases h; done)
    case append =>
     simp only [] at h
     split at h
     case h_2 => cases h
     simp only [dj] at h
     obtain ⟨p, hp, q, hq, r, h, hf⟩ := h
     obtain ⟨k1, k2⟩ := Ul (v := r.1) (H' := r.2) hb h
     obtain ⟨k3, k4⟩ := dA hf
     exact ⟨k1.trans k3, fun _ _ _ => ⟨fun b z cs hB => k4.1 _ _ _ (k2.1 _ _ _ hB), fun b BC hB => k4.2 _ _ (k2.2 _ _ hB)⟩⟩
def Cx.Ay (c : Cx) (s k : Bool) : Cx := { c with still := s, calm := k }
theorem U9 {c : Cx} (hΓ : GS c.Γ) {ops : Array fc} {o : fc} {S : St} {v : V} {H' : A5} (hb : c.base ≤ S.H.length) (h : Dq c ops o S = some (v, H')) :
  D2 c.base c.lk S.H H' ∧ (ET o = true → (FF o = true → c.calm = true) → c.still = true → Am S.H H') := by
 unfold Dq at h
 simp only [dj] at h
 obtain ⟨b, _, h⟩ := h
 cases b with
 | true => exact dQ hΓ hb (by simpa using h)
 | false =>
  simp only [ei, if_false, an, dk] at h
  obtain ⟨_, rfl⟩ := h
  exact ⟨D2.refl _ _ _, fun _ _ _ => Am.refl _⟩
theorem QP {c : Cx} (hΓ : GS c.Γ) {ops : Array fc} {o : fc} {S S' : St} (hb : c.base ≤ S.H.length) (h : C1 c ops o S = some S') : D2 c.base c.lk S.H S'.H := by
 rw [Ee] at h
 simp only [dj, Prod.exists] at h
 obtain ⟨v, H', h1, h2⟩ := h
 split at h2
 case isFalse => cases h2
 simp only [an] at h2
 subst h2
 exact (U9 hΓ hb h1).1
theorem Qt {c : Cx} (hΓ : GS c.Γ) {cf : Nat → Cx} (hcf : ∀ i, ∃ s k, cf i = c.Ay s k) {ops : Array fc} : ∀ (l : List Nat) {S S' : St}, c.base ≤ S.H.length → Dr cf ops l S = some S' → D2 c.base c.lk S.H S'.H
 | [], S, S', hb, h => by
  simp only [Dr, an] at h
  subst h
  exact D2.refl _ _ _
 | i :: l, S, S', hb, h => by
  simp only [Dr] at h
  split at h
  ·cases h
  simp only [dj] at h
  obtain ⟨S1, h1, h2⟩ := h
  obtain ⟨s, k, hc⟩ := hcf i
  rw [hc] at h1
  have k1 := QP (c := c.Ay s k) hΓ hb h1
  exact D2.trans k1 (Qt hΓ hcf l (fg hb k1.1) h2)
theorem Rq {lo : Nat} {lk : Lk} {f : St → Option (X × St)} (hf : ∀ S x S', lo ≤ S.H.length → f S = some (x, S') → D2 lo lk S.H S'.H) : ∀ (n : Nat) {S S' : St} {x : X}, lo ≤ S.H.length → FR f n S = some (x, S') → D2 lo lk S.H S'.H
 | 0, S, S', x, hb, h => by simp [FR] at h
 | n + 1, S, S', x, hb, h => by
  simp only [FR] at h
  split at h
  ·rename_i S1 h1
   have k1 := hf _ _ _ hb h1
   exact k1.trans (Rq hf n (fg hb k1.1) h)
  ·exact hf _ _ _ hb h
theorem EF {c : Cx} (hΓ : GS c.Γ) (n : Nat) : ∀ (b : Code) {S S' : St} {x : X}, c.base ≤ S.H.length → Aq c n b S = some (x, S') → D2 c.base c.lk S.H S'.H
 | .skip, S, S', x, hb, h => by
  simp only [Aq, an, dk] at h
  obtain ⟨_, rfl⟩ := h
  exact D2.refl _ _ _
 | .region id ops draw, S, S', x, hb, h => by
  simp only [Aq, dn, dk] at h
  obtain ⟨S1, h1, _, rfl⟩ := h
  split at h1
  ·split at h1
   ·simp only [dj] at h1
    obtain ⟨S2, h1, h2⟩ := h1
    split at h2
    ·cases h2; exact Qt hΓ (cf := Fv c ops) (fun i => ⟨true, _, rfl⟩) _ hb h1
    ·cases h2
   ·cases h1
  ·exact Qt hΓ (cf := fun _ => c) (fun i => ⟨c.still, c.calm, rfl⟩) _ hb h1
 | .seq p q, S, S', x, hb, h => by
  simp only [Aq] at h
  split at h
  ·rename_i S1 h1
   have k1 := EF hΓ n p hb h1
   exact k1.trans (EF hΓ n q (fg hb k1.1) h)
  ·exact EF hΓ n p hb h
 | .cond y p q, S, S', x, hb, h => by
  simp only [Aq] at h
  split at h
  ·exact EF hΓ n p hb h
  ·exact EF hΓ n q hb h
  ·cases h
 | .block id p, S, S', x, hb, h => by
  simp only [Aq] at h
  split at h
  ·rename_i i S1 h1
   have k1 := EF hΓ n p hb h1
   split at h <;>
   ·simp only [an, dk] at h
    obtain ⟨_, rfl⟩ := h
    exact k1
  ·exact EF hΓ n p hb h
 | .loop p, S, S', x, hb, h => by
  simp only [Aq] at h
  exact Rq (fun S x S' hb h => EF hΓ n p hb h) n hb h
 | .exit id, S, S', x, hb, h => by
  simp only [Aq, an, dk] at h
  obtain ⟨_, rfl⟩ := h
  exact D2.refl _ _ _
 | .ret, S, S', x, hb, h => by
  simp only [Aq, an, dk] at h
  obtain ⟨_, rfl⟩ := h
  exact D2.refl _ _ _
 | .label _, _, _, _, _, h => by simp [Aq] at h
 | .goto _, _, _, _, _, h => by simp [Aq] at h
 | .scope _, _, _, _, _, h => by simp [Aq] at h
 | .refuse _, _, _, _, _, h => by simp [Aq] at h
 | .rangeFunc .., _, _, _, _, h => by simp [Aq] at h
def Gq (lo : Nat) (H H' : A5) : Prop := H'.length = H.length ∧ ∀ b, b < lo → H'[b]? = H[b]?
theorem Gq.refl (lo : Nat) (H : A5) : Gq lo H H := ⟨rfl, fun _ _ => rfl⟩
theorem Gq.trans {lo : Nat} {A B C : A5} (h : Gq lo A B) (k : Gq lo B C) : Gq lo A C := ⟨k.1.trans h.1, fun b hb => (k.2 b hb).trans (h.2 b hb)⟩
theorem Gq.kill {lo b : Nat} (H : A5) (hb : ¬ b < lo) : Gq lo H (H.set b .dead) :=
 ⟨by simp, fun x hx => by rw [AX, rr]; rintro ⟨rfl, _⟩; exact hb hx⟩
theorem SD {lo : Nat} {f : A5 × List Bv → V → Option (V × A5 × List Bv)} (hf : ∀ X v v' X', f X v = some (v', X') → Gq lo X.1 X'.1) :
  ∀ (vs : List V) (X : A5 × List Bv) (so : List V) (X' : A5 × List Bv), BO.resL f X vs = some (so, X') → Gq lo X.1 X'.1
 | [], X, so, X', h => by
  simp only [BO.resL, an, dk] at h
  obtain ⟨_, rfl⟩ := h
  exact Gq.refl _ _
 | v :: vs, X, so, X', h => by
  simp only [BO.resL, dj, dn, Prod.exists] at h
  obtain ⟨v1, Ha, na, h1, vs2, Hb, nb, h2, h3⟩ := h
  simp only [dk] at h3
  obtain ⟨_, rfl⟩ := h3
  exact (hf _ _ _ _ h1).trans (SD hf vs _ _ _ h2)
theorem SE {th : Bool} {lo d : Nat} : ∀ (k : Nat) (X : A5 × List Bv) (v v' : V) (X' : A5 × List Bv), BO th lo d k X v = some (v', X') → Gq lo X.1 X'.1
 | 0, X, v, v', X', h => by simp [BO] at h
 | k + 1, X, v, v', X', h => by
  have ih := SD fun X v v' X' h => SE (th := th) (lo := lo) (d := d) k X v v' X' h
  have same : ∀ {x : V}, some (x, X) = some (v', X') → Gq lo X.1 X'.1 := by
   intro x h
   simp only [an, dk] at h
   obtain ⟨_, rfl⟩ := h
   exact Gq.refl _ _
  cases v with
  | int _ _ => simp only [BO] at h; exact same h
  | bool _ => simp only [BO] at h; exact same h
  | str _ => simp only [BO] at h; exact same h
  | HV => simp only [BO] at h; exact same h
  | EI => simp only [BO] at h; exact same h
  | ptr b _ =>
   simp only [BO] at h
   split at h
   ·exact same h
   ·cases h
  | Cm b =>
   simp only [BO] at h
   split at h
   ·exact same h
   ·cases h
  | lit _ _ _ =>
   simp only [BO] at h
   split at h
   ·exact same h
   ·cases h
  | tl n cs =>
   simp only [BO] at h
   split at h
   ·exact same h
   ·simp only [dn, Prod.exists, dk] at h
    obtain ⟨sk, Ha, na, h1, _, rfl⟩ := h
    exact ih _ _ _ _ h1
  | snap b n cs =>
   simp only [BO] at h
   split at h
   case h_2 => cases h
   split at h
   ·cases h
   rename_i hc
   simp only [dj, Prod.exists] at h
   obtain ⟨sk, Ha, na, h1, h⟩ := h
   have k1 := (Gq.kill X.1 (fun hx => hc (.inl hx))).trans (ih _ _ _ _ h1)
   split at h
   ·split at h
    ·simp only [an, dk] at h
     obtain ⟨_, rfl⟩ := h
     exact k1
    ·cases h
   ·simp only [an, dk] at h
    obtain ⟨_, rfl⟩ := h
    exact k1
  | pre b m0 n cs =>
   simp only [BO] at h
   split at h
   case h_2 => cases h
   split at h
   ·cases h
   split at h
   ·split at h
    ·exact same h
    ·cases h
   rename_i hlo
   split at h
   ·cases h
   simp only [dj, Prod.exists] at h
   obtain ⟨sk, Ha, na, h1, h⟩ := h
   have k1 := (Gq.kill X.1 hlo).trans (ih _ _ _ _ h1)
   split at h
   ·split at h
    ·simp only [an, dk] at h
     obtain ⟨_, rfl⟩ := h
     exact k1
    ·cases h
   ·simp only [an, dk] at h
    obtain ⟨_, rfl⟩ := h
    exact k1
  | sl b off n =>
   simp only [BO] at h
   split at h
   ·exact same h
   rename_i hlo
   split at h
   case h_2 => cases h
   split at h
   ·cases h
   simp only [dj, Prod.exists] at h
   obtain ⟨sk, Ha, na, h1, h⟩ := h
   have k1 := (Gq.kill X.1 hlo).trans (ih _ _ _ _ h1)
   split at h
   ·split at h
    ·simp only [an, dk] at h
     obtain ⟨_, rfl⟩ := h
     exact k1
    ·cases h
   ·simp only [an, dk] at h
    obtain ⟨_, rfl⟩ := h
    exact k1
  | agg cs =>
   simp only [BO, dn, Prod.exists, dk] at h
   obtain ⟨sk, Ha, na, h1, _, rfl⟩ := h
   exact ih _ _ _ _ h1
  | Ei cs =>
   simp only [BO, dn, Prod.exists, dk] at h
   obtain ⟨sk, Ha, na, h1, _, rfl⟩ := h
   exact ih _ _ _ _ h1
  | _ => simp [BO] at h
theorem SO {base : Nat} {H1 H2 : A5} {x : List Bv} (hk : ∀ b, b < base → H2[b]? = H1[b]?) (hl : base ≤ H2.length) {lk : Lk} {H0 : A5} (hb : H0.length = base) (h0 : D2 base lk H0 H1) : D2 base lk H0 (H2.take base ++ x) := by
 have hlen : (H2.take base).length = base := by rw [gh]; omega
 refine ⟨by simp; omega, fun b sd hu => ?_⟩
 rw [eh (by omega), jg sd, hk b sd, h0.2 b sd hu]
theorem Ir {P : ep} {rs : List ir} {x : Option (X × St)} {r : List V × A5} (h : L8 P rs x = some r) : ∃ e S, x = some (e, S) ∧ (e = .normal ∨ e = .ret) ∧ BP P S.H S.T rs = some r.1 ∧ r.2 = S.H := by
 unfold L8 at h
 split at h
 ·simp only [dn] at h; obtain ⟨vs, h1, rfl⟩ := h; exact ⟨_, _, rfl, .inl rfl, h1, rfl⟩
 ·simp only [dn] at h; obtain ⟨vs, h1, rfl⟩ := h; exact ⟨_, _, rfl, .inr rfl, h1, rfl⟩
 ·cases h
theorem SS {c : Cx} (hΓ : GS c.Γ) {n : Nat} {rs : List ir} {N : Ms} {S : St} {b : Bool} {r : List V × A5} (hb : c.base ≤ S.H.length) (h : O7 c n rs N S b = some r) : D2 c.base c.lk S.H r.2 := by
 obtain ⟨e, S', h1, _, _, h4⟩ := Ir h
 rw [h4]
 exact EF hΓ n _ (S := (S.set N.p (S.T N.z)).set N.q (.bool b)) hb h1
theorem Vp {c : Cx} (hΓ : GS c.Γ) {n : Nat} {rs : List ir} {body : Code} {S : St} {r : List V × A5} (hb : c.base ≤ S.H.length) (h : Jv c n rs body S = some r) : D2 c.base c.lk S.H r.2 := by
 unfold Jv at h
 split at h
 ·obtain ⟨e, S', h1, _, _, h4⟩ := Ir h
  rw [h4]
  exact EF hΓ n _ hb h1
 ·rename_i N hN
  split at h
  case h_2 => cases h
  rename_i S0 h0
  have k0 := EF hΓ n _ hb h0
  split at h
  case isFalse => cases h
  split at h
  ·exact k0.trans (SS hΓ (fg hb k0.1) h)
  ·split at h
   case isFalse => cases h
   exact k0.trans (SS hΓ (fg hb k0.1) h)
  ·cases h
theorem V8 (P : ep) (h : BX) : ∀ n, GS (EL P h n)
  | 0 => fun k args H lk v H' hr => by simp [EL] at hr
  | n + 1 => fun k args H lk v H' hr => by
    have ih := V8 P h n
    simp only [EL] at hr
    split at hr
    case h_2 => cases hr
    rename_i fn zo
    split at hr
    case h_2 => cases hr
    rename_i body xu
    split at hr
    case isFalse => cases hr
    simp only [dj] at hr
    obtain ⟨q, hex, hl⟩ := hr
    have k1 := Vp (c := { P := P, hints := h, fn := k, ntmps := fn.ntmps, base := H.length, lk := lk, Γ := EL P h n }) ih (dz _) hex
    unfold En at hl
    split at hl
    · split at hl
      case isFalse => cases hl
      simp only [an, dk] at hl
      obtain ⟨_, rfl⟩ := hl
      exact SO (fun _ _ => rfl) k1.1 rfl k1
    · simp only [dn, Prod.exists, dk] at hl
      obtain ⟨v1, H2, news, h1, _, rfl⟩ := hl
      obtain ⟨q1, q2⟩ := SE _ _ _ _ _ h1
      simp only [] at q1 q2
      exact SO q2 (by rw [q1]; exact k1.1) rfl k1
def oN (c : Cx) (ops : Array fc) (j : Nat) (y : fc) (l : List Nat) (S' : St) : Prop := ∃ x t a t' b v, ops[j]? = some x ∧ x.op = .load t (.tmp a) ∧ y.op = .store t' (.tmp b) v ∧ x.guard = none ∧ y.guard = none ∧ Oper.apart ops x y = true ∧
 (∀ k ∈ j :: l, ∀ o, ops[k]? = some o → o.dst ≠ some a ∧ o.dst ≠ some b) ∧ H6 c.base (S'.T a) (S'.T b) = true
theorem Vd {c : Cx} (hΓ : GS c.Γ) {cf : Nat → Cx} (hcf : ∀ i, ∃ k, cf i = c.Ay true k) {ops : Array fc} {i : Nat} {y : fc} (hi : ops[i]? = some y) {r2 : List Nat} {S' : St} :
  ∀ (r1 : List Nat) {S : St}, c.base ≤ S.H.length → Dr cf ops (r1 ++ i :: r2) S = some S' →
   (∀ s1 j s2, r1 = s1 ++ j :: s2 → (∃ x, ops[j]? = some x ∧ JW c.lits ops x y = true ∧ (Hs x = true → FF y = true → (cf i).calm = true)) ∨ oN c ops j y (s2 ++ i :: r2) S') → Dr cf ops (i :: (r1 ++ r2)) S = some S'
 | [], S, hb, h, _ => h
 | j :: r1, S, hb, h, hj => by
  have h0 := hj [] j r1 rfl
  obtain ⟨x, hx⟩ : ∃ x, ops[j]? = some x := by
   rcases h0 with ⟨x, hx, _⟩ | ⟨x, _, _, _, _, _, hx, _⟩ <;> exact ⟨x, hx⟩
  simp only [ie, Dr, hx, dj] at h
  obtain ⟨S1, h1, h2⟩ := h
  obtain ⟨kj, hcj⟩ := hcf j
  obtain ⟨ki, hci⟩ := hcf i
  have uw : c.base ≤ S1.H.length := by
   rw [hcj] at h1
   exact fg hb (QP (c := c.Ay true kj) hΓ hb h1).1
  have h3 := Vd hΓ hcf hi r1 uw h2 fun s1 j' s2 e => hj (j :: s1) j' s2 (by rw [e]; rfl)
  simp only [Dr, hi, dj] at h3
  obtain ⟨S2, h4, h5⟩ := h3
  have h6 : ∃ S3, C1 (cf i) ops y S = some S3 ∧ C1 (cf j) ops x S3 = some S2 := by
   rcases h0 with ⟨x', um, hsw, yx⟩ | ⟨x', t, a, t', b, v, um, ox, oy, gx, gy, ha, hk', hp⟩
   ·rw [hx] at um; cases um
    exact WA (cx := cf j) (cy := cf i) (by rw [hcj, hci]; rfl) (by rw [hcj, hci]; rfl) (by rw [hcj]; rfl) (by rw [hci]; rfl) (by rw [hcj, hci]; rfl) (by rw [hcj]; exact hsw) h1 h4 (fun hl hk v H' he => by
     have hc : FF y = true → (cf i).calm = true := yx hl
     rw [hci] at he hc
     exact (U9 (c := c.Ay true ki) hΓ hb he).2 hk hc rfl)
   ·rw [hx] at um; cases um
    have sub : ∀ k ∈ r1 ++ r2, k ∈ j :: (r1 ++ i :: r2) := fun k hk => by
     rcases eb.1 hk with h | h <;> simp [h]
    have e1 : ∀ q, (∀ k ∈ j :: (r1 ++ i :: r2), ∀ o, ops[k]? = some o → o.dst ≠ some q) → S'.T q = S.T q := fun q hq => by
     rw [dU _ h5 fun k hk => hq k (sub k hk), TF h4 (hq i (by simp) y hi), TF h1 (hq j (by simp) x hx)]
    rw [e1 a fun k hk o ho => (hk' k hk o ho).1, e1 b fun k hk o ho => (hk' k hk o ho).2] at hp
    exact iX ox oy gx gy ha h1 h4 (by rw [hci]; exact hp)
  obtain ⟨S3, h6, h7⟩ := h6
  simp only [Dr, hi, h6, ba, ie, hx, h7]
  exact h5
def ZC (w : je) (u : eu) (g : Nat) (v : Nat → V) (cs : List V) : Prop :=
 (∃ cc t, w.heap[g]? = some (.cells cc t (0, 0)) ∧ cs.length ≤ cc.size ∧ ∀ (E : Ab) (i : Nat) x, cs[i]? = some x → ∃ y, cc[i]? = some y ∧ AA E x y) ∧
  ∀ (E : Ab) b, E.φ b = g → b < E.n → KA E.H b → AA E (v b) u
section
variable {c : Cx} {E : Ab} {S : St} {a : Act} {o : fc}
theorem WM (hs : D1 c E S a) (hm : MP o = true) {vv : V} {H' : A5} (h : Cn c o S = some (vv, H')) : ∃ (v : Nat → V) (sz : Nat) (cs : List V) (u : eu) (cc : Array eu) (t : ea),
  (∀ H2, Cn c o ⟨S.T, H2⟩ = some (v H2.length, H2 ++ [.cells sz cs])) ∧ (execOp a.eval o).run c.P E.w = .ok (.value u) (E.w.alloc (.cells cc t)) ∧ ZC (E.w.alloc (.cells cc t)) u E.w.heap.size v cs := by
 unfold MP at hm
 split at hm
 ·rename_i t ho
  unfold Cn at h
  simp only [ho, dj] at h
  obtain ⟨sz, tu, z, hz, h⟩ := h
  simp only [an, dk] at h
  obtain ⟨rfl, rfl⟩ := h
  obtain ⟨i, x, v, h1, h2, h3, rfl⟩ := IX hz
  refine ⟨fun b => .ptr b 0, sz, v.cellsOf, .pointer (some ⟨E.w.heap.size, 0, none⟩), x.cells, t, fun H2 => ?_, ?_, ⟨x.cells, t, ?_, ?_, fun E' i y hy => ?_⟩, fun E' b h1 h2 h3 => ?_⟩
  ·unfold Cn
   simp only [ho, tu, hz, ba]
  ·simp [execOp, ho, Instr.alloc, zeroValue, typeInfo, h1, h2, newVar, newRow]
  ·show (E.w.heap.push _)[E.w.heap.size]? = _; simp
  ·obtain ⟨hl, _⟩ := Bd _ _ (GI E h3); rw [hl]; simp
  ·obtain ⟨_, hg⟩ := Bd _ _ (GI E' h3); simpa using hg i y hy
  ·simp only [AA]; exact ⟨h2, by rw [h1], h3⟩
 ·rename_i t n m ho
  unfold Cn at h
  simp only [ho, dj] at h
  obtain ⟨N, hn, M, hmm, h⟩ := h
  have hK : ∀ H2, Cn c o ⟨S.T, H2⟩ = K5 c.P (c.hints.Ih c.fn) t H2 N M := fun H2 => by
   unfold Cn
   simp only [ho, hn, hmm, ba]
  have r1 := BB hs n _ hn
  have r2 := BB hs m _ hmm
  unfold K5 at h
  split at h
  case h_2 => cases h
  rename_i k l
  simp only [dj] at h
  obtain ⟨e, he, sz, tu, by_, vd, z, hz, h⟩ := h
  split at h
  case isFalse => cases h
  rename_i hc
  have wq := hc
  obtain ⟨rfl, h0, hb, ug, zn⟩ := hc
  simp only [an, dk] at h
  obtain ⟨rfl, rfl⟩ := h
  simp only [AA] at r1 r2
  have hz' := hz
  obtain ⟨i, x, vv, h1, h2, h3, rfl⟩ := IX hz
  obtain ⟨i', zm, vw⟩ := Hr tu
  rw [h1] at zm
  simp only [an] at zm
  subst zm
  have yt : i.bytes = by_ := by unfold C3 at vd; rw [h1] at vd; simpa using vd
  subst yt vw
  have xp : k * (i.bytes : Int) + k ≤ 70368744177664 := by rw [Int.mul_add, Int.mul_one] at hb; exact hb
  have hb3 : 0 ≤ k * (i.bytes : Int) := Int.mul_nonneg h0 (by omega)
  have ui := run_make (P := c.P) E.w t e i x (C4 he) h1 h2 .i64 .i64 k k h0 (Int.le_refl _) (by rw [Int.mul_comm]; omega) (by omega)
  have hmr : ∀ E : Ab, AM E (gf k.toNat (vv.cellsOf.map (IQ (c.hints.Ih c.fn)))).flatten (madeCells x.cells (k.toNat * i.size)).toList := fun E => by
   have := MW (E := E) (K9 (kp := c.hints.Ih c.fn) (GI E h3)) (by rw [ja, ug]; exact zn) k.toNat
   rw [ja, ug] at this
   exact this
  refine ⟨fun b => .sl b 0 k.toNat, i.size, (gf k.toNat (vv.cellsOf.map (IQ (c.hints.Ih c.fn)))).flatten, .slice (some ⟨E.w.heap.size, 0, none⟩) k.toNat k.toNat, madeCells x.cells (k.toNat * i.size), e, fun H2 => ?_, ?_, ⟨madeCells x.cells (k.toNat * i.size), e, ?_, ?_, fun E' i y hy => ?_⟩, fun E' b h1 h2 h3 => ?_⟩
  ·rw [hK]
   unfold K5
   simp only [he, tu, vd, hz', ba]
   rw [ru ⟨trivial, h0, hb, ug, zn⟩]
  ·simp only [execOp, ho, r1, r2, ui, Sem.run_bind, Result.andThen_ok, Sem.run_pure]
  ·show (E.w.heap.push _)[E.w.heap.size]? = _; simp
  ·obtain ⟨hl, _⟩ := Bd _ _ (hmr E); rw [hl]; simp
  ·obtain ⟨_, hg⟩ := Bd _ _ (hmr E'); simpa using hg i y hy
  ·simp only [AA]; exact ⟨h2, ⟨k.toNat, by rw [h1], dz _⟩, h3⟩
 ·cases hm
def Ab.name (E : Ab) (g : Nat) (Au : Bv) : Ab :=
  { w := E.w, φ := fun b => if b = E.H.length then g else E.φ b, H := E.H ++ [Au], lk := E.lk, n := E.n + 1, m := E.m, Bl := E.Bl.filter fun x => decide (x ≠ g) }
theorem CZ (E : Ab) (g : Nat) (Au : Bv) (b : Nat) : (E.name g Au).H[b]? = if b = E.H.length then some Au else E.H[b]? := by
 show (E.H ++ [Au])[b]? = _
 by_cases hb : b = E.H.length
 ·subst hb; simp
 ·rw [rr hb]
  rcases fp b E.H.length with hl | hl
  ·rw [eh hl]
  ·rw [en (by simp; omega), en hl]
theorem DT (E : Ab) (g : Nat) (Au : Bv) (b : Nat) : (E.name g Au).φ b = if b = E.H.length then g else E.φ b := rfl
theorem K8 {E : Ab} {g : Nat} {Au : Bv} {x : Nat} : x ∈ (E.name g Au).Bl ↔ x ∈ E.Bl ∧ x ≠ g := by
 show x ∈ E.Bl.filter _ ↔ _
 simp [ql]
theorem dO {E : Ab} {g sz : Nat} {cs : List V} {lv : Option Nat} {x i : Nat} (h : (E.name g (.cells sz cs)).U lv x i) : E.U lv x i ∨ x = g := by
 rcases h with h | h
 ·exact .inl (.inl (K8.1 h).1)
 cases lv with
 | some lv =>
  obtain ⟨b, h1, h2, h3⟩ := h
  rw [CZ] at h3
  rw [DT] at h1
  by_cases hb : b = E.H.length
  ·rw [ru hb] at h1; exact .inr h1.symm
  ·rw [rr hb] at h1 h3; exact .inl (.inr ⟨b, h1, h2, h3⟩)
 | none =>
  obtain ⟨b, h1, h3⟩ := h
  rw [CZ] at h3
  rw [DT] at h1
  by_cases hb : b = E.H.length
  ·rw [ru hb] at h1; exact .inr h1.symm
  ·rw [rr hb] at h1 h3; exact .inl (.inr ⟨b, h1, h3⟩)
theorem QV {E : Ab} {g sz : Nat} {cs : List V} (hg : g ∈ E.Bl) (hn : E.n = E.H.length) {nb d : Nat} (va : nb ≤ E.n) (hd : d ≤ E.m) : Ca (E.shrink nb d) ((E.name g (.cells sz cs)).shrink nb d) where
 len := dz _
 lvl := dz _
 cell := by
  intro lv x i u _ _ h1 h3
  refine ⟨h1, fun hu => h3 ?_⟩
  rcases dO (E := E) (lv := lv) hu with h | rfl
  ·exact h
  ·exact .inl hg
 Ce := by
  intro b hb hnb2
  have hb : b < nb := hb
  have sq : b ≠ E.H.length := by omega
  refine ⟨by show (E.name g (.cells sz cs)).φ b = E.φ b; rw [DT, rr sq], fun l n z => ?_⟩
  show (E.name g (.cells sz cs)).H[b]? ≠ _
  rw [CZ, rr sq]
  exact hnb2 l n z
 cells := by
  intro b hb h z ys
  have hb : b < nb := hb
  show (E.name g (.cells sz cs)).H[b]? ≠ _
  rw [CZ, rr (by omega)]
  exact h z ys
 Bt := by
  intro b l n z hb hB
  have hb : b < nb := hb
  have hB : (E.name g (.cells sz cs)).H[b]? = _ := hB
  rw [CZ, rr (by omega)] at hB
  exact ⟨l, n, hB, dz _, fun _ => ⟨by show (E.name g (.cells sz cs)).φ b = E.φ b; rw [DT, rr (by omega)], fun cc _ hc => ⟨cc, hc, rfl⟩⟩⟩
 fresh := by
  intro b x i u h1 h2 hb hl he
  have hl : live (E.name g (.cells sz cs)).H[b]? := hl
  have he : (E.name g (.cells sz cs)).φ b = x := he
  rw [DT] at he
  rw [CZ] at hl
  by_cases tj : b = E.H.length
  ·rw [ru tj] at he
   subst he
   exact absurd (.inl hg) h2
  ·rw [rr tj] at he hl
   exact ⟨b, hb, hl, he⟩
theorem Ql {E : Ab} {g sz : Nat} {cs : List V} (hg : g ∈ E.Bl) (hn : E.n = E.H.length) {v : V} {u : eu} (h : AA E v u) : AA (E.name g (.cells sz cs)) v u :=
 (Ca.grow (E.name g (.cells sz cs)) (n := E.n) (m := E.m) (mg _) (dz _)).rep v u ((QV hg hn (dz _) (dz _)).rep v u h)
theorem WQ {E0 : Ab} {H : A5} (h : B9 c E0 E H) (hb : c.base ≤ H.length) (h0 : E0.n ≤ H.length) {g sz : Nat} {cs : List V} {u : eu} {v : Nat → V} (hp : ZC E.w u g v cs) (hg : g ∈ E.Bl) (hg0 : E0.w.heap.size ≤ g) (hg1 : g ∉ E0.Bl) :
    B9 c E0 (E.name g (.cells sz cs)) (H ++ [.cells sz cs]) ∧ AA (E.name g (.cells sz cs)) (v H.length) u := by
  have hn : E.n = E.H.length := by rw [h.n, h.H]
  obtain ⟨⟨cc, t, p1, p2, p3⟩, p4⟩ := hp
  have hf : ∀ base nb d, base ≤ c.base → nb ≤ E.n → d ≤ E.m → Dc E base nb d → Dc (E.name g (.cells sz cs)) base nb d := by
    intro base nb d vb va hd hf b z xs sd hB ct tt hc i y w hv hu
    have sq : b ≠ E.H.length := by rw [h.H]; omega
    rw [CZ, rr sq] at hB
    rw [DT, rr sq] at hc
    exact (QV hg hn va hd).rep _ _ (hf b z xs sd hB ct tt hc i y w hv hu)
  have hgl := (h.heap.Bl g hg).2
  refine ⟨⟨by show E.H ++ _ = _; rw [h.H], by show E.n + 1 = _; rw [h.n]; simp, h.m, ?_, ?_, fun gr base nb d h1 h2 h3 h4 => hf base nb d h1 (fg h2 h.Cz.len) (by rw [h.m]; exact h3) (h.I7 gr base nb d h1 h2 h3 h4), fun gr base d h1 h3 h4 => (hf base E.n d h1 (dz _) (by rw [h.m]; exact h3) (h.Ib gr base d h1 h3 h4)).up (mg _), fun b xp hl => ?_⟩, ?_⟩
  · exact
    { lk := h.Cz.lk
      os := h.Cz.os
      tape := h.Cz.tape
      output := h.Cz.output
      size := h.Cz.size
      len := oa h.Cz.len
      mm := h.Cz.mm
      cell := h.Cz.cell
      block := h.Cz.block
      mono := by
        intro lv x i hl hu
        rcases dO hu with h1 | rfl
        · exact h.Cz.mono lv x i hl h1
        · exact .inr hg0
      Ce := by
        intro b uw xp
        obtain ⟨q1, q2⟩ := h.Cz.Ce b uw xp
        have sq : b ≠ E.H.length := by rw [h.H]; omega
        refine ⟨by rw [DT, rr sq]; exact q1, fun l n z => ?_⟩
        rw [CZ, rr sq]
        exact q2 l n z
      cells := by
        intro b uw xp z xs
        have sq : b ≠ E.H.length := by rw [h.H]; omega
        rw [CZ, rr sq]
        exact h.Cz.cells b uw xp z xs
      Bt := by
        intro b l n z uw hB
        have sq : b ≠ E.H.length := by rw [h.H]; omega
        rw [CZ, rr sq] at hB
        obtain ⟨k, k1, k2, k3⟩ := h.Cz.Bt b l n z uw hB
        exact ⟨k, k1, k2, fun e => ⟨by rw [DT, rr sq]; exact (k3 e).1, (k3 e).2⟩⟩
      fresh := by
        intro b hl
        rw [CZ] at hl
        rw [DT]
        by_cases tj : b = E.H.length
        · rw [ru tj]; exact .inr hg0
        · rw [rr tj] at hl ⊢; exact h.Cz.fresh b hl
      Bl := fun x hx => K8.2 ⟨h.Cz.Bl x hx, fun e => hg1 (e ▸ hx)⟩
      Ix := fun x hx => h.Cz.Ix x (K8.1 hx).1
      I8 := h.Cz.I8 }
  · exact
    { cells := by
        intro b z xs hB
        rw [CZ] at hB
        rw [DT]
        by_cases tj : b = E.H.length
        · rw [ru tj] at hB ⊢
          simp only [an, Bv.cells.injEq] at hB
          obtain ⟨rfl, rfl⟩ := hB
          exact ⟨cc, t, p1, p2, fun i y hy => p3 _ i y hy⟩
        · rw [rr tj] at hB ⊢
          obtain ⟨c', t', h1, h2, h3⟩ := h.heap.cells b z xs hB
          exact ⟨c', t', h1, h2, fun i y hy => let ⟨w, h4, h5⟩ := h3 i y hy; ⟨w, h4, Ql hg hn h5⟩⟩
      Bt := by
        intro b l n z hB
        rw [CZ] at hB
        rw [DT]
        by_cases tj : b = E.H.length
        · rw [ru tj] at hB; cases hB
        · rw [rr tj] at hB ⊢; exact h.heap.Bt b l n z hB
      lvl := by
        intro b l n z hB
        rw [CZ] at hB
        by_cases tj : b = E.H.length
        · rw [ru tj] at hB; cases hB
        · rw [rr tj] at hB; exact h.heap.lvl b l n z hB
      dm := h.heap.dm
      inj := by
        intro b b' h1 h2 he
        rw [CZ] at h1 h2
        rw [DT, DT] at he
        by_cases uw : b = E.H.length <;> by_cases xp : b' = E.H.length
        · omega
        · rw [ru uw, rr xp] at he
          rw [rr xp] at h2
          exact absurd he.symm (hgl b' h2)
        · rw [rr uw, ru xp] at he
          rw [rr uw] at h1
          exact absurd he (hgl b h1)
        · rw [rr uw, rr xp] at he
          rw [rr uw] at h1
          rw [rr xp] at h2
          exact h.heap.inj b b' h1 h2 he
      maps := by
        intro b BC hB
        rw [CZ] at hB
        rw [DT]
        by_cases tj : b = E.H.length
        · rw [ru tj] at hB; cases hB
        · rw [rr tj] at hB ⊢; exact h.heap.maps b BC hB
      Bl := by
        intro x hx
        obtain ⟨se, wj⟩ := K8.1 hx
        refine ⟨(h.heap.Bl x se).1, fun b hl => ?_⟩
        rw [CZ] at hl
        rw [DT]
        by_cases tj : b = E.H.length
        · rw [ru tj]; exact fun e => wj e.symm
        · rw [rr tj] at hl ⊢; exact (h.heap.Bl x se).2 b hl }
  · rw [eh (by omega)]
    exact h.kept b xp hl
  · refine p4 _ _ ?_ ?_ fun l n z => ?_
    · rw [DT, ru (by rw [h.H])]
    · show H.length < E.n + 1; rw [h.n]; omega
    · rw [CZ, ru (by rw [h.H])]; simp
end
section
variable {c : Cx} {E : Ab} {S : St} {a : Act} {o : fc}
theorem QE (ts : Array eu) (d i : Nat) (v u : eu) : (ts.setIfInBounds d v).getD i u = if i = d ∧ d < ts.size then v else ts.getD i u := by
 simp only [iq, Array.getElem?_setIfInBounds]
 by_cases h : d = i
 ·subst h
  by_cases h2 : d < ts.size
  ·simp [h2]
  ·simp [h2]
 ·rw [rr h, rr (fun e => h e.1.symm)]
theorem D1.next (hs : D1 c E S a) {E' : Ab} {H' : A5} (ha : B9 c E E' H') {T : Nat → V} {ts : Array eu} {ds : List Deferred} (hT : ∀ i, AA E' (T i) (ts.getD i undef)) (tu : ts.size = a.tmps.size) : D1 c E' { T, H := H' } { tmps := ts, defers := ds } where
  H := ha.H
  lk := by rw [ha.Cz.lk, hs.lk]
  n := ha.n
  m := by rw [ha.m, hs.m]
  tmps := hT
  size := tu.trans hs.size
  heap := ha.heap
  base := by have := hs.base; have h1 := hs.n; have h2 := ha.n; have h3 := ha.Cz.len; show _ ≤ H'.length; omega
  Dv := hs.Dv
  deep := hs.deep
theorem D1.put (hs : D1 c E S a) {E' : Ab} {H' : A5} (ha : B9 c E E' H') {d : Nat} {v : V} {u : eu} (hd : d < c.ntmps) (hr : AA E' v u) : D1 c E' (({ S with H := H' } : St).set d v) (a.put (some d) u) := by
 refine D1.next hs ha (fun i => ?_) (by simp)
 rw [QE]
 show AA E' (if i = d then v else S.T i) _
 by_cases h : i = d
 ·rw [ru h, ru ⟨h, by rw [hs.size]; exact hd⟩]; exact hr
 ·rw [rr h, rr (fun e => h e.1)]; exact ha.Cz.rep hs.heap _ _ (hs.tmps i)
theorem D1.stay (hs : D1 c E S a) {E' : Ab} {H' : A5} (ha : B9 c E E' H') : D1 c E' { S with H := H' } a := by
 refine D1.next (ds := a.defers) hs ha (fun i => ha.Cz.rep hs.heap _ _ (hs.tmps i)) rfl
theorem Wm (hs : D1 c E S a) (hΓ : Hh c.P c.hints c.Γ) (hd : a.defers = []) {S' : St} (h : Jg c o S = some S') {next : Act → je → Prop} {Q : Exit → Act → je → Prop}
  (hn : ∀ E' a', D1 c E' S' a' → B9 c E E' S'.H → a'.defers = [] → next a' E'.w) : o.wp c.P a E.w next Q := by
 unfold Jg at h
 split at h
 ·rename_i hdst
  simp only [dn, Prod.exists] at h
  obtain ⟨v, H', hop, rfl⟩ := h
  refine X7 hs hΓ hop next Q fun E' u ha hr => ?_
  rw [hdst]
  exact hn E' a (D1.stay hs ha) ha hd
 ·rename_i d hdst
  split at h
  case isFalse => cases h
  rename_i sd
  simp only [dn, Prod.exists] at h
  obtain ⟨v, H', hop, rfl⟩ := h
  refine X7 hs hΓ hop next Q fun E' u ha hr => ?_
  rw [hdst]
  exact hn E' _ (D1.put hs ha sd hr) ha hd
theorem Tm (hs : D1 c E S a) {ops : Array fc} {b : Bool} (h : DF ops S.T o = some b) : Region.wanted o (yielded ops a.tmps) = b := by
 unfold DF at h
 unfold Region.wanted
 split at h
 ·rename_i hg
  rw [hg]
  simpa using h
 ·rename_i j want hg
  rw [hg]
  split at h
  ·rename_i t ht
   have hr := hs.tmps t
   simp only [yielded, ht, ba]
   split at h
   ·rename_i b' hb
    simp only [an] at h
    rw [hb] at hr
    simp only [AA] at hr
    have : a.tmps[t]? = some (.bool b') := by
     rw [iq] at hr
     cases h2 : a.tmps[t]? with
     | none => rw [h2] at hr; simp [undef] at hr
     | some x => rw [h2] at hr; simp only [ji] at hr; rw [hr]
    rw [this]
    simpa using h
   ·rename_i hb
    simp only [an] at h
    subst h
    rw [hb] at hr
    simp only [AA] at hr
    obtain ⟨vs, hv, wy⟩ := hr
    simp only [AM] at wy
    rw [iq] at hv
    cases h2 : a.tmps[t]? with
    | none => simp
    | some x =>
     rw [h2] at hv
     simp only [ji] at hv
     rw [hv]
     simp
   ·cases h
  ·cases h
theorem NQ (E : Ab) : AA E CT undef := by
 simp only [CT, AA]
 exact ⟨#[], rfl, by simp only [AM]⟩
theorem D1.Ay (hs : D1 c E S a) (s k : Bool) : D1 (c.Ay s k) E S a := ⟨hs.H, hs.lk, hs.n, hs.m, hs.tmps, hs.size, hs.heap, hs.base, hs.Dv, hs.deep⟩
theorem D1.Ws {s k : Bool} (hs : D1 (c.Ay s k) E S a) : D1 c E S a := ⟨hs.H, hs.lk, hs.n, hs.m, hs.tmps, hs.size, hs.heap, hs.base, hs.Dv, hs.deep⟩
theorem B9.Ws {s k : Bool} {E' : Ab} {H' : A5} (h : B9 (c.Ay s k) E E' H') : B9 c E E' H' := ⟨h.H, h.n, h.m, h.Cz, h.heap, h.I7, h.Ib, h.kept⟩
theorem MO (hs : D1 c E S a) (hΓ : Hh c.P c.hints c.Γ) (hd : a.defers = []) {s k : Bool} {ops : Array fc} {S' : St} (h : C1 (c.Ay s k) ops o S = some S') {next : Act → je → Prop} {Q : Exit → Act → je → Prop}
  (hn : ∀ E' a', D1 c E' S' a' → B9 c E E' S'.H → a'.defers = [] → next a' E'.w) :
  if Region.wanted o (yielded ops a.tmps) then o.wp c.P a E.w next Q ∧ (∃ r, Cn (c.Ay s k) o S = some r) else next (a.put o.dst undef) E.w := by
 unfold C1 at h
 simp only [dj] at h
 obtain ⟨b, hb, h1⟩ := h
 rw [Tm hs hb]
 cases b with
 | true =>
  rw [ru rfl] at h1 ⊢
  refine ⟨Wm (c := c.Ay s k) (hs.Ay s k) hΓ hd h1 fun E1 a1 wx xq yy => hn E1 a1 wx.Ws xq.Ws yy, ?_⟩
  unfold Jg at h1
  split at h1
  ·simp only [dn] at h1; exact ⟨_, h1.choose_spec.1⟩
  ·split at h1
   ·simp only [dn] at h1; exact ⟨_, h1.choose_spec.1⟩
   ·cases h1
 | false =>
  simp only [ei, if_false] at h1 ⊢
  split at h1
  ·rename_i d hdst
   split at h1
   case isFalse => cases h1
   rename_i sd
   simp only [an] at h1
   subst h1
   rw [hdst]
   exact hn E _ (D1.put hs (B9.refl hs) sd (NQ E)) (show B9 c E E S.H from B9.refl hs) hd
  ·rename_i hdst
   simp only [an] at h1
   subst h1
   rw [hdst]
   exact hn E a hs (B9.refl hs) hd
theorem Uc (hs : D1 c E S a) (hΓ : Hh c.P c.hints c.Γ) (hd : a.defers = []) {s k : Bool} {ops : Array fc} {S' : St} (h : C1 (c.Ay s k) ops o S = some S') {next : Act → je → Prop} {Q : Exit → Act → je → Prop}
  (hn : ∀ E' a', D1 c E' S' a' → B9 c E E' S'.H → a'.defers = [] → next a' E'.w) :
  if Region.wanted o (yielded ops a.tmps) then o.wp c.P a E.w next Q ∨ (o.asks c.P a E.w ∧ LetsOut Q) else next (a.put o.dst undef) E.w := by
 have := MO hs hΓ hd h (Q := Q) hn
 split
 ·rename_i hw; rw [ru hw] at this; exact .inl this.1
 ·rename_i hw; rw [rr hw] at this; exact this
def Ec (a : Act) (ps : List (Nat × eu)) : Act := ps.foldl (fun a p => a.put (some p.1) p.2) a
theorem Gb (a : Act) (p : Nat × eu) (ps : List (Nat × eu)) : Ec a (p :: ps) = Ec (a.put (some p.1) p.2) ps := rfl
theorem Wa (a : Act) (ps : List (Nat × eu)) (p : Nat × eu) : Ec a (ps ++ [p]) = (Ec a ps).put (some p.1) p.2 := by simp [Ec]
theorem Kd {dst : Option Nat} {v : eu} : ∀ (ps : List (Nat × eu)) (a : Act), (∀ p ∈ ps, dst ≠ some p.1) → Ec (a.put dst v) ps = (Ec a ps).put dst v
 | [], _, _ => rfl
 | p :: ps, a, h => by
  rw [Gb, Gb, ← Kd ps _ fun q hq => h q (fm _ hq), Act.put_comm a v p.2]
  intro d hd e
  exact h p (fh ..) (by rw [hd, e])
theorem My {ops : Array fc} {o : fc} (hsel : ∀ cs b, o.op ≠ .select cs b) : ∀ (ps : List (Nat × eu)) (a : Act), (∀ p ∈ ps, p.1 ∉ o.looksAt ops) → execOp (Ec a ps).eval o = execOp a.eval o
 | [], _, _ => rfl
 | p :: ps, a, h => by
  rw [Gb, My hsel ps _ fun q hq => h q (fm _ hq)]
  exact execOp_put (ops := ops) o hsel a (some p.1) p.2 fun d hd => by cases hd; exact h p (fh ..)
theorem Nt {ops : Array fc} {o : fc} : ∀ (ps : List (Nat × eu)) (a : Act), (∀ p ∈ ps, p.1 ∉ o.looksAt ops) → Region.wanted o (yielded ops (Ec a ps).tmps) = Region.wanted o (yielded ops a.tmps)
 | [], _, _ => rfl
 | p :: ps, a, h => by
  rw [Gb, Nt ps _ fun q hq => h q (fm _ hq)]
  exact wanted_put o a (some p.1) p.2 fun d hd => by cases hd; exact h p (fh ..)
theorem Me : ∀ (ps : List (Nat × eu)) (a : Act) (d : Deferred), Ec { a with defers := d :: a.defers } ps = { Ec a ps with defers := d :: (Ec a ps).defers }
 | [], _, _ => rfl
 | p :: ps, a, d => by
  rw [Gb, Gb, ← Me ps]
  rfl
theorem kB {ops : Array fc} {P : ep} {o : fc} {w : je} (hsel : ∀ cs b, o.op ≠ .select cs b) {ps : List (Nat × eu)} {a : Act} (h1 : ∀ p ∈ ps, p.1 ∉ o.looksAt ops) (h2 : ∀ p ∈ ps, o.dst ≠ some p.1) {next next' : Act → je → Prop} {Q : Exit → Act → je → Prop}
  (hn : ∀ a' w', next a' w' → next' (Ec a' ps) w') (h : o.wp P a w next (fun _ _ _ => False)) : o.wp P (Ec a ps) w next' Q := by
 unfold Oper.wp at *
 rw [My hsel ps a h1]
 generalize (execOp a.eval o).run P w = r at *
 have zp : ∀ a v, (Ec a ps).put o.dst v = Ec (a.put o.dst v) ps := fun a v => (Kd ps a h2).symm
 cases r with
 | ok n w' =>
  cases n <;> simp only [Oper.upon] at h ⊢
  case value u => rw [zp]; exact hn _ _ h
  case skip => rw [zp]; exact hn _ _ h
  case defer d => rw [← Me, zp]; exact hn _ _ h
  case enter f args =>
   refine Calls.mono h fun e w'' he => ?_
   cases e with
   | returned u => simp only [] at he ⊢; rw [zp]; exact hn _ _ he
   | panicked c => exact he.elim
   | outgrown => obtain ⟨_, _, h⟩ := he; exact h.elim
  case row row args => exact Rows.mono h fun u w'' he => by rw [zp]; exact hn _ _ he
 | halt x w' =>
  cases x <;> simp only [Oper.upon] at h
theorem S8 {ops : Array fc} {Q : Exit → Act → je → Prop} {cf : Nat → Cx} (hcf : ∀ i, ∃ s k, cf i = c.Ay s k) : ∀ (l : List Nat) {E : Ab} {S : St} {a : Act} (hs : D1 c E S a) (hΓ : Hh c.P c.hints c.Γ) (hd : a.defers = []) {S' : St} (h : Dr cf ops l S = some S')
  (hn : ∀ E' a', D1 c E' S' a' → B9 c E E' S'.H → a'.defers = [] → Q .normal a' E'.w), wpOps c.P ops Q l a E.w
 | [], E, S, a, hs, _, hd, S', h, hn => by
  simp only [Dr, an] at h
  subst h
  exact hn E a hs (B9.refl hs) hd
 | i :: rest, E, S, a, hs, hΓ, hd, S', h, hn => by
  simp only [Dr] at h
  simp only [wpOps]
  split at h
  ·cases h
  ·rename_i o ho
   simp only [dj] at h
   obtain ⟨S1, h1, h2⟩ := h
   obtain ⟨s, k, hc⟩ := hcf i
   rw [hc] at h1
   simp only [ho]
   exact Uc hs hΓ hd h1 fun E1 a1 wx xq yy => S8 hcf rest wx hΓ yy h2 fun E' a' yh ha' zq => hn E' a' yh (xq.trans ha') zq
theorem dG {p : Nat → Prop} : ∀ n, p n → ∃ k, p k ∧ ∀ j, p j → k ≤ j := by
 intro n
 induction n using qq with
 | _ n ih =>
  intro hn
  by_cases h : ∃ m, m < n ∧ p m
  ·obtain ⟨m, hm, hp⟩ := h
   exact ih m hm hp
  ·exact ⟨n, hn, fun j hj => Nat.le_of_not_lt fun sd => h ⟨j, sd, hj⟩⟩
theorem Jt {ow : Bool} {ops : Array fc} (h : Js ow ops = true) :
  (∀ i, i < ops.size → i ∈ RV ow ops) ∧ (∀ i ∈ RV ow ops, i < ops.size) ∧ (∀ i, i < ops.size → (∀ e ∈ IY ops i, e < i) ∧ ∀ j ∈ (G7 ops).getD i [], ∃ e ∈ IY ops i, e = j ∨ j ∈ (G7 ops).getD e []) ∧ D9 ow ops (G7 ops) (RV ow ops) = true := by
 unfold Js at h
 simp only [ec, gb, ik, jh, ry, List.any_eq_true, gg, beq_iff_eq] at h
 obtain ⟨⟨⟨h1, h2⟩, h3⟩, h4⟩ := h
 exact ⟨h1, h2, h3, h4⟩
theorem Gg {ow : Bool} {ops : Array fc} {tab : List (List Nat)} : ∀ {l l' : List Nat}, l'.Sublist l → D9 ow ops tab l = true → D9 ow ops tab l' = true
 | _, _, .slnil, h => h
 | _, _, .cons a s, h => by
  simp only [D9, ec] at h
  exact Gg s h.2
 | _, _, .cons_cons a s, h => by
  simp only [D9, ec, gb] at h ⊢
  exact ⟨fun i hi => h.1 i (s.subset hi), Gg s h.2⟩
def Oz (ow : Bool) (ops : Array fc) (tab : List (List Nat)) (j i : Nat) : Prop :=
 i ≠ j ∧ i ∉ tab.getD j [] ∧ (j ∈ tab.getD i [] ∨ NH ops tab j i = true ∨ (LK ops tab j i).isSome = true ∨ ∃ x y, ops[j]? = some x ∧ ops[i]? = some y ∧ JW ow ops x y = true ∧ (Hs x = true → FF y = true → L4 ops tab i = true))
theorem S9 {ow : Bool} {ops : Array fc} {tab : List (List Nat)} {j : Nat} {r : List Nat} (h : D9 ow ops tab (j :: r) = true) : ∀ i ∈ r, Oz ow ops tab j i := by
 intro i hi
 simp only [D9, ec, gb] at h
 obtain ⟨q1, q2⟩ := h.1 i hi
 simp only [bne_iff_ne, ne_eq, jj, jh, rv] at q1
 refine ⟨q1.1, q1.2, ?_⟩
 simp only [gg, jh, ry] at q2
 rcases q2 with ((q2 | q2) | q2) | q2
 ·exact .inl q2
 ·exact .inr (.inl q2)
 ·exact .inr (.inr (.inl q2))
 ·refine .inr (.inr (.inr ?_))
  split at q2
  ·rename_i x y hx hy
   simp only [ec, gg, jj] at q2
   refine ⟨x, y, hx, hy, q2.1, fun hl hc => ?_⟩
   rcases q2.2 with (q3 | q3) | q3
   ·rw [hl] at q3; cases q3
   ·rw [hc] at q3; cases q3
   ·exact q3
  ·cases q2
theorem J4 {ow : Bool} {ops : Array fc} {tab : List (List Nat)} {i : Nat} {r2 : List Nat} : ∀ {r1 : List Nat}, D9 ow ops tab (r1 ++ i :: r2) = true → (∀ j ∈ r1, Oz ow ops tab j i) ∧ ∀ m ∈ r2, Oz ow ops tab i m
 | [], h => ⟨fun j hj => absurd hj (by simp), S9 h⟩
 | j :: r1, h => by
  have h1 := S9 h
  simp only [ie, D9, ec] at h
  obtain ⟨k1, k2⟩ := J4 h.2
  refine ⟨fun j' zg => ?_, k2⟩
  rcases fi.1 zg with rfl | zg
  ·exact h1 i (by simp)
  ·exact k1 j' zg
theorem KB {ops : Array fc} {tab : List (List Nat)} {j m : Nat} (h : NH ops tab j m = true) : ∃ x y d, ops[j]? = some x ∧ ops[m]? = some y ∧ MP y = true ∧ y.guard = none ∧ y.dst = some d ∧ Oper.apart ops x y = true ∧ Oper.apart ops y x = true ∧ ∀ k, k < ops.size → m ∈ tab.getD k [] → j ∈ tab.getD k [] := by
 unfold NH at h
 split at h
 case h_2 => cases h
 rename_i x y hx hy
 simp only [ec, jj, jh, rv, gb, ik, gg, ry] at h
 obtain ⟨⟨⟨⟨⟨h1, h2⟩, h3⟩, h4⟩, h5⟩, h6⟩ := h
 have hg : y.guard = none := by cases hh : y.guard with | none => rfl | some _ => rw [hh] at h2; cases h2
 obtain ⟨d, hd⟩ : ∃ d, y.dst = some d := by cases hh : y.dst with | some d => exact ⟨d, rfl⟩ | none => rw [hh] at h3; cases h3
 exact ⟨x, y, d, hx, hy, h1, hg, hd, h4, h5, fun k hk hm => (h6 k hk).resolve_left (fun e => e hm)⟩
theorem Wo {ow : Bool} {ops : Array fc} {x y : fc} (h : JW ow ops x y = true) : Oper.apart ops x y = true ∧ Oper.apart ops y x = true := by
 unfold JW at h
 simp only [ec] at h
 exact h.1
theorem N5 {α : Type} {x : Option α} (h : Ig x = true) : x = none := by cases x with | none => rfl | some _ => cases h
theorem Nf {ops : Array fc} {tab : List (List Nat)} {j i : Nat} {p : Nat × Nat} (h : LK ops tab j i = some p) : ∃ x y t t' v, ops[j]? = some x ∧ ops[i]? = some y ∧ x.op = .load t (.tmp p.1) ∧ y.op = .store t' (.tmp p.2) v ∧ x.guard = none ∧ y.guard = none ∧
  Oper.apart ops x y = true ∧ Oper.apart ops y x = true ∧ N1 ops tab j p.1 = true ∧ N1 ops tab i p.2 = true ∧ x.dst ≠ some p.1 ∧ y.dst = none := by
 unfold LK at h
 split at h
 case h_2 => cases h
 rename_i x y hx hy
 split at h
 case h_2 => cases h
 rename_i t a t' b v ox oy
 split at h
 case isFalse => cases h
 rename_i hc
 simp only [an] at h
 subst h
 simp only [ec, bne_iff_ne, ne_eq] at hc
 obtain ⟨⟨⟨⟨⟨⟨⟨h1, h2⟩, h3⟩, h4⟩, h5⟩, h6⟩, h7⟩, h8⟩ := hc
 exact ⟨x, y, t, t', v, hx, hy, ox, oy, N5 h1, N5 h2, h3, h4, h5, h6, h7, N5 h8⟩
theorem IH {ops : Array fc} {tab : List (List Nat)} {j a k : Nat} {o : fc} (h : N1 ops tab j a = true) (hk : k ∉ tab.getD j []) (ho : ops[k]? = some o) : o.dst ≠ some a := by
 unfold N1 at h
 simp only [gb, ik, gg, jh, ry] at h
 have := (h k (ef.1 ho).1).resolve_left hk
 rw [ho] at this
 simpa using this
theorem V0 {ops : Array fc} {base : Nat} {T : Nat → V} (h : LN ops base T = true) {i j : Nat} (hi : i < ops.size) (hj : j < ops.size) (h1 : j ∉ (G7 ops).getD i []) (h2 : i ∉ (G7 ops).getD j []) {p : Nat × Nat} (hp : LK ops (G7 ops) j i = some p) : H6 base (T p.1) (T p.2) = true := by
 unfold LN at h
 rw [gb] at h
 refine h p ?_
 unfold dL
 rw [List.mem_flatMap]
 refine ⟨i, ik.2 hi, nt.2 ⟨j, ik.2 hj, ?_⟩⟩
 rw [rr, hp]
 simp only [gg, jh, ry]
 rintro (h | h)
 ·exact h1 h
 ·exact h2 h
theorem oN.of {c : Cx} {ops : Array fc} {r1 r2 : List Nat} {i : Nat} {y : fc} {S' : St} (hp : D9 c.lits ops (G7 ops) (r1 ++ i :: r2) = true) (yz : LN ops c.base S'.T = true) (hr : ∀ k ∈ r1, k ∉ (G7 ops).getD i []) {s1 s2 : List Nat} {j : Nat} (he : r1 = s1 ++ j :: s2)
  (hls : (LK ops (G7 ops) j i).isSome = true) (ho : ops[i]? = some y) : oN c ops j y (s2 ++ i :: r2) S' := by
 obtain ⟨p, hls⟩ := mr.1 hls
 obtain ⟨x, y', t, t', v, hx, hy, ox, oy, gx, gy, a1, a2, f1, f2, d1, d2⟩ := Nf hls
 rw [ho] at hy
 cases hy
 subst he
 have q1 := (J4 (r1 := s1) (i := j) (r2 := s2 ++ i :: r2) (by simpa using hp)).2
 have q2 := (J4 hp).2
 have hj := hr j (by simp)
 refine ⟨x, t, p.1, t', p.2, v, hx, ox, oy, gx, gy, a1, fun k hk o vm => ?_, V0 yz (ef.1 ho).1 (ef.1 hx).1 hj ((q1 i (by simp)).2.1) hls⟩
 rcases fi.1 hk with rfl | hk
 ·rw [hx] at vm
  cases vm
  exact ⟨d1, IH f2 hj hx⟩
 ·refine ⟨IH f1 (q1 k hk).2.1 vm, ?_⟩
  rcases eb.1 hk with h | h
  ·exact IH f2 (hr k (by simp [h])) vm
  ·rcases fi.1 h with rfl | h
   ·rw [ho] at vm; cases vm; rw [d2]; exact fun e => by cases e
   ·exact IH f2 (q2 k h).2.1 vm
theorem Oz.apart {ow : Bool} {ops : Array fc} {tab : List (List Nat)} {j i : Nat} (h : Oz ow ops tab j i) (hn : j ∉ tab.getD i []) : ∃ x y, ops[j]? = some x ∧ ops[i]? = some y ∧ Oper.apart ops x y = true ∧ Oper.apart ops y x = true := by
 rcases h.2.2 with h | h | h | ⟨x, y, h1, h2, h3, _⟩
 ·exact absurd h hn
 ·obtain ⟨x, y, _, h1, h2, _, _, _, h3, h4, _⟩ := KB h
  exact ⟨x, y, h1, h2, h3, h4⟩
 ·obtain ⟨p, h⟩ := mr.1 h
  obtain ⟨x, y, _, _, _, h1, h2, _, _, _, _, h3, h4, _⟩ := Nf h
  exact ⟨x, y, h1, h2, h3, h4⟩
 ·exact ⟨x, y, h1, h2, Wo h3⟩
theorem DP {ow : Bool} {ops : Array fc} {tab : List (List Nat)} : ∀ {l : List Nat}, D9 ow ops tab l = true → l.Nodup
 | [], _ => mw
 | j :: l, h => by
  simp only [D9, ec, gb, bne_iff_ne, ne_eq] at h
  rw [ia]
  exact ⟨fun hx => (h.1 j hx).1.1 rfl, DP h.2⟩
theorem Ry {ops : Array fc} {i e : Nat} {o : fc} (ho : ops[i]? = some o) : e ∈ IY ops i ↔ ∃ d ∈ o.after, Region.binds .any d = true ∧ d.on = e := by
 unfold IY
 rw [ho]
 simp only [iw, ql, Array.mem_toList_iff]
 constructor
 ·rintro ⟨d, ⟨h1, h2⟩, h3⟩; exact ⟨d, h1, h2, h3⟩
 ·rintro ⟨d, h1, h2, h3⟩; exact ⟨d, ⟨h1, h2⟩, h3⟩
theorem Gw {listed : Array Bool} {i : Nat} (h : i < listed.size) (b b' : Bool) : listed.getD i b = listed.getD i b' := by
 simp [iq, h]
structure Pd where
 m : Nat
 d : Nat
 u : eu
 g : Nat
structure tK (c : Cx) (ops : Array fc) (E0 E : Ab) (S : St) (listed : Array Bool) (r : List Nat) (p : Pd) : Prop where
 op : ∃ o, ops[p.m]? = some o ∧ o.guard = none ∧ o.dst = some p.d ∧ ∃ v sz cs, (∀ H2, Cn (Fv c ops p.m) o ⟨S.T, H2⟩ = some (v H2.length, H2 ++ [.cells sz cs])) ∧ ZC E.w p.u p.g v cs
 Bl : p.g ∈ E.Bl
 new : E0.w.heap.size ≤ p.g
 VS : p.g ∉ E0.Bl
 mem : p.m ∈ r
 done : listed.getD p.m true = true
 lO : ∀ j ∈ (G7 ops).getD p.m [], j ∉ r
def LU (ops : Array fc) (r : List Nat) (m : Nat) : Prop := ∃ r1 r2 b, r = r1 ++ m :: r2 ∧ b ∈ r1 ∧ NH ops (G7 ops) b m = true
theorem K6 {α : Type} {x y : α} {l r : List α} (h : x ∈ l ++ r) : x ∈ l ++ y :: r := (List.Sublist.append (List.Sublist.refl l) (List.sublist_cons_self y r)).subset h
theorem JN {α : Type} {x y : α} {l r : List α} (h : x ∈ l ++ y :: r) (hn : x ≠ y) : x ∈ l ++ r := by
 rcases eb.1 h with h | h
 ·exact ew _ h
 ·rcases fi.1 h with h | h
  ·exact absurd h hn
  ·exact List.mem_append_right _ h
theorem Wl {r1 r2 r1' r2' : List Nat} {m : Nat} (hn : (r1 ++ m :: r2).Nodup) (h : r1 ++ m :: r2 = r1' ++ m :: r2') : r1 = r1' ∧ r2 = r2' := by
 induction r1 generalizing r1' with
 | nil =>
  cases r1' with
  | nil => simpa using h
  | cons x xs =>
   simp only [gu, ie, js] at h
   obtain ⟨rfl, h⟩ := h
   simp only [gu, ia] at hn
   exact absurd (by rw [h]; simp) hn.1
 | cons y ys ih =>
  cases r1' with
  | nil =>
   simp only [gu, ie, js] at h
   obtain ⟨rfl, h⟩ := h
   simp only [ie, ia] at hn
   exact absurd (by simp) hn.1
  | cons x xs =>
   simp only [ie, js] at h
   obtain ⟨rfl, h⟩ := h
   simp only [ie, ia] at hn
   obtain ⟨h1, h2⟩ := ih hn.2 h
   exact ⟨by rw [h1], h2⟩
theorem kM {cf : Nat → Cx} {ops : Array fc} {t : Nat} : ∀ (l : List Nat) {S S' : St}, Dr cf ops l S = some S' → (∀ j ∈ l, ∀ o, ops[j]? = some o → o.dst ≠ some t) → S'.T t = S.T t
 | [], S, S', h, _ => by simp only [Dr, an] at h; rw [h]
 | j :: l, S, S', h, hj => by
  unfold Dr at h
  split at h
  ·cases h
  rename_i o ho
  simp only [dj] at h
  obtain ⟨S1, h1, h2⟩ := h
  rw [kM l h2 fun k hk => hj k (fm _ hk)]
  have hd := hj j (fh ..) o ho
  rw [Ee] at h1
  simp only [dj] at h1
  obtain ⟨v, _, h1⟩ := h1
  split at h1
  case isFalse => cases h1
  simp only [an] at h1
  subst h1
  unfold JR
  cases hh : o.dst with
  | none => rfl
  | some d =>
   show (if t = d then _ else _) = _
   rw [rr]
   rintro rfl
   exact hd hh
theorem XQ {cf : Nat → Cx} {ops : Array fc} : ∀ (l l' : List Nat) {S S' : St}, Dr cf ops (l ++ l') S = some S' → ∃ S1, Dr cf ops l S = some S1 ∧ Dr cf ops l' S1 = some S'
 | [], l', S, S', h => ⟨S, rfl, h⟩
 | j :: l, l', S, S', h => by
  simp only [ie, Dr] at h ⊢
  split at h
  ·cases h
  rename_i o ho
  simp only [dj] at h
  obtain ⟨S1, h1, h2⟩ := h
  obtain ⟨S2, h3, h4⟩ := XQ l l' h2
  exact ⟨S2, by simp only [h1, ba, h3], h4⟩
theorem Qg {cx : Cx} {ops : Array fc} {o : fc} {d : Nat} {S S1 : St} (hg : o.guard = none) (hd : o.dst = some d) (h : C1 cx ops o S = some S1) : d < cx.ntmps ∧ ∃ v H', Cn cx o S = some (v, H') ∧ S1 = ({ S with H := H' } : St).set d v := by
 unfold C1 DF at h
 rw [hg] at h
 simp only [ba, if_true] at h
 unfold Jg at h
 rw [hd] at h
 simp only [] at h
 split at h
 case isFalse => cases h
 rename_i sd
 simp only [dn, Prod.exists] at h
 obtain ⟨v, H', h1, h2⟩ := h
 exact ⟨sd, v, H', h1, h2.symm⟩
structure fD (c : Cx) (ops : Array fc) (E0 : Ab) (S' : St) (fuel : Nat) (listed : Array Bool) (r : List Nat) (pend : List Pd) (E : Ab) (S : St) (a A : Act) : Prop where
 size : listed.size = ops.size
 count : fuel + pend.length = r.length
 left : ∀ i, i ∈ r ↔ i < ops.size ∧ (listed.getD i true = false ∨ i ∈ pend.map (·.m))
 H5 : D9 c.lits ops (G7 ops) r = true
 down : ∀ e, listed.getD e false = true → ∀ j ∈ (G7 ops).getD e [], listed.getD j false = true
 JV : D1 c E S a
 defers : a.defers = []
 act : A = Ec a (pend.map fun p => (p.d, p.u))
 rest : Dr (Fv c ops) ops r S = some S'
 part : LN ops c.base S'.T = true
 after : B9 c E0 E S.H
 TX : ∀ p ∈ pend, tK c ops E0 E S listed r p
 nodup : (pend.map (·.m)).Nodup
 gs : (pend.map (·.g)).Nodup
theorem fD.blocked {E0 : Ab} {S' : St} {fuel : Nat} {ops : Array fc} {listed : Array Bool} {r : List Nat} {pend : List Pd} {A : Act} (h : fD c ops E0 S' fuel listed r pend E S a A) (hb : ∀ p ∈ pend, LU ops r p.m) : ∀ (n : Nat) (p : Pd), p ∈ pend → (∃ r1 r2, r = r1 ++ p.m :: r2 ∧ r1.length = n) → ∃ b ∈ r, listed.getD b true = false ∧ ∀ k, k < ops.size → p.m ∈ (G7 ops).getD k [] → b ∈ (G7 ops).getD k [] := by
 intro n
 induction n using qq with
 | _ n ih =>
  rintro p hp ⟨r1, r2, hr, hl⟩
  obtain ⟨q1, q2, b, hq, uw, xp⟩ := hb p hp
  have yi := DP h.H5
  obtain ⟨rfl, rfl⟩ := Wl (by rw [← hr]; exact yi) (hr.symm.trans hq)
  obtain ⟨_, _, _, _, _, _, _, _, _, _, hk⟩ := KB xp
  have hbr : b ∈ r := by rw [hr]; simp [uw]
  rcases ((h.left b).1 hbr).2 with ye | ye
  ·exact ⟨b, hbr, ye, hk⟩
  ·obtain ⟨q, vn, rfl⟩ := iw.1 ye
   obtain ⟨s1, s2, rfl⟩ := jw uw
   obtain ⟨b', h1, h2, h3⟩ := ih s1.length (by rw [← hl]; simp) q vn ⟨s1, s2 ++ p.m :: r2, by rw [hr]; simp, rfl⟩
   exact ⟨b', h1, h2, fun k zr hk2 => h3 k zr (hk k zr hk2)⟩
theorem NC {c : Cx} {ops : Array fc} {o : fc} {T T' : Nat → V} {H : A5} (h : ∀ t ∈ o.looksAt ops, T t = T' t) : Cn c o { T := T, H := H } = Cn c o { T := T', H := H } := by
  refine S7 c o fun x hx => ?_
  cases x with
  | tmp t =>
    have : t ∈ o.looksAt ops := ew _ (nt.2 ⟨.tmp t, by simpa using hx, rfl⟩)
    simp only [ev, h t this]
  | _ => rfl
theorem rJ {d : Option Nat} {x : V × A5} {S : St} {t : Nat} (h : d ≠ some t) : (JR d x S).T t = S.T t := by
 unfold JR
 cases d with
 | none => rfl
 | some d =>
  show (if t = d then _ else _) = _
  rw [rr]
  rintro rfl
  exact h rfl
theorem fD.settle {E0 : Ab} {S' : St} {ops : Array fc} (hK : GS c.Γ) {listed : Array Bool} {A : Act} {fuel : Nat} {R : je → Prop} : ∀ (n : Nat) {r : List Nat} {pend : List Pd} {E : Ab} {S : St} {a : Act}, pend.length = n → fD c ops E0 S' fuel listed r pend E S a A →
    (∀ r pend E1 S a, fD c ops E0 S' fuel listed r pend E1 S a A → (∀ p ∈ pend, LU ops r p.m) → E1.w = E.w → R E1.w) → R E.w
  | n, r, pend, E, S, a, hlen, h, hR => by
    by_cases hall : ∀ p ∈ pend, LU ops r p.m
    · exact hR r pend E S a h hall rfl
    have : ∃ p, p ∈ pend ∧ ¬ LU ops r p.m := jk fun hx => hall fun p hp => jk fun hy => hx ⟨p, hp, hy⟩
    obtain ⟨p, hp, va⟩ := this
    obtain ⟨pa, pb, rfl⟩ := jw hp
    have vp := h.TX p hp
    obtain ⟨o, ho, hog, hod, v, sz, cs, hop, hpd⟩ := vp.op
    obtain ⟨r1, r2, rfl⟩ := jw vp.mem
    obtain ⟨p1, p2⟩ := J4 h.H5
    have yi := DP h.H5
    have hbub := Vd (c := c) hK (cf := Fv c ops) (fun i => ⟨_, rfl⟩) ho (r2 := r2) r1 h.JV.base h.rest fun s1 j s2 he => by
      have hj : j ∈ r1 := by rw [he]; simp
      rcases (p1 j hj).2.2 with h1 | h1 | h1 | ⟨x, y, hx, hy, hsw, hc⟩
      · exact absurd (by simp [hj]) (vp.lO j h1)
      · exact absurd ⟨r1, r2, j, rfl, hj, h1⟩ va
      · exact .inr (oN.of h.H5 h.part (fun k hk hc => absurd (by simp [hk]) (vp.lO k hc)) he h1 ho)
      · rw [ho] at hy
        simp only [an] at hy
        subst hy
        exact .inl ⟨x, hx, hsw, hc⟩
    simp only [Dr, ho, dj] at hbub
    obtain ⟨S1, g1, g2⟩ := hbub
    obtain ⟨sd, v1, H1, h1, rfl⟩ := Qg hog hod g1
    have hSe : (⟨S.T, S.H⟩ : St) = S := rfl
    have hop1 := hop S.H
    rw [hSe, h1] at hop1
    simp only [an, dk] at hop1
    obtain ⟨rfl, rfl⟩ := hop1
    have hEn : E.n = E.H.length := by rw [h.after.n, h.after.H]
    obtain ⟨ha, hru⟩ := WQ h.after h.JV.base (fg h.after.Cz.len (Nat.le_of_eq h.after.n)) (sz := sz) hpd vp.Bl vp.new vp.VS
    have hmd : ∀ q ∈ pa ++ pb, q.m ≠ p.m ∧ q.g ≠ p.g ∧ q ∈ pa ++ p :: pb := by
      intro q hq
      have hn1 := h.nodup
      have hn2 := h.gs
      simp only [ju, gq] at hn1 hn2
      have hmem : q ∈ pa ++ p :: pb := K6 hq
      rw [fy] at hn1 hn2
      refine ⟨fun e => ?_, fun e => ?_, hmem⟩
      · rcases eb.1 hq with hq | hq
        · exact hn1.2.2 q.m (kc hq) p.m (fh ..) e
        · exact (ia.1 hn1.2.1).1 (e ▸ kc hq)
      · rcases eb.1 hq with hq | hq
        · exact hn2.2.2 q.g (kc hq) p.g (fh ..) e
        · exact (ia.1 hn2.2.1).1 (e ▸ kc hq)
    have za : ∀ q ∈ pa ++ pb, ∃ oq, ops[q.m]? = some oq ∧ oq.dst = some q.d ∧ p.d ∉ oq.looksAt ops ∧ oq.dst ≠ some p.d := by
      intro q hq
      obtain ⟨vn, zy, hq3⟩ := hmd q hq
      have hqo := h.TX q hq3
      obtain ⟨oq, e1, e2, e3, _⟩ := hqo.op
      have hqr := hqo.mem
      have hkey : ∃ x y, ops[q.m]? = some x ∧ ops[p.m]? = some y ∧ Oper.apart ops x y = true ∧ Oper.apart ops y x = true := by
        rcases eb.1 hqr with hq4 | hq4
        · exact (p1 q.m hq4).apart fun e => absurd hqr (vp.lO _ e)
        · rcases fi.1 hq4 with hq4 | hq4
          · exact absurd hq4 vn
          · obtain ⟨x, y, k1, k2, k3, k4⟩ := (p2 q.m hq4).apart fun e => absurd vp.mem (hqo.lO _ e)
            exact ⟨y, x, k2, k1, k4, k3⟩
      obtain ⟨x, y, k1, k2, k3, k4⟩ := hkey
      rw [e1] at k1
      rw [ho] at k2
      simp only [an] at k1 k2
      subst k1 k2
      obtain ⟨_, w2, w3⟩ := Oper.apart_spec k3
      exact ⟨oq, e1, e3, w3 _ hod, fun e => w2 _ e (by rw [hod])⟩
    let E1 := E.name p.g (.cells sz cs)
    have hsim : D1 c E1 (({ S with H := S.H ++ [.cells sz cs] } : St).set p.d (v S.H.length)) (a.put (some p.d) p.u) := by
      refine
        { H := by show E.H ++ _ = S.H ++ _; rw [h.JV.H]
          lk := h.JV.lk
          n := by show E.n + 1 = _; rw [h.JV.n]; show _ = (S.H ++ [_]).length; simp
          m := h.JV.m
          tmps := fun i => ?_
          size := by rw [← h.JV.size]; simp [Act.put]
          heap := ha.heap
          base := by show _ ≤ (S.H ++ [_]).length; have := h.JV.base; simp; omega
          Dv := h.JV.Dv
          deep := h.JV.deep }
      show AA E1 (if i = p.d then _ else S.T i) (((a.tmps).setIfInBounds p.d p.u).getD i undef)
      rw [QE]
      by_cases hi : i = p.d
      · rw [ru hi, ru ⟨hi, by rw [h.JV.size]; exact sd⟩]; exact hru
      · rw [rr hi, rr (fun e => hi e.1)]; exact Ql vp.Bl hEn (h.JV.tmps i)
    refine fD.settle hK (n - 1) (r := r1 ++ r2) (pend := pa ++ pb) (E := E1) (S := ({ S with H := S.H ++ [.cells sz cs] } : St).set p.d (v S.H.length)) (a := a.put (some p.d) p.u) (by simp at hlen ⊢; omega) ?_ fun r' pend' E2 S2 a2 hm hb he => hR r' pend' E2 S2 a2 hm hb he
    have hcount := h.count
    exact
      { size := h.size
        count := by simp at hcount ⊢; omega
        left := fun i => by
          constructor
          · intro hi
            obtain ⟨k1, k2⟩ := (h.left i).1 (K6 hi)
            refine ⟨k1, k2.imp id fun k2 => ?_⟩
            obtain ⟨q, hq, rfl⟩ := iw.1 k2
            refine kc (JN hq ?_)
            rintro rfl
            have := yi
            rw [fy] at this
            rcases eb.1 hi with hi | hi
            · exact this.2.2 _ hi _ (fh ..) rfl
            · exact (ia.1 this.2.1).1 hi
          · rintro ⟨k1, k2⟩
            have sq : i ≠ p.m := by
              rintro rfl
              rcases k2 with k2 | k2
              · rw [vp.done] at k2; cases k2
              · obtain ⟨q, hq, hqe⟩ := iw.1 k2
                exact (hmd q hq).1 hqe
            refine JN ((h.left i).2 ⟨k1, k2.imp id fun k2 => ?_⟩) sq
            obtain ⟨q, hq, rfl⟩ := iw.1 k2
            exact kc (K6 hq)
        H5 := Gg (by simp) h.H5
        down := h.down
        JV := hsim
        defers := h.defers
        act := by
          rw [h.act]
          simp only [ju, gq]
          unfold Ec
          rw [qd, List.foldl_cons, qd]
          congr 1
          show (Ec a (pa.map fun p => (p.d, p.u))).put (some p.d) p.u = Ec (a.put (some p.d) p.u) (pa.map fun p => (p.d, p.u))
          refine (Kd _ _ fun q hq => ?_).symm
          obtain ⟨q', hq', rfl⟩ := iw.1 hq
          obtain ⟨oq, _, e2, _, e4⟩ := za q' (ew _ hq')
          intro e
          exact e4 (by rw [e2, ← e])
        rest := g2
        part := h.part
        after := ha
        TX := fun q hq => by
          obtain ⟨vn, zy, hq3⟩ := hmd q hq
          have hqo := h.TX q hq3
          obtain ⟨oq, e1, e2, e3, v2, sz2, cs2, e4, e5⟩ := hqo.op
          obtain ⟨oq', f1, f2, f3, _⟩ := za q hq
          rw [e1] at f1
          simp only [an] at f1
          subst f1
          refine ⟨⟨oq, e1, e2, e3, v2, sz2, cs2, fun H2 => ?_, e5⟩, K8.2 ⟨hqo.Bl, zy⟩, hqo.new, hqo.VS, ?_, hqo.done, fun j hj hjr => hqo.lO j hj (K6 hjr)⟩
          · rw [← e4 H2]
            refine (NC (ops := ops) fun t ht => ?_)
            show (if t = p.d then _ else S.T t) = _
            rw [rr]
            rintro rfl
            exact f3 ht
          · exact JN hqo.mem vn
        nodup := by
          have := h.nodup
          simp only [ju, gq] at this ⊢
          exact this.sublist (by simp)
        gs := by
          have := h.gs
          simp only [ju, gq] at this ⊢
          exact this.sublist (by simp) }
  termination_by n => n
  decreasing_by simp at hlen; omega
theorem fD.apart {E0 : Ab} {S' : St} {fuel : Nat} {ops : Array fc} {listed : Array Bool} {r : List Nat} {pend : List Pd} {A : Act} (h : fD c ops E0 S' fuel listed r pend E S a A) {i : Nat} {oi : fc} (hi : ops[i]? = some oi) (hir : i ∈ r) (wz : listed.getD i true = false) (hanc : ∀ p ∈ pend, p.m ∉ (G7 ops).getD i []) : ∀ p ∈ pend, ∃ op, ops[p.m]? = some op ∧ Oper.apart ops op oi = true ∧ Oper.apart ops oi op = true := by
 intro p hp
 have vp := h.TX p hp
 obtain ⟨r1, r2, rfl⟩ := jw hir
 obtain ⟨p1, p2⟩ := J4 h.H5
 have sq : p.m ≠ i := by
  intro e
  have := vp.done
  rw [e, wz] at this
  cases this
 rcases eb.1 vp.mem with hm | hm
 ·obtain ⟨x, y, k1, k2, k3, k4⟩ := (p1 p.m hm).apart (hanc p hp)
  rw [hi] at k2
  simp only [an] at k2
  subst k2
  exact ⟨x, k1, k3, k4⟩
 ·rcases fi.1 hm with hm | hm
  ·exact absurd hm sq
  ·have tu : p.m < listed.size := by
    rcases fp p.m listed.size with hl | hl
    ·exact hl
    ·rw [h.size] at hl
     obtain ⟨o, ho, _⟩ := vp.op
     exact absurd (ef.1 ho).1 (ib.2 hl)
   have hna : i ∉ (G7 ops).getD p.m [] := by
    intro e
    have := h.down p.m (by rw [Gw tu false true]; exact vp.done) i e
    have hi2 : i < listed.size := by rw [h.size]; exact (ef.1 hi).1
    rw [Gw hi2 false true, wz] at this
    cases this
   obtain ⟨x, y, k1, k2, k3, k4⟩ := (p2 p.m hm).apart hna
   rw [hi] at k1
   simp only [an] at k1
   subst k1
   exact ⟨y, k2, k4, k3⟩
theorem Nr {c : Cx} {o : fc} {S : St} {r : V × A5} (h : Cn c o S = some r) : ∀ cs b, o.op ≠ .select cs b := by
 intro cs b e
 unfold Cn at h
 simp only [e] at h
 cases h
theorem Ju {ops : Array fc} {E0 : Ab} (hh0 : Ch E0) {Q : Exit → Act → je → Prop} (vm : Js c.lits ops = true) (hΓ : Hh c.P c.hints c.Γ) (hK : GS c.Γ) {S' : St} (hn : ∀ E' a', D1 c E' S' a' → B9 c E0 E' S'.H → a'.defers = [] → Q .normal a' E'.w) : ∀ (fuel : Nat) (listed : Array Bool) (r : List Nat) (pend : List Pd) {E : Ab} {S : St} {a A : Act},
    fD c ops E0 S' fuel listed r pend E S a A → (∀ p ∈ pend, LU ops r p.m) → wpAny c.P .any ops Q fuel listed A E.w
  | 0, listed, r, pend, E, S, a, A, h, hb => by
    have hun : ∀ i ∈ r, listed.getD i true = false → False := by
      intro i hi hl
      have yi := DP h.H5
      have hle : pend.length + 1 ≤ r.length := by
        have h1 : (i :: pend.map (·.m)).Nodup := by
          refine ia.2 ⟨fun hm => ?_, h.nodup⟩
          obtain ⟨p, hp, rfl⟩ := iw.1 hm
          have := (h.TX p hp).done
          rw [hl] at this
          cases this
        have h2 := List.Nodup.length_le_of_subset h1 (l₂ := r) fun x hx => by
          rcases fi.1 hx with rfl | hx
          · exact hi
          · obtain ⟨p, hp, rfl⟩ := iw.1 hx
            exact (h.TX p hp).mem
        simpa using h2
      have := h.count
      omega
    have hp0 : pend = [] := by
      cases pend with
      | nil => rfl
      | cons p ps =>
        obtain ⟨r1, r2, hr⟩ := jw (h.TX p (fh ..)).mem
        obtain ⟨b, uw, xp, _⟩ := h.blocked hb _ p (fh ..) ⟨r1, r2, hr, rfl⟩
        exact (hun b uw xp).elim
    subst hp0
    have hr0 : r = [] := by
      have := h.count
      exact ff (by simp at this; omega)
    subst hr0
    have hrest := h.rest
    simp only [Dr, an] at hrest
    subst hrest
    have hA : A = a := h.act
    subst hA
    refine ⟨?_, hn E A h.JV h.after h.defers⟩
    rw [List.eq_nil_iff_forall_not_mem]
    intro i hi
    obtain ⟨h1, o, h2, _⟩ := mem_ready.1 hi
    have := (h.left i).2 ⟨(ef.1 h2).1, .inl h1⟩
    cases this
  | fuel + 1, listed, r, pend, E, S, a, A, h, hb => by
    obtain ⟨s1, s2, s3, s4⟩ := Jt vm
    have tu := h.size
    refine ⟨fun hnil => ?_, fun i hi => ?_⟩
    · exfalso
      have hex : ∃ x, x ∈ r ∧ listed.getD x true = false := by
        refine jk fun hx => ?_
        have yi := DP h.H5
        have := List.Nodup.length_le_of_subset yi (l₂ := pend.map (·.m)) fun x hxr => by
          rcases ((h.left x).1 hxr).2 with h1 | h1
          · exact absurd ⟨x, hxr, h1⟩ hx
          · exact h1
        have hc := h.count
        simp at this
        omega
      obtain ⟨x, hx⟩ := hex
      obtain ⟨m, hm, hmin⟩ := dG (p := fun k => k ∈ r ∧ listed.getD k true = false) x hx
      obtain ⟨hm1, _⟩ := (h.left m).1 hm.1
      have : m ∈ Region.ready .any ops listed := by
        rw [mem_ready]
        refine ⟨hm.2, ops[m], lf hm1, fun e he tp => ?_⟩
        have sd := (s3 m hm1).1 e.on ((Ry (lf hm1)).2 ⟨e, he, tp, rfl⟩)
        cases hl : listed.getD e.on true with
        | false => exact absurd (hmin e.on ⟨(h.left e.on).2 ⟨by omega, .inl hl⟩, hl⟩) (by omega)
        | true => rw [Gw (by omega) false true]; exact hl
      rw [hnil] at this
      cases this
    · obtain ⟨h1, o, ho, h2⟩ := mem_ready.1 hi
      have sd : i < ops.size := (ef.1 ho).1
      have hir : i ∈ r := (h.left i).2 ⟨sd, .inl h1⟩
      have hlist : ∀ e ∈ IY ops i, listed.getD e false = true := by
        intro e he
        obtain ⟨d, yy, hd2, rfl⟩ := (Ry ho).1 he
        exact h2 d yy hd2
      have hanc : ∀ j ∈ (G7 ops).getD i [], listed.getD j false = true := by
        intro j hj
        obtain ⟨e, he, hej⟩ := (s3 i sd).2 j hj
        rcases hej with rfl | hej
        · exact hlist _ he
        · exact h.down e (hlist e he) j hej
      have hancr : ∀ j ∈ (G7 ops).getD i [], j ∉ r := by
        intro j hj hjr
        rcases ((h.left j).1 hjr) with ⟨hjs, hl | hl⟩
        · have h4 := hanc j hj
          rw [Gw (by omega) false true, hl] at h4
          cases h4
        · obtain ⟨p, hp, rfl⟩ := iw.1 hl
          obtain ⟨r1, r2, hr⟩ := jw hjr
          obtain ⟨b, uw, xp, hb3⟩ := h.blocked hb _ p hp ⟨r1, r2, hr, rfl⟩
          have h4 := hanc b (hb3 i sd hj)
          rw [Gw (by have := ((h.left b).1 uw).1; omega) false true, xp] at h4
          cases h4
      have za := h.apart ho hir h1 fun p hp e => hancr _ e (h.TX p hp).mem
      have vg : ∀ q ∈ pend.map fun p => (p.d, p.u), q.1 ∉ o.looksAt ops := by
        intro q hq
        obtain ⟨p, hp, rfl⟩ := iw.1 hq
        obtain ⟨op, k1, k2, _⟩ := za p hp
        obtain ⟨op', e1, _, e3, _⟩ := (h.TX p hp).op
        rw [e1] at k1
        simp only [an] at k1
        subst k1
        exact (Oper.apart_spec k2).1 _ e3
      have ye : ∀ q ∈ pend.map fun p => (p.d, p.u), o.dst ≠ some q.1 := by
        intro q hq
        obtain ⟨p, hp, rfl⟩ := iw.1 hq
        obtain ⟨op, k1, k2, _⟩ := za p hp
        obtain ⟨op', e1, _, e3, _⟩ := (h.TX p hp).op
        rw [e1] at k1
        simp only [an] at k1
        subst k1
        exact (Oper.apart_spec k2).2.1 _ e3
      have hl3 : ∀ p ∈ pend, ∀ d, o.dst = some d → ∃ op, ops[p.m]? = some op ∧ d ∉ op.looksAt ops := by
        intro p hp d hd
        obtain ⟨op, k1, _, k2⟩ := za p hp
        exact ⟨op, k1, (Oper.apart_spec k2).1 d hd⟩
      have hA := h.act
      subst hA
      obtain ⟨r1, r2, rfl⟩ := jw hir
      obtain ⟨p1, p2⟩ := J4 h.H5
      have yi := DP h.H5
      have hir12 : i ∉ r1 ++ r2 := by
        intro hx
        rw [fy] at yi
        rcases eb.1 hx with hx | hx
        · exact yi.2.2 _ hx _ (fh ..) rfl
        · exact (ia.1 yi.2.1).1 hx
      have hdown : ∀ e, (listed.setIfInBounds i true).getD e false = true → ∀ j ∈ (G7 ops).getD e [], (listed.setIfInBounds i true).getD j false = true := by
        intro e he j hj
        by_cases hx : i = e
        · subst hx
          exact getD_set_true (hanc j hj)
        · rw [getD_set_ne false hx] at he
          exact getD_set_true (h.down e he j hj)
      have hpm : ∀ p ∈ pend, p.m ≠ i := by
        intro p hp e
        have := (h.TX p hp).done
        rw [e, h1] at this
        cases this
      have hdone : ∀ p ∈ pend, (listed.setIfInBounds i true).getD p.m true = true := by
        intro p hp
        rw [getD_set_ne true (fun e => hpm p hp e.symm)]
        exact (h.TX p hp).done
      by_cases hcase : ∃ b ∈ r1, NH ops (G7 ops) b i = true
      ·
        obtain ⟨b, uw, xp⟩ := hcase
        obtain ⟨_, o', d, _, ho', hmk, hog, hod, _, _, _⟩ := KB xp
        rw [ho] at ho'
        simp only [an] at ho'
        subst ho'
        obtain ⟨Sm, q1, q2⟩ := XQ r1 (i :: r2) h.rest
        simp only [Dr, ho, dj] at q2
        obtain ⟨S1, q2, _⟩ := q2
        obtain ⟨_, v1, H1, q3, _⟩ := Qg hog hod q2
        have hT : ∀ t ∈ o.looksAt ops, Sm.T t = S.T t := by
          intro t ht
          refine kM r1 q1 fun j hj oj hoj e => ?_
          obtain ⟨x, y, k1, k2, k3, _⟩ := (p1 j hj).apart fun e => hancr j e (by simp [hj])
          rw [hoj] at k1
          rw [ho] at k2
          simp only [an] at k1 k2
          subst k1 k2
          exact (Oper.apart_spec k3).1 t e ht
        obtain ⟨c1, e1, e2⟩ : ∃ vv HH, Cn (Fv c ops i) o S = some (vv, HH) := by
          have := NC (c := Fv c ops i) (ops := ops) (o := o) (H := Sm.H) hT
          rw [show (⟨Sm.T, Sm.H⟩ : St) = Sm from rfl, q3] at this
          unfold MP at hmk
          split at hmk
          · rename_i t hop
            unfold Cn at this ⊢
            simp only [hop] at this ⊢
            have t2 := this.symm
            simp only [dj] at t2
            obtain ⟨sz, hsz', z, hz, _⟩ := t2
            exact ⟨_, _, by simp only [hsz', hz, ba]; rfl⟩
          · rename_i t n m hop
            unfold Cn at this ⊢
            simp only [hop] at this ⊢
            have t2 := this.symm
            simp only [dj] at t2
            obtain ⟨N, hN, M, hM, t3⟩ := t2
            simp only [hN, hM, ba]
            unfold K5 at t3 ⊢
            split at t3
            case h_2 => cases t3
            rename_i k l
            simp only [dj] at t3
            obtain ⟨e, he, sz, hsz', by_, vd, z, hz, t4⟩ := t3
            split at t4
            case isFalse => cases t4
            rename_i hc
            simp only [he, hsz', vd, hz, ba]
            rw [ru hc]
            exact ⟨_, _, rfl⟩
          · cases hmk
        obtain ⟨v, sz, cs, u, cc, t, hop, ui, hpd⟩ := WM (c := Fv c ops i) (h.JV.Ay true (L4 ops (G7 ops) i)) hmk e2
        have hsel := Nr e2
        let E1 : Ab := { E with w := E.w.alloc (.cells cc t), Bl := E.w.heap.size :: E.Bl }
        have yw : Fu E E1 cc t :=
          { heap := rfl, os := rfl, tape := rfl, output := rfl, Ce := rfl, H := rfl, lk := rfl, nn := rfl, mm := rfl
            Bl := fun g => by
              show g ∈ E.w.heap.size :: E.Bl ↔ g ∈ E.Bl ∨ (g ∈ E.w.heap.size :: E.Bl ∧ g = E.w.heap.size)
              simp only [fi]
              constructor
              · rintro (rfl | hg)
                · exact .inr ⟨.inl rfl, rfl⟩
                · exact .inl hg
              · rintro (hg | ⟨hg, _⟩)
                · exact .inr hg
                · exact hg }
        have hafter : B9 c E0 E1 S.H := by
          have hr := yw.rel h.JV.heap
          exact h.after.trans
            { H := h.JV.H, n := h.JV.n, m := rfl, Cz := yw.Cz, heap := hr
              I7 := fun _ base nb d _ hn hd hf => yw.DN hn hd hf h.JV.heap
              Ib := fun _ base d _ hd hf => yw.DN (dz _) hd hf h.JV.heap
              kept := fun _ _ _ => by rw [h.JV.H] }
        have hsim : D1 c E1 S a := ⟨h.JV.H, h.JV.lk, h.JV.n, h.JV.m, fun j => yw.Cz.rep h.JV.heap _ _ (h.JV.tmps j), h.JV.size, hafter.heap, h.JV.base, h.JV.Dv, h.JV.deep⟩
        unfold wpOp
        simp only [ho]
        have hw : Region.wanted o (yielded ops (Ec a (pend.map fun p => (p.d, p.u))).tmps) = true := by
          unfold Region.wanted; rw [hog]
        rw [ru hw]
        refine .inl ?_
        unfold Oper.wp
        rw [My hsel _ a vg]
        show o.upon c.P _ _ Q ((execOp a.eval o).run (Fv c ops i).P E.w)
        rw [ui, Oper.upon_value]
        rw [hod]
        refine Ju hh0 vm hΓ hK hn fuel (listed.setIfInBounds i true) (r1 ++ i :: r2) (pend ++ [⟨i, d, u, E.w.heap.size⟩]) (E := E1) (S := S) (a := a) ?_ ?_
        · have hlis : (listed.setIfInBounds i true).getD i true = true := by simp [tu, sd]
          exact
            { size := by simp [tu]
              count := by have := h.count; simp at this ⊢; omega
              left := fun x => by
                have hlx := h.left x
                by_cases hx : i = x
                · subst hx
                  exact ⟨fun _ => ⟨sd, .inr (by simp)⟩, fun _ => by simp⟩
                · rw [getD_set_ne true hx, hlx]
                  simp only [ju, gq, jx, eb, dt]
                  constructor
                  · rintro ⟨k1, k2⟩; exact ⟨k1, k2.imp id .inl⟩
                  · rintro ⟨k1, k2⟩; exact ⟨k1, k2.imp id fun k => k.resolve_right fun e => hx e.symm⟩
              H5 := h.H5
              down := hdown
              JV := hsim
              defers := h.defers
              act := by
                rw [ju, gq, jx, Wa]
              rest := h.rest
              part := h.part
              after := hafter
              TX := fun p hp => by
                rcases eb.1 hp with hp | hp
                · have vp := h.TX p hp
                  obtain ⟨op, k1, k2, k3, v2, sz2, cs2, k4, ⟨cc2, t2, m1, m2⟩, m3⟩ := vp.op
                  refine ⟨⟨op, k1, k2, k3, v2, sz2, cs2, k4, ⟨cc2, t2, ?_, m2⟩, m3⟩, fm _ vp.Bl, vp.new, vp.VS, vp.mem, hdone p hp, vp.lO⟩
                  have := yw.Cz.I8 p.g vp.Bl (h.JV.heap.Bl _ vp.Bl).1
                  rw [this]; exact m1
                · simp only [dt] at hp
                  subst hp
                  exact ⟨⟨o, ho, hog, hod, v, sz, cs, hop, hpd⟩, fh .., h.after.Cz.size, fun e => absurd (hh0.Bl _ e).1 (ib.2 h.after.Cz.size), hir, hlis, hancr⟩
              nodup := by
                rw [ju, gq, jx, fy]
                refine ⟨h.nodup, by simp, fun x hx y hy e => ?_⟩
                simp only [dt] at hy
                obtain ⟨p, hp, rfl⟩ := iw.1 hx
                exact hpm p hp (e.trans hy)
              gs := by
                rw [ju, gq, jx, fy]
                refine ⟨h.gs, by simp, fun x hx y hy e => ?_⟩
                simp only [dt] at hy
                obtain ⟨p, hp, rfl⟩ := iw.1 hx
                have := (h.JV.heap.Bl _ (h.TX p hp).Bl).1
                rw [e, hy] at this
                exact absurd this (Nat.lt_irrefl _) }
        · intro p hp
          rcases eb.1 hp with hp | hp
          · exact hb p hp
          · simp only [dt] at hp
            subst hp
            exact ⟨r1, r2, b, rfl, uw, xp⟩
      ·
        have hbub := Vd (c := c) hK (cf := Fv c ops) (fun i => ⟨_, rfl⟩) ho (r2 := r2) r1 h.JV.base h.rest fun s1 j s2 he => by
          have hj : j ∈ r1 := by rw [he]; simp
          rcases (p1 j hj).2.2 with zh | zh | zh | ⟨x, y, hx, hy, hsw, hc⟩
          · exact absurd (by simp [hj]) (hancr j zh)
          · exact absurd ⟨j, hj, zh⟩ hcase
          · exact .inr (oN.of h.H5 h.part (fun k hk hc => absurd (by simp [hk]) (hancr k hc)) he zh ho)
          · rw [ho] at hy
            simp only [an] at hy
            subst hy
            exact .inl ⟨x, hx, hsw, hc⟩
        simp only [Dr, ho, dj] at hbub
        obtain ⟨S1, g1, g2⟩ := hbub
        have hg := Ee (Fv c ops i) ops o S
        rw [g1] at hg
        have hg := hg.symm
        simp only [dj] at hg
        obtain ⟨ve, _, hg⟩ := hg
        split at hg
        case isFalse => cases hg
        simp only [an] at hg
        have key : ∀ E1 a1, D1 c E1 S1 a1 → B9 c E E1 S1.H → a1.defers = [] → wpAny c.P .any ops Q fuel (listed.setIfInBounds i true) (Ec a1 (pend.map fun p => (p.d, p.u))) E1.w := by
          intro E1 a1 wx xq yy
          refine fD.settle (c := c) (E0 := E0) (S' := S') (ops := ops) hK (listed := listed.setIfInBounds i true) (A := Ec a1 (pend.map fun p => (p.d, p.u))) (fuel := fuel) (R := fun w => wpAny c.P .any ops Q fuel (listed.setIfInBounds i true) (Ec a1 (pend.map fun p => (p.d, p.u))) w) pend.length (r := r1 ++ r2) (pend := pend) (E := E1) (S := S1) (a := a1) rfl ?_ fun r' pend' E2 S2 a2 hm tp he => Ju hh0 vm hΓ hK hn fuel _ r' pend' hm tp
          exact
            { size := by simp [tu]
              count := by have := h.count; simp at this ⊢; omega
              left := fun x => by
                have hlx := h.left x
                by_cases hx : i = x
                · subst hx
                  refine ⟨fun hm => absurd hm hir12, ?_⟩
                  rintro ⟨_, hm | hm⟩
                  · simp [tu, sd] at hm
                  · obtain ⟨p, hp, e⟩ := iw.1 hm
                    exact absurd e (hpm p hp)
                · rw [getD_set_ne true hx, ← hlx]
                  simp [eb, fi, Ne.symm hx]
              H5 := Gg (by simp) h.H5
              down := hdown
              JV := wx
              defers := yy
              act := rfl
              rest := g2
              part := h.part
              after := h.after.trans xq
              TX := fun p hp => by
                have vp := h.TX p hp
                obtain ⟨op, k1, k2, k3, v2, sz2, cs2, k4, ⟨cc2, t2, m1, m2⟩, m3⟩ := vp.op
                refine ⟨⟨op, k1, k2, k3, v2, sz2, cs2, fun H2 => ?_, ⟨cc2, t2, ?_, m2⟩, m3⟩, xq.Cz.Bl _ vp.Bl, vp.new, vp.VS, JN vp.mem (hpm p hp), hdone p hp, fun j hj hjr => vp.lO j hj (K6 hjr)⟩
                · rw [← k4 H2]
                  refine NC (ops := ops) fun t ht => ?_
                  rw [← hg]
                  refine rJ fun e => ?_
                  obtain ⟨op', e1, e2⟩ := hl3 p hp t e
                  rw [k1] at e1
                  simp only [an] at e1
                  subst e1
                  exact e2 ht
                · rw [xq.Cz.I8 p.g vp.Bl (h.JV.heap.Bl _ vp.Bl).1]; exact m1
              nodup := h.nodup
              gs := h.gs }
        have wi := MO h.JV hΓ h.defers (s := true) (k := L4 ops (G7 ops) i) (o := o) (ops := ops) g1 (next := fun a1 w1 => wpAny c.P .any ops Q fuel (listed.setIfInBounds i true) (Ec a1 (pend.map fun p => (p.d, p.u))) w1) (Q := fun _ _ _ => False) key
        unfold wpOp
        simp only [ho]
        rw [Nt _ a vg]
        split
        · rename_i hw
          rw [ru hw] at wi
          obtain ⟨wi, r0, hr0⟩ := wi
          exact .inl (kB (Nr hr0) vg ye (fun a' w' hx => hx) wi)
        · rename_i hw
          rw [rr hw] at wi
          rw [← Kd _ a ye]
          exact wi
def Ab.drew (E : Ab) : Ab := { E with w := { E.w with drawn := E.w.drawn + 1 } }
theorem GJ.drew (E : Ab) : GJ E E.drew where
 lk := rfl
 os := rfl
 tape := rfl
 output := rfl
 size := dz _
 len := dz _
 mm := rfl
 cell := fun _ _ _ h _ => h
 block := fun _ _ _ => rfl
 mono := fun _ _ _ _ h => .inl h
 Ce := fun _ _ h => ⟨rfl, h⟩
 cells := fun _ _ h => h
 Bt := fun _ _ n _ _ h => ⟨n, h, dz _, fun _ => ⟨rfl, fun c _ hc => ⟨c, hc, rfl⟩⟩⟩
 fresh := fun _ h => .inl ⟨rfl, h⟩
 Bl := fun _ h => h
 Ix := fun _ h => .inl h
 I8 := fun _ _ _ => rfl
theorem B9.drew (hs : D1 c E S a) : B9 c E E.drew S.H where
  H := hs.H
  n := hs.n
  m := rfl
  Cz := GJ.drew E
  heap :=
    { cells := fun b sz cs hb => by
        obtain ⟨x, t, h1, h2, h3⟩ := hs.heap.cells b sz cs hb
        exact ⟨x, t, h1, h2, fun i v hv => let ⟨u, h4, h5⟩ := h3 i v hv; ⟨u, h4, (GJ.drew E).rep hs.heap _ _ h5⟩⟩
      Bt := hs.heap.Bt
      lvl := hs.heap.lvl
      dm := hs.heap.dm
      inj := hs.heap.inj
      maps := hs.heap.maps
      Bl := hs.heap.Bl }
  I7 := fun _ base nb d _ va hd hf b sz cs sd hB x t hx i v u hv hu => ((GJ.drew E).shrink hs.heap va hd).rep _ _ (hf b sz cs sd hB x t hx i v u hv hu)
  Ib := fun _ base d _ hd hf b sz cs sd hB x t hx i v u hv hu => ((GJ.drew E).shrink hs.heap (dz _) hd).rep _ _ (hf b sz cs sd hB x t hx i v u hv hu)
  kept := fun _ _ _ => by rw [hs.H]
def X.ZT : X → Exit
 | .normal => .normal
 | .exit id => .exit id
 | .ret => .ret
open Classical in
theorem Ra {P : ep} {Q : Exit → Act → je → Prop} {a : Act} {w : je} {b : Code} (I : Nat → Act → je → Prop) {n : Nat} (h0 : I n a w) (hz : ∀ a w, ¬ I 0 a w)
  (round : ∀ k a w, I (k + 1) a w → b.wp P (Exit.then (I k) Q) a w) : (Code.loop b).wp P Q a w := by
 let μ : Act → je → Nat := fun a w => if h : ∃ k, I k a w then iy (dG (p := fun k => I k a w) (iy h) (fz h)) else 0
 have hμ : ∀ a w (h : ∃ k, I k a w), I (μ a w) a w ∧ ∀ j, I j a w → μ a w ≤ j := by
  intro a w h
  have := fz (dG (p := fun k => I k a w) (iy h) (fz h))
  show I (if h : ∃ k, I k a w then _ else 0) a w ∧ _
  simp only [μ, dif_pos h]
  exact this
 refine wp_loop (fun a w => ∃ k, I k a w) μ ⟨n, h0⟩ fun a w h => ?_
 obtain ⟨h1, h2⟩ := hμ a w h
 obtain ⟨k, hk⟩ : ∃ k, μ a w = k + 1 := by
  cases hm : μ a w with
  | zero => rw [hm] at h1; exact absurd h1 (hz a w)
  | succ k => exact ⟨k, rfl⟩
 rw [hk] at h1 ⊢
 refine wp_mono (round k a w h1) fun e a' w' hq => ?_
 cases e with
 | normal => exact ⟨⟨k, hq⟩, Nat.lt_succ_of_le ((hμ a' w' ⟨k, hq⟩).2 k hq)⟩
 | _ => exact hq
theorem Ck (hm : c.P.follows .mixedOrders = true) (hΓ : Hh c.P c.hints c.Γ) (hK : GS c.Γ) (n : Nat) : ∀ (b : Code) {E : Ab} {S : St} {a : Act} (hs : D1 c E S a) (hd : a.defers = []) {x : X} {S' : St} (h : Aq c n b S = some (x, S')) {Q : Exit → Act → je → Prop}
    (hn : ∀ E' a', D1 c E' S' a' → B9 c E E' S'.H → a'.defers = [] → Q x.ZT a' E'.w), b.wp c.P Q a E.w
  | .skip, E, S, a, hs, hd, x, S', h, Q, hn => by
    simp only [Aq, an, dk] at h
    obtain ⟨rfl, rfl⟩ := h
    exact wp_skip (hn E a hs (B9.refl hs) hd)
  | .region id ops draw, E, S, a, hs, hd, x, S', h, Q, hn => by
    cases draw with
    | false =>
      simp only [Aq, ei, if_false, dn, dk] at h
      obtain ⟨S1, h1, rfl, rfl⟩ := h
      exact wp_region (S8 (fun _ => ⟨c.still, c.calm, rfl⟩) _ hs hΓ hd h1 hn)
    | true =>
      simp only [Aq, if_true, dn, dk] at h
      obtain ⟨S1, h1, rfl, rfl⟩ := h
      split at h1
      case isFalse => cases h1
      rename_i vm
      rw [dj] at h1
      obtain ⟨S2, h1, yz⟩ := h1
      split at yz
      case isFalse => cases yz
      rename_i hpart'
      cases yz
      have yz := hpart'
      obtain ⟨s1, s2, s3, s4⟩ := Jt vm
      have ha0 := B9.drew hs
      have hs0 : D1 c E.drew S a := D1.next (T := S.T) (ts := a.tmps) (ds := a.defers) hs ha0 (fun i => (GJ.drew E).rep hs.heap _ _ (hs.tmps i)) rfl
      refine wp_region_any hm ?_
      have hlen : (RV c.lits ops).length = ops.size := by
        have yi := DP s4
        refine Nat.le_antisymm ?_ ?_
        · have := List.Nodup.length_le_of_subset yi (l₂ := gj ops.size) fun i hi => ik.2 (s2 i hi)
          simpa using this
        · have := List.Nodup.length_le_of_subset (List.nodup_range (n := ops.size)) (l₂ := RV c.lits ops) fun i hi => s1 i (ik.1 hi)
          simpa using this
      refine Ju (E0 := E.drew) hs0.heap vm hΓ hK (S' := S1) (fun E' a' yh ha' zq => hn E' a' yh (ha0.trans ha') zq) ops.size (nc ops.size false) (RV c.lits ops) [] (E := E.drew) (S := S) (a := a) ?_ (fun p hp => by cases hp)
      have hf : ∀ i, i < ops.size → (nc ops.size false).getD i true = false := fun i hi => by simp [iq, hi]
      exact
        { size := by simp
          count := by simpa using hlen.symm
          left := fun i => ⟨fun hi => ⟨s2 i hi, .inl (hf i (s2 i hi))⟩, fun hi => s1 i hi.1⟩
          H5 := s4
          down := fun e he j hj => by
            exfalso
            simp only [iq, oo] at he
            split at he <;> simp at he
          JV := hs0
          defers := hd
          act := rfl
          rest := h1
          part := yz
          after := B9.refl hs0
          TX := fun p hp => by cases hp
          nodup := mw
          gs := mw }
  | .seq p q, E, S, a, hs, hd, x, S', h, Q, hn => by
    simp only [Aq] at h
    split at h
    · rename_i S1 h1
      refine wp_seq (Ck hm hΓ hK n p hs hd h1 fun E1 a1 wx xq yy => ?_)
      exact Ck hm hΓ hK n q wx yy h fun E' a' yh ha' zq => hn E' a' yh (xq.trans ha') zq
    · rename_i sq
      refine wp_seq (Ck hm hΓ hK n p hs hd h fun E1 a1 wx xq yy => ?_)
      have := hn E1 a1 wx xq yy
      cases x with
      | normal => exact absurd h (sq S')
      | exit i => exact this
      | ret => exact this
  | .cond y p q, E, S, a, hs, hd, x, S', h, Q, hn => by
    simp only [Aq] at h
    split at h
    · rename_i hy
      have hr := BB hs y _ hy
      simp only [AA] at hr
      exact wp_cond_true hr (Ck hm hΓ hK n p hs hd h hn)
    · rename_i hy
      have hr := BB hs y _ hy
      simp only [AA] at hr
      exact wp_cond_false hr (Ck hm hΓ hK n q hs hd h hn)
    · cases h
  | .block id p, E, S, a, hs, hd, x, S', h, Q, hn => by
    simp only [Aq] at h
    split at h
    · rename_i i S1 h1
      refine wp_block (Ck hm hΓ hK n p hs hd h1 fun E1 a1 wx xq yy => ?_)
      show if i = id then Q .normal a1 E1.w else Q (.exit i) a1 E1.w
      split at h
      · rename_i hi
        simp only [an, dk] at h
        obtain ⟨rfl, rfl⟩ := h
        rw [ru hi]
        exact hn E1 a1 wx xq yy
      · rename_i hi
        simp only [an, dk] at h
        obtain ⟨rfl, rfl⟩ := h
        rw [rr hi]
        exact hn E1 a1 wx xq yy
    · rename_i sq
      refine wp_block (Ck hm hΓ hK n p hs hd h fun E1 a1 wx xq yy => ?_)
      have := hn E1 a1 wx xq yy
      cases x with
      | normal => exact this
      | exit i => exact absurd h (sq i S')
      | ret => exact this
  | .loop p, E, S, a, hs, hd, x, S', h, Q, hn => by
    simp only [Aq] at h
    refine Ra (I := fun k a' w' => ∃ E' S1, D1 c E' S1 a' ∧ E'.w = w' ∧ B9 c E E' S1.H ∧ a'.defers = [] ∧ FR (Aq c n p) k S1 = some (x, S')) (n := n)
      ⟨E, S, hs, rfl, B9.refl hs, hd, h⟩ (fun a w => by rintro ⟨E', S1, _, _, _, _, h⟩; simp [FR] at h) ?_
    rintro k a1 w1 ⟨E1, S1, wx, rfl, xq, yy, hit⟩
    simp only [FR] at hit
    split at hit
    · rename_i S2 h2
      refine Ck hm hΓ hK n p wx yy h2 fun E2 a2 hs2 ha2 hd2 => ?_
      exact ⟨E2, S2, hs2, rfl, xq.trans ha2, hd2, hit⟩
    · rename_i sq
      refine Ck hm hΓ hK n p wx yy hit fun E2 a2 hs2 ha2 hd2 => ?_
      have := hn E2 a2 hs2 (xq.trans ha2) hd2
      cases x with
      | normal => exact absurd hit (sq S')
      | exit i => exact this
      | ret => exact this
  | .exit id, E, S, a, hs, hd, x, S', h, Q, hn => by
    simp only [Aq, an, dk] at h
    obtain ⟨rfl, rfl⟩ := h
    exact wp_exit (hn E a hs (B9.refl hs) hd)
  | .ret, E, S, a, hs, hd, x, S', h, Q, hn => by
    simp only [Aq, an, dk] at h
    obtain ⟨rfl, rfl⟩ := h
    exact wp_ret (hn E a hs (B9.refl hs) hd)
  | .label _, _, _, _, _, _, _, _, h, _, _ => by simp [Aq] at h
  | .goto _, _, _, _, _, _, _, _, h, _, _ => by simp [Aq] at h
  | .scope _, _, _, _, _, _, _, _, h, _, _ => by simp [Aq] at h
  | .refuse _, _, _, _, _, _, _, _, h, _, _ => by simp [Aq] at h
  | .rangeFunc .., _, _, _, _, _, _, _, h, _, _ => by simp [Aq] at h
end
def Ab.out (E : Ab) (lo : Nat) (lk : Lk) (d : Nat) (H : A5) (news : List Bv) (Ω : List Nat) : Ab :=
  { w := E.w, φ := fun b => if b < lo then E.φ b else E.φ (Ω.getD (b - lo) 0), H := H.take lo ++ news, lk := lk, n := lo + news.length, m := d, Bl := E.Bl }
structure RE (E : Ab) (lo d : Nat) (lk : Lk) : Prop where
 heap : Ch E
 le : lo ≤ E.H.length
 tF : ∀ lv, lv ≤ d → E.lk.take lv = lk.take lv
 len : lk.length = d
 Dv : ∀ l ∈ lk, ∀ x ∈ l, x < lo
def oP (E : Ab) (d b : Nat) : Prop := (∃ sz cs, E.H[b]? = some (.cells sz cs)) ∨ ∃ l n sz, E.H[b]? = some (.Bt l n sz) ∧ d < l
theorem oP.live {E : Ab} {d b : Nat} (h : oP E d b) : live E.H[b]? := by
 rcases h with ⟨_, _, h⟩ | ⟨_, _, _, h, _⟩ <;> (rw [h]; trivial)
structure GN (E : Ab) (lo d : Nat) (H : A5) (news : List Bv) (Ω F : List Nat) : Prop where
 len : H.length = E.H.length
 RZ : Ω.length = news.length
 VS : ∀ b : Nat, b < lo → H[b]? = E.H[b]?
 same : ∀ b : Nat, H[b]? = E.H[b]? ∨ H[b]? = some Bv.dead
 omega : ∀ b : Nat, b ∈ Ω → lo ≤ b ∧ H[b]? = some Bv.dead ∧ oP E d b
 UX : ∀ b : Nat, b ∈ F → lo ≤ b ∧ H[b]? = some Bv.dead ∧ live E.H[b]?
 nodup : Ω.Nodup
 apart : ∀ b : Nat, b ∈ Ω → b ∉ F
 HS : ∀ (j : Nat) x, news[j]? = some x → ∃ sz cs, x = .cells sz cs
structure VU (news : List Bv) (Ω F : List Nat) (news' : List Bv) (Ω' F' : List Nat) : Prop where
 news : news <+: news'
 om : Ω <+: Ω'
 fr : ∀ b, b ∈ F → b ∈ F'
theorem VU.refl (news : List Bv) (Ω F : List Nat) : VU news Ω F news Ω F := ⟨qh _, qh _, fun _ h => h⟩
theorem VU.trans {n1 n2 n3 : List Bv} {a1 a2 a3 f1 f2 f3 : List Nat} (h : VU n1 a1 f1 n2 a2 f2) (k : VU n2 a2 f2 n3 a3 f3) : VU n1 a1 f1 n3 a3 f3 :=
 ⟨h.news.trans k.news, h.om.trans k.om, fun b hb => k.fr b (h.fr b hb)⟩
theorem XU {α : Type} {l l' : List α} (h : l <+: l') {i : Nat} {x : α} (hx : l[i]? = some x) : l'[i]? = some x := by
 obtain ⟨t, rfl⟩ := h
 rw [eh (du.1 hx).1]
 exact hx
def oK (E : Ab) (lo d : Nat) (lk : Lk) (news : List Bv) (Ω F : List Nat) : Prop :=
 ∀ (j b sz : Nat) (cs : List V), Ω[j]? = some b → news[j]? = some (.cells sz cs) → ∃ c t, E.w.heap[E.φ b]? = some (.cells c t (0, 0)) ∧ cs.length ≤ c.size ∧
  ∀ Hf nf Ωf Ff, GN E lo d Hf nf Ωf Ff → VU news Ω F nf Ωf Ff → ∀ (i : Nat) v, cs[i]? = some v → ∃ u, c[i]? = some u ∧ AA (E.out lo lk d Hf nf Ωf) v u
def oO (H : A5) (Ω F Ω' F' : List Nat) : Prop := ∀ b : Nat, b ∈ Ω' ∨ b ∈ F' → b ∈ Ω ∨ b ∈ F ∨ live H[b]?
section
variable {E : Ab} {lo d : Nat} {lk : Lk}
theorem DX (hL : RE E lo d lk) {H : A5} {news : List Bv} {Ω F : List Nat} (hs : GN E lo d H news Ω F) (b : Nat) : (E.out lo lk d H news Ω).H[b]? = if b < lo then E.H[b]? else news[b - lo]? := by
 have hl : (H.take lo).length = lo := by rw [gh, hs.len]; have := hL.le; omega
 show (H.take lo ++ news)[b]? = _
 by_cases h : b < lo
 ·rw [ru h, eh (by omega), jg h, hs.VS b h]
 ·rw [rr h, fe (by omega), hl]
theorem j9 {H : A5} {news : List Bv} {Ω F : List Nat} (hs : GN E lo d H news Ω F) {j : Nat} {x : Bv} (hx : news[j]? = some x) : ∃ b, Ω[j]? = some b ∧ b ∈ Ω := by
 have hj : j < Ω.length := by rw [hs.RZ]; exact (du.1 hx).1
 exact ⟨Ω[j], dr hj, List.getElem_mem hj⟩
theorem Eb (hL : RE E lo d lk) {H : A5} {news : List Bv} {Ω F : List Nat} (hs : GN E lo d H news Ω F) {b : Nat} (hl : live (E.out lo lk d H news Ω).H[b]?) :
  (b < lo ∧ (E.out lo lk d H news Ω).φ b = E.φ b ∧ (E.out lo lk d H news Ω).H[b]? = E.H[b]? ∧ live E.H[b]?) ∨
  (∃ b0 sz cs, ¬ b < lo ∧ Ω[b - lo]? = some b0 ∧ b0 ∈ Ω ∧ (E.out lo lk d H news Ω).φ b = E.φ b0 ∧ news[b - lo]? = some (.cells sz cs) ∧ lo ≤ b0 ∧ oP E d b0) := by
 rw [DX hL hs] at hl
 by_cases h : b < lo
 ·rw [ru h] at hl
  exact .inl ⟨h, by show (if b < lo then _ else _) = _; rw [ru h], by rw [DX hL hs, ru h], hl⟩
 ·rw [rr h] at hl
  right
  cases hx : news[b - lo]? with
  | none => rw [hx] at hl; exact hl.elim
  | some x =>
   obtain ⟨b0, h1, h2⟩ := j9 hs hx
   obtain ⟨sz, cs, rfl⟩ := hs.HS _ _ hx
   obtain ⟨h3, _, h4⟩ := hs.omega b0 h2
   refine ⟨b0, sz, cs, h, h1, h2, ?_, rfl, h3, h4⟩
   show (if b < lo then _ else E.φ (Ω.getD (b - lo) 0)) = _
   rw [rr h, ml, h1]
   rfl
theorem cM (hL : RE E lo d lk) {b : Nat} (hb : lo ≤ b) (lv : Nat) : AT (lk.take lv) b = true := by
 unfold AT
 rw [gb]
 intro l hl
 simp only [jj, jh, rv]
 intro hm
 have := hL.Dv l (List.mem_of_mem_take hl) b hm
 omega
theorem XR (hL : RE E lo d lk) {H : A5} {news : List Bv} {Ω F : List Nat} (hs : GN E lo d H news Ω F) {lv : Nat} (sj : lv ≤ d) {g i : Nat} (hu : (E.out lo lk d H news Ω).U (some lv) g i) : E.U (some lv) g i := by
 have hu' := hu
 rcases hu with hu | ⟨b, h1, h2, h3⟩
 ·exact .inl hu
 have hl : live (E.out lo lk d H news Ω).H[b]? := by
  split at h3
  ·rename_i he; rw [he]; trivial
  ·rename_i he; rw [he]; trivial
  ·rename_i he; rw [he]; trivial
  ·exact h3.elim
 rcases Eb hL hs hl with ⟨p1, p2, p3, p4⟩ | ⟨b0, sz, cs, p1, p2, p3, p4, p5, p6, p7⟩
 ·rw [p3] at h3
  refine .inr ⟨b, by rw [← p2]; exact h1, ?_, h3⟩
  rw [hL.tF lv sj]
  exact h2
 ·refine .inr ⟨b0, by rw [← p4]; exact h1, by rw [hL.tF lv sj]; exact cM hL p6 lv, ?_⟩
  rcases p7 with ⟨_, _, p7⟩ | ⟨l, n, z, p7, p8⟩
  ·rw [p7]; trivial
  ·rw [p7]; exact .inl (Nat.lt_of_le_of_lt sj p8)
theorem WW (hL : RE E lo d lk) {H : A5} {news : List Bv} {Ω F : List Nat} (hs : GN E lo d H news Ω F) {b : Nat} (hb : b ∈ F) (lv : Option Nat) (i : Nat) : ¬ (E.out lo lk d H news Ω).U lv (E.φ b) i := by
 intro hu
 obtain ⟨h1, _, h2⟩ := hs.UX b hb
 rcases Sb hu with hu | ⟨b', k1, k2⟩
 ·exact (hL.heap.Bl _ hu).2 b h2 rfl
 rcases Eb hL hs k2 with ⟨p1, p2, p3, p4⟩ | ⟨b0, sz, cs, p1, p2, p3, p4, p5, p6, p7⟩
 ·rw [p2] at k1
  have := hL.heap.inj _ _ p4 h2 k1
  omega
 ·rw [p4] at k1
  have := hL.heap.inj _ _ p7.live h2 k1
  subst this
  exact hs.apart _ p3 hb
mutual
theorem LZ {E E2 : Ab} {d : Nat} (hw : E2.w = E.w) (hm : d ≤ E2.m) (hU : ∀ lv g i, lv ≤ d → E2.U (some lv) g i → E.U (some lv) g i) : ∀ (v : V) (u : eu), clean (d + 1) v = true → AA E v u → AA E2 v u
 | .int .., _, _, r => by simpa only [AA] using r
 | .bool _, _, _, r => by simpa only [AA] using r
 | .str _, _, _, r => by simpa only [AA] using r
 | .HV, _, _, r => by simpa only [AA] using r
 | .EI, _, _, r => by simpa only [AA] using r
 | .ptr .., _, h, _ => by simp [clean] at h
 | .lp .., _, h, _ => by simp [clean] at h
 | .tl .., _, h, _ => by simp [clean] at h
 | .snap .., _, h, _ => by simp [clean] at h
 | .pre .., _, h, _ => by simp [clean] at h
 | .sl .., _, h, _ => by simp [clean] at h
 | .fn .., _, h, _ => by simp [clean] at h
 | .lit lv len cs, _, h, r => by
  simp only [AA] at r ⊢
  simp only [clean, ec, gg, beq_iff_eq, ry] at h
  obtain ⟨hl, A, cap, h1, h2, h3⟩ := r
  have sj : lv ≤ d := by omega
  refine ⟨fg sj hm, A, cap, h1, h2, ?_⟩
  rcases h3 with h3 | ⟨g, o, h3, h4⟩
  ·exact .inl h3
  ·exact .inr ⟨g, o, h3, Rf hw hm hU lv sj g o cs h.2 h4⟩
 | .agg cs, _, h, r => by
  simp only [AA] at r ⊢
  simp only [clean] at h
  obtain ⟨vs, h1, h2⟩ := r
  exact ⟨vs, h1, L5 hw hm hU cs _ h h2⟩
 | .Ei cs, _, h, r => by
  simp only [AA] at r ⊢
  simp only [clean] at h
  obtain ⟨vs, h1, h2⟩ := r
  exact ⟨vs, h1, L5 hw hm hU cs _ h h2⟩
theorem Rf {E E2 : Ab} {d : Nat} (hw : E2.w = E.w) (hm : d ≤ E2.m) (hU : ∀ lv g i, lv ≤ d → E2.U (some lv) g i → E.U (some lv) g i) (lv : Nat) (sj : lv ≤ d) (g : Nat) : ∀ (o : Nat) (cs : List V), clean.cleanL (d + 1) cs = true → CR E (some lv) g o cs → CR E2 (some lv) g o cs
 | _, [], _, _ => by simp only [CR]
 | o, c :: cs, h, r => by
  simp only [CR] at r ⊢
  simp only [clean.cleanL, ec] at h
  obtain ⟨⟨u, h1, h2⟩, h3, h4⟩ := r
  exact ⟨⟨u, by rw [hw]; exact h1, LZ hw hm hU c u h.1 h2⟩, fun hu => h3 (hU lv g o sj hu), Rf hw hm hU lv sj g (o + 1) cs h.2 h4⟩
theorem L5 {E E2 : Ab} {d : Nat} (hw : E2.w = E.w) (hm : d ≤ E2.m) (hU : ∀ lv g i, lv ≤ d → E2.U (some lv) g i → E.U (some lv) g i) : ∀ (cs : List V) (vs : List eu), clean.cleanL (d + 1) cs = true → AM E cs vs → AM E2 cs vs
 | [], _, _, r => by simpa only [AM] using r
 | c :: cs, _, h, r => by
  simp only [AM] at r ⊢
  simp only [clean.cleanL, ec] at h
  obtain ⟨u, us, h1, h2, h3⟩ := r
  exact ⟨u, us, h1, LZ hw hm hU c u h.1 h2, L5 hw hm hU cs us h.2 h3⟩
end
def JA (E : Ab) (lo d : Nat) (lk : Lk) (H : A5) (news : List Bv) (H2 : A5) (news2 : List Bv) (R : Ab → Prop) : Prop :=
 ∀ Ω F, GN E lo d H news Ω F → oK E lo d lk news Ω F → ∃ Ω2 F2, GN E lo d H2 news2 Ω2 F2 ∧ oK E lo d lk news2 Ω2 F2 ∧ VU news Ω F news2 Ω2 F2 ∧ oO H Ω F Ω2 F2 ∧ (∀ b : Nat, H[b]? = some Bv.dead → H2[b]? = some Bv.dead) ∧
  ∀ Hf nf Ωf Ff, GN E lo d Hf nf Ωf Ff → VU news2 Ω2 F2 nf Ωf Ff → R (E.out lo lk d Hf nf Ωf)
theorem Qz {f : A5 × List Bv → V → Option (V × A5 × List Bv)} (hf : ∀ H news v v' H2 news2, f (H, news) v = some (v', (H2, news2)) → (∃ u, AA E v u) → JA E lo d lk H news H2 news2 fun Z => ∀ u, AA E v u → AA Z v' u) :
  ∀ (vs : List V) (H : A5) (news : List Bv) (so : List V) (H2 : A5) (news2 : List Bv), BO.resL f (H, news) vs = some (so, (H2, news2)) → (∃ us, AM E vs us) → JA E lo d lk H news H2 news2 (fun Z => ∀ us, AM E vs us → AM Z so us) ∧ so.length = vs.length
 | [], H, news, so, H2, news2, h, hex => by
  simp only [BO.resL, an, dk] at h
  obtain ⟨rfl, rfl, rfl⟩ := h
  exact ⟨fun Ω F hs hF => ⟨Ω, F, hs, hF, VU.refl _ _ _, fun b hb => hb.elim .inl fun h => .inr (.inl h), fun _ h => h, fun _ _ _ _ _ _ us hu => by simpa only [AM] using hu⟩, rfl⟩
 | v :: vs, H, news, so, H2, news2, h, hex => by
  simp only [BO.resL, dj, dn, Prod.exists, dk] at h
  obtain ⟨v1, H1, n1, h1, vs2, H3, n3, h2, rfl, rfl, rfl⟩ := h
  obtain ⟨us0, hex⟩ := hex
  simp only [AM] at hex
  obtain ⟨u0, us1, _, hex1, hex2⟩ := hex
  have k1 := hf H news v v1 H1 n1 h1 ⟨u0, hex1⟩
  obtain ⟨k2, l2⟩ := Qz hf vs H1 n1 vs2 H3 n3 h2 ⟨us1, hex2⟩
  refine ⟨fun Ω F hs hF => ?_, by simp [l2]⟩
  obtain ⟨Ω1, F1, a1, a2, a3, a4, a5, a6⟩ := k1 Ω F hs hF
  obtain ⟨Ω2, F2, b1, b2, b3, b4, b5, b6⟩ := k2 Ω1 F1 a1 a2
  refine ⟨Ω2, F2, b1, b2, a3.trans b3, fun b hb => ?_, fun b hb => b5 b (a5 b hb), fun Hf nf Ωf Ff vc uj us hu => ?_⟩
  ·rcases b4 b hb with h | h | h
   ·exact a4 b (.inl h)
   ·exact a4 b (.inr h)
   ·right; right
    rcases a1.same b with hx | hx
    ·rcases hs.same b with hy | hy
     ·rw [hy, ← hx]; exact h
     ·rw [a5 b hy] at h; exact h.elim
    ·rw [hx] at h; exact h.elim
  ·simp only [AM] at hu ⊢
   obtain ⟨u, tn, rfl, hu1, hu2⟩ := hu
   exact ⟨u, tn, rfl, a6 Hf nf Ωf Ff vc (b3.trans uj) u hu1, b6 Hf nf Ωf Ff vc uj tn hu2⟩
theorem K1 {H : A5} {news : List Bv} {R : Ab → Prop} (h : ∀ Hf nf Ωf Ff, GN E lo d Hf nf Ωf Ff → R (E.out lo lk d Hf nf Ωf)) : JA E lo d lk H news H news R :=
 fun Ω F hs hF => ⟨Ω, F, hs, hF, VU.refl _ _ _, fun b hb => hb.elim .inl fun h => .inr (.inl h), fun _ h => h, fun Hf nf Ωf Ff vc _ => h Hf nf Ωf Ff vc⟩
theorem GN.kill {H : A5} {news : List Bv} {Ω F : List Nat} (hs : GN E lo d H news Ω F) {b : Nat} (hb : lo ≤ b) (hl : b < H.length) : GN E lo d (H.set b .dead) news Ω F where
 len := by simp [hs.len]
 RZ := hs.RZ
 VS := fun x hx => by rw [AX, rr (by omega)]; exact hs.VS x hx
 same := fun x => by
  rw [AX]
  split
  ·exact .inr rfl
  ·exact hs.same x
 omega := fun x hx => by
  obtain ⟨h1, h2, h3⟩ := hs.omega x hx
  refine ⟨h1, ?_, h3⟩
  rw [AX]
  split
  ·rfl
  ·exact h2
 UX := fun x hx => by
  obtain ⟨h1, h2, h3⟩ := hs.UX x hx
  refine ⟨h1, ?_, h3⟩
  rw [AX]
  split
  ·rfl
  ·exact h2
 nodup := hs.nodup
 apart := hs.apart
 HS := hs.HS
theorem QF {H : A5} {b : Nat} (hl : b < H.length) : (H.set b .dead)[b]? = some Bv.dead := by rw [AX, ru ⟨rfl, hl⟩]
theorem LF (hL : RE E lo d lk) {th : Bool} {H : A5} {news : List Bv} {b off n sz : Nat} {cs sk : List V} {H2 : A5} {news2 : List Bv} (hb : lo ≤ b) (hlive : live H[b]?) (xn : oP E d b)
  (hr : JA E lo d lk (H.set b .dead) news H2 news2 (fun Z => ∀ us, AM E cs us → AM Z sk us)) (hlen : sk.length = cs.length)
  (hex : ∃ c t, E.w.heap[E.φ b]? = some (.cells c t (0, 0)) ∧ off + cs.length ≤ c.size ∧ ∀ (i : Nat) v, cs[i]? = some v → ∃ u, c[off + i]? = some u ∧ AA E v u) {v' : V} {X2 : A5 × List Bv}
  (h : (if th then if off = 0 ∧ cs.length = n * sz then some (V.sl (lo + news2.length) 0 n, H2, news2 ++ [Bv.cells sz sk]) else none else some (V.lit 0 n sk, H2, news2)) = some (v', X2)) :
  JA E lo d lk H news X2.1 X2.2 fun Z => ∀ cap, n ≤ cap → AA Z v' (.slice (some ⟨E.φ b, off, none⟩) n cap) := by
 intro Ω F hs hF
 have hbl : b < H.length := by
  rcases fp b H.length with h | h
  ·exact h
  ·rw [en h] at hlive; exact hlive.elim
 have yi : H[b]? ≠ some .dead := fun e => by rw [e] at hlive; exact hlive.elim
 obtain ⟨Ω2, F2, a1, a2, a3, a4, a5, a6⟩ := hr Ω F (hs.kill hb hbl) hF
 have hdead : H2[b]? = some Bv.dead := a5 b (QF hbl)
 have hnO : b ∉ Ω2 := by
  intro hm
  rcases a4 b (.inl hm) with h | h | h
  ·exact yi (hs.omega b h).2.1
  ·exact yi (hs.UX b h).2.1
  ·rw [QF hbl] at h; exact h.elim
 have hnF : b ∉ F2 := by
  intro hm
  rcases a4 b (.inr hm) with h | h | h
  ·exact yi (hs.omega b h).2.1
  ·exact yi (hs.UX b h).2.1
  ·rw [QF hbl] at h; exact h.elim
 have xf : ∀ x : Nat, x ∈ Ω2 ∨ x ∈ F2 → x ∈ Ω ∨ x ∈ F ∨ live H[x]? := by
  intro x hx
  rcases a4 x hx with h | h | h
  ·exact .inl h
  ·exact .inr (.inl h)
  ·right; right
   rw [AX] at h
   split at h
   ·exact h.elim
   ·exact h
 have hdd : ∀ x : Nat, H[x]? = some Bv.dead → H2[x]? = some Bv.dead := by
  intro x hx
  refine a5 x ?_
  rw [AX]
  split
  ·rfl
  ·exact hx
 obtain ⟨c, t, q1, q2, q3⟩ := hex
 have wy : AM E cs ((c.toList.drop off).take cs.length) := by
  refine EV _ _ (by simp; omega) fun i v u hi hj => ?_
  have wz : i < cs.length := (du.1 hi).1
  rw [jg wz, jd, jf] at hj
  obtain ⟨u', h1, h2⟩ := q3 i v hi
  rw [hj] at h1
  simp only [an] at h1
  subst h1
  exact h2
 have vh : ∀ (i : Nat) u, ((c.toList.drop off).take cs.length)[i]? = some u → c[off + i]? = some u := by
  intro i u hi
  rw [gm] at hi
  split at hi
  ·rw [jd, jf] at hi; exact hi
  ·cases hi
 cases th with
 | false =>
  simp only [ei, if_false, an, dk] at h
  obtain ⟨rfl, rfl⟩ := h
  refine ⟨Ω2, b :: F2, ?_, ?_, ⟨a3.news, a3.om, fun x hx => fi.2 (.inr (a3.fr x hx))⟩, ?_, hdd, ?_⟩
  ·exact { a1 with
    UX := fun x hx => by
     rcases fi.1 hx with rfl | hx
     ·exact ⟨hb, hdead, xn.live⟩
     ·exact a1.UX x hx
    apart := fun x hx hm => by
     rcases fi.1 hm with rfl | hm
     ·exact hnO hx
     ·exact a1.apart x hx hm }
  ·intro j b0 z zs h1 h2
   obtain ⟨c', t', p1, p2, p3⟩ := a2 j b0 z zs h1 h2
   exact ⟨c', t', p1, p2, fun Hf nf Ωf Ff vc uj => p3 Hf nf Ωf Ff vc ⟨uj.news, uj.om, fun x hx => uj.fr x (fi.2 (.inr hx))⟩⟩
  ·rintro x (hx | hx)
   ·exact xf x (.inl hx)
   ·rcases fi.1 hx with rfl | hx
    ·exact .inr (.inr hlive)
    ·exact xf x (.inr hx)
  ·intro Hf nf Ωf Ff vc uj cap hcap
   have wj : VU news2 Ω2 F2 nf Ωf Ff := ⟨uj.news, uj.om, fun x hx => uj.fr x (fi.2 (.inr hx))⟩
   simp only [AA]
   refine ⟨ga _, _, cap, rfl, hcap, .inr ⟨_, _, rfl, ?_⟩⟩
   refine Hw (a6 Hf nf Ωf Ff vc wj _ wy) (fun i u hi => ?_) fun i _ => WW hL vc (uj.fr b (fi.2 (.inl rfl))) _ _
   show E.w.cell? _ = _
   rw [cell_of_row _ _ _ _ _ _ q1]
   exact vh i u hi
 | true =>
  simp only [if_true] at h
  split at h
  case isFalse => cases h
  rename_i hc
  obtain ⟨rfl, td⟩ := hc
  simp only [an, dk] at h
  obtain ⟨rfl, rfl⟩ := h
  refine ⟨Ω2 ++ [b], F2, ?_, ?_, ⟨a3.news.trans (kg _ _), a3.om.trans (kg _ _), a3.fr⟩, ?_, hdd, ?_⟩
  ·exact { a1 with
    RZ := by simp [a1.RZ]
    omega := fun x hx => by
     rcases eb.1 hx with hx | hx
     ·exact a1.omega x hx
     ·simp only [dt] at hx; subst hx; exact ⟨hb, hdead, xn⟩
    nodup := by
     rw [fy]
     refine ⟨a1.nodup, by simp, fun x hx y hy => ?_⟩
     simp only [dt] at hy
     subst hy
     rintro rfl
     exact hnO hx
    apart := fun x hx hm => by
     rcases eb.1 hx with hx | hx
     ·exact a1.apart x hx hm
     ·simp only [dt] at hx; subst hx; exact hnF hm
    HS := fun j x hx => by
     rcases fp j news2.length with hj | hj
     ·rw [eh hj] at hx; exact a1.HS j x hx
     ·rw [fe hj] at hx
      obtain ⟨h1, h2⟩ := du.1 hx
      simp only [jm] at h1
      have hz : j - news2.length = 0 := by omega
      simp only [hz, ng] at h2
      exact ⟨_, _, h2.symm⟩ }
  ·intro j b0 z zs h1 h2
   rcases fp j news2.length with hj | hj
   ·rw [eh hj] at h2
    rw [eh (by rw [a1.RZ]; exact hj)] at h1
    obtain ⟨c', t', p1, p2, p3⟩ := a2 j b0 z zs h1 h2
    exact ⟨c', t', p1, p2, fun Hf nf Ωf Ff vc uj => p3 Hf nf Ωf Ff vc ⟨(kg _ _).trans uj.news, (kg _ _).trans uj.om, uj.fr⟩⟩
   ·rw [fe hj] at h2
    rw [fe (by rw [a1.RZ]; exact hj)] at h1
    obtain ⟨sd, h2⟩ := du.1 h2
    obtain ⟨_, h1⟩ := du.1 h1
    simp only [jm] at sd
    have hz : j - news2.length = 0 := by omega
    have hz' : j - Ω2.length = 0 := by rw [a1.RZ]; omega
    simp only [hz, ng, Bv.cells.injEq] at h2
    simp only [hz', ng] at h1
    obtain ⟨rfl, rfl⟩ := h2
    subst h1
    refine ⟨c, t, q1, by rw [hlen]; omega, fun Hf nf Ωf Ff vc uj i v hv => ?_⟩
    have wj : VU news2 Ω2 F2 nf Ωf Ff := ⟨(kg _ _).trans uj.news, (kg _ _).trans uj.om, uj.fr⟩
    obtain ⟨_, hg⟩ := Bd _ _ (a6 Hf nf Ωf Ff vc wj _ wy)
    obtain ⟨u, k1, k2⟩ := hg i v hv
    have := vh i u k1
    rw [kb] at this
    exact ⟨u, this, k2⟩
  ·rintro x (hx | hx)
   ·rcases eb.1 hx with hx | hx
    ·exact xf x (.inl hx)
    ·simp only [dt] at hx; subst hx; exact .inr (.inr hlive)
   ·exact xf x (.inr hx)
  ·intro Hf nf Ωf Ff vc uj cap hcap
   have hj : nf[news2.length]? = some (.cells sz sk) := XU uj.news (by simp)
   have hjΩ : Ωf[news2.length]? = some b := XU uj.om (by rw [← a1.RZ]; simp)
   have sd : ¬ lo + news2.length < lo := by omega
   simp only [AA]
   refine ⟨?_, ⟨cap, ?_, hcap⟩, fun l k z => ?_⟩
   ·show lo + news2.length < lo + nf.length
    have := (du.1 hj).1
    omega
   ·show _ = Value.slice (some ⟨if lo + news2.length < lo then _ else E.φ (Ωf.getD (lo + news2.length - lo) 0), _, _⟩) _ _
    rw [rr sd, nq, ml, hjΩ]
    rfl
   ·rw [DX hL vc, rr sd, nq, hj]
    simp
end
section
variable {E : Ab} {lo d : Nat} {lk : Lk}
theorem jC (hL : RE E lo d lk) {Hf : A5} {nf : List Bv} {Ωf Ff : List Nat} (vc : GN E lo d Hf nf Ωf Ff) {b m n l sz : Nat} {cs : List V} {u : eu} (hlo : b < lo) (hEb : E.H[b]? = some (.Bt l m sz)) (td : clean.cleanL (d + 1) cs = true)
  (r : AA E (.pre b m n cs) u) : AA (E.out lo lk d Hf nf Ωf) (.pre b m n cs) u := by
 have ux : (E.out lo lk d Hf nf Ωf).H[b]? = E.H[b]? := by rw [DX hL vc, ru hlo]
 have hphi : (E.out lo lk d Hf nf Ωf).φ b = E.φ b := by show (if b < lo then _ else _) = _; rw [ru hlo]
 simp only [AA] at r ⊢
 obtain ⟨_, ⟨A, cap, r1, r2, ⟨g, o, r3, r4, r5⟩, r6⟩, r7⟩ := r
 obtain ⟨hA, _⟩ := (r6 _ _ _ hEb).2 rfl
 have hg : g = E.φ b := by rw [r3] at hA; simp only [an, Addr.mk.injEq] at hA; exact hA.1
 refine ⟨by show b < lo + nf.length; omega, ⟨A, cap, r1, r2, ⟨g, o, r3, fun _ b' tp hl => ?_, ?_⟩, fun l' n' z hx => ?_⟩, fun z c => by rw [ux]; exact r7 z c⟩
 ·have h2 : (E.out lo lk d Hf nf Ωf).H.length = lo + nf.length := by
   show (Hf.take lo ++ nf).length = _
   rw [dw, gh, vc.len]
   have := hL.le
   omega
  have h1 : lo + nf.length ≤ b' := tp
  rw [en (by omega)] at hl
  exact hl.elim
 ·have key : ∀ (o : Nat) (cs : List V), clean.cleanL (d + 1) cs = true → CR E none g o cs → CR (E.out lo lk d Hf nf Ωf) none g o cs := by
   intro o cs
   induction cs generalizing o with
   | nil => intro _ _; simp only [CR]
   | cons c cs ih =>
    intro h r
    simp only [clean.cleanL, ec] at h
    simp only [CR] at r ⊢
    obtain ⟨⟨u, k1, k2⟩, k3, k4⟩ := r
    refine ⟨⟨u, k1, LZ (E := E) (E2 := E.out lo lk d Hf nf Ωf) (d := d) rfl (dz _) (fun lv g i sj hu => XR hL vc sj hu) c u h.1 k2⟩, fun hu => ?_, ih _ h.2 k4⟩
    rcases hu with hu | ⟨b', p1, p2⟩
    ·exact k3 (.inl hu)
    ·have sj : live (E.out lo lk d Hf nf Ωf).H[b']? := by
      split at p2
      ·rename_i he; rw [he]; trivial
      ·rename_i he; rw [he]; trivial
      ·rename_i he; rw [he]; trivial
      ·exact p2.elim
     rcases Eb hL vc sj with ⟨q1, q2, q3, q4⟩ | ⟨b0, z, zs, q1, q2, q3, q4, q5, q6, q7⟩
     ·exact k3 (.inr ⟨b', by rw [← q2]; exact p1, by rw [q3] at p2; exact p2⟩)
     ·rw [q4, hg] at p1
      have := hL.heap.inj _ _ q7.live (by rw [hEb]; trivial) p1
      omega
  exact key o cs td r5
 ·rw [ux] at hx
  obtain ⟨p1, p2⟩ := r6 l' n' z hx
  refine ⟨p1, fun e => ?_⟩
  obtain ⟨p3, c, t, p4⟩ := p2 e
  exact ⟨by rw [hphi]; exact p3, c, t, by rw [hphi]; exact p4⟩
theorem R1 (hL : RE E lo d lk) (th : Bool) : ∀ (k : Nat) (H : A5) (news : List Bv) (v v' : V) (H2 : A5) (news2 : List Bv), BO th lo (d + 1) k (H, news) v = some (v', (H2, news2)) → (∃ u, AA E v u) →
  JA E lo d lk H news H2 news2 fun Z => ∀ u, AA E v u → AA Z v' u
 | 0, H, news, v, v', H2, news2, h, _ => by simp [BO] at h
 | k + 1, H, news, v, v', H2, news2, h, xh => by
  have ihL := Qz (E := E) (lo := lo) (d := d) (lk := lk) fun H news v v' H2 news2 h hx => R1 hL th k H news v v' H2 news2 h hx
  have same : (v', (H2, news2)) = (v, (H, news)) → (∀ Hf nf Ωf Ff, GN E lo d Hf nf Ωf Ff → ∀ u, AA E v u → AA (E.out lo lk d Hf nf Ωf) v u) → JA E lo d lk H news H2 news2 fun Z => ∀ u, AA E v u → AA Z v' u := by
   intro e hr
   simp only [dk] at e
   obtain ⟨rfl, rfl, rfl⟩ := e
   exact K1 hr
  have mono : ∀ {H : A5} {news : List Bv} {H2 : A5} {news2 : List Bv} {R R' : Ab → Prop}, JA E lo d lk H news H2 news2 R → (∀ Hf nf Ωf Ff, GN E lo d Hf nf Ωf Ff → R (E.out lo lk d Hf nf Ωf) → R' (E.out lo lk d Hf nf Ωf)) → JA E lo d lk H news H2 news2 R' := by
   intro H news H2 news2 R R' h hr Ω F hs hF
   obtain ⟨Ω2, F2, a1, a2, a3, a4, a5, a6⟩ := h Ω F hs hF
   exact ⟨Ω2, F2, a1, a2, a3, a4, a5, fun Hf nf Ωf Ff vc hx => hr Hf nf Ωf Ff vc (a6 Hf nf Ωf Ff vc hx)⟩
  cases v with
  | int _ _ => simp only [BO, an] at h; exact same h.symm fun _ _ _ _ _ u r => by simpa only [AA] using r
  | bool _ => simp only [BO, an] at h; exact same h.symm fun _ _ _ _ _ u r => by simpa only [AA] using r
  | str _ => simp only [BO, an] at h; exact same h.symm fun _ _ _ _ _ u r => by simpa only [AA] using r
  | HV => simp only [BO, an] at h; exact same h.symm fun _ _ _ _ _ u r => by simpa only [AA] using r
  | EI => simp only [BO, an] at h; exact same h.symm fun _ _ _ _ _ u r => by simpa only [AA] using r
  | lp _ _ _ => simp [BO] at h
  | fn _ _ => simp [BO] at h
  | ptr b off =>
   simp only [BO] at h
   split at h
   case isFalse => cases h
   rename_i hb
   simp only [an] at h
   refine same h.symm fun Hf nf Ωf Ff vc u r => ?_
   simp only [AA] at r ⊢
   obtain ⟨_, r2, r3⟩ := r
   refine ⟨by show b < lo + nf.length; omega, ?_, fun l n z => ?_⟩
   ·rw [r2]; show _ = Value.pointer (some ⟨if b < lo then E.φ b else _, off, none⟩); rw [ru hb]
   ·rw [DX hL vc, ru hb]; exact r3 l n z
  | Cm b =>
   simp only [BO] at h
   split at h
   case isFalse => cases h
   rename_i hb
   simp only [an] at h
   refine same h.symm fun Hf nf Ωf Ff vc u r => ?_
   simp only [AA] at r ⊢
   obtain ⟨_, r2, r3⟩ := r
   refine ⟨by show b < lo + nf.length; omega, ?_, fun l n z => ?_⟩
   ·rw [r2]; show _ = Value.map (some (if b < lo then E.φ b else _)); rw [ru hb]
   ·rw [DX hL vc, ru hb]; exact r3 l n z
  | lit lv n cs =>
   simp only [BO] at h
   split at h
   ·rename_i hc
    simp only [an] at h
    exact same h.symm fun Hf nf Ωf Ff vc u r => LZ (E := E) (E2 := E.out lo lk d Hf nf Ωf) (d := d) rfl (dz _) (fun lv g i sj hu => XR hL vc sj hu) _ u hc r
   ·cases h
  | tl n cs =>
   simp only [BO] at h
   split at h
   ·rename_i h0
    simp only [an, dk] at h
    obtain ⟨rfl, rfl, rfl⟩ := h
    refine K1 fun Hf nf Ωf Ff vc u r => ?_
    simp only [AA] at r
    obtain ⟨A, rfl, hA⟩ := r
    cases th with
    | true =>
     simp only [if_true, AA]
     exact ⟨A, by rw [h0], .inl trivial⟩
    | false =>
     simp only [ei, if_false, AA]
     exact ⟨ga _, A, n, by rw [h0], by omega, .inl trivial⟩
   rename_i h0
   simp only [dn, Prod.exists, dk] at h
   obtain ⟨sk, H1, n1, h1, rfl, rfl, rfl⟩ := h
   have hx : ∃ us, AM E cs us := by
    obtain ⟨u, r⟩ := xh
    simp only [AA] at r
    obtain ⟨A, rfl, hA⟩ := r
    rcases hA with hA | ⟨g, o, hA, hr⟩
    ·exact absurd hA h0
    ·exact ⟨_, Da fun i v hi => let ⟨u, a1, a2, _⟩ := CI _ _ hr i v hi; ⟨u, a1, a2⟩⟩
   obtain ⟨ih, l⟩ := ihL cs H news sk H1 n1 h1 hx
   refine mono ih fun Hf nf Ωf Ff vc hR u r => ?_
   simp only [AA] at r ⊢
   obtain ⟨A, rfl, hA⟩ := r
   refine ⟨ga _, A, n, rfl, dz _, ?_⟩
   rcases hA with hA | ⟨g, o, hA, hr⟩
   ·exact .inl hA
   ·refine .inr ⟨g, o, hA, GG (E := E) (fun i v hi => let ⟨u, a1, a2, _⟩ := CI _ _ hr i v hi; ⟨u, a1, a2⟩) hR l rfl fun i hi hu => ?_⟩
    obtain ⟨u', _, _, a3⟩ := CI _ _ hr i _ (dr hi)
    exact a3 (XR hL vc (ga _) hu)
  | snap b n cs =>
   simp only [BO] at h
   split at h
   case h_2 => cases h
   rename_i l m sz hb
   split at h
   ·cases h
   rename_i hc
   simp only [not_or, ib, Decidable.not_not] at hc
   obtain ⟨hlo, rfl, hl⟩ := hc
   simp only [dj, Prod.exists] at h
   obtain ⟨sk, H1, n1, h1, h2⟩ := h
   intro Ω F hs hF
   have hEb : E.H[b]? = some (.Bt l m sz) := by
    rcases hs.same b with h | h
    ·rw [← h]; exact hb
    ·rw [hb] at h; cases h
   obtain ⟨u0, zz⟩ := xh
   simp only [AA] at zz
   obtain ⟨_, ⟨A, cap0, zz, hcap0, ⟨g, o, hA, _, hr⟩, xa⟩, _⟩ := zz
   obtain ⟨_, xa⟩ := xa _ _ _ hEb
   obtain ⟨hA', c, t, uy, _⟩ := xa rfl
   rw [hA] at hA'
   simp only [an, Addr.mk.injEq, and_true] at hA'
   obtain ⟨rfl, rfl⟩ := hA'
   obtain ⟨ih, hlen⟩ := ihL cs _ news sk H1 n1 h1 ⟨_, Da fun i v hi => let ⟨u, a1, a2, _⟩ := CI _ _ hr i v hi; ⟨u, a1, a2⟩⟩
   have ux : ∀ (i : Nat) v, cs[i]? = some v → ∃ u, c[0 + i]? = some u ∧ AA E v u := by
    intro i v hi
    obtain ⟨u, k1, k2, _⟩ := CI _ _ hr i v hi
    rw [cell_of_row _ _ _ _ _ _ uy] at k1
    exact ⟨u, k1, k2⟩
   have hcs : 0 + cs.length ≤ c.size := by
    rcases ke cs.length with h0 | h0
    ·omega
    ·obtain ⟨u, k1, _⟩ := ux (cs.length - 1) _ (dr (by omega))
     have := (ef.1 k1).1
     omega
   have h2' : (if th then if 0 = 0 ∧ cs.length = m * sz then some (V.sl (lo + n1.length) 0 m, H1, n1 ++ [Bv.cells sz sk]) else none else some (V.lit 0 m sk, H1, n1)) = some (v', (H2, news2)) := by
    rw [← h2]
    simp
   have := LF (E := E) (off := 0) (n := m) hL hlo (by rw [hb]; trivial) (.inr ⟨l, m, sz, hEb, hl⟩) ih hlen ⟨c, t, uy, hcs, ux⟩ h2'
   refine mono (R' := fun Z => ∀ u, AA E _ u → AA Z v' u) this (fun Hf nf Ωf Ff vc hR u r => ?_) Ω F hs hF
   simp only [AA] at r
   obtain ⟨_, ⟨A2, cap, rfl, hcap, _, zb⟩, _⟩ := r
   obtain ⟨_, zb⟩ := zb _ _ _ hEb
   obtain ⟨rfl, _⟩ := zb rfl
   exact hR cap hcap
  | pre b m0 n cs =>
   simp only [BO] at h
   split at h
   case h_2 => cases h
   rename_i l m sz hb
   split at h
   ·cases h
   rename_i hm
   simp only [Decidable.not_not] at hm
   subst hm
   split at h
   ·rename_i hlo
    split at h
    case isFalse => cases h
    rename_i td
    simp only [an, dk] at h
    obtain ⟨rfl, rfl, rfl⟩ := h
    intro Ω F hs hF
    have hEb : E.H[b]? = some (.Bt l m sz) := by rw [← hs.VS b hlo]; exact hb
    exact K1 (R := fun Z => ∀ u, AA E (.pre b m n cs) u → AA Z (.pre b m n cs) u) (fun Hf nf Ωf Ff vc u r => jC hL vc hlo hEb td r) Ω F hs hF
   rename_i hlo
   split at h
   ·cases h
   rename_i hl
   simp only [dj, Prod.exists] at h
   obtain ⟨sk, H1, n1, h1, h2⟩ := h
   intro Ω F hs hF
   have hEb : E.H[b]? = some (.Bt l m sz) := by
    rcases hs.same b with h | h
    ·rw [← h]; exact hb
    ·rw [hb] at h; cases h
   obtain ⟨u0, zz⟩ := xh
   simp only [AA] at zz
   obtain ⟨_, ⟨A, cap0, zz, hcap0, ⟨g, o, hA, _, hr⟩, xa⟩, _⟩ := zz
   obtain ⟨_, xa⟩ := xa _ _ _ hEb
   obtain ⟨hA', c, t, uy⟩ := xa rfl
   rw [hA] at hA'
   simp only [an, Addr.mk.injEq, and_true] at hA'
   obtain ⟨rfl, rfl⟩ := hA'
   obtain ⟨ih, hlen⟩ := ihL cs _ news sk H1 n1 h1 ⟨_, Da fun i v hi => let ⟨u, a1, a2, _⟩ := CI _ _ hr i v hi; ⟨u, a1, a2⟩⟩
   have ux : ∀ (i : Nat) v, cs[i]? = some v → ∃ u, c[0 + i]? = some u ∧ AA E v u := by
    intro i v hi
    obtain ⟨u, k1, k2, _⟩ := CI _ _ hr i v hi
    rw [cell_of_row _ _ _ _ _ _ uy] at k1
    exact ⟨u, k1, k2⟩
   have hcs : 0 + cs.length ≤ c.size := by
    rcases ke cs.length with h0 | h0
    ·omega
    ·obtain ⟨u, k1, _⟩ := ux (cs.length - 1) _ (dr (by omega))
     have := (ef.1 k1).1
     omega
   have h2' : (if th then if 0 = 0 ∧ cs.length = n * sz then some (V.sl (lo + n1.length) 0 n, H1, n1 ++ [Bv.cells sz sk]) else none else some (V.lit 0 n sk, H1, n1)) = some (v', (H2, news2)) := by
    rw [← h2]
    simp
   have := LF (E := E) (off := 0) (n := n) hL (ib.1 hlo) (by rw [hb]; trivial) (.inr ⟨l, m, sz, hEb, ib.1 hl⟩) ih hlen ⟨c, t, uy, hcs, ux⟩ h2'
   refine mono (R' := fun Z => ∀ u, AA E _ u → AA Z v' u) this (fun Hf nf Ωf Ff vc hR u r => ?_) Ω F hs hF
   simp only [AA] at r
   obtain ⟨_, ⟨A2, cap, rfl, hcap, _, zb⟩, _⟩ := r
   obtain ⟨_, zb⟩ := zb _ _ _ hEb
   obtain ⟨rfl, _⟩ := zb rfl
   exact hR cap hcap
  | sl b off n =>
   simp only [BO] at h
   split at h
   ·rename_i hb
    simp only [an] at h
    refine same h.symm fun Hf nf Ωf Ff vc u r => ?_
    simp only [AA] at r ⊢
    obtain ⟨_, ⟨cap, r1, r2⟩, r3⟩ := r
    refine ⟨by show b < lo + nf.length; omega, ⟨cap, ?_, r2⟩, fun l n z => ?_⟩
    ·rw [r1]; show _ = Value.slice (some ⟨if b < lo then E.φ b else _, off, none⟩) _ _; rw [ru hb]
    ·rw [DX hL vc, ru hb]; exact r3 l n z
   rename_i hlo
   split at h
   case h_2 => cases h
   rename_i sz cs hb
   split at h
   ·cases h
   rename_i hc
   simp only [dj, Prod.exists] at h
   obtain ⟨sk, H1, n1, h1, h2⟩ := h
   intro Ω F hs hF
   have hEb : E.H[b]? = some (.cells sz cs) := by
    rcases hs.same b with h | h
    ·rw [← h]; exact hb
    ·rw [hb] at h; cases h
   have td : ((cs.drop off).take (n * sz)).length = n * sz := by simp; omega
   obtain ⟨c, t, uy, hcs, ux⟩ := hL.heap.cells b sz cs hEb
   have hget2 : ∀ (i : Nat) v, ((cs.drop off).take (n * sz))[i]? = some v → ∃ u, c[off + i]? = some u ∧ AA E v u := by
    intro i v hi
    rw [gm] at hi
    split at hi
    ·rw [jd] at hi; exact ux _ v hi
    ·cases hi
   obtain ⟨ih, hlen⟩ := ihL _ _ news sk H1 n1 h1 ⟨_, Da (g := E.φ b) (o := off) fun i v hi => let ⟨u, a1, a2⟩ := hget2 i v hi; ⟨u, by rw [cell_of_row _ _ _ _ _ _ uy]; exact a1, a2⟩⟩
   have h2' : (if th then if off = 0 ∧ ((cs.drop off).take (n * sz)).length = n * sz then some (V.sl (lo + n1.length) 0 n, H1, n1 ++ [Bv.cells sz sk]) else none else some (V.lit 0 n sk, H1, n1)) = some (v', (H2, news2)) := by
    cases th with
    | false => exact h2
    | true =>
     simp only [if_true] at h2 ⊢
     split at h2
     ·rename_i hx
      rw [ru ⟨hx.1, td⟩]; exact h2
     ·cases h2
   have := LF (E := E) (off := off) (n := n) hL (by omega) (by rw [hb]; trivial) (.inl ⟨sz, cs, hEb⟩) ih hlen ⟨c, t, uy, by rw [td]; omega, hget2⟩ h2'
   refine mono (R' := fun Z => ∀ u, AA E _ u → AA Z v' u) this (fun Hf nf Ωf Ff vc hR u r => ?_) Ω F hs hF
   simp only [AA] at r
   obtain ⟨_, ⟨cap, rfl, hcap⟩, _⟩ := r
   exact hR cap hcap
  | agg cs =>
   simp only [BO, dn, Prod.exists, dk] at h
   obtain ⟨sk, H1, n1, h1, rfl, rfl, rfl⟩ := h
   obtain ⟨ih, l⟩ := ihL cs H news sk H1 n1 h1 (by
    obtain ⟨u, r⟩ := xh
    simp only [AA] at r
    obtain ⟨vs, _, hr⟩ := r
    exact ⟨_, hr⟩)
   refine mono ih fun Hf nf Ωf Ff vc hR u r => ?_
   simp only [AA] at r ⊢
   obtain ⟨vs, hv, hr⟩ := r
   exact ⟨vs, hv, hR _ hr⟩
  | Ei cs =>
   simp only [BO, dn, Prod.exists, dk] at h
   obtain ⟨sk, H1, n1, h1, rfl, rfl, rfl⟩ := h
   obtain ⟨ih, l⟩ := ihL cs H news sk H1 n1 h1 (by
    obtain ⟨u, r⟩ := xh
    simp only [AA] at r
    obtain ⟨vs, _, hr⟩ := r
    exact ⟨_, hr⟩)
   refine mono ih fun Hf nf Ωf Ff vc hR u r => ?_
   simp only [AA] at r ⊢
   obtain ⟨vs, hv, hr⟩ := r
   exact ⟨vs, hv, hR _ hr⟩
end
theorem Ca.nM (E : Ab) (L : List Nat) (hd : E.m ≤ E.lk.length) : Ca E { E with lk := E.lk ++ [L] } where
 len := dz _
 lvl := dz _
 Ce := fun _ _ h => ⟨rfl, h⟩
 cells := fun _ _ h => h
 Bt := fun _ l n _ _ h => ⟨l, n, h, dz _, fun _ => ⟨rfl, fun c _ hc => ⟨c, hc, rfl⟩⟩⟩
 cell := by
  intro lv g i u sj _ h1 h3
  refine ⟨h1, fun hu => h3 ?_⟩
  cases lv with
  | none => exact hu
  | some lv =>
   have hle : lv ≤ E.lk.length := fg sj hd
   rcases hu with hu | ⟨b, p1, p2, p3⟩
   ·exact .inl hu
   refine .inr ⟨b, p1, ?_, p3⟩
   have : (E.lk ++ [L]).take lv = E.lk.take lv := mc hle
   rw [← this]
   exact p2
 fresh := fun b _ _ _ _ _ hb hl he => ⟨b, hb, hl, he⟩
theorem Dc.lock {E : Ab} {L : List Nat} {base nb d : Nat} (hd : d ≤ E.lk.length) (h : Dc E base nb d) : Dc (E.lock L) base nb d :=
 fun b sz cs sd hB c t hc i v u hv hu => (Ca.nM (E.shrink nb d) L hd).rep v u (h b sz cs sd hB c t hc i v u hv hu)
theorem Dc.all {E : Ab} (hh : Ch E) (base : Nat) : Dc E base E.n E.m := by
 intro b sz cs sd hB c t hc i v u hv hu
 obtain ⟨c', t', h1, _, h2⟩ := hh.cells b sz cs hB
 rw [hc] at h1
 simp only [an, Obj.cells.injEq] at h1
 obtain ⟨rfl, _⟩ := h1
 obtain ⟨u', h3, h4⟩ := h2 i v hv
 rw [hu] at h3
 simp only [an] at h3
 subst h3
 exact h4
section
variable {E : Ab} {lo d : Nat} {lk : Lk}
theorem IS {H : A5} {news : List Bv} {Ω : List Nat} {b : Nat} (hb : b < lo) : (E.out lo lk d H news Ω).φ b = E.φ b := by
 show (if b < lo then _ else _) = _; rw [ru hb]
theorem Rr (hL : RE E lo d lk) {H : A5} {news : List Bv} {Ω F : List Nat} (hs : GN E lo d H news Ω F) {nb d' : Nat} (va : nb ≤ lo) (hd : d' ≤ d) : Ca (E.shrink nb d') ((E.out lo lk d H news Ω).shrink nb d') where
 len := dz _
 lvl := dz _
 cell := by
  intro lv g i u sj haw h1 h3
  refine ⟨h1, fun hu => h3 ?_⟩
  cases lv with
  | some l => exact XR hL hs (fg sj hd) hu
  | none =>
   have zz : (E.out lo lk d H news Ω).U none g i := hu
   rcases zz with zz | ⟨b, h4, h5⟩
   ·exact .inl zz
   have hl : live (E.out lo lk d H news Ω).H[b]? := by
    split at h5
    ·rename_i he; rw [he]; trivial
    ·rename_i he; rw [he]; trivial
    ·rename_i he; rw [he]; trivial
    ·exact h5.elim
   rcases Eb hL hs hl with ⟨p1, p2, p3, p4⟩ | ⟨b0, sz, cs, p1, p2, p3, p4, p5, p6, p7⟩
   ·rw [p3] at h5
    exact .inr ⟨b, p2.symm.trans h4, h5⟩
   ·exact absurd (p4.symm.trans h4) (haw rfl b0 (fg va p6) p7.live)
 Ce := by
  intro b hb hn
  have hb : b < nb := hb
  refine ⟨IS (H := H) (news := news) (lk := lk) (d := d) (by omega), fun l n z => ?_⟩
  show (E.out lo lk d H news Ω).H[b]? ≠ _
  rw [DX hL hs, ru (by omega)]
  exact hn l n z
 cells := by
  intro b hb hn z cs
  have hb : b < nb := hb
  show (E.out lo lk d H news Ω).H[b]? ≠ _
  rw [DX hL hs, ru (by omega)]
  exact hn z cs
 Bt := by
  intro b l n sz hb hB
  have hb : b < nb := hb
  have hB : (E.out lo lk d H news Ω).H[b]? = _ := hB
  rw [DX hL hs, ru (by omega)] at hB
  exact ⟨l, n, hB, dz _, fun _ => ⟨IS (H := H) (news := news) (lk := lk) (d := d) (by omega), fun c _ hc => ⟨c, hc, rfl⟩⟩⟩
 fresh := by
  intro b g i u h1 _ hb hl he
  rcases Eb hL hs hl with ⟨p1, p2, p3, p4⟩ | ⟨b0, sz, cs, p1, p2, p3, p4, p5, p6, p7⟩
  ·exact ⟨b, hb, p4, p2.symm.trans he⟩
  ·exact ⟨b0, fg va p6, p7.live, p4.symm.trans he⟩
end
section
variable {c : Cx} {E0 E' : Ab} {L : List Nat} {Hc : A5}
structure SW (c : Cx) (E0 E' : Ab) (L : List Nat) (Hc : A5) : Prop where
 XI : Ch E0
 n0 : E0.n = E0.H.length
 m0 : E0.m = E0.lk.length
 base : c.base = E0.n
 lk : c.lk = E0.lk ++ [L]
 Dv : ∀ l ∈ E0.lk, ∀ x ∈ l, x < E0.n
 after : B9 c (E0.lock L) E' Hc
theorem SW.last (h : SW c E0 E' L Hc) : RE E' E0.n E0.m E0.lk where
 heap := h.after.heap
 le := by
  have h1 := h.after.n
  have h2 := h.after.H
  have h3 : E0.n ≤ E'.n := h.after.Cz.len
  rw [h2, ← h1]; exact h3
 tF := by
  intro lv sj
  have h1 : E'.lk = E0.lk ++ [L] := h.after.Cz.lk
  rw [h1]
  exact mc (by rw [← h.m0]; exact sj)
 len := h.m0.symm
 Dv := h.Dv
theorem SW.fresh (h : SW c E0 E' L Hc) {b : Nat} (hb : E0.n ≤ b) (hl : live E'.H[b]?) : E0.w.heap.size ≤ E'.φ b := by
 rcases h.after.Cz.fresh b hl with ⟨_, h2⟩ | h2
 ·have h2 : live E0.H[b]? := h2
  rw [en (by rw [← h.n0]; exact hb)] at h2
  exact h2.elim
 ·exact h2
theorem SW.lvl (h : SW c E0 E' L Hc) {b l n sz : Nat} (hb : b < E0.n) (hB : E'.H[b]? = some (.Bt l n sz)) : l ≤ E0.m := by
 obtain ⟨k, h1, _⟩ := h.after.Cz.Bt b l n sz hb hB
 rw [h.m0]
 exact h.XI.lvl b l k sz h1
theorem YT (hD : SW c E0 E' L Hc) (hg : c.hints.grow c.fn = false) {th : Bool} {v v' : V} {u : eu} {H2 : A5} {news : List Bv} (hr : AA E' v u) (h : BO th E0.n (E0.m + 1) Ba (Hc, []) v = some (v', (H2, news))) :
    ∃ E1, E1.w = E'.w ∧ VT c.hints c.fn L E0 E1 (H2.take E0.n ++ news) ∧ AA E1 v' u := by
  have hL := hD.last
  have hHc : E'.H = Hc := hD.after.H
  have vf := hD.after.Cz
  have hs0 : GN E' E0.n E0.m Hc [] [] [] :=
    { len := by rw [hHc], RZ := rfl, VS := fun b _ => by rw [hHc], same := fun b => .inl (by rw [hHc]), omega := fun b hb => (by cases hb), UX := fun b hb => (by cases hb), nodup := mw, apart := fun b hb => (by cases hb), HS := fun j x hx => by simp at hx }
  obtain ⟨Ω, F, hs, hF, _, _, _, xh⟩ := R1 (lk := E0.lk) hL th Ba Hc [] v v' H2 news h ⟨u, hr⟩ [] [] hs0 (fun j b sz cs h1 _ => by simp at h1)
  let E1 := E'.out E0.n E0.lk E0.m H2 news Ω
  have hlen : (H2.take E0.n).length = E0.n := by rw [gh, hs.len]; have := hL.le; omega
  have hf0 : Dc E' E0.n E0.n E0.m := hD.after.I7 hg _ _ _ (by rw [hD.base]; exact dz _) (dz _) (mg _) (Dc.lock (by rw [hD.m0]; exact dz _) (Dc.all hD.XI _))
  have hgrow : Ca (E1.shrink E0.n E0.m) E1 := Ca.grow E1 (qm _ _) (dz _)
  have hrel : Ch E1 :=
    { cells := by
        intro b sz cs hB
        by_cases hb : b < E0.n
        · have hB' := hB
          rw [DX hL hs, ru hb] at hB'
          obtain ⟨c', t, h1, h2, h3⟩ := hL.heap.cells b sz cs hB'
          refine ⟨c', t, ?_, h2, fun i v hv => ?_⟩
          · show E'.w.heap[(E'.out E0.n E0.lk E0.m H2 news Ω).φ b]? = _
            rw [IS hb]; exact h1
          · obtain ⟨u, h4, _⟩ := h3 i v hv
            exact ⟨u, h4, hgrow.rep _ _ ((Rr hL hs (dz _) (dz _)).rep _ _ (hf0 b sz cs hb hB' c' t h1 i v u hv h4))⟩
        · rcases Eb hL hs (b := b) (by rw [hB]; trivial) with ⟨p1, _⟩ | ⟨b0, wg, sk, p1, p2, p3, p4, p5, p6, p7⟩
          · exact absurd p1 hb
          · rw [DX hL hs, rr hb, p5] at hB
            simp only [an, Bv.cells.injEq] at hB
            obtain ⟨rfl, rfl⟩ := hB
            obtain ⟨c', t, h1, h2, h3⟩ := hF _ _ _ _ p2 p5
            refine ⟨c', t, ?_, h2, h3 H2 news Ω F hs (VU.refl _ _ _)⟩
            show E'.w.heap[(E'.out E0.n E0.lk E0.m H2 news Ω).φ b]? = _
            rw [p4]; exact h1
      Bt := by
        intro b l n sz hB
        by_cases hb : b < E0.n
        · rw [DX hL hs, ru hb] at hB
          obtain ⟨c', t, h1, h2⟩ := hL.heap.Bt b l n sz hB
          refine ⟨c', t, ?_, h2⟩
          show E'.w.heap[(E'.out E0.n E0.lk E0.m H2 news Ω).φ b]? = _
          rw [IS hb]; exact h1
        · rw [DX hL hs, rr hb] at hB
          obtain ⟨_, _, hx⟩ := hs.HS _ _ hB
          cases hx
      lvl := by
        intro b l n sz hB
        by_cases hb : b < E0.n
        · rw [DX hL hs, ru hb] at hB
          have := hD.lvl hb hB
          rw [hD.m0] at this
          exact this
        · rw [DX hL hs, rr hb] at hB
          obtain ⟨_, _, hx⟩ := hs.HS _ _ hB
          cases hx
      dm := by show E0.m ≤ E0.lk.length; rw [hD.m0]; exact dz _
      maps := by
        intro b BC hB
        by_cases hb : b < E0.n
        · rw [DX hL hs, ru hb] at hB
          obtain ⟨h1, h2⟩ := hL.heap.maps b BC hB
          refine ⟨?_, h2⟩
          show E'.w.heap[(E'.out E0.n E0.lk E0.m H2 news Ω).φ b]? = _
          rw [IS hb]; exact h1
        · rw [DX hL hs, rr hb] at hB
          obtain ⟨_, _, hx⟩ := hs.HS _ _ hB
          cases hx
      inj := by
        intro b b' h1 h2 he
        rcases Eb hL hs h1 with ⟨p1, p2, p3, p4⟩ | ⟨b0, sz, cs, p1, p2, p3, p4, p5, p6, p7⟩ <;>
        rcases Eb hL hs h2 with ⟨q1, q2, q3, q4⟩ | ⟨b0', wg, sk, q1, q2, q3, q4, q5, q6, q7⟩
        · exact hL.heap.inj _ _ p4 q4 (by rw [← p2, ← q2]; exact he)
        · have := hL.heap.inj _ _ p4 q7.live (by rw [← p2, ← q4]; exact he)
          omega
        · have := hL.heap.inj _ _ p7.live q4 (by rw [← p4, ← q2]; exact he)
          omega
        · have := hL.heap.inj _ _ p7.live q7.live (by rw [← p4, ← q4]; exact he)
          subst this
          have h5 := (du.1 p2)
          have h6 := (du.1 q2)
          obtain ⟨i1, e1⟩ := h5
          obtain ⟨i2, e2⟩ := h6
          have := (List.getElem_inj (h₀ := i1) (h₁ := i2) hs.nodup).1 (e1.trans e2.symm)
          omega
      Bl := fun g hg => ⟨(hL.heap.Bl g hg).1, fun b hl => by
        rcases Eb hL hs hl with ⟨p1, p2, p3, p4⟩ | ⟨b0, sz, cs, p1, p2, p3, p4, p5, p6, p7⟩
        · rw [p2]; exact (hL.heap.Bl g hg).2 _ p4
        · rw [p4]; exact (hL.heap.Bl g hg).2 _ p7.live⟩ }
  have hold : ∀ b, b < E0.n → E1.H[b]? = E'.H[b]? := fun b hb => by
    show (E'.out E0.n E0.lk E0.m H2 news Ω).H[b]? = _
    rw [DX hL hs, ru hb]
  refine ⟨E1, rfl, ⟨rfl, ?_, ?_, hrel, ?_, (fun h => by rw [hg] at h; cases h), ?_⟩, xh H2 news Ω F hs (VU.refl _ _ _) u hr⟩
  · show E0.n + news.length = (H2.take E0.n ++ news).length
    rw [dw, hlen]
  · exact
    { lk := rfl
      os := vf.os
      tape := vf.tape
      output := vf.output
      size := vf.size
      len := qm _ _
      mm := rfl
      cell := vf.cell
      block := vf.block
      mono := by
        intro lv g i sj hu
        rcases hu with hu | hu
        · exact vf.mono lv g i sj (.inl hu)
        cases lv with
        | some l =>
          obtain ⟨b, h1, h2, h3⟩ := hu
          have hl : live E1.H[b]? := by
            split at h3
            · rename_i he; rw [Ab.FG] at he; rw [he]; trivial
            · rename_i he; rw [Ab.FG] at he; rw [he]; trivial
            · rename_i he; rw [Ab.FG] at he; rw [he]; trivial
            · exact h3.elim
          rcases Eb hL hs hl with ⟨p1, p2, p3, p4⟩ | ⟨b0, sz, cs, p1, p2, p3, p4, p5, p6, p7⟩
          · refine vf.mono (some l) g i sj (.inr ⟨b, by rw [← p2]; exact h1, ?_, ?_⟩)
            · have : E'.lk = E0.lk ++ [L] := vf.lk
              rw [this]; exact h2
            · rw [Ab.FG, hold b p1] at h3; exact h3
          · right
            rw [← h1, Ab.MU]
            show _ ≤ (E'.out E0.n E0.lk E0.m H2 news Ω).φ b
            rw [p4]
            exact hD.fresh p6 p7.live
        | none =>
          obtain ⟨b, h1, h3⟩ := hu
          have hl : live E1.H[b]? := by
            split at h3
            · rename_i he; rw [Ab.FG] at he; rw [he]; trivial
            · rename_i he; rw [Ab.FG] at he; rw [he]; trivial
            · rename_i he; rw [Ab.FG] at he; rw [he]; trivial
            · exact h3.elim
          rcases Eb hL hs hl with ⟨p1, p2, p3, p4⟩ | ⟨b0, sz, cs, p1, p2, p3, p4, p5, p6, p7⟩
          · refine vf.mono none g i sj (.inr ⟨b, by rw [← p2]; exact h1, ?_⟩)
            rw [Ab.FG, hold b p1] at h3; exact h3
          · right
            rw [← h1, Ab.MU]
            show _ ≤ (E'.out E0.n E0.lk E0.m H2 news Ω).φ b
            rw [p4]
            exact hD.fresh p6 p7.live
      Ce := by
        intro b hb hn
        obtain ⟨h1, h2⟩ := vf.Ce b hb hn
        refine ⟨(IS (H := H2) (news := news) (lk := E0.lk) (d := E0.m) hb).trans h1, fun l n z => ?_⟩
        rw [Ab.FG, hold b hb]
        exact h2 l n z
      cells := by
        intro b hb hn z cs
        rw [Ab.FG, hold b hb]
        exact vf.cells b hb hn z cs
      Bt := by
        intro b l n sz hb hB
        rw [Ab.FG, hold b hb] at hB
        obtain ⟨k, h1, h2, h3⟩ := vf.Bt b l n sz hb hB
        exact ⟨k, h1, h2, fun e => ⟨(IS (H := H2) (news := news) (lk := E0.lk) (d := E0.m) hb).trans (h3 e).1, (h3 e).2⟩⟩
      fresh := by
        intro b hl
        rcases Eb hL hs hl with ⟨p1, p2, p3, p4⟩ | ⟨b0, sz, cs, p1, p2, p3, p4, p5, p6, p7⟩
        · rcases vf.fresh b p4 with ⟨h1, h2⟩ | h1
          · exact .inl ⟨p2.trans h1, h2⟩
          · exact .inr (by rw [Ab.MU]; show _ ≤ (E'.out E0.n E0.lk E0.m H2 news Ω).φ b; rw [p2]; exact h1)
        · exact .inr (by rw [Ab.MU]; show _ ≤ (E'.out E0.n E0.lk E0.m H2 news Ω).φ b; rw [p4]; exact hD.fresh p6 p7.live)
      Bl := vf.Bl
      Ix := vf.Ix
      I8 := vf.I8 }
  · intro _ base nb d' vb va hd hf
    have hf1 := hD.after.I7 hg base nb d' (by rw [hD.base]; exact vb) va (oa hd) (Dc.lock (L := L) (by rw [← hD.m0]; exact hd) hf)
    intro b sz cs sd hB c' t hc i v u hv hu
    have hb : b < E0.n := fw sd vb
    rw [hold b hb] at hB
    have hc : E'.w.heap[(E'.out E0.n E0.lk E0.m H2 news Ω).φ b]? = _ := hc
    rw [IS hb] at hc
    exact (Rr hL hs va hd).rep v u (hf1 b sz cs sd hB c' t hc i v u hv hu)
  · intro b hb hk
    rw [hold b hb, hHc]
    exact hD.after.kept b (by rw [hD.base]; exact hb) (by rw [hD.lk]; exact hk)
end
def GQ (d : Nat) : Bv → Bv
 | .Bt l n sz => .Bt (min l d) n sz
 | .cells sz cs => if cs.all (BS (d + 1)) then .cells sz cs else .dead
 | x => x
theorem e7 (d : Nat) : NI (d + 1) = GQ d := by funext x; cases x <;> rfl
theorem WK {d : Nat} {x : Option Bv} : live (x.map (GQ d)) → live x := by
 cases x with
 | none => exact id
 | some x => cases x with
  | cells sz cs => intro _; trivial
  | _ => exact id
def Ab.grown (E : Ab) (lo : Nat) (lk : Lk) (d : Nat) : Ab := { w := E.w, φ := E.φ, H := E.H.take lo ++ (E.H.drop lo).map (GQ d), lk := lk, n := E.n, m := d, Bl := E.Bl }
section
variable {c : Cx} {E0 E' : Ab} {L : List Nat} {Hc : A5}
theorem Iw (E : Ab) (lo : Nat) (lk : Lk) (d : Nat) (hlo : lo ≤ E.H.length) (b : Nat) : (E.grown lo lk d).H[b]? = if b < lo then E.H[b]? else (E.H[b]?).map (GQ d) := by
 have hl : (E.H.take lo).length = lo := by rw [gh]; omega
 show (E.H.take lo ++ (E.H.drop lo).map (GQ d))[b]? = _
 by_cases h : b < lo
 ·rw [ru h, eh (by omega), jg h]
 ·rw [rr h, fe (by omega), hl, List.getElem?_map, jd]
  congr 2
  omega
theorem Hq {E : Ab} {lo : Nat} {lk : Lk} {d : Nat} (hlo : lo ≤ E.H.length) {b : Nat} : live (E.grown lo lk d).H[b]? → live E.H[b]? := by
 rw [Iw E lo lk d hlo]
 split
 ·exact id
 ·exact WK
theorem Gy {E : Ab} {lo : Nat} {lk : Lk} {d : Nat} (hlo : lo ≤ E.H.length) {b sz : Nat} {cs : List V} (h : (E.grown lo lk d).H[b]? = some (.cells sz cs)) : E.H[b]? = some (.cells sz cs) ∧ (¬ b < lo → cs.all (BS (d + 1)) = true) := by
 rw [Iw E lo lk d hlo] at h
 split at h
 ·rename_i hb; exact ⟨h, fun x => absurd hb x⟩
 ·cases hx : E.H[b]? with
  | none => rw [hx] at h; simp at h
  | some x =>
   rw [hx] at h
   cases x with
   | cells z es =>
    simp only [dq, GQ, an] at h
    split at h
    ·rename_i hc
     cases h
     exact ⟨rfl, fun _ => hc⟩
    ·cases h
   | Bt _ _ _ => simp [GQ] at h
   | mp _ => simp [GQ] at h
   | dead => simp [GQ] at h
theorem QO {E : Ab} {lo : Nat} {lk : Lk} {d : Nat} (hlo : lo ≤ E.H.length) {b : Nat} {BC : List (V × V)} (h : (E.grown lo lk d).H[b]? = some (.mp BC)) : E.H[b]? = some (.mp BC) := by
 rw [Iw E lo lk d hlo] at h
 split at h
 ·exact h
 ·cases hx : E.H[b]? with
  | none => rw [hx] at h; simp at h
  | some x =>
   rw [hx] at h
   cases x with
   | cells z es =>
    simp only [dq, GQ, an] at h
    split at h <;> cases h
   | Bt _ _ _ => simp [GQ] at h
   | mp _ => simpa [GQ] using h
   | dead => simp [GQ] at h
theorem HZ {E : Ab} {lo : Nat} {lk : Lk} {d : Nat} (hlo : lo ≤ E.H.length) {b l n sz : Nat} (h : (E.grown lo lk d).H[b]? = some (.Bt l n sz)) : ∃ l0, E.H[b]? = some (.Bt l0 n sz) ∧ l ≤ l0 ∧ (b < lo → l = l0) ∧ (¬ b < lo → l ≤ d) := by
 rw [Iw E lo lk d hlo] at h
 split at h
 ·rename_i hb
  exact ⟨l, h, dz _, fun _ => rfl, fun x => absurd hb x⟩
 ·rename_i hb
  cases hx : E.H[b]? with
  | none => rw [hx] at h; simp at h
  | some x =>
   rw [hx] at h
   cases x with
   | Bt l0 n0 sz0 =>
    simp only [dq, GQ, an, Bv.Bt.injEq] at h
    obtain ⟨rfl, rfl, rfl⟩ := h
    exact ⟨l0, rfl, Nat.min_le_left _ _, fun x => absurd x hb, fun _ => Nat.min_le_right _ _⟩
   | cells _ _ =>
    simp only [dq, GQ, an] at h
    split at h <;> cases h
   | mp _ => simp [GQ] at h
   | dead => simp [GQ] at h
theorem XG {E : Ab} {lo : Nat} {lk L : Lk} {d : Nat} (hlo : lo ≤ E.H.length) (sn : E.lk = L) {lv : Nat} {g i : Nat} (h : ({ E.grown lo lk d with lk := L } : Ab).U (some lv) g i) : E.U (some lv) g i := by
 rcases h with h | ⟨b, h1, h2, h3⟩
 ·exact .inl h
 refine .inr ⟨b, h1, by rw [sn]; exact h2, ?_⟩
 have h3 : match (E.grown lo lk d).H[b]? with
  | some (.cells _ _) | some (.mp _) => True
  | some (.Bt l n sz) => lv < l ∨ n * sz ≤ i
  | _ => False := h3
 split at h3
 ·rename_i he
  rw [(Gy hlo he).1]; trivial
 ·rename_i he
  rw [QO hlo he]; trivial
 ·rename_i he
  obtain ⟨l0, h4, h5, _⟩ := HZ hlo he
  rw [h4]
  rcases h3 with h3 | h3
  ·exact .inl (fw h3 h5)
  ·exact .inr h3
 ·exact h3.elim
theorem XF {E : Ab} {lo : Nat} {lk : Lk} {d : Nat} (hlo : lo ≤ E.H.length) {g i : Nat} (h : (E.grown lo lk d).U none g i) : E.U none g i := by
 rcases h with h | ⟨b, h1, h3⟩
 ·exact .inl h
 refine .inr ⟨b, h1, ?_⟩
 split at h3
 ·rename_i he
  rw [(Gy hlo he).1]; trivial
 ·rename_i he
  rw [QO hlo he]; trivial
 ·rename_i he
  obtain ⟨l0, h4, _⟩ := HZ hlo he
  rw [h4]
  exact h3
 ·exact h3.elim
theorem Uk {E : Ab} {lo : Nat} {lk : Lk} {d d' : Nat} (hlo : lo ≤ E.H.length) (sn : ∀ lv, lv ≤ d → E.lk.take lv = lk.take lv) (hd : d' ≤ d) : Ca (E.shrink E.n d') ((E.grown lo lk d).shrink E.n d') where
 len := dz _
 lvl := dz _
 cell := by
  intro lv g i u sj _ h1 h3
  refine ⟨h1, fun hu => h3 ?_⟩
  cases lv with
  | some l =>
   have hl : l ≤ d := fg sj hd
   refine XG (E := E) (lo := lo) (lk := lk) (d := d) (L := E.lk) hlo rfl ?_
   rcases hu with hu | ⟨b, p1, p2, p3⟩
   ·exact .inl hu
   refine .inr ⟨b, p1, ?_, p3⟩
   show AT (E.lk.take l) b = true
   rw [sn l hl]; exact p2
  | none => exact XF (lk := lk) (d := d) hlo hu
 Ce := by
  intro b hb hn
  refine ⟨rfl, fun l n z hx => ?_⟩
  obtain ⟨l0, h, _⟩ := HZ (lk := lk) (d := d) hlo hx
  exact hn l0 n z h
 cells := by
  intro b hb hn z cs hx
  exact hn z cs (Gy (lk := lk) (d := d) hlo hx).1
 Bt := by
  intro b l n sz hb hB
  obtain ⟨l0, h, _⟩ := HZ (lk := lk) (d := d) hlo hB
  exact ⟨l0, n, h, dz _, fun _ => ⟨rfl, fun c _ hc => ⟨c, hc, rfl⟩⟩⟩
 fresh := fun b g i u _ _ hb hl he => ⟨b, hb, Hq (lk := lk) (d := d) hlo hl, he⟩
theorem Un (hD : SW c E0 E' L Hc) (hg : c.hints.grow c.fn = true) {v : V} {u : eu} (hr : AA E' v u) (hv : BS (E0.m + 1) v = true) :
    ∃ E1, E1.w = E'.w ∧ VT c.hints c.fn L E0 E1 (Hc.take E0.n ++ (Hc.drop E0.n).map (GQ E0.m)) ∧ AA E1 v u := by
  have hL := hD.last
  have hHc : E'.H = Hc := hD.after.H
  have vf := hD.after.Cz
  have hlo := hL.le
  have hnH : E'.n = E'.H.length := by rw [hHc]; exact hD.after.n
  let E1 := E'.grown E0.n E0.lk E0.m
  have hk : ∀ d', d' ≤ E0.m → Ca (E'.shrink E'.n d') (E1.shrink E'.n d') := fun d' hd => Uk hlo hL.tF hd
  have zr : Ca (E'.shrink E'.n E0.m) E1 := hk E0.m (dz _)
  have hfAll : Dc E' E0.n E'.n E0.m := hD.after.Ib hg _ _ (by rw [hD.base]; exact dz _) (mg _) (Dc.lock (by rw [hD.m0]; exact dz _) (Dc.all hD.XI _))
  have hrel : Ch E1 :=
    { cells := by
        intro b sz cs hB
        obtain ⟨hB', td⟩ := Gy hlo hB
        obtain ⟨c', t, h1, h2, h3⟩ := hL.heap.cells b sz cs hB'
        refine ⟨c', t, h1, h2, fun i v hv => ?_⟩
        obtain ⟨u, h4, h5⟩ := h3 i v hv
        refine ⟨u, h4, zr.rep _ _ ?_⟩
        by_cases hb : b < E0.n
        · exact hfAll b sz cs hb hB' c' t h1 i v u hv h4
        · refine Hk v u ?_ h5
          have := td hb
          rw [gb] at this
          exact this v (List.mem_of_getElem? hv)
      Bt := by
        intro b l n sz hB
        obtain ⟨l0, h, _⟩ := HZ hlo hB
        exact hL.heap.Bt b l0 n sz h
      lvl := by
        intro b l n sz hB
        obtain ⟨l0, h, _, h1, h2⟩ := HZ hlo hB
        show l ≤ E0.lk.length
        rw [← hD.m0]
        by_cases hb : b < E0.n
        · rw [h1 hb]; exact hD.lvl hb h
        · exact h2 hb
      dm := by show E0.m ≤ E0.lk.length; rw [hD.m0]; exact dz _
      inj := fun b b' h1 h2 he => hL.heap.inj b b' (Hq hlo h1) (Hq hlo h2) he
      maps := fun b BC hB => hL.heap.maps b BC (QO hlo hB)
      Bl := fun g hg => ⟨(hL.heap.Bl g hg).1, fun b hl => (hL.heap.Bl g hg).2 b (Hq hlo hl)⟩ }
  have hold : ∀ b, b < E0.n → E1.H[b]? = E'.H[b]? := fun b hb => by
    show (E'.grown E0.n E0.lk E0.m).H[b]? = _
    rw [Iw _ _ _ _ hlo, ru hb]
  refine ⟨E1, rfl, ⟨?_, ?_, ?_, hrel, (fun h => by rw [hg] at h; cases h), ?_, ?_⟩, zr.rep _ _ (Hk v u hv hr)⟩
  · show E'.H.take _ ++ (E'.H.drop _).map _ = _
    rw [hHc]
  · show E'.n = _
    rw [hnH, hHc]
    simp
    rw [hHc] at hlo
    omega
  · exact
    { lk := rfl
      os := vf.os
      tape := vf.tape
      output := vf.output
      size := vf.size
      len := vf.len
      mm := rfl
      cell := vf.cell
      block := vf.block
      mono := by
        intro lv g i sj hu
        refine vf.mono lv g i sj ?_
        cases lv with
        | some l => exact XG (E := E') (lo := E0.n) (lk := E0.lk) (d := E0.m) (L := E0.lk ++ [L]) hlo vf.lk hu
        | none => exact XF (lk := E0.lk) (d := E0.m) hlo hu
      Ce := by
        intro b hb hn
        obtain ⟨h1, h2⟩ := vf.Ce b hb hn
        refine ⟨h1, fun l n z => ?_⟩
        rw [Ab.FG, hold b hb]
        exact h2 l n z
      cells := by
        intro b hb hn z cs
        rw [Ab.FG, hold b hb]
        exact vf.cells b hb hn z cs
      Bt := by
        intro b l n sz hb hB
        rw [Ab.FG, hold b hb] at hB
        exact vf.Bt b l n sz hb hB
      fresh := fun b hl => vf.fresh b (Hq (lk := E0.lk) (d := E0.m) hlo hl)
      Bl := vf.Bl
      Ix := vf.Ix
      I8 := vf.I8 }
  · intro _ base d' vb hd hf
    have hf1 := hD.after.Ib hg base d' (by rw [hD.base]; exact vb) (oa hd) (Dc.lock (L := L) (by rw [← hD.m0]; exact hd) hf)
    intro b sz cs sd hB c' t hc i v u hv hu
    exact (hk d' hd).rep v u (hf1 b sz cs sd (Gy (lk := E0.lk) (d := E0.m) hlo hB).1 c' t hc i v u hv hu)
  · intro b hb hkk
    rw [hold b hb, hHc]
    exact hD.after.kept b (by rw [hD.base]; exact hb) (by rw [hD.lk]; exact hkk)
theorem YX {P : ep} {E : Ab} (hh : Ch E) {t : ea} {p v : V} {u : eu} (hp : AA E p u) (h : Fg P t E.H p = some v) :
  ∃ ad x, u = .pointer (some ad) ∧ (loadVar t ad).run P E.w = .ok x E.w ∧ AA E v x := by
 unfold Fg at h
 split at h
 ·split at h
  case h_2 => simp at h
  rename_i b off _ sz cs hb
  simp only [AA] at hp
  obtain ⟨_, hp, _⟩ := hp
  obtain ⟨x, h1, h2⟩ := Mg (P := P) (o := 0) (U2 hh hb) h
  rw [kb] at h1
  exact ⟨_, x, hp, h1, h2⟩
 ·simp only [AA] at hp
  obtain ⟨_, g, o, hp, hr⟩ := hp
  obtain ⟨x, h1, h2⟩ := Mg (P := P) (o := o) (fun i v hi => by
   obtain ⟨u, h1, h2, _⟩ := CI _ _ hr i v hi
   exact ⟨u, h1, h2⟩) h
  exact ⟨_, x, hp, h1, h2⟩
 ·simp at h
theorem JS {P : ep} {E : Ab} (hh : Ch E) {T : Nat → V} {ts : Array eu} (hT : ∀ i, AA E (T i) (ts.getD i undef)) : ∀ (l : List ir) (vs : List V), BP P E.H T l = some vs →
  ∃ us, (l.mapM (m := Sem) fun (r : ir) => match r with
   | .tmp t => pure (ts.getD t undef)
   | .cell a t => do loadVar t (← asAddr (ts.getD a undef))).run P E.w = .ok us E.w ∧ AM E vs us
 | [], vs, h => by
  simp only [BP, an] at h
  subst h
  exact ⟨[], by simp, by simp only [AM]⟩
 | .tmp t :: l, vs, h => by
  simp only [BP, dn] at h
  obtain ⟨ws, hw, rfl⟩ := h
  obtain ⟨us, h1, h2⟩ := JS hh hT l ws hw
  refine ⟨ts.getD t undef :: us, ?_, ?_⟩
  ·simp only [nu, Sem.run_bind, Sem.run_pure, Result.andThen_ok, h1]
  ·simp only [AM]; exact ⟨_, us, rfl, hT t, h2⟩
 | .cell a t :: l, vs, h => by
  simp only [BP, dj, dn] at h
  obtain ⟨v, hv, ws, hw, rfl⟩ := h
  obtain ⟨us, h1, h2⟩ := JS hh hT l ws hw
  obtain ⟨ad, x, k1, k2, k3⟩ := YX (P := P) hh (hT a) hv
  refine ⟨x :: us, ?_, ?_⟩
  ·have ha : (asAddr (ts.getD a undef)).run P E.w = .ok ad E.w := by rw [k1]; rfl
   simp only [nu, Sem.run_bind, Sem.run_pure, Result.andThen_ok, ha, k2, h1]
  ·simp only [AM]; exact ⟨_, us, rfl, k3, h2⟩
theorem V5 {P : ep} {E : Ab} (hh : Ch E) {T : Nat → V} {ts : Array eu} (hT : ∀ i, AA E (T i) (ts.getD i undef)) {fn : Func} {vs : List V} (h : BP P E.H T fn.results.toList = some vs) :
  ∃ u, (results fn ts).run P E.w = .ok u E.w ∧ AA E (FT vs) u := by
 obtain ⟨us, h1, h2⟩ := JS (P := P) hh hT _ _ h
 obtain ⟨hl, hg⟩ := Bd _ _ h2
 refine ⟨if h : us.toArray.size = 1 then us.toArray[0] else .tuple us.toArray, ?_, ?_⟩
 ·unfold results
  rw [Array.mapM_eq_mapM_toList]
  simp only [Sem.run_bind, Sem.run_map, Sem.run_pure]
  exact congrArg (fun r : Result (List eu) => (r.andThen fun a w' => Result.ok a.toArray w').andThen fun a w' => Result.ok (if h : a.size = 1 then a[0] else Value.tuple a) w') h1
 ·match us, hl, hg, h2 with
  | [], hl, hg, h2 =>
   have : vs = [] := ff hl
   subst this
   simp only [FT, AA]
   exact ⟨#[], rfl, by simp only [AM]⟩
  | [u], hl, hg, h2 =>
   obtain ⟨v, rfl⟩ := List.length_eq_one_iff.1 hl
   simp only [AM] at h2
   obtain ⟨u', tn, h3, h4, h5⟩ := h2
   simp only [js] at h3
   obtain ⟨rfl, _⟩ := h3
   simpa [FT] using h4
  | u1 :: u2 :: us, hl, hg, h2 =>
   have : FT vs = .Ei vs := by
    match vs, hl with
    | v1 :: v2 :: vs, _ => rfl
   rw [this]
   simp only [AA]
   exact ⟨(u1 :: u2 :: us).toArray, by simp, h2⟩
end
theorem Xs {E : Ab} {vs : List V} {us : List eu} (h : AM E vs us) (n : Nat) (i : Nat) : AA E (Ko vs i) ((us.toArray ++ nc n undef).getD i undef) := by
 obtain ⟨hl, hg⟩ := Bd _ _ h
 unfold Ko
 rw [ml, iq, Array.getElem?_append]
 by_cases hi : i < us.length
 ·rw [ru (by simpa using hi)]
  have hv : i < vs.length := by omega
  obtain ⟨u, h1, h2⟩ := hg i _ (dr hv)
  rw [dr hv, List.getElem?_toArray, h1]
  exact h2
 ·rw [rr (by simpa using hi), en (by omega)]
  rw [oo]
  split
  ·exact NQ E
  ·exact NQ E
theorem RT {b : Code} {N : Ms} (h : Fh b = some N) : b = .seq N.R0 (.seq (.seq (.region N.i #[N.o1, N.o2] false) (.cond (.tmp N.q) N.A .skip)) N.B) ∧
  N.o1.dst = some N.p ∧ N.o1.op = .move (.tmp N.z) ∧ N.o1.guard = none ∧ N.o2.dst = some N.q ∧ N.o2.op = .binOp .eql N.t (.tmp N.p) (.const (.slice none 0 0)) N.t2 ∧ N.o2.guard = none := by
 unfold Fh at h
 split at h
 case h_2 => cases h
 rename_i R0 i ops q' A B
 unfold WT at h
 split at h
 case h_2 => cases h
 rename_i o1 o2 hops
 split at h
 case h_2 => cases h
 rename_i p z q t p' t2 h1 h2 h3 h4 h5 h6
 split at h
 case isFalse => cases h
 rename_i hpq
 obtain ⟨rfl, rfl⟩ := hpq
 simp only [an] at h
 subst h
 have : ops = #[o1, o2] := by
  apply Array.toList_inj.1
  rw [hops]
 subst this
 exact ⟨rfl, h1, h2, h3, h4, h5, h6⟩
theorem WJ {E : Ab} {x : V} {u : eu} {n : Nat} (hr : AA E x u) (hn : D4 x = some n) : ∃ A cap, u = .slice A n cap ∧ (n ≠ 0 → A ≠ none) := by
 cases x with
 | lit lv len cs =>
  simp only [D4, an] at hn
  subst hn
  simp only [AA] at hr
  obtain ⟨_, A, cap, h1, _, h3⟩ := hr
  refine ⟨A, cap, h1, fun h => ?_⟩
  rcases h3 with h3 | ⟨g, o, h3, _⟩
  ·exact absurd h3 h
  ·rw [h3]; simp
 | tl len cs =>
  simp only [D4, an] at hn
  subst hn
  simp only [AA] at hr
  obtain ⟨A, h1, h3⟩ := hr
  refine ⟨A, _, h1, fun h => ?_⟩
  rcases h3 with h3 | ⟨g, o, h3, _⟩
  ·exact absurd h3 h
  ·rw [h3]; simp
 | snap b len cs =>
  simp only [D4, an] at hn
  subst hn
  simp only [AA] at hr
  obtain ⟨_, ⟨A, cap, h1, _, ⟨g, o, h3, _⟩, _⟩, _⟩ := hr
  exact ⟨A, cap, h1, fun _ => by rw [h3]; simp⟩
 | pre b m0 len cs =>
  simp only [D4, an] at hn
  subst hn
  simp only [AA] at hr
  obtain ⟨_, ⟨A, cap, h1, _, ⟨g, o, h3, _⟩, _⟩, _⟩ := hr
  exact ⟨A, cap, h1, fun _ => by rw [h3]; simp⟩
 | sl b off len =>
  simp only [D4, an] at hn
  subst hn
  simp only [AA] at hr
  obtain ⟨_, ⟨cap, h1, _⟩, _⟩ := hr
  exact ⟨_, cap, h1, fun _ => by simp⟩
 | _ => simp [D4] at hn
theorem Yq {P : ep} (w : je) {t e : ea} (A : Option Addr) (n c : Nat) (ht : P.underlying t = some (.slice e)) : (binOp .eql t (.slice A n c) (.slice none 0 0)).run P w = .ok (.bool A.isNone) w := by
 cases A with
 | none =>
  have h : ∀ d : Nat, (Op.equalIn (d + 1) t (.slice none n c) (.slice none 0 0)).run P w = .ok true w := fun d => by
   simp [Op.equalIn, run_underlying ht]
  simp only [binOp]
  simp [Op.equal, Op.maxDepth, h 9999]
 | some a =>
  have h : ∀ d : Nat, (Op.equalIn (d + 1) t (.slice (some a) n c) (.slice none 0 0)).run P w = .ok false w := fun d => by
   simp [Op.equalIn, run_underlying ht]
  simp only [binOp]
  simp [Op.equal, Op.maxDepth, h 9999]
theorem UD {c : Cx} (hm : c.P.follows .mixedOrders = true) (hΓ : Hh c.P c.hints c.Γ) (hK : GS c.Γ) {n : Nat} {rs : List ir} {b : Code} {E : Ab} {S : St} {a : Act} (hs : D1 c E S a) (hd : a.defers = []) {r : List V × A5} (h : Jv c n rs b S = some r) {Q : Exit → Act → je → Prop}
  (hn : ∀ E' a' S' (x : X), D1 c E' S' a' → B9 c E E' S'.H → a'.defers = [] → (x = .normal ∨ x = .ret) → BP c.P S'.H S'.T rs = some r.1 → r.2 = S'.H → Q x.ZT a' E'.w) : b.wp c.P Q a E.w := by
 unfold Jv at h
 split at h
 ·obtain ⟨x, S1, h1, h2, h3, h4⟩ := Ir h
  exact Ck hm hΓ hK n b hs hd h1 fun E' a' yh ha' zq => hn E' a' S1 x yh ha' zq h2 h3 h4
 ·rename_i N hN
  obtain ⟨rfl, k1, k2, k3, k4, k5, k6⟩ := RT hN
  split at h
  case h_2 => cases h
  rename_i S0 h0
  split at h
  case isFalse => cases h
  rename_i hc
  obtain ⟨hp, hq, hpq, hel⟩ := hc
  refine wp_seq (Ck hm hΓ hK n N.R0 hs hd h0 fun E1 a1 wx xq yy => ?_)
  obtain ⟨len, hlen⟩ : ∃ len, D4 (S0.T N.z) = some len := by
   cases hh : D4 (S0.T N.z) with
   | none => rw [hh] at h; cases h
   | some len => exact ⟨len, rfl⟩
  obtain ⟨A, cap, hu, hA⟩ := WJ (wx.tmps N.z) hlen
  obtain ⟨e, he⟩ := mr.1 hel
  have hin : O7 c n rs N S0 A.isNone = some r := by
   rw [hlen] at h
   cases len with
   | zero =>
    simp only [] at h
    split at h
    case isFalse => cases h
    rename_i tg
    cases A with
    | none => exact tg.trans h
    | some _ => exact h
   | succ m =>
    cases A with
    | none => exact absurd rfl (hA (by omega))
    | some _ => exact h
  obtain ⟨x, S2, h1, h2, h3, h4⟩ := Ir hin
  have zz : a1.eval (.tmp N.z) = .slice A len cap := hu
  refine wp_seq (wp_seq (wp_region ?_))
  show wpOps c.P #[N.o1, N.o2] _ [0, 1] a1 E1.w
  have hg1 : (#[N.o1, N.o2] : Array fc)[0]? = some N.o1 := rfl
  have si : (#[N.o1, N.o2] : Array fc)[1]? = some N.o2 := rfl
  simp only [wpOps, hg1, si]
  have hw1 : ∀ y : Nat → Option Bool, Region.wanted N.o1 y = true := fun y => by unfold Region.wanted; rw [k3]
  have hw2 : ∀ y : Nat → Option Bool, Region.wanted N.o2 y = true := fun y => by unfold Region.wanted; rw [k6]
  rw [ru (hw1 _)]
  refine .inl ?_
  have hs2 : D1 c E1 (S0.set N.p (S0.T N.z)) (a1.put (some N.p) (a1.eval (.tmp N.z))) := D1.put (H' := S0.H) wx (B9.refl wx) hp (wx.tmps N.z)
  have hrun1 : (execOp a1.eval N.o1).run c.P E1.w = .ok (.value (a1.eval (.tmp N.z))) E1.w := by simp only [execOp, k2]; rfl
  unfold Oper.wp
  rw [hrun1, Oper.upon_value, k1]
  rw [ru (hw2 _)]
  refine .inl ?_
  have vf : (a1.put (some N.p) (a1.eval (.tmp N.z))).eval (.tmp N.p) = .slice A len cap := by
   have sd : N.p < a1.tmps.size := by rw [wx.size]; exact hp
   show ((a1.tmps).setIfInBounds N.p (a1.eval (.tmp N.z))).getD N.p undef = _
   rw [QE, ru ⟨rfl, sd⟩, zz]
  have hrun2 : (execOp (a1.put (some N.p) (a1.eval (.tmp N.z))).eval N.o2).run c.P E1.w = .ok (.value (.bool A.isNone)) E1.w := by
   have tv : (a1.put (some N.p) (a1.eval (.tmp N.z))).eval (.const (.slice none 0 0)) = .slice none 0 0 := rfl
   simp only [execOp, k5, vf, tv]
   have hguard : eqGuard .eql N.t (.tmp N.p) (.const (.slice none 0 0)) (.slice A len cap) (.slice none 0 0) = pure () := rfl
   simp only [hguard, Sem.run_bind, Sem.run_pure, Result.andThen_ok, Yq E1.w A len cap (C4 he)]
  rw [hrun2, Oper.upon_value, k4]
  have hs3 : D1 c E1 ((S0.set N.p (S0.T N.z)).set N.q (.bool A.isNone)) ((a1.put (some N.p) (a1.eval (.tmp N.z))).put (some N.q) (.bool A.isNone)) := D1.put (H' := S0.H) (S := S0.set N.p (S0.T N.z)) hs2 (show B9 c E1 E1 S0.H from B9.refl wx) hq (by simp only [AA])
  have hfin : ∀ E' a', D1 c E' S2 a' → B9 c E1 E' S2.H → a'.defers = [] → Q x.ZT a' E'.w := fun E' a' yh ha' zq => hn E' a' S2 x yh (xq.trans ha') zq h2 h3 h4
  have uc : ((a1.put (some N.p) (a1.eval (.tmp N.z))).put (some N.q) (.bool A.isNone)).eval (.tmp N.q) = .bool A.isNone := by
   have := hs3.tmps N.q
   have hT : ((S0.set N.p (S0.T N.z)).set N.q (.bool A.isNone)).T N.q = .bool A.isNone := ru rfl
   rw [hT] at this
   simp only [AA] at this
   exact this
  cases hb : A.isNone with
  | true =>
   rw [hb] at h1 hs3 uc
   simp only [if_true] at h1
   refine wp_cond_true uc ?_
   simp only [Aq] at h1
   split at h1
   ·rename_i S3 h5
    refine Ck (c := c) hm hΓ hK n N.A hs3 yy h5 fun E' a' yh ha' zq => ?_
    exact Ck (c := c) hm hΓ hK n N.B yh zq h1 fun E'' a'' hs'' ha'' hd'' => hfin E'' a'' hs'' (ha'.trans ha'') hd''
   ·rename_i sq
    refine Ck (c := c) hm hΓ hK n N.A hs3 yy h1 fun E' a' yh ha' zq => ?_
    have := hfin E' a' yh ha' zq
    cases x with
    | normal => exact absurd h1 (sq S2)
    | exit i => exact this
    | ret => exact this
  | false =>
   rw [hb] at h1 hs3 uc
   simp only [ei, if_false] at h1
   refine wp_cond_false uc (wp_skip ?_)
   exact Ck (c := c) hm hΓ hK n N.B hs3 yy h1 hfin
theorem NM (P : ep) (hfol : P.follows .mixedOrders = true) (h : BX) : ∀ n, Hh P h (EL P h n)
  | 0 => ⟨fun k args H lk r hr => by simp [EL] at hr, fun k args H lk L v H' hr => by simp [EL] at hr⟩
  | n + 1 => by
    have ih := NM P hfol h n
    refine ⟨fun k args H lk r hr => ?_, fun k args H lk L v H' hr E0 us hH sn hn hm hh hlocks xh => ?_⟩
    · simp only [EL] at hr
      split at hr
      case h_2 => cases hr
      rename_i fn zo
      split at hr
      case h_2 => cases hr
      rename_i body xu
      split at hr
      case isFalse => cases hr
      rename_i hc
      exact ⟨fn, zo, by rw [xu]; rfl, hc.2⟩
    · simp only [EL] at hr
      split at hr
      case h_2 => cases hr
      rename_i fn zo
      split at hr
      case h_2 => cases hr
      rename_i body xu
      split at hr
      case isFalse => cases hr
      rename_i hc
      obtain ⟨hlen, ud⟩ := hc
      subst hH sn
      let c : Cx := { P := P, hints := h, fn := k, ntmps := fn.ntmps, base := E0.H.length, lk := E0.lk ++ [L], Γ := EL P h n }
      have hal : args.length = us.length := (Bd _ _ xh).1
      have hs : D1 c (E0.lock L) { T := Ko args, H := E0.H } { tmps := us.toArray ++ nc (fn.ntmps - us.toArray.size) undef, defers := [] } :=
        { H := rfl
          lk := rfl
          n := hn
          m := by show E0.m + 1 = (E0.lk ++ [L]).length; rw [hm]; simp
          tmps := fun i => Xs xh _ i
          size := by simp; show us.length + (fn.ntmps - us.length) = fn.ntmps; omega
          heap := hh.lock L
          base := dz _
          Dv := hlocks
          deep := by show 0 < (E0.lk ++ [L]).length; simp }
      simp only [dj] at hr
      obtain ⟨q, hex, hl⟩ := hr
      refine calls_of_wp zo xu ?_
      refine UD (c := c) hfol ih (V8 P h n) hs rfl hex fun E' a' S x yh ha' zq hx wy hq => ?_
      rw [hq] at hl
      rw [← yh.H] at wy
      obtain ⟨u0, zz, hr0⟩ := V5 (P := P) yh.heap yh.tmps wy
      have hD : SW c E0 E' L S.H :=
        { XI := hh, n0 := hn, m0 := hm, base := hn.symm, lk := rfl
          Dv := fun l hl x hx => by rw [hn]; exact hlocks l (eb.2 (.inl hl)) x hx
          after := ha' }
      have hdl : (E0.lk ++ [L]).length = E0.m + 1 := by rw [hm]; simp
      have key : ∃ E1 : Ab, E1.w = E'.w ∧ VT h k L E0 E1 H' ∧ AA E1 v u0 := by
        unfold En at hl
        split at hl
        · rename_i hg
          split at hl
          case isFalse => cases hl
          rename_i td
          simp only [an, dk] at hl
          obtain ⟨rfl, rfl⟩ := hl
          rw [hdl] at td
          obtain ⟨E1, k1, k2, k3⟩ := Un hD hg hr0 td
          refine ⟨E1, k1, ?_, k3⟩
          rw [← hn, hdl, e7]
          exact k2
        · rename_i hg
          simp only [dn, Prod.exists, dk] at hl
          obtain ⟨v1, H2, news, h1, rfl, rfl⟩ := hl
          rw [hdl, ← hn] at h1
          obtain ⟨E1, k1, k2, k3⟩ := YT hD (by simpa using hg) hr0 h1
          exact ⟨E1, k1, by rw [← hn]; exact k2, k3⟩
      obtain ⟨E1, k1, k2, k3⟩ := key
      rcases hx with rfl | rfl
      · exact ⟨zq, u0, zz, E1, k1, k2, k3⟩
      · exact ⟨zq, u0, zz, E1, k1, k2, k3⟩
abbrev kC := jc → List V → A5 → Lk → Option (V × A5)
def lM (Γ Γ' : kC) : Prop := ∀ k a H lk r, Γ k a H lk = some r → Γ' k a H lk = some r
def Cx.at (c : Cx) (Γ : kC) : Cx := { c with Γ := Γ }
theorem r9 {c : Cx} {Γ : kC} (hG : lM c.Γ Γ) {o : fc} {S : St} {r : V × A5} (h : Cn c o S = some r) : Cn (c.at Γ) o S = some r := by
 by_cases hc : FF o = true
 ·unfold FF at hc
  split at hc
  case h_2 => cases hc
  rename_i f args ats ho
  simp only [Cn, ho] at h ⊢
  split at h
  case h_2 => cases h
  rename_i g caps hf
  simp only [dj, Prod.exists] at h
  obtain ⟨vs, wy, as, M, H1, hl, hg⟩ := h
  simp only [hf, wy, ba]
  have : AW (c.at Γ) (c.hints.Df g) S.H (vs ++ caps) = AW c (c.hints.Df g) S.H (vs ++ caps) := by
   have : ∀ (vs : List V) (ms : List SZ) (H : A5), AW (c.at Γ) ms H vs = AW c ms H vs := by
    intro vs
    induction vs with
    | nil => intro ms H; rfl
    | cons v vs ih =>
     intro ms H
     simp only [AW]
     have : E8 (c.at Γ) (ms.headD .J1) H v = E8 c (ms.headD .J1) H v := rfl
     rw [this]
     congr 1
     funext r
     rw [ih]
   exact this _ _ _
  show (AW (c.at Γ) (c.hints.Df g) S.H (vs ++ caps)).bind _ = _
  rw [this, hl]
  exact hG _ _ _ _ _ hg
 ·have : Cn (c.at Γ) o S = Cn c o S := by
   have em : ∀ (ps : List (Nat × V)) (H : A5), Cd (c.at Γ) H ps = Cd c H ps := by
    intro ps
    induction ps with
    | nil => intro H; rfl
    | cons p ps ih =>
     intro H
     obtain ⟨i, v⟩ := p
     simp only [Cd]
     have : Fb (c.at Γ) H v = Fb c H v := rfl
     rw [this]
     congr 1
     funext r
     rw [ih]
   obtain ⟨dst, op, ty, pos, aft, gd⟩ := o
   cases op <;> try rfl
   case buildSlice t n ps =>
    simp only [Cn]
    congr 1
    funext ps
    rw [em]
    rfl
   case makeMap t r => cases r <;> rfl
   case call k =>
    obtain ⟨callee, args, ats⟩ := k
    cases callee with
    | value f => exact absurd rfl hc
    | builtin b => cases b <;> rfl
    | invoke r n => rfl
  rw [this]
  exact h
theorem Ub {c : Cx} {Γ : kC} (hG : lM c.Γ Γ) {ops : Array fc} {o : fc} {S S' : St} (h : C1 c ops o S = some S') : C1 (c.at Γ) ops o S = some S' := by
 rw [Ee] at h ⊢
 simp only [dj, Prod.exists] at h
 obtain ⟨v, H', h1, h2⟩ := h
 unfold Dq at h1
 simp only [dj] at h1
 obtain ⟨b, hb, h1⟩ := h1
 have : Dq (c.at Γ) ops o S = some (v, H') := by
  unfold Dq
  rw [hb, ba]
  cases b with
  | true => simp only [if_true] at h1 ⊢; exact r9 hG h1
  | false => simpa using h1
 rw [this]
 exact h2
theorem WV {Γ : kC} {cf : Nat → Cx} (hG : ∀ i, lM (cf i).Γ Γ) {ops : Array fc} : ∀ (l : List Nat) {S S' : St}, Dr cf ops l S = some S' → Dr (fun i => (cf i).at Γ) ops l S = some S'
 | [], S, S', h => h
 | i :: l, S, S', h => by
  simp only [Dr] at h ⊢
  split at h
  ·cases h
  simp only [dj] at h
  obtain ⟨S1, h1, h2⟩ := h
  rw [Ub (hG i) h1]
  exact WV hG l h2
theorem MQ {f g : St → Option (X × St)} (hfg : ∀ S r, f S = some r → g S = some r) : ∀ {n m : Nat}, n ≤ m → ∀ {S : St} {r : X × St}, FR f n S = some r → FR g m S = some r
 | 0, m, _, S, r, h => by simp [FR] at h
 | n + 1, 0, yg, S, r, h => by omega
 | n + 1, m + 1, yg, S, r, h => by
  simp only [FR] at h ⊢
  split at h
  ·rename_i S1 h1
   rw [hfg _ _ h1]
   exact MQ hfg (by omega) h
  ·rename_i sq
   rw [hfg _ _ h]
   split
   ·rename_i S1 he
    simp only [an] at he
    subst he
    exact absurd h (sq S1)
   ·rfl
theorem ES {c : Cx} {Γ : kC} (hG : lM c.Γ Γ) {n m : Nat} (yg : n ≤ m) : ∀ (b : Code) {S : St} {r : X × St}, Aq c n b S = some r → Aq (c.at Γ) m b S = some r
 | .skip, S, r, h => h
 | .region id ops draw, S, r, h => by
  simp only [Aq, dn] at h ⊢
  obtain ⟨S1, h1, rfl⟩ := h
  refine ⟨S1, ?_, rfl⟩
  split at h1
  ·rename_i hd
   rw [ru hd]
   split at h1
   ·rename_i vm
    rw [ru (show Js (c.at Γ).lits ops = true from vm)]
    rw [dj] at h1 ⊢
    obtain ⟨S2, h1, h2⟩ := h1
    exact ⟨S2, WV (cf := Fv c ops) (fun _ => hG) _ h1, h2⟩
   ·cases h1
  ·rename_i hd
   rw [rr hd]
   exact WV (cf := fun _ => c) (fun _ => hG) _ h1
 | .seq p q, S, r, h => by
  simp only [Aq] at h ⊢
  split at h
  ·rename_i S1 h1
   rw [ES hG yg p h1]
   exact ES hG yg q h
  ·rename_i sq
   rw [ES hG yg p h]
   split
   ·rename_i S1 he
    simp only [an] at he
    subst he
    exact absurd h (sq S1)
   ·rfl
 | .cond y p q, S, r, h => by
  simp only [Aq] at h ⊢
  split at h
  ·exact ES hG yg p h
  ·exact ES hG yg q h
  ·cases h
 | .block id p, S, r, h => by
  simp only [Aq] at h ⊢
  split at h
  ·rename_i i S1 h1
   rw [ES hG yg p h1]
   exact h
  ·rename_i sq
   rw [ES hG yg p h]
   split
   ·rename_i i S1 he
    simp only [an] at he
    subst he
    exact absurd h (sq i S1)
   ·rfl
 | .loop p, S, r, h => by
  simp only [Aq] at h ⊢
  exact MQ (fun S r h => ES hG yg p h) yg h
 | .exit id, S, r, h => h
 | .ret, S, r, h => h
 | .label _, _, _, h => by simp [Aq] at h
 | .goto _, _, _, h => by simp [Aq] at h
 | .scope _, _, _, h => by simp [Aq] at h
 | .refuse _, _, _, h => by simp [Aq] at h
 | .rangeFunc .., _, _, h => by simp [Aq] at h
theorem cH {P : ep} {rs : List ir} {x y : Option (X × St)} (h : ∀ r, x = some r → y = some r) {r : List V × A5} (hr : L8 P rs x = some r) : L8 P rs y = some r := by
 obtain ⟨e, S, h1, h2, h3, h4⟩ := Ir hr
 rw [h _ h1]
 obtain ⟨vs, H⟩ := r
 simp only [] at h3 h4
 subst h4
 rcases h2 with rfl | rfl
 ·simp only [L8, h3, dq]
 ·simp only [L8, h3, dq]
theorem ZS {c : Cx} {Γ : kC} (hG : lM c.Γ Γ) {n m : Nat} (yg : n ≤ m) {rs : List ir} {b : Code} {S : St} {r : List V × A5} (h : Jv c n rs b S = some r) : Jv (c.at Γ) m rs b S = some r := by
 unfold Jv at h ⊢
 have hw : ∀ N S bb r, O7 c n rs N S bb = some r → O7 (c.at Γ) m rs N S bb = some r := fun N S bb r hr => cH (fun q hq => ES hG yg _ hq) hr
 cases hN : Fh b with
 | none =>
  rw [hN] at h
  simp only [] at h ⊢
  exact cH (fun q hq => ES hG yg _ hq) h
 | some N =>
  rw [hN] at h
  simp only [] at h ⊢
  split at h
  case h_2 => cases h
  rename_i S0 h0
  rw [ES hG yg _ h0]
  simp only []
  split at h
  case isFalse => cases h
  rename_i hc
  have wq : N.p < (c.at Γ).ntmps ∧ N.q < (c.at Γ).ntmps ∧ N.p ≠ N.q ∧ (B0 (c.at Γ).P N.t).isSome = true := hc
  rw [ru wq]
  split at h
  ·exact hw _ _ _ _ h
  ·split at h
   case isFalse => cases h
   rename_i hs
   have h2 := hw _ _ _ _ h
   have h1 := hw _ _ _ _ (hs.trans h)
   rw [ru (h1.trans h2.symm)]
   exact h2
  ·cases h
theorem Tb (P : ep) (h : BX) : ∀ {n m : Nat}, n ≤ m → lM (EL P h n) (EL P h m)
  | 0, m, _, k, a, H, lk, r, hr => by simp [EL] at hr
  | n + 1, 0, yg, _, _, _, _, _, _ => by omega
  | n + 1, m + 1, yg, k, a, H, lk, r, hr => by
    have ih : lM (EL P h n) (EL P h m) := Tb P h (by omega)
    simp only [EL] at hr ⊢
    split at hr
    case h_2 => cases hr
    rename_i fn zo
    split at hr
    case h_2 => cases hr
    rename_i body xu
    split at hr
    case isFalse => cases hr
    rename_i hc
    simp only [xu, hc, and_self, if_true]
    simp only [dj] at hr ⊢
    obtain ⟨q, h1, h2⟩ := hr
    exact ⟨q, ZS (c := { P := P, hints := h, fn := k, ntmps := fn.ntmps, base := H.length, lk := lk, Γ := EL P h n }) ih (by omega : n ≤ m) h1, h2⟩
open Classical in
noncomputable def Aw (P : ep) (h : BX) : kC := fun k a H lk =>
 if hx : ∃ n r, EL P h n k a H lk = some r then some (iy (fz hx)) else none
theorem XX {P : ep} {h : BX} {n : Nat} {k : jc} {a : List V} {H : A5} {lk : Lk} {r : V × A5} (hr : EL P h n k a H lk = some r) : Aw P h k a H lk = some r := by
 have hx : ∃ n r, EL P h n k a H lk = some r := ⟨n, r, hr⟩
 unfold Aw
 rw [dif_pos hx]
 have h1 := fz (fz hx)
 have h2 := Tb P h (kz n (iy hx)) _ _ _ _ _ hr
 have h3 := Tb P h (km n (iy hx)) _ _ _ _ _ h1
 rw [← h3, h2]
theorem Ta {P : ep} {h : BX} {k : jc} {a : List V} {H : A5} {lk : Lk} {r : V × A5} (hr : Aw P h k a H lk = some r) : ∃ n, EL P h n k a H lk = some r := by
 unfold Aw at hr
 split at hr
 ·rename_i hx
  simp only [an] at hr
  exact ⟨_, hr ▸ fz (fz hx)⟩
 ·cases hr
theorem Wc (P : ep) (hfol : P.follows .mixedOrders = true) (h : BX) : Hh P h (Aw P h) where
 body := fun k args H lk r hr => let ⟨n, hn⟩ := Ta hr; (NM P hfol h n).body k args H lk r hn
 run := fun k args H lk L v H' hr => let ⟨n, hn⟩ := Ta hr; (NM P hfol h n).run k args H lk L v H' hn
theorem j8 {P : ep} {h : BX} {c : Cx} (hc : c.Γ = Aw P h) {o : fc} {S : St} {r : V × A5} (hr : Cn c o S = some r) : ∃ n, Cn (c.at (EL P h n)) o S = some r := by
 by_cases td : FF o = true
 ·have hh := hr
  unfold FF at td
  split at td
  case h_2 => cases td
  rename_i f args ats ho
  simp only [Cn, ho] at hr
  split at hr
  case h_2 => cases hr
  rename_i g caps hf
  simp only [dj, Prod.exists] at hr
  obtain ⟨vs, wy, as, M, H1, hl, hg⟩ := hr
  rw [hc] at hg
  obtain ⟨n, hn⟩ := Ta hg
  refine ⟨n, ?_⟩
  have : ∀ (vs : List V) (ms : List SZ) (H : A5), AW (c.at (EL P h n)) ms H vs = AW c ms H vs := by
   intro vs
   induction vs with
   | nil => intro ms H; rfl
   | cons v vs ih =>
    intro ms H
    simp only [AW]
    have : E8 (c.at (EL P h n)) (ms.headD .J1) H v = E8 c (ms.headD .J1) H v := rfl
    rw [this]
    congr 1
    funext r
    rw [ih]
  simp only [Cn, ho, hf, wy, ba]
  show (AW (c.at (EL P h n)) (c.hints.Df g) S.H (vs ++ caps)).bind _ = _
  rw [this, hl]
  exact hn
 ·refine ⟨0, ?_⟩
  have em : ∀ (ps : List (Nat × V)) (H : A5), Cd (c.at (EL P h 0)) H ps = Cd c H ps := by
   intro ps
   induction ps with
   | nil => intro H; rfl
   | cons p ps ih =>
    intro H
    obtain ⟨i, v⟩ := p
    simp only [Cd]
    have : Fb (c.at (EL P h 0)) H v = Fb c H v := rfl
    rw [this]
    congr 1
    funext r
    rw [ih]
  have : Cn (c.at (EL P h 0)) o S = Cn c o S := by
   obtain ⟨dst, op, ty, pos, aft, gd⟩ := o
   cases op <;> try rfl
   case buildSlice t n ps =>
    simp only [Cn]
    congr 1
    funext ps
    rw [em]
    rfl
   case makeMap t r => cases r <;> rfl
   case call k =>
    obtain ⟨callee, args, ats⟩ := k
    cases callee with
    | value f => exact absurd rfl td
    | builtin b => cases b <;> rfl
    | invoke r n => rfl
  rw [this]
  exact hr
theorem W9 {P : ep} {h : BX} {c : Cx} (hc : c.Γ = Aw P h) {ops : Array fc} {o : fc} {S S' : St} (hr : C1 c ops o S = some S') : ∃ n, ∀ m, n ≤ m → C1 (c.at (EL P h m)) ops o S = some S' := by
 rw [Ee] at hr
 simp only [dj, Prod.exists] at hr
 obtain ⟨v, H', h1, h2⟩ := hr
 unfold Dq at h1
 simp only [dj] at h1
 obtain ⟨b, hb, h1⟩ := h1
 have key : ∃ n, Dq (c.at (EL P h n)) ops o S = some (v, H') := by
  unfold Dq
  simp only [hb, ba]
  cases b with
  | true => simp only [if_true] at h1 ⊢; exact j8 hc h1
  | false => exact ⟨0, by simpa using h1⟩
 obtain ⟨n, hn⟩ := key
 refine ⟨n, fun m hm => ?_⟩
 have : C1 (c.at (EL P h n)) ops o S = some S' := by
  rw [Ee, hn]
  exact h2
 exact Ub (c := c.at (EL P h n)) (Tb P h hm) this
theorem Qs {P : ep} {h : BX} {cf : Nat → Cx} (hc : ∀ i, (cf i).Γ = Aw P h) {ops : Array fc} : ∀ (l : List Nat) {S S' : St}, Dr cf ops l S = some S' → ∃ n, ∀ m, n ≤ m → Dr (fun i => (cf i).at (EL P h m)) ops l S = some S'
 | [], S, S', hr => ⟨0, fun _ _ => hr⟩
 | i :: l, S, S', hr => by
  simp only [Dr] at hr
  split at hr
  ·cases hr
  rename_i o ho
  simp only [dj] at hr
  obtain ⟨S1, h1, h2⟩ := hr
  obtain ⟨n1, k1⟩ := W9 (hc i) h1
  obtain ⟨n2, k2⟩ := Qs hc l h2
  refine ⟨max n1 n2, fun m hm => ?_⟩
  simp only [Dr, ho, k1 m (by omega), ba]
  exact k2 m (by omega)
theorem Rp {F : Nat → St → Option (X × St)} {f : St → Option (X × St)} (hf : ∀ S r, f S = some r → ∃ n, ∀ m, n ≤ m → F m S = some r) : ∀ (j : Nat) {S : St} {r : X × St}, FR f j S = some r → ∃ n, ∀ m, n ≤ m → FR (F m) j S = some r
 | 0, S, r, h => by simp [FR] at h
 | j + 1, S, r, h => by
  simp only [FR] at h
  split at h
  ·rename_i S1 h1
   obtain ⟨n1, k1⟩ := hf _ _ h1
   obtain ⟨n2, k2⟩ := Rp hf j h
   refine ⟨max n1 n2, fun m hm => ?_⟩
   simp only [FR, k1 m (by omega)]
   exact k2 m (by omega)
  ·rename_i sq
   obtain ⟨n1, k1⟩ := hf _ _ h
   refine ⟨n1, fun m hm => ?_⟩
   simp only [FR, k1 m hm]
   split
   ·rename_i S1 he
    simp only [an] at he
    subst he
    exact absurd h (sq S1)
   ·rfl
theorem FN {P : ep} {h : BX} {c : Cx} (hc : c.Γ = Aw P h) (j : Nat) : ∀ (b : Code) {S : St} {r : X × St}, Aq c j b S = some r → ∃ n, ∀ m, n ≤ m → Aq (c.at (EL P h m)) m b S = some r
 | .skip, S, r, hr => ⟨0, fun _ _ => hr⟩
 | .region id ops draw, S, r, hr => by
  simp only [Aq, dn] at hr ⊢
  obtain ⟨S1, h1, rfl⟩ := hr
  split at h1
  ·rename_i hd
   split at h1
   ·rename_i vm
    rw [dj] at h1
    obtain ⟨S2, h1, h2⟩ := h1
    obtain ⟨n, k⟩ := Qs (cf := Fv c ops) (fun _ => hc) _ h1
    exact ⟨n, fun m hm => ⟨S1, by rw [ru hd, ru (show Js (c.at (EL P h m)).lits ops = true from vm), dj]; exact ⟨S2, k m hm, h2⟩, rfl⟩⟩
   ·cases h1
  ·rename_i hd
   obtain ⟨n, k⟩ := Qs (cf := fun _ => c) (fun _ => hc) _ h1
   exact ⟨n, fun m hm => ⟨S1, by rw [rr hd]; exact k m hm, rfl⟩⟩
 | .seq p q, S, r, hr => by
  simp only [Aq] at hr ⊢
  split at hr
  ·rename_i S1 h1
   obtain ⟨n1, k1⟩ := FN hc j p h1
   obtain ⟨n2, k2⟩ := FN hc j q hr
   refine ⟨max n1 n2, fun m hm => ?_⟩
   rw [k1 m (by omega)]
   exact k2 m (by omega)
  ·rename_i sq
   obtain ⟨n1, k1⟩ := FN hc j p hr
   refine ⟨n1, fun m hm => ?_⟩
   rw [k1 m hm]
   split
   ·rename_i S1 he
    simp only [an] at he
    subst he
    exact absurd hr (sq S1)
   ·rfl
 | .cond y p q, S, r, hr => by
  simp only [Aq] at hr ⊢
  split at hr
  ·exact FN hc j p hr
  ·exact FN hc j q hr
  ·cases hr
 | .block id p, S, r, hr => by
  simp only [Aq] at hr ⊢
  split at hr
  ·rename_i i S1 h1
   obtain ⟨n1, k1⟩ := FN hc j p h1
   refine ⟨n1, fun m hm => ?_⟩
   rw [k1 m hm]
   exact hr
  ·rename_i sq
   obtain ⟨n1, k1⟩ := FN hc j p hr
   refine ⟨n1, fun m hm => ?_⟩
   rw [k1 m hm]
   split
   ·rename_i i S1 he
    simp only [an] at he
    subst he
    exact absurd hr (sq i S1)
   ·rfl
 | .loop p, S, r, hr => by
  simp only [Aq] at hr ⊢
  obtain ⟨n, k⟩ := Rp (F := fun m => Aq (c.at (EL P h m)) m p) (fun S r h => FN hc j p h) j hr
  exact ⟨max n j, fun m hm => MQ (fun _ _ h => h) (by omega) (k m (by omega))⟩
 | .exit id, S, r, hr => ⟨0, fun _ _ => hr⟩
 | .ret, S, r, hr => ⟨0, fun _ _ => hr⟩
 | .label _, _, _, h => by simp [Aq] at h
 | .goto _, _, _, h => by simp [Aq] at h
 | .scope _, _, _, h => by simp [Aq] at h
 | .refuse _, _, _, h => by simp [Aq] at h
 | .rangeFunc .., _, _, h => by simp [Aq] at h
open Classical in
noncomputable def EN (c : Cx) (b : Code) (S : St) : Option (X × St) :=
 if hx : ∃ n r, Aq c n b S = some r then some (iy (fz hx)) else none
theorem CG {c : Cx} {n : Nat} {b : Code} {S : St} {r : X × St} (hr : Aq c n b S = some r) : EN c b S = some r := by
 have hx : ∃ n r, Aq c n b S = some r := ⟨n, r, hr⟩
 unfold EN
 rw [dif_pos hx]
 have h1 := fz (fz hx)
 have h2 := ES (c := c) (Γ := c.Γ) (fun _ _ _ _ _ h => h) (kz n (iy hx)) b hr
 have h3 := ES (c := c) (Γ := c.Γ) (fun _ _ _ _ _ h => h) (km n (iy hx)) b h1
 rw [← h3, h2]
theorem Ea {c : Cx} {b : Code} {S : St} {r : X × St} (hr : EN c b S = some r) : ∃ n, ∀ m, n ≤ m → Aq c m b S = some r := by
 unfold EN at hr
 split at hr
 ·rename_i hx
  simp only [an] at hr
  exact ⟨_, fun m hm => ES (c := c) (Γ := c.Γ) (fun _ _ _ _ _ h => h) hm b (hr ▸ fz (fz hx))⟩
 ·cases hr
theorem Ip {c : Cx} {b : Code} {S : St} {x : Option (X × St)} (h1 : ∀ r, x = some r → EN c b S = some r) (h2 : ∀ n r, Aq c n b S = some r → x = some r) : EN c b S = x := by
 cases he : EN c b S with
 | none =>
  cases x with
  | none => rfl
  | some r => rw [h1 r rfl] at he; cases he
 | some r =>
  obtain ⟨n, hn⟩ := Ea he
  exact (h2 n r (hn n (dz _))).symm
section
variable {c : Cx} {S : St}
theorem Vo : EN c .skip S = some (.normal, S) := CG (n := 0) rfl
theorem Vm (id : Nat) : EN c (.exit id) S = some (.exit id, S) := CG (n := 0) rfl
theorem Y2 : EN c .ret S = some (.ret, S) := CG (n := 0) rfl
theorem Sq (id : Nat) (ops : Array fc) : EN c (.region id ops false) S = (Dr (fun _ => c) ops (gj ops.size) S).map fun S' => (.normal, S') :=
 Ip (fun r h => CG (n := 0) (by simpa only [Aq, ei, if_false] using h)) fun n r h => by simpa only [Aq, ei, if_false] using h
theorem Vl (id : Nat) (ops : Array fc) : EN c (.region id ops true) S = if Js c.lits ops then ((Dr (Fv c ops) ops (RV c.lits ops) S).bind fun S' => if LN ops c.base S'.T then some S' else none).map fun S' => (.normal, S') else none := by
 refine Ip (fun r h => CG (n := 0) ?_) fun n r h => ?_
 ·simp only [Aq, if_true]
  split at h
  ·rename_i hd; rw [ru hd]; exact h
  ·cases h
 ·simp only [Aq, if_true] at h
  split
  ·rename_i hd; rw [ru hd] at h; exact h
  ·rename_i hd; rw [rr hd] at h; exact h
def VK (x : Option (X × St)) (k : St → Option (X × St)) : Option (X × St) :=
 match x with
 | some (.normal, S) => k S
 | r => r
theorem Y3 (p q : Code) : EN c (.seq p q) S = VK (EN c p S) fun S' => EN c q S' := by
 refine Ip (fun r h => ?_) fun n r h => ?_
 ·unfold VK at h
  split at h
  ·rename_i S1 h1
   obtain ⟨n1, k1⟩ := Ea h1
   obtain ⟨n2, k2⟩ := Ea h
   refine CG (n := max n1 n2) ?_
   simp only [Aq, k1 _ (kz ..), k2 _ (km ..)]
  ·rename_i sq
   obtain ⟨n1, k1⟩ := Ea h
   refine CG (n := n1) ?_
   simp only [Aq, k1 _ (dz _)]
   split
   ·rename_i S1 he
    simp only [an] at he
    subst he
    exact absurd h (sq S1)
   ·rfl
 ·simp only [Aq] at h
  split at h
  ·rename_i S1 h1
   rw [CG h1]
   exact CG h
  ·rename_i sq
   rw [CG h]
   obtain ⟨x, S1⟩ := r
   cases x with
   | normal => exact absurd h (sq S1)
   | exit i => rfl
   | ret => rfl
theorem Vk (y : ed) (p q : Code) : EN c (.cond y p q) S = match ev S.T y with
  | some (.bool true) => EN c p S
  | some (.bool false) => EN c q S
  | _ => none := by
 refine Ip (fun r h => ?_) fun n r h => ?_
 ·split at h
  ·rename_i hy
   obtain ⟨n, k⟩ := Ea h
   exact CG (n := n) (by simp only [Aq, hy, k n (dz _)])
  ·rename_i hy
   obtain ⟨n, k⟩ := Ea h
   exact CG (n := n) (by simp only [Aq, hy, k n (dz _)])
  ·cases h
 ·simp only [Aq] at h
  split at h
  ·rename_i hy; simp only [hy]; exact CG h
  ·rename_i hy; simp only [hy]; exact CG h
  ·cases h
theorem UC (id : Nat) (p : Code) : EN c (.block id p) S = match EN c p S with
  | some (.exit i, S') => if i = id then some (.normal, S') else some (.exit i, S')
  | r => r := by
 refine Ip (fun r h => ?_) fun n r h => ?_
 ·split at h
  ·rename_i i S1 h1
   obtain ⟨n, k⟩ := Ea h1
   exact CG (n := n) (by simp only [Aq, k n (dz _)]; exact h)
  ·rename_i sq
   obtain ⟨n, k⟩ := Ea h
   refine CG (n := n) ?_
   simp only [Aq, k n (dz _)]
   split
   ·rename_i i S1 he
    simp only [an] at he
    subst he
    exact absurd h (sq i S1)
   ·rfl
 ·simp only [Aq] at h
  split at h
  ·rename_i i S1 h1
   rw [CG h1]
   exact h
  ·rename_i sq
   rw [CG h]
   obtain ⟨x, S1⟩ := r
   cases x with
   | normal => rfl
   | exit i => exact absurd h (sq i S1)
   | ret => rfl
theorem Vn (p : Code) : EN c (.loop p) S = VK (EN c p S) fun S' => EN c (.loop p) S' := by
 refine Ip (fun r h => ?_) fun n r h => ?_
 ·unfold VK at h
  split at h
  ·rename_i S1 h1
   obtain ⟨n1, k1⟩ := Ea h1
   obtain ⟨n2, k2⟩ := Ea h
   refine CG (n := max n1 n2 + 1) ?_
   have h3 := k2 (max n1 n2) (km ..)
   simp only [Aq] at h3
   simp only [Aq, FR, k1 (max n1 n2 + 1) (by omega)]
   exact MQ (fun S r h => ES (c := c) (Γ := c.Γ) (fun _ _ _ _ _ h => h) (mg _) p h) (dz _) h3
  ·rename_i sq
   obtain ⟨n1, k1⟩ := Ea h
   refine CG (n := n1 + 1) ?_
   simp only [Aq, FR, k1 (n1 + 1) (mg _)]
   split
   ·rename_i S1 he
    simp only [an] at he
    subst he
    exact absurd h (sq S1)
   ·rfl
 ·simp only [Aq] at h
  cases n with
  | zero => simp [FR] at h
  | succ n =>
   simp only [FR] at h
   split at h
   ·rename_i S1 h1
    rw [CG h1]
    refine CG (n := n + 1) ?_
    simp only [Aq]
    exact MQ (fun _ _ h => h) (mg _) h
   ·rename_i sq
    rw [CG h]
    obtain ⟨x, S1⟩ := r
    cases x with
    | normal => exact absurd h (sq S1)
    | exit i => rfl
    | ret => rfl
end
noncomputable def Ar (P : ep) (h : BX) (k ntmps base : Nat) (lk : Lk) : Cx := { P := P, hints := h, fn := k, ntmps := ntmps, base := base, lk := lk, Γ := Aw P h }
def oX (P : ep) (h : BX) (k base d : Nat) (rs : List ir) (x : Option (X × St)) : Option (V × A5) :=
 match x with
 | some (.normal, S) | some (.ret, S) => (BP P S.H S.T rs).bind fun vs => En h k base d (FT vs) S.H
 | _ => none
theorem Wb {P : ep} {h : BX} {k : jc} {fn : Func} {body : Code} (zo : P.funcs[k]? = some fn) (hb : fn.body = some body) {args : List V} {H : A5} {lk : Lk} (hns : Fh body = none) (hlen : args.length ≤ fn.ntmps) (ud : (fn.name == "runtime.NumGoroutine") = false) {r : V × A5}
    (hr : oX P h k H.length lk.length fn.results.toList (EN (Ar P h k fn.ntmps H.length lk) body { T := Ko args, H := H }) = some r) : Aw P h k args H lk = some r := by
  have main : ∀ x S, EN (Ar P h k fn.ntmps H.length lk) body { T := Ko args, H := H } = some (x, S) → (x = .normal ∨ x = .ret) → ((BP P S.H S.T fn.results.toList).bind fun vs => En h k H.length lk.length (FT vs) S.H) = some r → Aw P h k args H lk = some r := by
    intro x S hx hxx hl
    obtain ⟨n, hn⟩ := Ea hx
    obtain ⟨m, hm⟩ := FN (P := P) (h := h) rfl n body (hn n (dz _))
    refine XX (n := m + 1) ?_
    simp only [EL, zo, hb]
    rw [ru ⟨hlen, ud⟩]
    have := hm m (dz _)
    unfold Cx.at Ar at this
    simp only [] at this
    unfold Jv
    rw [hns]
    simp only []
    rw [this]
    rcases hxx with rfl | rfl
    · simp only [L8]
      simp only [dj] at hl
      obtain ⟨vs, h1, h2⟩ := hl
      simp only [h1, dq, ba, h2]
    · simp only [L8]
      simp only [dj] at hl
      obtain ⟨vs, h1, h2⟩ := hl
      simp only [h1, dq, ba, h2]
  unfold oX at hr
  split at hr
  · rename_i S hx; exact main _ S hx (.inl rfl) hr
  · rename_i S hx; exact main _ S hx (.inr rfl) hr
  · cases hr
end Go.Proofs.YtjklepgidjimfaaGreat.K
