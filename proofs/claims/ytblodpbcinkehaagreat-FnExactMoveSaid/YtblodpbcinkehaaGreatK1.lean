/-
 An interpreter of the Go code, proved sound, and the rules by which typed functions are shown to be what it computes. Part 2 of 3. No conditions.
-/
import Derived.Test.YtblodpbcinkehaaGreatK0
set_option linter.unusedVariables false
set_option linter.unusedSimpArgs false
namespace Go.Proofs.YtblodpbcinkehaaGreat.K
open Go renaming Oper → bq, Value → bm, TypeId → ao, Operand → aw, FuncId → fh, World → ej, Program → bg, ResultVar → dv
open Nat renaming le_refl → ak, zero_le → db, sub_zero → mW, lt_of_lt_of_le → ck, le_trans → bt, not_lt → dt, lt_or_ge → bz, le_succ → iw, le_succ_of_le → kb, strongRecOn → mM, zero_add → fy, add_sub_cancel_left → jt, eq_zero_or_pos → jh, le_add_right → mF, le_max_left → gi, le_max_right → gh
open Option renaming map_some → ai, map_eq_some_iff → af, bind_eq_some_iff → ae, bind_some → ab, getD_some → er, isSome_iff_exists → jd
open List renaming length_take → dq, append_cancel_right → kr, take_append_of_le_length → iq, mem_append → au, mem_cons → bw, getElem?_eq_some_iff → al, all_eq_true → cb, mem_range → dg, mem_singleton → bl, map_cons → df, mem_append_left → cq, mem_filterMap → jv, getElem?_append_left → az, eq_nil_of_length_eq_zero → bx, cons_append → di, mem_cons_of_mem → ca, mem_cons_self → bu, contains_eq_mem → ep, getElem?_take_of_lt → eo, replicate → ch, length_map → fe, getElem?_eq_none → bf, mem_filter → mE, nodup_nil → jq, nodup_cons → dr, mem_map → ea, nil_append → ff, append_of_mem → fp, map_append → fi, nodup_append → cn, mem_map_of_mem → fz, foldl_append → ly, map_nil → fq, range → da, prefix_refl → m9, getElem?_append_right → cd, getElem?_eq_getElem → aj, getD_eq_getElem?_getD → iz, getElem?_drop → eg, getElem?_take → dn, prefix_append → gb, length_singleton → dw, getElem_cons_zero → jm, length_append → aq, mapM_cons → jw
open Prod.mk renaming injEq → ag
open Option.some renaming injEq → aa
open _root_.Array renaming ext' → iu, getElem?_eq_some_iff → ar, getD_eq_getD_getElem? → dz, getElem?_eq_getElem → gu, replicate → jl, getElem?_replicate → ko, getElem?_toList → en
open Bool renaming eq_false_iff → jf, false_eq_true → ba, and_eq_true → av, or_eq_true → de, not_eq_true' → ft
open Classical renaming byContradiction → fo, choose → eb, choose_spec → cj
open List.cons renaming injEq → ei
section
variable {c : Cx} {E : AN} {S : St} {a : Act} {o : bq}
theorem JQ (hs : CK c E S a) {v : V} {u : bm} {len : Nat} (hr : A6 E v u) :
  (∀ lv cs, v = .lit lv len cs → lv ≤ E.m ∧ ∃ A cap, u = .slice A len cap ∧ len ≤ cap ∧ (len = 0 ∨ ∃ g q, A = some ⟨g, q, none⟩ ∧ Br E (some lv) g q cs)) ∧
  (∀ cs, v = .tl len cs → ∃ A cap, u = .slice A len cap ∧ len ≤ cap ∧ (len = 0 ∨ ∃ g q, A = some ⟨g, q, none⟩ ∧ Br E (some 0) g q cs)) ∧
  (∀ b cs, v = .snap b len cs → ∃ A cap, u = .slice A len cap ∧ len ≤ cap ∧ ∃ g q, A = some ⟨g, q, none⟩ ∧ Br E (some c.d) g q cs) := by
 refine ⟨?_, ?_, ?_⟩
 ·rintro lv cs rfl
  simp only [A6] at hr
  exact hr
 ·rintro cs rfl
  simp only [A6] at hr
  obtain ⟨A, h1, h2⟩ := hr
  exact ⟨A, len, h1, ak _, h2⟩
 ·rintro b cs rfl
  simp only [A6] at hr
  obtain ⟨_, ⟨A, cap, h1, h2, ⟨g, q, h3, _, h4⟩, _⟩, _⟩ := hr
  exact ⟨A, cap, h1, h2, g, q, h3, Br.all hs.heap (by rw [hs.lk]; exact ak _) h4⟩
theorem Z7 (hs : CK c E S a) {b m0 len : Nat} {cs : List V} {u : bm} (hr : A6 E (.pre b m0 len cs) u) : ∃ A cap, u = .slice A len cap ∧ len ≤ cap ∧ ∃ g q, A = some ⟨g, q, none⟩ ∧ Br E (some c.d) g q cs := by
 simp only [A6] at hr
 obtain ⟨_, ⟨A, cap, h1, h2, ⟨g, q, h3, _, h4⟩, _⟩, _⟩ := hr
 exact ⟨A, cap, h1, h2, g, q, h3, Br.all hs.heap (by rw [hs.lk]; exact ak _) h4⟩
theorem M7 (hs : CK c E S a) {t e : ao} {x : aw} {lo hi : Option aw} {b m0 len h sz : Nat} {cs : List V} (ho : o.op = .slice t x lo hi none) (ht : B4 c.P t = some e) (hz : Aw c.P e = some sz)
  (hx : ev S.T x = some (.pre b m0 len cs)) (hlo : Cl S.T 0 lo = some 0) (hhi : Cl S.T len hi = some h) (hhl : h ≤ len) : DH c E a o (.pre b m0 h (cs.take (h * sz))) := by
 have hr := Al hs x _ hx
 simp only [A6] at hr
 obtain ⟨hb, ⟨A, cap, hv, hlc, ⟨g, q, hA, haw, hr⟩, hcur⟩, hnc⟩ := hr
 refine ⟨_, by simp only [execOp, ho, hv, J6 hs lo hi ht hz hlo hhi hlc (db _) hhl, Sem.run_bind, Result.andThen_ok, Sem.run_pure, Option.map_none]; rfl, ?_⟩
 have e : (if cap = 0 then A else A.map (·.add (0 * sz))) = A := by
  split
  ·rfl
  ·rw [hA, Nat.zero_mul]; simp only [ai, Addr.add_lit, Nat.add_zero]
 simp only [A6]
 rw [e, mW, mW]
 refine ⟨hb, ⟨A, cap, rfl, by omega, ⟨g, q, hA, fun hl => haw (by rw [dq] at hl; omega), ?_⟩, hcur⟩, hnc⟩
 have := PG cs q 0 (h * sz) hr
 simpa using this
theorem Zr (hs : CK c E S a) : c.d ≤ E.m := by rw [hs.m]; exact ak _
theorem Wg (hs : CK c E S a) {v : V} {H' : A4} (hc : Du o = false) (h : C5 c o S = some (v, H')) : GD c E a o v H' := by
 cases ho : o.op with
 | move x =>
  simp only [C5, ho, af, ag] at h
  obtain ⟨_, hx, rfl, rfl⟩ := h
  exact (SW hs ho hx).makes hs
 | assign x =>
  simp only [C5, ho, af, ag] at h
  obtain ⟨_, hx, rfl, rfl⟩ := h
  exact (QD hs ho hx).makes hs
 | pick k x y =>
  simp only [C5, ho] at h
  split at h
  ·rename_i hk
   simp only [af, ag] at h
   obtain ⟨_, hx, rfl, rfl⟩ := h
   exact (Nc hs ho hk (by simpa using hx)).makes hs
  ·rename_i hk
   simp only [af, ag] at h
   obtain ⟨_, hx, rfl, rfl⟩ := h
   exact (Nc hs ho hk (by simpa using hx)).makes hs
  ·cases h
 | alloc t =>
  simp only [C5, ho, ae, aa, ag] at h
  obtain ⟨sz, _, z, hz, rfl, rfl⟩ := h
  exact RW hs ho hz
 | box t x =>
  simp only [C5, ho, ae] at h
  obtain ⟨sz, _, w, hw, h⟩ := h
  split at h
  ·rename_i hcell
   simp only [aa, ag] at h
   obtain ⟨rfl, rfl⟩ := h
   exact V0 hs ho hw hcell
  ·cases h
 | build t parts =>
  simp only [C5, ho, ae, af, ag] at h
  obtain ⟨ps, hp, z, hz, pl, hpl, _, ⟨cs, hcs, rfl⟩, rfl, rfl⟩ := h
  exact (RG hs ho hp hz hpl hcs).makes hs
 | buildSlice t n parts =>
  simp only [C5, ho, ae] at h
  obtain ⟨ps, hp, ⟨ps', H1⟩, hem, e, he, sz, hsz, z, hz, h⟩ := h
  split at h
  ·rename_i hcond
   obtain ⟨h1, h2, h3⟩ := hcond
   simp only [af] at h
   obtain ⟨cs, hcs, h⟩ := h
   split at h
   ·rename_i hown
    simp only [ag] at h
    obtain ⟨rfl, rfl⟩ := h
    exact KV hs ho hp hem he hsz hz h1 h2 h3 (fun h0 => by subst h0; exact absurd hown (by simp [Cx.own])) hcs
   ·simp only [ag] at h
    obtain ⟨rfl, rfl⟩ := h
    exact LD hs ho hp hem he hsz hz h1 h2 h3 hcs
  ·cases h
 | load t x =>
  simp only [C5, ho, ae, af, ag] at h
  obtain ⟨p, hp, _, hl, rfl, rfl⟩ := h
  exact (SV hs ho hp hl).makes hs
 | store t p x =>
  simp only [C5, ho, ae, af, ag] at h
  obtain ⟨P, hp, X, hx, H1, h1, rfl, rfl⟩ := h
  exact RZ hs ho hp hx h1
 | nilCheck x =>
  simp only [C5, ho] at h
  split at h
  ·rename_i hx
   simp only [ai, aa, ag] at h
   obtain ⟨rfl, rfl⟩ := h
   exact (Jr hs ho hx).makes hs
  ·rename_i hx
   simp only [ai, aa, ag] at h
   obtain ⟨rfl, rfl⟩ := h
   exact (KJ hs ho hx).makes hs
  ·cases h
 | binOp op t x y t2 =>
  simp only [C5, ho, ae, af, ag] at h
  obtain ⟨p, hp, q, hq, _, hb, rfl, rfl⟩ := h
  exact (RF hs ho hp hq hb).makes hs
 | unOp op t x =>
  simp only [C5, ho, ae, af, ag] at h
  obtain ⟨p, hp, _, hb, rfl, rfl⟩ := h
  exact (SX hs ho hp hb).makes hs
 | convert src dst x =>
  simp only [C5, ho] at h
  split at h
  ·rename_i h1 h2 h3
   simp only [ai, aa, ag] at h
   obtain ⟨rfl, rfl⟩ := h
   exact (OV hs ho h1 h2 h3).makes hs
  ·rename_i e n cs h1 h2 h3
   split at h
   ·rename_i hn
    obtain ⟨rfl, he⟩ := hn
    simp only [af, ag] at h
    obtain ⟨_, ⟨s, hb, rfl⟩, rfl, rfl⟩ := h
    unfold jB at he
    split at he
    ·rename_i he'
     exact (JV hs ho h1 h2 he' h3 hb).makes hs
    ·cases he
   ·cases h
  ·cases h
 | makeFunc fn first caps =>
  simp only [C5, ho] at h
  split at h
  case h_2 => cases h
  rename_i f hf
  have hf' : first = #[] := by apply iu; simpa using hf
  subst hf'
  simp only [ae, ai, aa, ag] at h
  obtain ⟨vs, hvs, rfl, rfl⟩ := h
  exact (Nb hs ho hvs).makes hs
 | makeSlice t n m =>
  simp only [C5, ho, ae] at h
  obtain ⟨N, hn, M, hm, h⟩ := h
  exact So hs ho hn hm h
 | slice t x lo hi mx =>
  cases mx with
  | none =>
   simp only [C5, ho, ae] at h
   obtain ⟨w, hx, n, hn, l, hl, r, hr, e, he, sz, hsz, h⟩ := h
   split at h
   case isFalse => cases h
   rename_i hc
   obtain ⟨h1, h2⟩ := hc
   have hrx := Al hs x _ hx
   split at h
   ·simp only [ai, aa, ag, Cd] at h hn
    subst hn
    obtain ⟨rfl, rfl⟩ := h
    obtain ⟨k0, A, cap, k1, k2, k3⟩ := (JQ hs hrx).1 _ _ rfl
    exact (G9 hs ho he hsz k0 k1 k2 k3 hl hr h1 h2).makes hs
   ·simp only [ai, aa, ag, Cd] at h hn
    subst hn
    obtain ⟨rfl, rfl⟩ := h
    obtain ⟨A, cap, k1, k2, k3⟩ := (JQ hs hrx).2.1 _ rfl
    exact (G9 hs ho he hsz (db _) k1 k2 k3 hl hr h1 h2).makes hs
   ·simp only [ai, aa, ag, Cd] at h hn
    subst hn
    obtain ⟨rfl, rfl⟩ := h
    obtain ⟨A, cap, k1, k2, k3⟩ := (JQ hs hrx).2.2 _ _ rfl
    exact (G9 hs ho he hsz (Zr hs) k1 k2 (.inr k3) hl hr h1 h2).makes hs
   ·split at h
    case isFalse => cases h
    rename_i hl0
    subst hl0
    simp only [ai, aa, ag, Cd] at h hn
    subst hn
    obtain ⟨rfl, rfl⟩ := h
    exact (M7 hs ho he hsz hx hl hr h2).makes hs
   ·simp only [ai, aa, ag, Cd] at h hn
    subst hn
    obtain ⟨rfl, rfl⟩ := h
    exact (Nd hs ho he hsz hx hl hr h1 h2).makes hs
   ·cases h
  | some mx =>
   simp only [C5, ho] at h
   split at h
   case h_2 => cases h
   rename_i hi
   simp only [ae] at h
   obtain ⟨w, hx, n, hn, e, he, sz, hsz, h⟩ := h
   split at h
   case h_2 => cases h
   rename_i k i k' j h1 h2
   split at h
   case isFalse => cases h
   rename_i hc
   obtain ⟨rfl, rfl⟩ := hc
   simp only [ai, aa, ag] at h
   obtain ⟨rfl, rfl⟩ := h
   exact (QG hs ho he hsz hx hn h1 h2).makes hs
 | fieldAddr s x f =>
  simp only [C5, ho, ae] at h
  obtain ⟨off, hoff, h⟩ := h
  split at h
  ·rename_i hx
   simp only [ai, aa, ag] at h
   obtain ⟨rfl, rfl⟩ := h
   exact (JW hs ho hoff hx).makes hs
  ·rename_i hx
   simp only [ai, aa, ag] at h
   obtain ⟨rfl, rfl⟩ := h
   exact (Jq hs ho hoff hx).makes hs
  ·cases h
 | field s x f =>
  simp only [C5, ho, ae] at h
  obtain ⟨off, hoff, h⟩ := h
  split at h
  case h_2 => cases h
  rename_i fs hfs
  split at h
  case h_2 => cases h
  rename_i g cs hg hx
  simp only [af, ag] at h
  obtain ⟨_, hr, rfl, rfl⟩ := h
  exact (RH hs ho hoff hfs hg hx hr).makes hs
 | indexAddr t x i =>
  simp only [C5, ho, ae] at h
  obtain ⟨e, he, sz, hsz, w, hx, h⟩ := h
  split at h
  case h_2 => cases h
  rename_i k n hi
  simp only [ae] at h
  obtain ⟨len, hn, h⟩ := h
  split at h
  case isFalse => cases h
  rename_i hc
  obtain ⟨h0, h1⟩ := hc
  have hrx := Al hs x _ hx
  have hri := Al hs i _ hi
  simp only [A6] at hri
  have hpos : ¬ len = 0 := by omega
  split at h
  ·simp only [ai, aa, ag, Cd] at h hn
   subst hn
   obtain ⟨rfl, rfl⟩ := h
   obtain ⟨k0, A, cap, k1, k2, k3⟩ := (JQ hs hrx).1 _ _ rfl
   exact (EV ho he hsz k0 k1 (k3.resolve_left hpos) hri h0 h1).makes hs
  ·simp only [ai, aa, ag, Cd] at h hn
   subst hn
   obtain ⟨rfl, rfl⟩ := h
   obtain ⟨A, cap, k1, k2, k3⟩ := (JQ hs hrx).2.1 _ rfl
   exact (EV ho he hsz (db _) k1 (k3.resolve_left hpos) hri h0 h1).makes hs
  ·simp only [ai, aa, ag, Cd] at h hn
   subst hn
   obtain ⟨rfl, rfl⟩ := h
   obtain ⟨A, cap, k1, k2, k3⟩ := (JQ hs hrx).2.2 _ _ rfl
   exact (EV ho he hsz (Zr hs) k1 k3 hri h0 h1).makes hs
  ·simp only [ai, aa, ag, Cd] at h hn
   subst hn
   obtain ⟨rfl, rfl⟩ := h
   obtain ⟨A, cap, k1, k2, k3⟩ := Z7 hs hrx
   exact (EV ho he hsz (Zr hs) k1 k3 hri h0 h1).makes hs
  ·simp only [ai, aa, ag, Cd] at h hn
   subst hn
   obtain ⟨rfl, rfl⟩ := h
   exact (Na hs ho he hsz hx hi h0 h1).makes hs
  ·cases h
 | index t x i =>
  simp only [C5, ho] at h
  split at h
  case h_2 => cases h
  rename_i ht hx hi
  split at h
  case isFalse => cases h
  rename_i h0
  simp only [af, ag] at h
  obtain ⟨_, ⟨b, hb, rfl⟩, rfl, rfl⟩ := h
  exact (QE hs ho ht hx hi h0 hb).makes hs
 | extract x i =>
  simp only [C5, ho] at h
  split at h
  case h_2 => cases h
  rename_i vs hx
  simp only [af, ag] at h
  obtain ⟨_, hv, rfl, rfl⟩ := h
  exact (OW hs ho hx hv).makes hs
 | call k =>
  obtain ⟨callee, args, ats⟩ := k
  cases callee with
  | value f => simp [Du, ho] at hc
  | invoke r n => simp [C5, ho] at h
  | builtin b =>
   cases b with
   | len =>
    simp only [C5, ho] at h
    split at h
    case h_2 => cases h
    rename_i x t ha ht
    split at h
    ·rename_i h1 h2
     simp only [ai, aa, ag] at h
     obtain ⟨rfl, rfl⟩ := h
     exact (SU hs ho ha ht h1 h2).makes hs
    ·rename_i h1 h2
     simp only [ae, ai, aa, ag] at h
     obtain ⟨n, hn, rfl, rfl⟩ := h
     exact (Um hs ho ha ht h1 h2 hn).makes hs
    ·cases h
   | append =>
    simp only [C5, ho] at h
    split at h
    case h_2 => cases h
    rename_i s x st xt ha ht
    simp only [ae] at h
    obtain ⟨p, hp, q, hq, h⟩ := h
    exact QQ hs ho ha ht hp hq h
   | min =>
    simp only [C5, ho] at h
    split at h
    case h_2 => cases h
    rename_i x y ha
    split at h
    case h_2 => cases h
    rename_i hx hy
    simp only [ai, aa, ag] at h
    obtain ⟨rfl, rfl⟩ := h
    exact (Uo hs ho ha hx hy).makes hs
   | max =>
    simp only [C5, ho] at h
    split at h
    case h_2 => cases h
    rename_i x y ha
    split at h
    case h_2 => cases h
    rename_i hx hy
    simp only [ai, aa, ag] at h
    obtain ⟨rfl, rfl⟩ := h
    exact (Un hs ho ha hx hy).makes hs
   | _ => simp [C5, ho] at h
 | makeMap t r =>
  cases r with
  | none =>
   simp only [C5, ho, aa, ag] at h
   obtain ⟨rfl, rfl⟩ := h
   exact OY hs ho
  | some r => simp [C5, ho] at h
 | lookup t x k ok =>
  simp only [C5, ho, ae, af, ag] at h
  obtain ⟨m, hm, kv, hk, w, hw, rfl, rfl⟩ := h
  exact (QF hs ho hm hk hw).makes hs
 | mapUpdate t x k y =>
  simp only [C5, ho, ae, af, ag] at h
  obtain ⟨m, hm, kv, hk, w, hw, H1, h1, rfl, rfl⟩ := h
  exact QR hs ho hm hk hw h1
 | mapEntry t x k =>
  simp only [C5, ho, ae] at h
  obtain ⟨m, hm, kv, hk, h⟩ := h
  exact RY hs ho hm hk h
 | entryStore t x st y =>
  simp only [C5, ho, ae, af, ag] at h
  obtain ⟨m, hm, sv, hsv, w, hw, H1, h1, rfl, rfl⟩ := h
  exact RX hs ho hm hsv hw h1
 | _ => simp [C5, ho] at h
end
theorem FR.unlock {E0 E1 : AN} {L : List Nat} (h : FR (E0.lock L) (E1.lock L)) (hd : E0.m ≤ E0.lk.length) : FR E0 E1 := by
  have hlk : E1.lk = E0.lk := kr (bs := [L]) h.lk
  have hU : ∀ (E : AN) lv g i, Nv E.lk.length lv → ((E.lock L).U lv g i ↔ E.U lv g i) := by
    intro E lv g i hl
    cases lv with
    | none => rfl
    | some lv =>
      have : (E.lk ++ [L]).take lv = E.lk.take lv := iq hl
      show (g ∈ E.BM ∨ Wr _ _ ((E.lk ++ [L]).take lv) lv g i) ↔ (g ∈ E.BM ∨ Wr _ _ (E.lk.take lv) lv g i)
      rw [this]
      exact Iff.rfl
  have hanti : ∀ g i, (E0.lock L).U (some (E0.lock L).lk.length) g i → E0.U (some E0.lk.length) g i := by
    intro g i hu
    refine (hU E0 (some E0.lk.length) g i (ak _)).1 (AN.PW ?_ hu)
    simp
  exact
  { lk := hlk
    os := h.os
    tape := h.tape
    output := h.output
    size := h.size
    len := h.len
    mm := by have := h.mm; simpa [AN.lock] using this
    cell := fun g i u hc hu => h.cell g i u hc fun hx => hu (hanti g i hx)
    block := fun g hg hu => h.block g hg fun i hx => hu i (hanti g i hx)
    mono := fun lv g i hl hx => by
      rcases h.mono lv g i (hl.up (by simp)) ((hU E1 lv g i (by rw [hlk]; exact hl)).2 hx) with h' | h'
      · exact .inl ((hU E0 lv g i hl).1 h')
      · exact .inr h'
    By := h.By
    cells := h.cells
    BT := h.BT
    fresh := h.fresh
    BM := h.BM
    Hn := h.Hn
    Gp := h.Gp }
structure AF (h : BI) (k : fh) (L : List Nat) (E0 E1 : AN) (H' : A4) : Prop where
 H : E1.H = H'
 n : E1.n = H'.length
 CI : FR (E0.lock L) (E1.lock L)
 heap : C1 E1
 Gn : h.grow k = false → ∀ base nb d, base ≤ E0.n → nb ≤ E0.n → d ≤ E0.m → D0 E0 base nb d → D0 E1 base nb d
 HP : h.grow k = true → ∀ base d, base ≤ E0.n → d ≤ E0.m → D0 E0 base E0.n d → D0 E1 base E1.n d
 kept : ∀ b, b < E0.n → AT (E0.lk ++ [L]) b = false → E1.H[b]? = E0.H[b]?
def jF (R : bm → ej → Prop) : Ending → ej → Prop
 | .returned v, w => R v w
 | _, _ => False
structure GU (P : bg) (h : BI) (Γ : fh → List V → A4 → Lk → Option (V × A4)) : Prop where
 body : ∀ k args H lk r, Γ k args H lk = some r → ∃ fn, P.funcs[k]? = some fn ∧ fn.body.isNone = false ∧ (fn.name == "runtime.NumGoroutine") = false
 run : ∀ k args H lk L v H', Γ k args H (lk ++ [L]) = some (v, H') → ∀ (E0 : AN) us, E0.H = H → E0.lk = lk → E0.n = H.length → E0.m = lk.length → C1 E0 → (∀ l ∈ lk ++ [L], ∀ x ∈ l, x < H.length) →
  AH (E0.lock L) args us → Calls P k us.toArray E0.w (jF fun u w' => ∃ E1 : AN, E1.w = w' ∧ AF h k L E0 E1 H' ∧ A6 E1 v u)
theorem KQ {H : A4} {f : V → Option (V × List Nat)} (hf : ∀ v v' M, f v = some (v', M) → ∀ x ∈ M, x < H.length) :
  ∀ (vs vs' : List V) (M : List Nat), AY.lendL f vs = some (vs', M) → ∀ x ∈ M, x < H.length
 | [], vs', M, h => by
  simp only [AY.lendL, aa, ag] at h
  obtain ⟨rfl, rfl⟩ := h
  intro x hx; cases hx
 | v :: vs, vs', M, h => by
  simp only [AY.lendL, ae, af, Prod.exists, ag] at h
  obtain ⟨v1, M1, h1, vs2, M2, h2, rfl, rfl⟩ := h
  intro x hx
  rcases au.1 hx with hx | hx
  ·exact hf v v1 M1 h1 x hx
  ·exact KQ hf vs vs2 M2 h2 x hx
theorem U2 (lv : Nat) (H : A4) : ∀ (k : Nat) (v v' : V) (M : List Nat), AY lv H k v = some (v', M) → ∀ x ∈ M, x < H.length
 | 0, v, v', M, h => by simp [AY] at h
 | k + 1, v, v', M, h => by
  have ih := KQ fun v v' M h => U2 lv H k v v' M h
  have none_ : ∀ M, M = ([] : List Nat) → ∀ x ∈ M, x < H.length := by rintro M rfl x hx; cases hx
  cases v with
  | int _ _ => simp only [AY, aa, ag] at h; exact none_ _ h.2.symm
  | bool _ => simp only [AY, aa, ag] at h; exact none_ _ h.2.symm
  | str _ => simp only [AY, aa, ag] at h; exact none_ _ h.2.symm
  | Gg => simp only [AY, aa, ag] at h; exact none_ _ h.2.symm
  | Dw => simp only [AY, aa, ag] at h; exact none_ _ h.2.symm
  | ptr _ _ => simp only [AY, aa, ag] at h; exact none_ _ h.2.symm
  | D3 _ => simp only [AY, aa, ag] at h; exact none_ _ h.2.symm
  | lp _ _ _ => simp only [AY, aa, ag] at h; exact none_ _ h.2.symm
  | lit _ _ _ => simp only [AY, aa, ag] at h; exact none_ _ h.2.symm
  | fn _ _ => simp only [AY, aa, ag] at h; exact none_ _ h.2.symm
  | EZ _ => simp [AY] at h
  | tl n cs =>
   simp only [AY, af, Prod.exists, ag] at h
   obtain ⟨cs', M1, h1, rfl, rfl⟩ := h
   exact ih cs cs' M1 h1
  | snap b n cs =>
   simp only [AY, af, Prod.exists, ag] at h
   obtain ⟨cs', M1, h1, rfl, rfl⟩ := h
   exact ih cs cs' M1 h1
  | pre b m0 n cs =>
   simp only [AY, af, Prod.exists, ag] at h
   obtain ⟨cs', M1, h1, rfl, rfl⟩ := h
   exact ih cs cs' M1 h1
  | sl b off n =>
   simp only [AY] at h
   split at h
   case h_2 => cases h
   rename_i sz cs hb
   split at h
   ·cases h
   simp only [af, Prod.exists, ag] at h
   obtain ⟨cs', M1, h1, rfl, rfl⟩ := h
   intro x hx
   rcases bw.1 hx with rfl | hx
   ·exact (al.1 hb).1
   ·exact ih _ cs' M1 h1 x hx
  | agg cs =>
   simp only [AY, af, Prod.exists, ag] at h
   obtain ⟨cs', M1, h1, rfl, rfl⟩ := h
   exact ih cs cs' M1 h1
section
variable {c : Cx} {E : AN} {S : St} {a : Act} {o : bq}
theorem Ap.lk {E' : AN} {H' : A4} (hs : CK c E S a) (h : Ap c E E' H') : E'.lk = c.lk := by rw [h.CI.lk, hs.lk]
theorem Ir (hs : CK c E S a) : ∀ (vs : List V) (ms : List Qq) (H : A4) (vs' : List V) (M : List Nat) (H1 : A4) (E1 : AN), Ah c ms H vs = some (vs', M, H1) → Ap c E E1 H → E1.w = E.w →
  Ap c E (E1.heap H1) H1 ∧ H1.length = H.length ∧ (∀ x ∈ M, x < H.length) ∧ ∀ L, (∀ x ∈ M, x ∈ L) → FR (E1.lock L) ((E1.heap H1).lock L) ∧ ∀ us, AH E1 vs us → AH ((E1.heap H1).lock L) vs' us
 | [], ms, H, vs', M, H1, E1, h, h0, hw => by
  simp only [Ah, aa, ag] at h
  obtain ⟨rfl, rfl, rfl⟩ := h
  have : E1.heap H = E1 := by rw [← h0.H]; rfl
  rw [this]
  refine ⟨h0, rfl, ?_, fun L _ => ⟨FR.refl _, fun us hu => by simpa only [AH] using hu⟩⟩
  intro x hx; cases hx
 | v :: vs, ms, H, vs', M, H1, E1, h, h0, hw => by
  simp only [Ah, ae, af, Prod.exists, ag] at h
  obtain ⟨v1, M1, Hm, h1, vs2, M2, H2, h2, rfl, rfl, rfl⟩ := h
  have hmm : E1.lk.length = E1.m := by rw [h0.m, hs.m, Ap.lk hs h0]
  have key : ∀ (Em : AN), Em = E1.heap Hm → Ap c E Em Hm → Hm.length = H.length → (∀ x ∈ M1, x < H.length) → (∀ L, (∀ x ∈ M1, x ∈ L) → FR (E1.lock L) (Em.lock L) ∧ ∀ u, A6 E1 v u → A6 (Em.lock L) v1 u) → (∀ us, AH E1 vs us → AH Em vs us) →
    Ap c E (E1.heap H2) H2 ∧ H2.length = H.length ∧ (∀ x ∈ M1 ++ M2, x < H.length) ∧ ∀ L, (∀ x ∈ M1 ++ M2, x ∈ L) → FR (E1.lock L) ((E1.heap H2).lock L) ∧ ∀ us, AH E1 (v :: vs) us → AH ((E1.heap H2).lock L) (v1 :: vs2) us := by
   rintro Em rfl ha hl hM1 hL hvs
   obtain ⟨p1, p2, p3, p4⟩ := Ir hs vs ms.tail Hm vs2 M2 H2 (E1.heap Hm) h2 ha hw
   simp only [AN.JI] at p1 p4
   refine ⟨p1, p2.trans hl, fun x hx => ?_, fun L hM => ?_⟩
   ·rcases au.1 hx with hx | hx
    ·exact hM1 x hx
    ·rw [← hl]; exact p3 x hx
   ·obtain ⟨q1, q2⟩ := hL L fun x hx => hM x (au.2 (.inl hx))
    obtain ⟨r1, r2⟩ := p4 L fun x hx => hM x (au.2 (.inr hx))
    refine ⟨q1.trans r1, fun us hu => ?_⟩
    simp only [AH] at hu ⊢
    obtain ⟨u, us', rfl, hu1, hu2⟩ := hu
    exact ⟨u, us', rfl, r1.rep (ha.heap.lock L) _ _ (q2 u hu1), r2 us' (hvs us' hu2)⟩
  have hsame : E1.heap H = E1 := by rw [← h0.H]; rfl
  unfold Fo at h1
  cases hmode : ms.headD .M8 with
  | M8 =>
   simp only [hmode, af, Prod.exists, ag] at h1
   obtain ⟨v1', M1', hl, rfl, rfl, rfl⟩ := h1
   have hd : c.d = E1.lk.length := by rw [Ap.lk hs h0]; rfl
   rw [hd, ← h0.H] at hl
   refine key E1 hsame.symm h0 rfl (by rw [← h0.H]; exact U2 _ _ _ _ _ _ hl) (fun L hM => ⟨FR.refl _, fun u hu => Nq hmm h0.heap CA v v1' M1' hl hM u hu⟩) (fun us hu => hu)
  | exact =>
   simp only [hmode, aa, ag] at h1
   obtain ⟨rfl, rfl, rfl⟩ := h1
   exact key E1 hsame.symm h0 rfl (fun x hx => by cases hx) (fun L _ => ⟨FR.refl _, fun u hu => (C9.DV E1 L h0.heap.dm).rep v u hu⟩) (fun us hu => hu)
  | part =>
   simp only [hmode, aa, ag] at h1
   obtain ⟨rfl, rfl, rfl⟩ := h1
   exact key E1 hsame.symm h0 rfl (fun x hx => by cases hx) (fun L _ => ⟨FR.refl _, fun u hu => V7 _ _ ((C9.DV E1 L h0.heap.dm).rep v u hu)⟩) (fun us hu => hu)
  | share =>
   simp only [hmode] at h1
   split at h1
   ·cases h1
   simp only [af, Prod.exists, ag] at h1
   obtain ⟨v1', Hm', hg, rfl, rfl, rfl⟩ := h1
   obtain ⟨g1, g2, g3, g4⟩ := Lp hs h0 hg
   refine key (E1.heap Hm') rfl g1 g4 (fun x hx => by cases hx) (fun L _ => ?_) (fun us hu => g2.HC h0.heap _ _ hu)
   obtain ⟨k1, k2, k3⟩ := I9 c.base CA (E1.lock L) v v1' Hm' (by rw [AN.EF, h0.H]; exact hg) (h0.heap.lock L)
   refine ⟨k1, fun u hu => ?_⟩
   have := k3 u ((C9.DV E1 L h0.heap.dm).rep v u hu)
   exact (C9.grow ((E1.lock L).heap Hm') (n := 0) (m := 0) (db _) (db _)).rep _ _ this
def Zm (c : Cx) (E : AN) (a : Act) (o : bq) (v : V) (H' : A4) : Prop :=
 ∀ (next : Act → ej → Prop) (Q : Exit → Act → ej → Prop), (∀ E' u, Ap c E E' H' → A6 E' v u → next (a.put o.dst u) E'.w) → o.wp c.P a E.w next Q
theorem GD.jJ {v : V} {H' : A4} (h : GD c E a o v H') : Zm c E a o v H' := by
 intro next Q hn
 obtain ⟨E', ha, h⟩ := h
 unfold Oper.wp
 rcases h with ⟨u, h1, h2⟩ | ⟨h1, h2⟩
 ·rw [h1]; exact hn E' u ha h2
 ·rw [h1]; exact hn E' undef ha h2
theorem AF.lk {h : BI} {k : fh} {L : List Nat} {E0 E1 : AN} {H' : A4} (hb : AF h k L E0 E1 H') : E1.lk = E0.lk := kr (bs := [L]) hb.CI.lk
theorem D0.locked {h : BI} {k : fh} {L : List Nat} {E0 E1 : AN} {H' : A4} (hb : AF h k L E0 E1 H') (hh : C1 E0) {base nb d : Nat} (hbase : base ≤ E0.n) (hL : ∀ b, b < base → b ∈ L) (hnb : nb ≤ E0.n) (hd : d ≤ E0.m) (hf : D0 E0 base nb d) : D0 E1 base nb d := by
 have hev := hb.CI.unlock hh.dm
 intro b sz cs hlt hB c t hc i v u hv hu
 have hbn : b < E0.n := ck hlt hbase
 have hlock : AT (E0.lk ++ [L]) b = false := by
  rw [jf]
  intro hx
  unfold AT at hx
  rw [cb] at hx
  have := hx L (by simp)
  simp [hL b hlt] at this
 rw [hb.kept b hbn hlock] at hB
 have hphi := (hev.By b hbn (fun l n z => by rw [hB]; simp)).1
 rw [hphi] at hc
 have hblk : E1.w.heap[E0.φ b]? = E0.w.heap[E0.φ b]? := by
  obtain ⟨c0, t0, h1, _, _⟩ := hh.cells b sz cs hB
  have := hb.CI.block (E0.φ b) (ar.1 h1).1 fun i => by
   have := KX hh hB (hL b hlt) i
   simpa using this
  exact this
 rw [hblk] at hc
 exact (hev.shrink hh hnb hd).rep v u (hf b sz cs hlt hB c t hc i v u hv hu)
theorem Ue (hs : CK c E S a) (hΓ : GU c.P c.hints c.Γ) {v : V} {H' : A4} (hc : Du o = true) (h : C5 c o S = some (v, H')) : Zm c E a o v H' := by
 unfold Du at hc
 split at hc
 case h_2 => cases hc
 rename_i f args ats ho
 simp only [C5, ho] at h
 split at h
 case h_2 => cases h
 rename_i g caps hf
 simp only [ae, Prod.exists] at h
 obtain ⟨vs, hvs, as, M, H1, hl, hg⟩ := h
 intro next Q hn
 have hrf := Al hs f _ hf
 simp only [A6] at hrf
 obtain ⟨cv, hcv, hcr⟩ := hrf
 have hrv := QZ hs _ _ hvs
 have hargs : AH E (vs ++ caps) ((args.toList.map a.eval) ++ cv.toList) := EA hrv hcr
 obtain ⟨ha, hlen, hM, hL⟩ := Ir hs _ _ _ _ _ _ E hl (Ap.refl hs) rfl
 let L := c.DB g M H1
 have hML : ∀ x ∈ M, x ∈ L := by
  intro x hx
  show x ∈ c.DB g M H1
  unfold Cx.DB
  split
  ·exact au.2 (.inl hx)
  ·split
   ·exact au.2 (.inl hx)
   ·exact hx
 have hLlt : ∀ x ∈ L, x < H1.length := by
  intro x hx
  have hx : x ∈ c.DB g M H1 := hx
  unfold Cx.DB at hx
  have hMl : ∀ x ∈ M, x < H1.length := by rw [hlen]; exact hM
  have hbl : c.base ≤ H1.length := by rw [hlen]; exact hs.base
  split at hx
  ·rcases au.1 hx with hx | hx
   ·exact hMl x hx
   ·simpa using hx
  ·split at hx
   ·rcases au.1 hx with hx | hx
    ·exact hMl x hx
    ·have := dg.1 hx
     omega
   ·exact hMl x hx
 obtain ⟨hev, hrep⟩ := hL L hML
 have hlk1 : (E.heap H1).lk = c.lk := hs.lk
 obtain ⟨fn, hfn, hbody, hname⟩ := hΓ.body _ _ _ _ _ hg
 have hrun := hΓ.run g as H1 c.lk L v H' hg (E.heap H1) _ rfl hlk1 ha.n (by rw [ha.m, hs.m]) ha.heap (by
  intro l hl x hx
  rcases au.1 hl with hl | hl
  ·rw [hlen]; exact ck (hs.DV l hl x hx) hs.base
  ·simp only [bl] at hl
   subst hl
   exact hLlt x hx) (hrep _ hargs)
 have hexec : (execOp a.eval o).run c.P E.w = .ok (.enter g (((args.toList.map a.eval) ++ cv.toList).toArray)) E.w := by
  have hA : (args.map a.eval) ++ cv = (((args.toList.map a.eval) ++ cv.toList)).toArray := by
   apply iu; simp
  simp only [execOp, ho, resolve, hcv, Deferred.ofValue, Sem.run_bind, Sem.run_pure, Result.andThen_ok, invoke, callFunc, run_program, hfn, hname, hbody, hA]
  simp
 unfold Oper.wp
 rw [hexec]
 refine Calls.mono hrun ?_
 intro e w' hR
 cases e with
 | returned u =>
  obtain ⟨E1, rfl, hb, hr⟩ := hR
  refine hn E1 u (ha.trans (E'' := E1) ⟨hb.H, hb.n, ?_, hb.CI.unlock ha.heap.dm, hb.heap, ?_, ?_, ?_⟩) hr
  ·have := (hb.CI.unlock ha.heap.dm).mm; exact this
  ·intro hgf base nb d hbase hnb hd hrf
   have hb0 : base ≤ (E.heap H1).n := by rw [ha.n, hlen]; exact bt hbase hs.base
   cases hgk : c.hints.grow g with
   | false => exact hb.Gn hgk base nb d hb0 hnb hd hrf
   | true =>
    refine D0.locked hb ha.heap hb0 (fun b hlt => ?_) hnb hd hrf
    show b ∈ c.DB g M H1
    unfold Cx.DB
    split
    ·refine au.2 (.inr (dg.2 ?_))
     rw [hlen]; have := hs.base; omega
    ·rw [hgk, hgf]
     simp only [Bool.not_false, Bool.and_self, if_true]
     exact au.2 (.inr (dg.2 (by omega)))
  ·intro hgf base d hbase hd hrf
   have hb0 : base ≤ (E.heap H1).n := by rw [ha.n, hlen]; exact bt hbase hs.base
   cases hgk : c.hints.grow g with
   | false => exact (hb.Gn hgk base _ d hb0 (ak _) hd hrf).up (hb.CI.unlock ha.heap.dm).len
   | true => exact hb.HP hgk base d hb0 hd hrf
  ·intro b hbl hbk
   rw [← hb.H]
   refine hb.kept b ?_ ?_
   ·rw [ha.n, hlen]; have := hs.base; omega
   ·rw [hlk1]
    rw [jf] at hbk ⊢
    intro hx
    refine hbk ?_
    unfold AT at hx ⊢
    rw [cb] at hx ⊢
    exact fun l hl => hx l (au.2 (.inl hl))
 | panicked _ => exact hR.elim
 | outgrown => exact hR.elim
theorem Ta (hs : CK c E S a) (hΓ : GU c.P c.hints c.Γ) {v : V} {H' : A4} (h : C5 c o S = some (v, H')) : Zm c E a o v H' := by
 cases hc : Du o with
 | false => exact (Wg hs hc h).jJ
 | true => exact Ue hs hΓ hc h
end
theorem Kw {T T' : Nat → V} : ∀ (l : List aw), (∀ x ∈ l, ev T x = ev T' x) → Oq T l = Oq T' l
 | [], _ => rfl
 | x :: l, h => by
  simp only [Oq]
  rw [h x (by simp), Kw l fun y hy => h y (by simp [hy])]
theorem Kx {T T' : Nat → V} : ∀ (l : List (Nat × aw)), (∀ x ∈ l.map (·.2), ev T x = ev T' x) → Qp T l = Qp T' l
 | [], _ => rfl
 | (i, x) :: l, h => by
  simp only [Qp]
  rw [h x (by simp), Kx l fun y hy => h y (by simp only [df, bw]; exact .inr hy)]
theorem K9 {T T' : Nat → V} (n : Nat) (o : Option aw) (h : ∀ x, o = some x → ev T x = ev T' x) : Cl T n o = Cl T' n o := by
 cases o with
 | none => rfl
 | some x => simp only [Cl]; rw [h x rfl]
theorem P9 (c : Cx) (o : bq) {T T' : Nat → V} {H : A4} (h : ∀ x ∈ o.op.operands, ev T x = ev T' x) : C5 c o { T := T, H := H } = C5 c o { T := T', H := H } := by
  cases ho : o.op <;> (rw [ho] at h; simp only [Op.operands] at h; simp only [C5, ho])
  case move x => rw [h x (by simp)]
  case assign x => rw [h x (by simp)]
  case pick k x y => rw [h k (by simp), h x (by simp), h y (by simp)]
  case box t x => rw [h x (by simp)]
  case build t ps => rw [Kx _ fun x hx => h x (by simpa using hx)]
  case buildSlice t n ps => rw [Kx _ fun x hx => h x (by simpa using hx)]
  case load t x => rw [h x (by simp)]
  case store t x y => rw [h x (by simp), h y (by simp)]
  case nilCheck x => rw [h x (by simp)]
  case binOp op t x y t2 => rw [h x (by simp), h y (by simp)]
  case unOp op t x => rw [h x (by simp)]
  case convert s d x => rw [h x (by simp)]
  case makeFunc fn first caps => rw [Kw _ fun x hx => h x (by simp; exact .inr (by simpa using hx))]
  case makeSlice t x y => rw [h x (by simp), h y (by simp)]
  case slice t x lo hi mx =>
    rw [h x (by simp)]
    cases mx with
    | none =>
      simp only []
      rw [K9 0 lo fun y hy => h y (by subst hy; simp)]
      have : ∀ n, Cl T n hi = Cl T' n hi := fun n => K9 n hi fun y hy => h y (by subst hy; simp)
      simp only [this]
    | some mx =>
      cases lo with
      | some _ => rfl
      | none =>
        cases hi with
        | none => rfl
        | some hi =>
          simp only []
          rw [h hi (by simp), h mx (by simp)]
  case fieldAddr s x f => rw [h x (by simp)]
  case field s x f => rw [h x (by simp)]
  case indexAddr t x i => rw [h x (by simp), h i (by simp)]
  case index t x i => rw [h x (by simp), h i (by simp)]
  case extract x i => rw [h x (by simp)]
  case makeMap t r => cases r <;> rfl
  case lookup t x k ok => rw [h x (by simp), h k (by simp)]
  case mapUpdate t x k y => rw [h x (by simp), h k (by simp), h y (by simp)]
  case mapEntry t x k => rw [h x (by simp), h k (by simp)]
  case entryStore t x k y => rw [h x (by simp), h k (by simp), h y (by simp)]
  case call k =>
    obtain ⟨callee, args, ats⟩ := k
    simp only [Call.operands] at h
    cases callee with
    | invoke r n => rfl
    | value f =>
      simp only []
      rw [h f (by simp), Kw _ fun x hx => h x (by simp; exact .inr (by simpa using hx))]
    | builtin b =>
      have hx : ∀ x ∈ args.toList, ev T x = ev T' x := fun x hx => h x (by simpa using hx)
      cases b <;> try rfl
      case len =>
        simp only []
        split
        · rename_i x t ha ht
          rw [hx x (by rw [ha]; simp)]
        · rfl
      case append =>
        simp only []
        split
        · rename_i x y st xt ha ht
          rw [hx x (by rw [ha]; simp), hx y (by rw [ha]; simp)]
        · rfl
      case min =>
        simp only []
        split
        · rename_i x y ha
          rw [hx x (by rw [ha]; simp), hx y (by rw [ha]; simp)]
        · rfl
      case max =>
        simp only []
        split
        · rename_i x y ha
          rw [hx x (by rw [ha]; simp), hx y (by rw [ha]; simp)]
        · rfl
theorem I1 {c : Cx} (hs : c.still = true) : ∀ (ps ps' : List (Nat × V)) (H H' : A4), CH c H ps = some (ps', H') → H' = H ∧ ∀ H2, CH c H2 ps = some (ps', H2)
 | [], ps', H, H', h => by
  simp only [CH, aa, ag] at h
  obtain ⟨rfl, rfl⟩ := h
  exact ⟨rfl, fun _ => rfl⟩
 | (i, v) :: ps, ps', H, H', h => by
  simp only [CH, ae, af, Prod.exists, ag] at h
  obtain ⟨v1, H1, hv, ps2, H3, h2, rfl, rfl⟩ := h
  have key : H1 = H ∧ ∀ H2, FL c H2 v = some (v1, H2) := by
   unfold FL at hv ⊢
   rw [hs] at hv ⊢
   split at hv
   ·rename_i hk
    simp only [aa, ag] at hv
    obtain ⟨rfl, rfl⟩ := hv
    exact ⟨rfl, fun H2 => by rw [if_pos hk]⟩
   ·rename_i hk
    simp only [if_true] at hv
    split at hv
    ·rename_i hc
     simp only [aa, ag] at hv
     obtain ⟨rfl, rfl⟩ := hv
     exact ⟨rfl, fun H2 => by rw [if_neg hk]; simp only [if_true]; rw [if_pos hc]⟩
    ·cases hv
  obtain ⟨rfl, k1⟩ := key
  obtain ⟨rfl, k2⟩ := I1 hs ps ps2 H1 H3 h2
  refine ⟨rfl, fun H2 => ?_⟩
  simp only [CH, k1 H2, ab, k2 H2, ai]
theorem Dv {x : Option V} {H H2 : A4} : (x.map fun v => (v, H2)) = (x.map fun v => (v, H)).map fun r => (r.1, H2) := by
 cases x <;> rfl
theorem LK {c : Cx} {ow : Bool} {o : bq} (hp : Ge ow o = true) (hb : ∀ t n ps, o.op ≠ .buildSlice t n ps) {T : Nat → V} {H H2 : A4} : C5 c o { T := T, H := H2 } = (C5 c o { T := T, H := H }).map fun r => (r.1, H2) := by
  unfold Ge at hp
  cases ho : o.op <;> simp only [ho, ba] at hp <;> simp only [C5, ho]
  case buildSlice t n ps => exact absurd ho (hb t n ps)
  case move x => exact Dv
  case assign x => exact Dv
  case pick k x y => split <;> first | exact Dv | rfl
  case build t ps =>
    cases Qp T ps.toList with
    | none => rfl
    | some ps => cases BG c.P t with
      | none => rfl
      | some z => cases Dg c.P t with
        | none => rfl
        | some pl => exact Dv
  case nilCheck x => split <;> rfl
  case binOp op t x y t2 =>
    cases ev T x with
    | none => rfl
    | some p => cases ev T y with
      | none => rfl
      | some q => exact Dv
  case unOp op t x =>
    cases ev T x with
    | none => rfl
    | some p => exact Dv
  case convert s d x =>
    split
    · rfl
    · split
      · exact Dv
      · rfl
    · rfl
  case makeFunc fn first caps =>
    split
    · cases Oq T caps.toList <;> rfl
    · rfl
  case slice t x lo hi mx =>
    cases ev T x with
    | none => cases mx <;> cases lo <;> cases hi <;> rfl
    | some v => cases hl : Cd v with
      | none => cases mx <;> cases lo <;> cases hi <;> simp [hl]
      | some n =>
        cases mx with
        | none =>
          simp only [ab, hl]
          cases Cl T 0 lo with
          | none => rfl
          | some l => cases Cl T n hi with
            | none => rfl
            | some r => cases B4 c.P t with
              | none => rfl
              | some e =>
                simp only [ab]
                cases Aw c.P e with
                | none => rfl
                | some sz =>
                  simp only [ab]
                  split
                  · split <;> first | rfl | exact Dv
                  · rfl
        | some mx =>
          cases lo with
          | some _ => rfl
          | none => cases hi with
            | none => rfl
            | some hi =>
              simp only [ab, hl]
              cases B4 c.P t with
              | none => rfl
              | some e =>
                simp only [ab]
                cases Aw c.P e with
                | none => rfl
                | some sz =>
                  simp only [ab]
                  split
                  · split <;> rfl
                  · rfl
  case fieldAddr s x f =>
    cases AK c.P s f with
    | none => rfl
    | some off =>
      simp only [ab]
      split <;> rfl
  case field s x f =>
    cases AK c.P s f with
    | none => rfl
    | some off =>
      simp only [ab]
      split
      · split
        · exact Dv
        · rfl
      · rfl
  case indexAddr t x i =>
    cases B4 c.P t with
    | none => rfl
    | some e =>
      simp only [ab]
      cases Aw c.P e with
      | none => rfl
      | some sz => cases ev T x with
        | none => rfl
        | some v =>
          simp only [ab]
          split
          · cases Cd v with
            | none => rfl
            | some n =>
              simp only [ab]
              split
              · split <;> rfl
              · rfl
          · rfl
  case index t x i =>
    split
    · split
      · exact Dv
      · rfl
    · rfl
  case extract x i =>
    split
    · exact Dv
    · rfl
  case call k =>
    obtain ⟨callee, args, ats⟩ := k
    cases callee with
    | invoke r n => simp at hp
    | value f => simp at hp
    | builtin b =>
      cases b <;> simp only [ba] at hp
      case len =>
        simp only []
        split
        · split
          · rfl
          · rename_i v _ _
            cases Cd v <;> rfl
          · rfl
        · rfl
      case min =>
        simp only []
        split
        · split <;> rfl
        · rfl
      case max =>
        simp only []
        split
        · split <;> rfl
        · rfl
theorem Wk {c : Cx} (hs : c.still = true) {o : bq} (hp : Ge c.lits o = true) {T : Nat → V} {H H' : A4} {v : V} (h : C5 c o { T := T, H := H } = some (v, H')) : H' = H ∧ ∀ H2, C5 c o { T := T, H := H2 } = some (v, H2) := by
  by_cases hb : ∀ t n ps, o.op ≠ .buildSlice t n ps
  · have h1 := LK (c := c) hp hb (T := T) (H := H) (H2 := H)
    rw [h] at h1
    simp only [ai, aa, ag, true_and] at h1
    exact ⟨h1, fun H2 => by rw [LK (c := c) hp hb (T := T) (H := H) (H2 := H2), h]; rfl⟩
  · obtain ⟨t, n, ps, ho⟩ : ∃ t n ps, o.op = .buildSlice t n ps := fo fun hx => hb fun t n ps e => hx ⟨t, n, ps, e⟩
    simp only [C5, ho] at h ⊢
    simp only [ae, Prod.exists] at h
    obtain ⟨ps1, h1, ps2, H1, h2, e, h3, sz, h4, z, h5, h6⟩ := h
    obtain ⟨rfl, k⟩ := I1 hs _ _ _ _ h2
    split at h6
    case isFalse => cases h6
    rename_i hc
    have hown : c.own n = false := by
      have : c.lits = false := by simpa [Ge, ho] using hp
      simp only [Cx.lits] at this
      simp [Cx.own, this]
    simp only [hown, ba, if_false, af, ag] at h6
    obtain ⟨cs, h7, rfl, rfl⟩ := h6
    refine ⟨rfl, fun H2 => ?_⟩
    simp only [h1, ab, k H2, h3, h4, h5, hown, ba, if_false]
    rw [if_pos hc, h7]
    rfl
def DJ (c : Cx) (ops : Array bq) (o : bq) (S : St) : Option (V × A4) := (CW ops S.T o).bind fun b => if b then C5 c o S else some (C7, S.H)
def IF (dst : Option Nat) (r : V × A4) (S : St) : St := { T := match dst with | some d => fun i => if i = d then r.1 else S.T i | none => S.T, H := r.2 }
def ZU (c : Cx) (o : bq) : Bool := match o.dst with | some d => decide (d < c.ntmps) | none => true
theorem Dn (c : Cx) (ops : Array bq) (o : bq) (S : St) : BZ c ops o S = (DJ c ops o S).bind fun r => if ZU c o = true then some (IF o.dst r S) else none := by
 unfold BZ DJ ZU
 cases CW ops S.T o with
 | none => rfl
 | some b =>
  simp only [ab]
  cases b with
  | true =>
   simp only [if_true, IV]
   cases o.dst with
   | none => cases C5 c o S <;> rfl
   | some d =>
    by_cases hd : d < c.ntmps
    ·simp only [hd, if_true, decide_true]; cases C5 c o S <;> rfl
    ·simp only [hd, if_false, decide_false]; cases C5 c o S <;> simp
  | false =>
   simp only [ba, if_false]
   cases o.dst with
   | none => rfl
   | some d =>
    by_cases hd : d < c.ntmps
    ·simp only [hd, if_true, decide_true, ab]; rfl
    ·simp only [hd, if_false, decide_false, ab]; simp
theorem Of {ops : Array bq} {o : bq} {T T' : Nat → V} (h : ∀ t ∈ o.looksAt ops, T t = T' t) : CW ops T o = CW ops T' o := by
 unfold CW
 cases hg : o.guard with
 | none => rfl
 | some gw =>
  obtain ⟨j, want⟩ := gw
  simp only []
  cases ht : (ops[j]?).bind (·.dst) with
  | none => rfl
  | some t =>
   simp only []
   rw [h t (by simp [Oper.looksAt, hg, ht])]
theorem I0 {c : Cx} {ops : Array bq} {o : bq} {T T' : Nat → V} {H : A4} (h : ∀ t ∈ o.looksAt ops, T t = T' t) : DJ c ops o { T := T, H := H } = DJ c ops o { T := T', H := H } := by
  unfold DJ
  rw [Of (T := T) (T' := T') h, P9 c o (T := T) (T' := T') fun x hx => ?_]
  cases x with
  | tmp t =>
    simp only [ev]
    rw [h t (cq _ (jv.2 ⟨.tmp t, by simpa using hx, rfl⟩))]
  | _ => rfl
theorem On {c : Cx} (hs : c.still = true) {ops : Array bq} {o : bq} (hp : Ge c.lits o = true) {T : Nat → V} {H H' : A4} {v : V} (h : DJ c ops o { T := T, H := H } = some (v, H')) : H' = H ∧ ∀ H2, DJ c ops o { T := T, H := H2 } = some (v, H2) := by
  unfold DJ at h ⊢
  simp only [ae] at h
  obtain ⟨b, hb, h⟩ := h
  cases b with
  | true =>
    simp only [if_true] at h
    obtain ⟨k1, k2⟩ := Wk hs hp h
    exact ⟨k1, fun H2 => by simp only [hb, ab, if_true]; exact k2 H2⟩
  | false =>
    simp only [ba, if_false, aa, ag] at h
    obtain ⟨rfl, rfl⟩ := h
    exact ⟨rfl, fun H2 => by simp only [hb, ab, ba, if_false]⟩
def Bl (H H' : A4) : Prop := (∀ (b sz : Nat) (cs : List V), H[b]? = some (.cells sz cs) → H'[b]? = some (.cells sz cs)) ∧ ∀ (b : Nat) (As : List (V × V)), H[b]? = some (.mp As) → H'[b]? = some (.mp As)
theorem Bl.refl (H : A4) : Bl H H := ⟨fun _ _ _ h => h, fun _ _ h => h⟩
theorem Bl.push (H x : A4) : Bl H (H ++ x) := ⟨fun b z cs hB => by rw [az (al.1 hB).1]; exact hB, fun b As hB => by rw [az (al.1 hB).1]; exact hB⟩
theorem Om {c : Cx} {ops : Array bq} {o : bq} (hp : Gd o = true) {T : Nat → V} {H H' : A4} {v : V} (h : DJ c ops o { T := T, H := H } = some (v, H')) : H' = H ∧ ∀ H2, Bl H H2 → DJ c ops o { T := T, H := H2 } = some (v, H2) := by
  unfold DJ at h ⊢
  simp only [ae] at h
  obtain ⟨b, hb, h⟩ := h
  cases b with
  | true =>
    simp only [if_true] at h
    unfold Gd at hp
    split at hp
    case h_3 => cases hp
    · rename_i t x ho
      simp only [C5, ho, ae, af, ag] at h
      obtain ⟨p, hx, v', hl, rfl, rfl⟩ := h
      refine ⟨rfl, fun H2 hsame => ?_⟩
      simp only [hb, ab, if_true, C5, ho, hx]
      have : Ep c.P t H2 p = some v' := by
        unfold Ep at hl ⊢
        cases p with
        | ptr b off =>
          simp only [] at hl ⊢
          split at hl
          case h_2 => cases hl
          rename_i sz cs hB
          rw [hsame.1 b sz cs hB]
          exact hl
        | lp lv cs off => exact hl
        | _ => simp at hl
      rw [this]
      rfl
    · rename_i t x k ok ho
      simp only [C5, ho, ae, af, ag] at h
      obtain ⟨m, hx, kv, hk, v', hl, rfl, rfl⟩ := h
      refine ⟨rfl, fun H2 hsame => ?_⟩
      simp only [hb, ab, if_true, C5, ho, hx, hk]
      have : IT c.P t H2 m kv ok = some v' := by
        unfold IT at hl ⊢
        cases m with
        | D3 b =>
          simp only [] at hl ⊢
          split at hl
          case h_2 => cases hl
          rename_i As hB
          rw [hsame.2 b As hB]
          exact hl
        | _ => simp at hl
      rw [this]
      rfl
  | false =>
    simp only [ba, if_false, aa, ag] at h
    obtain ⟨rfl, rfl⟩ := h
    exact ⟨rfl, fun H2 _ => by simp only [hb, ab, ba, if_false]⟩
theorem Uf {q : Sc} {x y : V} (hs : q ≠ .s) (h : Ee q x y = some true) : x = y := by
 cases q <;> cases x <;> cases y <;> simp_all [Ee]
theorem Mk : ∀ {ks : List Sc} {xs ys : List V}, (ks.all fun q => decide (q ≠ .s)) = true → xs.length = ks.length → ys.length = ks.length → CV ks xs ys = some true → xs = ys
 | [], xs, ys, _, hx, hy, _ => by rw [bx hx, bx hy]
 | k :: ks, [], _, _, hx, _, _ => by simp at hx
 | k :: ks, _ :: _, [], _, _, hy, _ => by simp at hy
 | k :: ks, x :: xs, y :: ys, hk, hx, hy, h => by
  simp only [List.all_cons, av, decide_eq_true_eq] at hk
  simp only [CV, ae] at h
  obtain ⟨b, h1, h2⟩ := h
  cases b with
  | false => simp at h2
  | true =>
   simp only [if_true] at h2
   rw [Uf hk.1 h1, Mk hk.2 (by simpa using hx) (by simpa using hy) h2]
theorem Vr {P : bg} {k : ao} {kt : KT} (hk : OX P k = some kt) {x y : V} (h : Dc kt x y = some true) : x = y := by
 cases kt with
 | one q =>
  cases q with
  | s =>
   cases x <;> cases y <;> simp only [Dc] at h <;> try (cases h; done)
   simp only [aa] at h
   rw [(Go.MapKept.bytes_beq _ _).1 h]
  | b => cases x <;> cases y <;> simp_all [Dc, Ee]
  | i => cases x <;> cases y <;> simp_all [Dc, Ee]
 | many ks =>
  obtain ⟨xs, ys, rfl, rfl, h1, h2, h3⟩ := I2 h
  rw [Mk (JJ hk).2 h1 h2 h3]
theorem NM {kt : KT} {k z : V} (hs : Dc kt k k = some true) : ∀ (As : List (V × V)) (i : Nat), EN kt k As i = some none → EN kt k (As ++ [(k, z)]) i = some (some (i + As.length, z))
 | [], i, _ => by simp [EN, hs]
 | e :: As, i, h => by
  simp only [EN, ae] at h
  obtain ⟨b, hb, h⟩ := h
  cases b with
  | true => simp at h
  | false =>
   simp only [ba, if_false] at h
   simp only [di, EN, hb, ab, ba, if_false]
   rw [NM hs As (i + 1) h, List.length_cons]
   congr 3
   omega
theorem Sl {c : Cx} {t : ao} {H H' : A4} {m k v r : V} (h : HO c t H m k = some (v, H')) (hl : IT c.P t H m k false = some r) : IT c.P t H' m k false = some r := by
 unfold HO at h
 split at h
 case h_2 => cases h
 rename_i b
 split at h
 case h_2 => cases h
 rename_i As hb
 simp only [ae] at h
 obtain ⟨q, hq, h⟩ := h
 split at h
 case isFalse => cases h
 rename_i hc
 simp only [ae] at h
 obtain ⟨f, hf, h⟩ := h
 obtain ⟨kt, _, hkt⟩ := JN hq
 have hlt : b < H.length := (al.1 hb).1
 unfold IT at hl ⊢
 simp only [hb, hq, ab, if_pos (show BE k = true ∧ Dc q.1 k k = some true from ⟨hc.1, hc.2.1⟩), hf] at hl
 cases f with
 | some f =>
  obtain ⟨i, vv⟩ := f
  simp only [aa, ag] at h
  obtain ⟨_, rfl⟩ := h
  obtain ⟨n, kk, h1, h2, h3⟩ := Hh As 0 i vv hf
  have : i = n := by omega
  subst this
  have hkk := Vr hkt h3
  subst hkk
  have hset : As.set i (k, vv) = As := by
   apply List.ext_getElem?
   intro j
   rw [List.getElem?_set]
   split
   ·rename_i e; subst e; rw [if_pos (al.1 h2).1, h2]
   ·rfl
  rw [hset]
  have hg : (H.set b (.mp As))[b]? = some (.mp As) := by rw [Ab, if_pos ⟨rfl, hlt⟩]
  simp only [hg, hq, ab, if_pos (show BE k = true ∧ Dc q.1 k k = some true from ⟨hc.1, hc.2.1⟩), hf]
  exact hl
 | none =>
  simp only [ae] at h
  obtain ⟨z, hz, h⟩ := h
  split at h
  case isFalse => cases h
  simp only [aa, ag] at h
  obtain ⟨_, rfl⟩ := h
  simp only [ab, hz, ai] at hl
  have hg : (H.set b (.mp (As ++ [(k, z)])))[b]? = some (.mp (As ++ [(k, z)])) := by rw [Ab, if_pos ⟨rfl, hlt⟩]
  simp only [hg, hq, ab, if_pos (show BE k = true ∧ Dc q.1 k k = some true from ⟨hc.1, hc.2.1⟩), NM hc.2.1 As 0 hf]
  exact hl
theorem X0 {cx cy : Cx} (hP : cx.P = cy.P) (hx : cx.still = true) (hy : cy.still = true) (hl : cx.lits = cy.lits) {ops : Array bq} {x y : bq} (hsw : IK cx.lits ops x y = true) {S : St} {vx vy : V} {Hx Hy : A4} (h1 : DJ cx ops x S = some (vx, Hx)) (h2 : DJ cy ops y (IF x.dst (vx, Hx) S) = some (vy, Hy))
    (hk : Gd x = true → Df y = true → ∀ v H', DJ cy ops y S = some (v, H') → Bl S.H H') :
    ∃ H1, DJ cy ops y S = some (vy, H1) ∧ DJ cx ops x (IF y.dst (vy, H1) S) = some (vx, Hy) := by
  unfold IK at hsw
  simp only [av, de] at hsw
  obtain ⟨⟨ha, _⟩, hcl⟩ := hsw
  obtain ⟨a1, a2, a3⟩ := Oper.apart_spec ha
  obtain ⟨T, H⟩ := S
  have ey : ∀ H', DJ cy ops y (IF x.dst (vx, H') { T := T, H := H }) = DJ cy ops y { T := T, H := H' } := by
    intro H'
    unfold IF
    refine I0 fun t ht => ?_
    cases hd : x.dst with
    | none => rfl
    | some d =>
      simp only []
      rw [if_neg (fun (e : t = d) => a1 d hd (e ▸ ht))]
  have ex : ∀ v H', DJ cx ops x (IF y.dst (v, H') { T := T, H := H }) = DJ cx ops x { T := T, H := H' } := by
    intro v H'
    unfold IF
    refine I0 fun t ht => ?_
    cases hd : y.dst with
    | none => rfl
    | some d =>
      simp only []
      rw [if_neg (fun (e : t = d) => a3 d hd (e ▸ ht))]
  rw [ey] at h2
  rcases hcl with ((hp | hp) | hp) | hp
  · obtain ⟨rfl, k⟩ := On hx hp h1
    exact ⟨Hy, h2, by rw [ex]; exact k Hy⟩
  · obtain ⟨rfl, k⟩ := On hy (hl ▸ hp) h2
    exact ⟨H, k H, by rw [ex]; exact h1⟩
  · obtain ⟨hl, hp⟩ := hp
    obtain ⟨rfl, k⟩ := Om hl h1
    rcases hp with hp | hp
    · obtain ⟨rfl, _⟩ := Om hp h2
      exact ⟨Hy, h2, by rw [ex]; exact h1⟩
    · exact ⟨Hy, h2, by rw [ex]; exact k Hy (hk hl hp _ _ h2)⟩
  · obtain ⟨⟨he, hgx⟩, hgy⟩ := hp
    unfold Nk at he
    split at he
    case h_2 => cases he
    rename_i t ax kx t' ay ky hox hoy
    simp only [av, beq_iff_eq] at he
    obtain ⟨⟨rfl, rfl⟩, rfl⟩ := he
    have g1 : x.guard = none := by unfold HQ at hgx; split at hgx; assumption; cases hgx
    have g2 : y.guard = none := by unfold HQ at hgy; split at hgy; assumption; cases hgy
    have e1 : ∀ H', DJ cx ops x { T := T, H := H' } = (IT cx.P t H' (T ax) (T kx) false).map fun v => (v, H') := by
      intro H'
      simp only [DJ, CW, g1, ab, if_true, C5, hox, ev]
    have e2 : DJ cy ops y { T := T, H := Hx } = HO cy t Hx (T ax) (T kx) := by
      simp only [DJ, CW, g2, ab, if_true, C5, hoy, ev]
    rw [e1, af] at h1
    obtain ⟨r, hr, h1⟩ := h1
    simp only [ag] at h1
    obtain ⟨rfl, rfl⟩ := h1
    refine ⟨Hy, h2, ?_⟩
    rw [ex, e1]
    rw [e2] at h2
    rw [hP] at hr ⊢
    rw [Sl h2 hr]
    rfl
theorem Lq {cx cy : Cx} {ops : Array bq} {x y : bq} (ha : Oper.apart ops x y = true) {S S1 S2 : St} (h1 : BZ cx ops x S = some S1) (h2 : BZ cy ops y S1 = some S2)
  (key : ∀ vx Hx vy Hy, DJ cx ops x S = some (vx, Hx) → DJ cy ops y (IF x.dst (vx, Hx) S) = some (vy, Hy) → ∃ H1, DJ cy ops y S = some (vy, H1) ∧ DJ cx ops x (IF y.dst (vy, H1) S) = some (vx, Hy)) :
  ∃ S1', BZ cy ops y S = some S1' ∧ BZ cx ops x S1' = some S2 := by
 rw [Dn] at h1 h2
 simp only [ae, Prod.exists] at h1 h2
 obtain ⟨vx, Hx, e1, h1⟩ := h1
 obtain ⟨vy, Hy, e2, h2⟩ := h2
 split at h1
 case isFalse => cases h1
 rename_i c1
 split at h2
 case isFalse => cases h2
 rename_i c2
 simp only [aa] at h1 h2
 subst h1
 obtain ⟨H1, k1, k2⟩ := key _ _ _ _ e1 e2
 refine ⟨IF y.dst (vy, H1) S, ?_, ?_⟩
 ·rw [Dn, k1]
  simp only [ab]
  rw [if_pos c2]
 ·rw [Dn, k2]
  simp only [ab]
  rw [if_pos c1, ← h2]
  obtain ⟨_, a2, _⟩ := Oper.apart_spec ha
  unfold IF
  congr 1
  simp only [St.mk.injEq, and_true]
  cases hdx : x.dst with
  | none => rfl
  | some dx =>
   cases hdy : y.dst with
   | none => rfl
   | some dy =>
    have hne : dy ≠ dx := fun e => a2 dx hdx (by rw [hdy, e])
    funext i
    simp only []
    by_cases hi : i = dx
    ·subst hi
     rw [if_pos rfl, if_neg (fun e => hne e.symm), if_pos rfl]
    ·rw [if_neg hi]
     by_cases hj : i = dy
     ·rw [if_pos hj, if_pos hj]
     ·rw [if_neg hj, if_neg hj, if_neg hi]
theorem Sb {cx cy : Cx} (hP : cx.P = cy.P) (hn : cx.ntmps = cy.ntmps) (hx : cx.still = true) (hy : cy.still = true) (hl : cx.lits = cy.lits) {ops : Array bq} {x y : bq} (hsw : IK cx.lits ops x y = true) {S S1 S2 : St} (h1 : BZ cx ops x S = some S1) (h2 : BZ cy ops y S1 = some S2)
  (hk : Gd x = true → Df y = true → ∀ v H', DJ cy ops y S = some (v, H') → Bl S.H H') :
  ∃ S1', BZ cy ops y S = some S1' ∧ BZ cx ops x S1' = some S2 := by
 refine Lq ?_ h1 h2 fun vx Hx vy Hy e1 e2 => X0 hP hx hy hl hsw e1 e2 hk
 unfold IK at hsw
 simp only [av] at hsw
 exact hsw.1.1
theorem QI {c : Cx} {ops : Array bq} {o : bq} {S S' : St} (h : BZ c ops o S = some S') {a : Nat} (hd : o.dst ≠ some a) : S'.T a = S.T a := by
 rw [Dn] at h
 simp only [ae] at h
 obtain ⟨r, _, h⟩ := h
 split at h
 case isFalse => cases h
 simp only [aa] at h
 subst h
 unfold IF
 cases hh : o.dst with
 | none => rfl
 | some d =>
  show (if a = d then _ else _) = _
  rw [if_neg]
  rintro rfl
  exact hd hh
theorem Wn {cf : Nat → Cx} {ops : Array bq} {a : Nat} : ∀ (l : List Nat) {S S' : St}, DK cf ops l S = some S' → (∀ k ∈ l, ∀ o, ops[k]? = some o → o.dst ≠ some a) → S'.T a = S.T a
 | [], S, S', h, _ => by simp only [DK, aa] at h; rw [h]
 | k :: l, S, S', h, hd => by
  simp only [DK] at h
  split at h
  ·cases h
  rename_i o ho
  simp only [ae] at h
  obtain ⟨S1, h1, h2⟩ := h
  rw [Wn l h2 fun k' hk' => hd k' (ca _ hk')]
  exact QI h1 (hd k (bu ..) o ho)
theorem Wy {c : Cx} {t : ao} {H H' : A4} {q off : Nat} {w : V} (h : FE c t H (.ptr q off) w = some H') (hq : c.base ≤ q) : ∃ x, H' = H.set q x := by
 unfold FE at h
 simp only [if_neg (dt.2 hq), ab] at h
 split at h
 case isFalse => cases h
 split at h
 ·split at h
  ·simp only [aa] at h
   exact ⟨_, h.symm⟩
  ·cases h
 ·cases h
theorem Yw {cx cy : Cx} {ops : Array bq} {x y : bq} {t t' : ao} {a b : Nat} {v : aw} (hx : x.op = .load t (.tmp a)) (hy : y.op = .store t' (.tmp b) v) (gx : x.guard = none) (gy : y.guard = none) (ha : Oper.apart ops x y = true) {S S1 S2 : St} (h1 : BZ cx ops x S = some S1) (h2 : BZ cy ops y S1 = some S2)
    (hp : G0 cy.base (S.T a) (S.T b) = true) : ∃ S1', BZ cy ops y S = some S1' ∧ BZ cx ops x S1' = some S2 := by
  refine Lq ha h1 h2 fun vx Hx vy Hy e1 e2 => ?_
  obtain ⟨a1, a2, a3⟩ := Oper.apart_spec ha
  obtain ⟨T, H⟩ := S
  have ey : ∀ H', DJ cy ops y (IF x.dst (vx, H') { T := T, H := H }) = DJ cy ops y { T := T, H := H' } := by
    intro H'
    unfold IF
    refine I0 fun t ht => ?_
    cases hd : x.dst with
    | none => rfl
    | some d =>
      simp only []
      rw [if_neg (fun (e : t = d) => a1 d hd (e ▸ ht))]
  have ex : ∀ v H', DJ cx ops x (IF y.dst (v, H') { T := T, H := H }) = DJ cx ops x { T := T, H := H' } := by
    intro v H'
    unfold IF
    refine I0 fun t ht => ?_
    cases hd : y.dst with
    | none => rfl
    | some d =>
      simp only []
      rw [if_neg (fun (e : t = d) => a3 d hd (e ▸ ht))]
  have x1 : ∀ H', DJ cx ops x { T := T, H := H' } = (Ep cx.P t H' (T a)).map fun v => (v, H') := by
    intro H'
    simp only [DJ, CW, gx, ab, if_true, C5, hx, ev]
  have y1 : ∀ H', DJ cy ops y { T := T, H := H' } = (ev T v).bind fun w => (FE cy t' H' (T b) w).map fun H => (C7, H) := by
    intro H'
    simp only [DJ, CW, gy, ab, if_true, C5, hy]
    rfl
  rw [ey] at e2
  rw [x1, af] at e1
  obtain ⟨r, hr, e1⟩ := e1
  simp only [ag] at e1
  obtain ⟨rfl, rfl⟩ := e1
  refine ⟨Hy, e2, ?_⟩
  rw [ex, x1]
  rw [y1] at e2
  simp only [ae, af, ag] at e2
  obtain ⟨w, _, H2, e2, _, rfl⟩ := e2
  have hl : Ep cx.P t H2 (T a) = Ep cx.P t H (T a) := by
    simp only [] at hp
    cases hb : T b with
    | ptr q off =>
      rw [hb] at hp e2
      cases hA : T a with
      | ptr p o =>
        rw [hA] at hp
        simp only [G0, av, bne_iff_ne, ne_eq, decide_eq_true_eq] at hp
        obtain ⟨z, rfl⟩ := Wy e2 hp.2
        unfold Ep
        simp only []
        rw [Ab, if_neg]
        rintro ⟨e, _⟩
        exact hp.1 e.symm
      | lp _ _ _ => rfl
      | _ => rw [hA] at hp; simp [G0] at hp
    | _ => rw [hb] at hp; cases hA : T a <;> rw [hA] at hp <;> simp [G0] at hp
  rw [hl, hr]; rfl
def CY (lo : Nat) (lk : Lk) (H H' : A4) : Prop := H.length ≤ H'.length ∧ ∀ b, b < lo → AT lk b = false → H'[b]? = H[b]?
theorem CY.refl (lo : Nat) (lk : Lk) (H : A4) : CY lo lk H H := ⟨ak _, fun _ _ _ => rfl⟩
theorem CY.trans {lo : Nat} {lk : Lk} {A B C : A4} (h : CY lo lk A B) (k : CY lo lk B C) : CY lo lk A C := ⟨bt h.1 k.1, fun b hb hl => (k.2 b hb hl).trans (h.2 b hb hl)⟩
def FU (Γ : fh → List V → A4 → Lk → Option (V × A4)) : Prop := ∀ k args H lk v H', Γ k args H lk = some (v, H') → CY H.length lk H H'
theorem LA {lo : Nat} {lk : Lk} {H : A4} (x : List Bb) (hl : lo ≤ H.length) : CY lo lk H (H ++ x) :=
 ⟨by simp, fun b hb _ => by rw [az (by omega)]⟩
theorem Ho {c : Cx} {H : A4} {b : Nat} {x : Bb} (hm : c.BX b = true) : CY c.base c.lk H (H.set b x) := by
 refine ⟨by simp, fun y hy hl => ?_⟩
 rw [Ab, if_neg]
 rintro ⟨rfl, _⟩
 unfold Cx.BX at hm
 simp only [de, decide_eq_true_eq] at hm
 rcases hm with hm | hm
 ·omega
 ·rw [hm] at hl; cases hl
theorem L9 {lo k : Nat} {lk : Lk} {H H' : A4} {v v' : V} (h : Af lo k H v = some (v', H')) : CY lo lk H H' :=
 ⟨by rw [Gz lo k H v v' H' h]; exact ak _, fun b hb _ => JH lo k H v v' H' h b hb⟩
theorem Oz {c : Cx} : ∀ (vs : List V) (ms : List Qq) (H : A4) (vs' : List V) (M : List Nat) (H' : A4), Ah c ms H vs = some (vs', M, H') → CY c.base c.lk H H' ∧ H'.length = H.length ∧ (c.calm = true → H' = H)
 | [], ms, H, vs', M, H', h => by
  simp only [Ah, aa, ag] at h
  obtain ⟨_, _, rfl⟩ := h
  exact ⟨CY.refl _ _ _, rfl, fun _ => rfl⟩
 | v :: vs, ms, H, vs', M, H', h => by
  simp only [Ah, ae, af, Prod.exists, ag] at h
  obtain ⟨v1, M1, Hm, h1, vs2, M2, H2, h2, _, _, rfl⟩ := h
  obtain ⟨k1, l1, c1⟩ := Oz vs ms.tail Hm vs2 M2 H2 h2
  have key : CY c.base c.lk H Hm ∧ Hm.length = H.length ∧ (c.calm = true → Hm = H) := by
   unfold Fo at h1
   cases hmode : ms.headD .M8 with
   | M8 =>
    simp only [hmode, af, Prod.exists, ag] at h1
    obtain ⟨_, _, _, _, _, rfl⟩ := h1
    exact ⟨CY.refl _ _ _, rfl, fun _ => rfl⟩
   | exact =>
    simp only [hmode, aa, ag] at h1
    obtain ⟨_, _, rfl⟩ := h1
    exact ⟨CY.refl _ _ _, rfl, fun _ => rfl⟩
   | part =>
    simp only [hmode, aa, ag] at h1
    obtain ⟨_, _, rfl⟩ := h1
    exact ⟨CY.refl _ _ _, rfl, fun _ => rfl⟩
   | share =>
    simp only [hmode] at h1
    split at h1
    ·cases h1
    rename_i hc
    simp only [af, Prod.exists, ag] at h1
    obtain ⟨v1', Hm', hg, _, _, rfl⟩ := h1
    exact ⟨L9 hg, Gz _ _ _ _ _ _ hg, fun hx => absurd hx hc⟩
  exact ⟨key.1.trans k1, l1.trans key.2.1, fun hx => (c1 hx).trans (key.2.2 hx)⟩
theorem Nm {c : Cx} : ∀ (ps : List (Nat × V)) (H : A4) (ps' : List (Nat × V)) (H' : A4), CH c H ps = some (ps', H') → CY c.base c.lk H H'
 | [], H, ps', H', h => by
  simp only [CH, aa, ag] at h
  obtain ⟨_, rfl⟩ := h
  exact CY.refl _ _ _
 | (i, v) :: ps, H, ps', H', h => by
  simp only [CH, ae, af, Prod.exists, ag] at h
  obtain ⟨v1, H1, hv, ps2, H3, h2, _, rfl⟩ := h
  refine CY.trans ?_ (Nm ps H1 ps2 H3 h2)
  unfold FL at hv
  split at hv
  ·simp only [aa, ag] at hv
   obtain ⟨_, rfl⟩ := hv
   exact CY.refl _ _ _
  split at hv
  ·split at hv
   ·simp only [aa, ag] at hv
    obtain ⟨_, rfl⟩ := hv
    exact CY.refl _ _ _
   ·cases hv
  ·exact L9 hv
theorem Sh {c : Cx} {t : ao} {H H' : A4} {p x : V} (h : FE c t H p x = some H') : CY c.base c.lk H H' := by
 cases p with
 | ptr b off =>
  simp only [FE] at h
  split at h
  case isFalse => cases h
  rename_i hm
  simp only [ae, Prod.exists] at h
  obtain ⟨x1, H1, hx, h⟩ := h
  split at h
  case h_2 => cases h
  split at h
  case isFalse => cases h
  simp only [aa] at h
  subst h
  refine CY.trans ?_ (Ho hm)
  split at hx
  ·split at hx
   ·split at hx
    ·simp only [aa, ag] at hx
     obtain ⟨_, rfl⟩ := hx
     exact CY.refl _ _ _
    ·cases hx
   ·exact L9 hx
  ·simp only [aa, ag] at hx
   obtain ⟨_, rfl⟩ := hx
   exact CY.refl _ _ _
 | _ => simp [FE] at h
theorem RQ {c : Cx} {st xt : ao} {H H' : A4} {s x v : V} (hb : c.base ≤ H.length) (h : E6 c st xt H s x = some (v, H')) : CY c.base c.lk H H' ∧ Bl H H' := by
 unfold E6 at h
 simp only [ae] at h
 obtain ⟨e, _, sz, _, by_, _, z, _, h⟩ := h
 split at h
 case isFalse => cases h
 simp only [ae] at h
 obtain ⟨n, _, xs, _, h⟩ := h
 split at h
 case isFalse => cases h
 have none_ : some (s, H) = some (v, H') → CY c.base c.lk H H' ∧ Bl H H' := by
  intro h
  simp only [aa, ag] at h
  obtain ⟨_, rfl⟩ := h
  exact ⟨CY.refl _ _ _, Bl.refl _⟩
 split at h
 ·split at h
  ·exact none_ h
  ·split at h
   case isFalse => cases h
   simp only [aa, ag] at h
   obtain ⟨_, rfl⟩ := h
   exact ⟨LA _ hb, Bl.push _ _⟩
 ·split at h
  ·exact none_ h
  ·split at h
   case h_2 => cases h
   rename_i l m' sz' hB
   split at h
   case isFalse => cases h
   rename_i hc
   simp only [aa, ag] at h
   obtain ⟨_, rfl⟩ := h
   refine ⟨Ho hc.2.2.2.2, fun b z cs hb => ?_, fun b As hb => ?_⟩ <;>
   ·rw [Ab, if_neg]
    ·exact hb
    ·rintro ⟨rfl, _⟩
     rw [hB] at hb
     cases hb
 ·cases h
theorem WU {c : Cx} {t : ao} {H H' : A4} {m k v : V} (h : TQ c t H m k v = some H') : CY c.base c.lk H H' := by
 unfold TQ at h
 split at h
 case h_2 => cases h
 split at h
 case h_2 => cases h
 simp only [ae] at h
 obtain ⟨q, _, h⟩ := h
 split at h
 case isFalse => cases h
 rename_i hc
 simp only [af] at h
 obtain ⟨r, _, rfl⟩ := h
 cases r <;> exact Ho hc.2.2.2
theorem Sg {c : Cx} {t : ao} {H H' : A4} {m k v : V} (h : HO c t H m k = some (v, H')) : CY c.base c.lk H H' := by
 unfold HO at h
 split at h
 case h_2 => cases h
 split at h
 case h_2 => cases h
 simp only [ae] at h
 obtain ⟨q, _, h⟩ := h
 split at h
 case isFalse => cases h
 rename_i hc
 simp only [ae] at h
 obtain ⟨r, _, h⟩ := h
 cases r with
 | some r =>
  obtain ⟨i, w⟩ := r
  simp only [aa, ag] at h
  obtain ⟨_, rfl⟩ := h
  exact Ho hc.2.2
 | none =>
  simp only [ae] at h
  obtain ⟨z, _, h⟩ := h
  split at h
  case isFalse => cases h
  simp only [aa, ag] at h
  obtain ⟨_, rfl⟩ := h
  exact Ho hc.2.2
theorem Sf {c : Cx} {H H' : A4} {m s v : V} (h : Jk c H m s v = some H') : CY c.base c.lk H H' := by
 unfold Jk at h
 split at h
 case h_2 => cases h
 split at h
 case h_2 => cases h
 split at h
 case isFalse => cases h
 rename_i hc
 simp only [af] at h
 obtain ⟨e, _, rfl⟩ := h
 exact Ho hc.2.2
theorem O5 {c : Cx} {o : bq} {t : ao} {n : Nat} {ps : Array (Nat × aw)} (ho : o.op = .buildSlice t n ps) {S : St} {v : V} {H' : A4} (hb : c.base ≤ S.H.length) (h : C5 c o S = some (v, H')) : CY c.base c.lk S.H H' := by
 simp only [C5, ho, ae, Prod.exists] at h
 obtain ⟨ps1, h1, ps2, H1, h2, e, h3, sz, h4, z, h5, h6⟩ := h
 split at h6
 case isFalse => cases h6
 simp only [af] at h6
 obtain ⟨cs, h7, h6⟩ := h6
 have hk := Nm _ _ _ _ h2
 split at h6 <;> simp only [ag] at h6 <;> obtain ⟨rfl, rfl⟩ := h6
 ·exact hk.trans (LA _ (bt hb hk.1))
 ·exact hk
theorem Wj {c : Cx} (hΓ : FU c.Γ) {o : bq} {S : St} {v : V} {H' : A4} (hb : c.base ≤ S.H.length) (h : C5 c o S = some (v, H')) :
  CY c.base c.lk S.H H' ∧ (Df o = true → (Du o = true → c.calm = true) → c.still = true → Bl S.H H') := by
 have push : ∀ x, CY c.base c.lk S.H (S.H ++ x) ∧ Bl S.H (S.H ++ x) := fun x =>
  ⟨LA _ hb, Bl.push _ _⟩
 by_cases hp : Ge true o = true
 ·by_cases hbs : ∀ t n ps, o.op ≠ .buildSlice t n ps
  ·obtain ⟨T, H⟩ := S
   have h1 := LK (c := c) hp hbs (T := T) (H := H) (H2 := H)
   rw [h] at h1
   simp only [ai, aa, ag, true_and] at h1
   subst h1
   exact ⟨CY.refl _ _ _, fun _ _ _ => Bl.refl _⟩
  ·obtain ⟨t, n, ps, ho⟩ : ∃ t n ps, o.op = .buildSlice t n ps := fo fun hx => hbs fun t n ps e => hx ⟨t, n, ps, e⟩
   simp [Ge, ho] at hp
 ·by_cases hbs : ∃ t n ps, o.op = .buildSlice t n ps
  ·obtain ⟨t, n, ps, ho⟩ := hbs
   refine ⟨O5 ho hb h, fun _ _ hst => ?_⟩
   simp only [C5, ho, ae, Prod.exists] at h
   obtain ⟨ps1, h1, ps2, H1, h2, e, h3, sz, h4, z, h5, h6⟩ := h
   obtain ⟨rfl, k⟩ := I1 hst _ _ _ _ h2
   split at h6
   case isFalse => cases h6
   simp only [af] at h6
   obtain ⟨cs, h7, h6⟩ := h6
   split at h6 <;> simp only [ag] at h6 <;> obtain ⟨rfl, rfl⟩ := h6
   ·exact (push _).2
   ·exact Bl.refl _
  unfold Ge at hp
  cases ho : o.op <;> simp only [ho, not_true_eq_false] at hp <;> simp only [C5, ho] at h <;> try (cases h; done)
  case buildSlice t n ps => exact absurd ⟨t, n, ps, ho⟩ hbs
  case alloc t =>
   simp only [ae, aa, ag] at h
   obtain ⟨sz, _, z, hz, rfl, rfl⟩ := h
   exact ⟨(push _).1, fun _ _ _ => (push _).2⟩
  case box t x =>
   simp only [ae] at h
   obtain ⟨sz, _, w, hw, h⟩ := h
   split at h
   ·simp only [aa, ag] at h
    obtain ⟨rfl, rfl⟩ := h
    exact ⟨(push _).1, fun _ _ _ => (push _).2⟩
   ·cases h
  case load t x =>
   simp only [ae, af, ag] at h
   obtain ⟨p, hp, _, hl, rfl, rfl⟩ := h
   exact ⟨CY.refl _ _ _, fun _ _ _ => Bl.refl _⟩
  case store t p x =>
   simp only [ae, af, ag] at h
   obtain ⟨P, hp, X, hx, H1, h1, rfl, rfl⟩ := h
   exact ⟨Sh h1, fun hk => by simp [Df, ho] at hk⟩
  case makeSlice t n m =>
   simp only [ae] at h
   obtain ⟨N, hn, M, hm, h⟩ := h
   unfold Iv at h
   split at h
   case h_2 => cases h
   simp only [ae] at h
   obtain ⟨e, he, sz, hsz, by_, hby, z, hz, h⟩ := h
   split at h
   case isFalse => cases h
   simp only [aa, ag] at h
   obtain ⟨rfl, rfl⟩ := h
   exact ⟨(push _).1, fun _ _ _ => (push _).2⟩
  case makeMap t r =>
   cases r with
   | none =>
    simp only [aa, ag] at h
    obtain ⟨rfl, rfl⟩ := h
    exact ⟨(push _).1, fun _ _ _ => (push _).2⟩
   | some r => cases h
  case lookup t x k ok =>
   simp only [ae, af, ag] at h
   obtain ⟨m, _, kv, _, _, _, _, rfl⟩ := h
   exact ⟨CY.refl _ _ _, fun _ _ _ => Bl.refl _⟩
  case mapUpdate t x k y =>
   simp only [ae, af, ag] at h
   obtain ⟨m, _, kv, _, w, _, H1, h1, _, rfl⟩ := h
   exact ⟨WU h1, fun hk => by simp [Df, ho] at hk⟩
  case mapEntry t x k =>
   simp only [ae] at h
   obtain ⟨m, _, kv, _, h⟩ := h
   exact ⟨Sg h, fun hk => by simp [Df, ho] at hk⟩
  case entryStore t x st y =>
   simp only [ae, af, ag] at h
   obtain ⟨m, _, sv, _, w, _, H1, h1, _, rfl⟩ := h
   exact ⟨Sf h1, fun hk => by simp [Df, ho] at hk⟩
  case call k =>
   obtain ⟨callee, args, ats⟩ := k
   cases callee with
   | invoke r n => cases h
   | value f =>
    simp only [] at h
    split at h
    case h_2 => cases h
    rename_i g caps hf
    simp only [ae, Prod.exists] at h
    obtain ⟨vs, hvs, as, M, H1, hl, hg⟩ := h
    obtain ⟨k1, k2, k3⟩ := Oz _ _ _ _ _ _ hl
    obtain ⟨q1, q2⟩ := hΓ _ _ _ _ _ _ hg
    have hlocked : c.calm = true → ∀ b, b < S.H.length → H'[b]? = S.H[b]? := fun hc b hlt => by
     have hH := k3 hc
     subst hH
     refine q2 b hlt ?_
     rw [jf]
     intro hx
     unfold AT at hx
     rw [cb] at hx
     have := hx _ (au.2 (.inr (bl.2 rfl)))
     simp only [Cx.DB, hc, if_true, ft, ep, decide_eq_false_iff_not] at this
     exact this (au.2 (.inr (dg.2 hlt)))
    refine ⟨k1.trans ⟨q1, fun b hbb hbl => q2 b (by rw [k2]; omega) ?_⟩, fun _ hcalm _ => ⟨fun b z cs hB => ?_, fun b As hB => ?_⟩⟩
    ·rw [jf] at hbl ⊢
     intro hx
     refine hbl ?_
     unfold AT at hx ⊢
     rw [cb] at hx ⊢
     exact fun l hl => hx l (au.2 (.inl hl))
    ·rw [hlocked (hcalm (by simp [Du, ho])) b (al.1 hB).1]; exact hB
    ·rw [hlocked (hcalm (by simp [Du, ho])) b (al.1 hB).1]; exact hB
   | builtin b =>
    cases b <;> simp only [not_true_eq_false] at hp <;> try (cases h; done)
    case append =>
     simp only [] at h
     split at h
     case h_2 => cases h
     simp only [ae] at h
     obtain ⟨p, hp, q, hq, h⟩ := h
     obtain ⟨k1, k2⟩ := RQ hb h
     exact ⟨k1, fun _ _ _ => k2⟩
def Cx.BQ (c : Cx) (s k : Bool) : Cx := { c with still := s, calm := k }
theorem R3 {c : Cx} (hΓ : FU c.Γ) {ops : Array bq} {o : bq} {S : St} {v : V} {H' : A4} (hb : c.base ≤ S.H.length) (h : DJ c ops o S = some (v, H')) :
  CY c.base c.lk S.H H' ∧ (Df o = true → (Du o = true → c.calm = true) → c.still = true → Bl S.H H') := by
 unfold DJ at h
 simp only [ae] at h
 obtain ⟨b, _, h⟩ := h
 cases b with
 | true => exact Wj hΓ hb (by simpa using h)
 | false =>
  simp only [ba, if_false, aa, ag] at h
  obtain ⟨_, rfl⟩ := h
  exact ⟨CY.refl _ _ _, fun _ _ _ => Bl.refl _⟩
theorem Ni {c : Cx} (hΓ : FU c.Γ) {ops : Array bq} {o : bq} {S S' : St} (hb : c.base ≤ S.H.length) (h : BZ c ops o S = some S') : CY c.base c.lk S.H S'.H := by
 rw [Dn] at h
 simp only [ae, Prod.exists] at h
 obtain ⟨v, H', h1, h2⟩ := h
 split at h2
 case isFalse => cases h2
 simp only [aa] at h2
 subst h2
 exact (R3 hΓ hb h1).1
theorem O7 {c : Cx} (hΓ : FU c.Γ) {cf : Nat → Cx} (hcf : ∀ i, ∃ s k, cf i = c.BQ s k) {ops : Array bq} : ∀ (l : List Nat) {S S' : St}, c.base ≤ S.H.length → DK cf ops l S = some S' → CY c.base c.lk S.H S'.H
 | [], S, S', hb, h => by
  simp only [DK, aa] at h
  subst h
  exact CY.refl _ _ _
 | i :: l, S, S', hb, h => by
  simp only [DK] at h
  split at h
  ·cases h
  simp only [ae] at h
  obtain ⟨S1, h1, h2⟩ := h
  obtain ⟨s, k, hc⟩ := hcf i
  rw [hc] at h1
  have k1 := Ni (c := c.BQ s k) hΓ hb h1
  exact CY.trans k1 (O7 hΓ hcf l (bt hb k1.1) h2)
theorem Ox {lo : Nat} {lk : Lk} {f : St → Option (X × St)} (hf : ∀ S x S', lo ≤ S.H.length → f S = some (x, S') → CY lo lk S.H S'.H) : ∀ (n : Nat) {S S' : St} {x : X}, lo ≤ S.H.length → ED f n S = some (x, S') → CY lo lk S.H S'.H
 | 0, S, S', x, hb, h => by simp [ED] at h
 | n + 1, S, S', x, hb, h => by
  simp only [ED] at h
  split at h
  ·rename_i S1 h1
   have k1 := hf _ _ _ hb h1
   exact k1.trans (Ox hf n (bt hb k1.1) h)
  ·exact hf _ _ _ hb h
theorem DY {c : Cx} (hΓ : FU c.Γ) (n : Nat) : ∀ (b : Code) {S S' : St} {x : X}, c.base ≤ S.H.length → AZ c n b S = some (x, S') → CY c.base c.lk S.H S'.H
 | .skip, S, S', x, hb, h => by
  simp only [AZ, aa, ag] at h
  obtain ⟨_, rfl⟩ := h
  exact CY.refl _ _ _
 | .region id ops draw, S, S', x, hb, h => by
  simp only [AZ, af, ag] at h
  obtain ⟨S1, h1, _, rfl⟩ := h
  split at h1
  ·split at h1
   ·simp only [ae] at h1
    obtain ⟨S2, h1, h2⟩ := h1
    split at h2
    ·cases h2; exact O7 hΓ (cf := Ed c ops) (fun i => ⟨true, _, rfl⟩) _ hb h1
    ·cases h2
   ·cases h1
  ·exact O7 hΓ (cf := fun _ => c) (fun i => ⟨c.still, c.calm, rfl⟩) _ hb h1
 | .seq p q, S, S', x, hb, h => by
  simp only [AZ] at h
  split at h
  ·rename_i S1 h1
   have k1 := DY hΓ n p hb h1
   exact k1.trans (DY hΓ n q (bt hb k1.1) h)
  ·exact DY hΓ n p hb h
 | .cond y p q, S, S', x, hb, h => by
  simp only [AZ] at h
  split at h
  ·exact DY hΓ n p hb h
  ·exact DY hΓ n q hb h
  ·cases h
 | .block id p, S, S', x, hb, h => by
  simp only [AZ] at h
  split at h
  ·rename_i i S1 h1
   have k1 := DY hΓ n p hb h1
   split at h <;>
   ·simp only [aa, ag] at h
    obtain ⟨_, rfl⟩ := h
    exact k1
  ·exact DY hΓ n p hb h
 | .loop p, S, S', x, hb, h => by
  simp only [AZ] at h
  exact Ox (fun S x S' hb h => DY hΓ n p hb h) n hb h
 | .exit id, S, S', x, hb, h => by
  simp only [AZ, aa, ag] at h
  obtain ⟨_, rfl⟩ := h
  exact CY.refl _ _ _
 | .ret, S, S', x, hb, h => by
  simp only [AZ, aa, ag] at h
  obtain ⟨_, rfl⟩ := h
  exact CY.refl _ _ _
 | .label _, _, _, _, _, h => by simp [AZ] at h
 | .goto _, _, _, _, _, h => by simp [AZ] at h
 | .scope _, _, _, _, _, h => by simp [AZ] at h
 | .refuse _, _, _, _, _, h => by simp [AZ] at h
 | .rangeFunc .., _, _, _, _, h => by simp [AZ] at h
def Ft (lo : Nat) (H H' : A4) : Prop := H'.length = H.length ∧ ∀ b, b < lo → H'[b]? = H[b]?
theorem Ft.refl (lo : Nat) (H : A4) : Ft lo H H := ⟨rfl, fun _ _ => rfl⟩
theorem Ft.trans {lo : Nat} {A B C : A4} (h : Ft lo A B) (k : Ft lo B C) : Ft lo A C := ⟨k.1.trans h.1, fun b hb => (k.2 b hb).trans (h.2 b hb)⟩
theorem Ft.kill {lo b : Nat} (H : A4) (hb : ¬ b < lo) : Ft lo H (H.set b .dead) :=
 ⟨by simp, fun x hx => by rw [Ab, if_neg]; rintro ⟨rfl, _⟩; exact hb hx⟩
theorem PH {lo : Nat} {f : A4 × List Bb → V → Option (V × A4 × List Bb)} (hf : ∀ X v v' X', f X v = some (v', X') → Ft lo X.1 X'.1) :
  ∀ (vs : List V) (X : A4 × List Bb) (vs' : List V) (X' : A4 × List Bb), Au.resL f X vs = some (vs', X') → Ft lo X.1 X'.1
 | [], X, vs', X', h => by
  simp only [Au.resL, aa, ag] at h
  obtain ⟨_, rfl⟩ := h
  exact Ft.refl _ _
 | v :: vs, X, vs', X', h => by
  simp only [Au.resL, ae, af, Prod.exists] at h
  obtain ⟨v1, Ha, na, h1, vs2, Hb, nb, h2, h3⟩ := h
  simp only [ag] at h3
  obtain ⟨_, rfl⟩ := h3
  exact (hf _ _ _ _ h1).trans (PH hf vs _ _ _ h2)
theorem PI {th : Bool} {lo d : Nat} : ∀ (k : Nat) (X : A4 × List Bb) (v v' : V) (X' : A4 × List Bb), Au th lo d k X v = some (v', X') → Ft lo X.1 X'.1
 | 0, X, v, v', X', h => by simp [Au] at h
 | k + 1, X, v, v', X', h => by
  have ih := PH fun X v v' X' h => PI (th := th) (lo := lo) (d := d) k X v v' X' h
  have same : ∀ {x : V}, some (x, X) = some (v', X') → Ft lo X.1 X'.1 := by
   intro x h
   simp only [aa, ag] at h
   obtain ⟨_, rfl⟩ := h
   exact Ft.refl _ _
  cases v with
  | int _ _ => simp only [Au] at h; exact same h
  | bool _ => simp only [Au] at h; exact same h
  | str _ => simp only [Au] at h; exact same h
  | Gg => simp only [Au] at h; exact same h
  | Dw => simp only [Au] at h; exact same h
  | ptr b _ =>
   simp only [Au] at h
   split at h
   ·exact same h
   ·cases h
  | D3 b =>
   simp only [Au] at h
   split at h
   ·exact same h
   ·cases h
  | lit _ _ _ =>
   simp only [Au] at h
   split at h
   ·exact same h
   ·cases h
  | tl n cs =>
   simp only [Au] at h
   split at h
   ·exact same h
   ·simp only [af, Prod.exists, ag] at h
    obtain ⟨cs', Ha, na, h1, _, rfl⟩ := h
    exact ih _ _ _ _ h1
  | snap b n cs =>
   simp only [Au] at h
   split at h
   case h_2 => cases h
   split at h
   ·cases h
   rename_i hc
   simp only [ae, Prod.exists] at h
   obtain ⟨cs', Ha, na, h1, h⟩ := h
   have k1 := (Ft.kill X.1 (fun hx => hc (.inl hx))).trans (ih _ _ _ _ h1)
   split at h
   ·split at h
    ·simp only [aa, ag] at h
     obtain ⟨_, rfl⟩ := h
     exact k1
    ·cases h
   ·simp only [aa, ag] at h
    obtain ⟨_, rfl⟩ := h
    exact k1
  | pre b m0 n cs =>
   simp only [Au] at h
   split at h
   case h_2 => cases h
   split at h
   ·cases h
   split at h
   ·split at h
    ·exact same h
    ·cases h
   rename_i hlo
   split at h
   ·cases h
   simp only [ae, Prod.exists] at h
   obtain ⟨cs', Ha, na, h1, h⟩ := h
   have k1 := (Ft.kill X.1 hlo).trans (ih _ _ _ _ h1)
   split at h
   ·split at h
    ·simp only [aa, ag] at h
     obtain ⟨_, rfl⟩ := h
     exact k1
    ·cases h
   ·simp only [aa, ag] at h
    obtain ⟨_, rfl⟩ := h
    exact k1
  | sl b off n =>
   simp only [Au] at h
   split at h
   ·exact same h
   rename_i hlo
   split at h
   case h_2 => cases h
   split at h
   ·cases h
   simp only [ae, Prod.exists] at h
   obtain ⟨cs', Ha, na, h1, h⟩ := h
   have k1 := (Ft.kill X.1 hlo).trans (ih _ _ _ _ h1)
   split at h
   ·split at h
    ·simp only [aa, ag] at h
     obtain ⟨_, rfl⟩ := h
     exact k1
    ·cases h
   ·simp only [aa, ag] at h
    obtain ⟨_, rfl⟩ := h
    exact k1
  | agg cs =>
   simp only [Au, af, Prod.exists, ag] at h
   obtain ⟨cs', Ha, na, h1, _, rfl⟩ := h
   exact ih _ _ _ _ h1
  | EZ cs =>
   simp only [Au, af, Prod.exists, ag] at h
   obtain ⟨cs', Ha, na, h1, _, rfl⟩ := h
   exact ih _ _ _ _ h1
  | _ => simp [Au] at h
theorem PN {base : Nat} {H1 H2 : A4} {x : List Bb} (hk : ∀ b, b < base → H2[b]? = H1[b]?) (hl : base ≤ H2.length) {lk : Lk} {H0 : A4} (hb : H0.length = base) (h0 : CY base lk H0 H1) : CY base lk H0 (H2.take base ++ x) := by
 have hlen : (H2.take base).length = base := by rw [dq]; omega
 refine ⟨by simp; omega, fun b hlt hu => ?_⟩
 rw [az (by omega), eo hlt, hk b hlt, h0.2 b hlt hu]
theorem Hg {P : bg} {rs : List dv} {x : Option (X × St)} {r : List V × A4} (h : Jo P rs x = some r) : ∃ e S, x = some (e, S) ∧ (e = .normal ∨ e = .ret) ∧ Av P S.H S.T rs = some r.1 ∧ r.2 = S.H := by
 unfold Jo at h
 split at h
 ·simp only [af] at h; obtain ⟨vs, h1, rfl⟩ := h; exact ⟨_, _, rfl, .inl rfl, h1, rfl⟩
 ·simp only [af] at h; obtain ⟨vs, h1, rfl⟩ := h; exact ⟨_, _, rfl, .inr rfl, h1, rfl⟩
 ·cases h
theorem PS {c : Cx} (hΓ : FU c.Γ) {n : Nat} {rs : List dv} {N : Kp} {S : St} {b : Bool} {r : List V × A4} (hb : c.base ≤ S.H.length) (h : MC c n rs N S b = some r) : CY c.base c.lk S.H r.2 := by
 obtain ⟨e, S', h1, _, _, h4⟩ := Hg h
 rw [h4]
 exact DY hΓ n _ (S := (S.set N.p (S.T N.z)).set N.q (.bool b)) hb h1
theorem SP {c : Cx} (hΓ : FU c.Γ) {n : Nat} {rs : List dv} {body : Code} {S : St} {r : List V × A4} (hb : c.base ≤ S.H.length) (h : Ik c n rs body S = some r) : CY c.base c.lk S.H r.2 := by
 unfold Ik at h
 split at h
 ·obtain ⟨e, S', h1, _, _, h4⟩ := Hg h
  rw [h4]
  exact DY hΓ n _ hb h1
 ·rename_i N hN
  split at h
  case h_2 => cases h
  rename_i S0 h0
  have k0 := DY hΓ n _ hb h0
  split at h
  case isFalse => cases h
  split at h
  ·exact k0.trans (PS hΓ (bt hb k0.1) h)
  ·split at h
   case isFalse => cases h
   exact k0.trans (PS hΓ (bt hb k0.1) h)
  ·cases h
theorem Rp (P : bg) (h : BI) : ∀ n, FU (Db P h n)
  | 0 => fun k args H lk v H' hr => by simp [Db] at hr
  | n + 1 => fun k args H lk v H' hr => by
    have ih := Rp P h n
    simp only [Db] at hr
    split at hr
    case h_2 => cases hr
    rename_i fn hfn
    split at hr
    case h_2 => cases hr
    rename_i body hbody
    split at hr
    case isFalse => cases hr
    simp only [ae] at hr
    obtain ⟨q, hex, hl⟩ := hr
    have k1 := SP (c := { P := P, hints := h, fn := k, ntmps := fn.ntmps, base := H.length, lk := lk, Γ := Db P h n }) ih (ak _) hex
    unfold EE at hl
    split at hl
    · split at hl
      case isFalse => cases hl
      simp only [aa, ag] at hl
      obtain ⟨_, rfl⟩ := hl
      exact PN (fun _ _ => rfl) k1.1 rfl k1
    · simp only [af, Prod.exists, ag] at hl
      obtain ⟨v1, H2, news, h1, _, rfl⟩ := hl
      obtain ⟨q1, q2⟩ := PI _ _ _ _ _ h1
      simp only [] at q1 q2
      exact PN q2 (by rw [q1]; exact k1.1) rfl k1
def dL (c : Cx) (ops : Array bq) (j : Nat) (y : bq) (l : List Nat) (S' : St) : Prop := ∃ x t a t' b v, ops[j]? = some x ∧ x.op = .load t (.tmp a) ∧ y.op = .store t' (.tmp b) v ∧ x.guard = none ∧ y.guard = none ∧ Oper.apart ops x y = true ∧
 (∀ k ∈ j :: l, ∀ o, ops[k]? = some o → o.dst ≠ some a ∧ o.dst ≠ some b) ∧ G0 c.base (S'.T a) (S'.T b) = true
theorem SC {c : Cx} (hΓ : FU c.Γ) {cf : Nat → Cx} (hcf : ∀ i, ∃ k, cf i = c.BQ true k) {ops : Array bq} {i : Nat} {y : bq} (hi : ops[i]? = some y) {r2 : List Nat} {S' : St} :
  ∀ (r1 : List Nat) {S : St}, c.base ≤ S.H.length → DK cf ops (r1 ++ i :: r2) S = some S' →
   (∀ s1 j s2, r1 = s1 ++ j :: s2 → (∃ x, ops[j]? = some x ∧ IK c.lits ops x y = true ∧ (Gd x = true → Du y = true → (cf i).calm = true)) ∨ dL c ops j y (s2 ++ i :: r2) S') → DK cf ops (i :: (r1 ++ r2)) S = some S'
 | [], S, hb, h, _ => h
 | j :: r1, S, hb, h, hj => by
  have h0 := hj [] j r1 rfl
  obtain ⟨x, hx⟩ : ∃ x, ops[j]? = some x := by
   rcases h0 with ⟨x, hx, _⟩ | ⟨x, _, _, _, _, _, hx, _⟩ <;> exact ⟨x, hx⟩
  simp only [di, DK, hx, ae] at h
  obtain ⟨S1, h1, h2⟩ := h
  obtain ⟨kj, hcj⟩ := hcf j
  obtain ⟨ki, hci⟩ := hcf i
  have hb1 : c.base ≤ S1.H.length := by
   rw [hcj] at h1
   exact bt hb (Ni (c := c.BQ true kj) hΓ hb h1).1
  have h3 := SC hΓ hcf hi r1 hb1 h2 fun s1 j' s2 e => hj (j :: s1) j' s2 (by rw [e]; rfl)
  simp only [DK, hi, ae] at h3
  obtain ⟨S2, h4, h5⟩ := h3
  have h6 : ∃ S3, BZ (cf i) ops y S = some S3 ∧ BZ (cf j) ops x S3 = some S2 := by
   rcases h0 with ⟨x', hx', hsw, hcalm⟩ | ⟨x', t, a, t', b, v, hx', ox, oy, gx, gy, ha, hk', hp⟩
   ·rw [hx] at hx'; cases hx'
    exact Sb (cx := cf j) (cy := cf i) (by rw [hcj, hci]; rfl) (by rw [hcj, hci]; rfl) (by rw [hcj]; rfl) (by rw [hci]; rfl) (by rw [hcj, hci]; rfl) (by rw [hcj]; exact hsw) h1 h4 (fun hl hk v H' he => by
     have hc : Du y = true → (cf i).calm = true := hcalm hl
     rw [hci] at he hc
     exact (R3 (c := c.BQ true ki) hΓ hb he).2 hk hc rfl)
   ·rw [hx] at hx'; cases hx'
    have sub : ∀ k ∈ r1 ++ r2, k ∈ j :: (r1 ++ i :: r2) := fun k hk => by
     rcases au.1 hk with h | h <;> simp [h]
    have e1 : ∀ q, (∀ k ∈ j :: (r1 ++ i :: r2), ∀ o, ops[k]? = some o → o.dst ≠ some q) → S'.T q = S.T q := fun q hq => by
     rw [Wn _ h5 fun k hk => hq k (sub k hk), QI h4 (hq i (by simp) y hi), QI h1 (hq j (by simp) x hx)]
    rw [e1 a fun k hk o ho => (hk' k hk o ho).1, e1 b fun k hk o ho => (hk' k hk o ho).2] at hp
    exact Yw ox oy gx gy ha h1 h4 (by rw [hci]; exact hp)
  obtain ⟨S3, h6, h7⟩ := h6
  simp only [DK, hi, h6, ab, di, hx, h7]
  exact h5
def Vd (w : ej) (u : bm) (g : Nat) (v : Nat → V) (cs : List V) : Prop :=
 (∃ cc t, w.heap[g]? = some (.cells cc t (0, 0)) ∧ cs.length ≤ cc.size ∧ ∀ (E : AN) (i : Nat) x, cs[i]? = some x → ∃ y, cc[i]? = some y ∧ A6 E x y) ∧
  ∀ (E : AN) b, E.φ b = g → b < E.n → J0 E.H b → A6 E (v b) u
section
variable {c : Cx} {E : AN} {S : St} {a : Act} {o : bq}
theorem Sn (hs : CK c E S a) (hm : KM o = true) {vv : V} {H' : A4} (h : C5 c o S = some (vv, H')) : ∃ (v : Nat → V) (sz : Nat) (cs : List V) (u : bm) (cc : Array bm) (t : ao),
  (∀ H2, C5 c o ⟨S.T, H2⟩ = some (v H2.length, H2 ++ [.cells sz cs])) ∧ (execOp a.eval o).run c.P E.w = .ok (.value u) (E.w.alloc (.cells cc t)) ∧ Vd (E.w.alloc (.cells cc t)) u E.w.heap.size v cs := by
 unfold KM at hm
 split at hm
 ·rename_i t ho
  unfold C5 at h
  simp only [ho, ae] at h
  obtain ⟨sz, hsz, z, hz, h⟩ := h
  simp only [aa, ag] at h
  obtain ⟨rfl, rfl⟩ := h
  obtain ⟨i, x, v, h1, h2, h3, rfl⟩ := HL hz
  refine ⟨fun b => .ptr b 0, sz, v.cellsOf, .pointer (some ⟨E.w.heap.size, 0, none⟩), x.cells, t, fun H2 => ?_, ?_, ⟨x.cells, t, ?_, ?_, fun E' i y hy => ?_⟩, fun E' b h1 h2 h3 => ?_⟩
  ·unfold C5
   simp only [ho, hsz, hz, ab]
  ·simp [execOp, ho, Instr.alloc, zeroValue, typeInfo, h1, h2, newVar, newRow]
  ·show (E.w.heap.push _)[E.w.heap.size]? = _; simp
  ·obtain ⟨hl, _⟩ := B8 _ _ (FF E h3); rw [hl]; simp
  ·obtain ⟨_, hg⟩ := B8 _ _ (FF E' h3); simpa using hg i y hy
  ·simp only [A6]; exact ⟨h2, by rw [h1], h3⟩
 ·rename_i t n m ho
  unfold C5 at h
  simp only [ho, ae] at h
  obtain ⟨N, hn, M, hmm, h⟩ := h
  have hK : ∀ H2, C5 c o ⟨S.T, H2⟩ = Iv c.P (c.hints.IA c.fn) t H2 N M := fun H2 => by
   unfold C5
   simp only [ho, hn, hmm, ab]
  have r1 := Al hs n _ hn
  have r2 := Al hs m _ hmm
  unfold Iv at h
  split at h
  case h_2 => cases h
  rename_i k l
  simp only [ae] at h
  obtain ⟨e, he, sz, hsz, by_, hby, z, hz, h⟩ := h
  split at h
  case isFalse => cases h
  rename_i hc
  have hc' := hc
  obtain ⟨rfl, h0, hb, hzl, hsz0⟩ := hc
  simp only [aa, ag] at h
  obtain ⟨rfl, rfl⟩ := h
  simp only [A6] at r1 r2
  have hz' := hz
  obtain ⟨i, x, vv, h1, h2, h3, rfl⟩ := HL hz
  obtain ⟨i', hi', hsize⟩ := Gc hsz
  rw [h1] at hi'
  simp only [aa] at hi'
  subst hi'
  have hbytes : i.bytes = by_ := by unfold CU at hby; rw [h1] at hby; simpa using hby
  subst hbytes hsize
  have hb2 : k * (i.bytes : Int) + k ≤ 70368744177664 := by rw [Int.mul_add, Int.mul_one] at hb; exact hb
  have hb3 : 0 ≤ k * (i.bytes : Int) := Int.mul_nonneg h0 (by omega)
  have hrun := run_make (P := c.P) E.w t e i x (Bg he) h1 h2 .i64 .i64 k k h0 (Int.le_refl _) (by rw [Int.mul_comm]; omega) (by omega)
  have hmr : ∀ E : AN, AH E (ch k.toNat (vv.cellsOf.map (H8 (c.hints.IA c.fn)))).flatten (madeCells x.cells (k.toNat * i.size)).toList := fun E => by
   have := KU (E := E) (Iz (kp := c.hints.IA c.fn) (FF E h3)) (by rw [fe, hzl]; exact hsz0) k.toNat
   rw [fe, hzl] at this
   exact this
  refine ⟨fun b => .sl b 0 k.toNat, i.size, (ch k.toNat (vv.cellsOf.map (H8 (c.hints.IA c.fn)))).flatten, .slice (some ⟨E.w.heap.size, 0, none⟩) k.toNat k.toNat, madeCells x.cells (k.toNat * i.size), e, fun H2 => ?_, ?_, ⟨madeCells x.cells (k.toNat * i.size), e, ?_, ?_, fun E' i y hy => ?_⟩, fun E' b h1 h2 h3 => ?_⟩
  ·rw [hK]
   unfold Iv
   simp only [he, hsz, hby, hz', ab]
   rw [if_pos ⟨trivial, h0, hb, hzl, hsz0⟩]
  ·simp only [execOp, ho, r1, r2, hrun, Sem.run_bind, Result.andThen_ok, Sem.run_pure]
  ·show (E.w.heap.push _)[E.w.heap.size]? = _; simp
  ·obtain ⟨hl, _⟩ := B8 _ _ (hmr E); rw [hl]; simp
  ·obtain ⟨_, hg⟩ := B8 _ _ (hmr E'); simpa using hg i y hy
  ·simp only [A6]; exact ⟨h2, ⟨k.toNat, by rw [h1], ak _⟩, h3⟩
 ·cases hm
def AN.name (E : AN) (g : Nat) (B6 : Bb) : AN :=
  { w := E.w, φ := fun b => if b = E.H.length then g else E.φ b, H := E.H ++ [B6], lk := E.lk, n := E.n + 1, m := E.m, BM := E.BM.filter fun x => decide (x ≠ g) }
theorem Bw (E : AN) (g : Nat) (B6 : Bb) (b : Nat) : (E.name g B6).H[b]? = if b = E.H.length then some B6 else E.H[b]? := by
 show (E.H ++ [B6])[b]? = _
 by_cases hb : b = E.H.length
 ·subst hb; simp
 ·rw [if_neg hb]
  rcases bz b E.H.length with hl | hl
  ·rw [az hl]
  ·rw [bf (by simp; omega), bf hl]
theorem Co (E : AN) (g : Nat) (B6 : Bb) (b : Nat) : (E.name g B6).φ b = if b = E.H.length then g else E.φ b := rfl
theorem Iy {E : AN} {g : Nat} {B6 : Bb} {x : Nat} : x ∈ (E.name g B6).BM ↔ x ∈ E.BM ∧ x ≠ g := by
 show x ∈ E.BM.filter _ ↔ _
 simp [mE]
theorem Wi {E : AN} {g sz : Nat} {cs : List V} {lv : Option Nat} {x i : Nat} (h : (E.name g (.cells sz cs)).U lv x i) : E.U lv x i ∨ x = g := by
 rcases h with h | h
 ·exact .inl (.inl (Iy.1 h).1)
 cases lv with
 | some lv =>
  obtain ⟨b, h1, h2, h3⟩ := h
  rw [Bw] at h3
  rw [Co] at h1
  by_cases hb : b = E.H.length
  ·rw [if_pos hb] at h1; exact .inr h1.symm
  ·rw [if_neg hb] at h1 h3; exact .inl (.inr ⟨b, h1, h2, h3⟩)
 | none =>
  obtain ⟨b, h1, h3⟩ := h
  rw [Bw] at h3
  rw [Co] at h1
  by_cases hb : b = E.H.length
  ·rw [if_pos hb] at h1; exact .inr h1.symm
  ·rw [if_neg hb] at h1 h3; exact .inl (.inr ⟨b, h1, h3⟩)
theorem Nl {E : AN} {g sz : Nat} {cs : List V} (hg : g ∈ E.BM) (hn : E.n = E.H.length) {nb d : Nat} (hnb : nb ≤ E.n) (hd : d ≤ E.m) : C9 (E.shrink nb d) ((E.name g (.cells sz cs)).shrink nb d) where
 len := ak _
 lvl := ak _
 cell := by
  intro lv x i u _ _ h1 h3
  refine ⟨h1, fun hu => h3 ?_⟩
  rcases Wi (E := E) (lv := lv) hu with h | rfl
  ·exact h
  ·exact .inl hg
 By := by
  intro b hb hnb2
  have hb : b < nb := hb
  have hne : b ≠ E.H.length := by omega
  refine ⟨by show (E.name g (.cells sz cs)).φ b = E.φ b; rw [Co, if_neg hne], fun l n z => ?_⟩
  show (E.name g (.cells sz cs)).H[b]? ≠ _
  rw [Bw, if_neg hne]
  exact hnb2 l n z
 cells := by
  intro b hb h z ys
  have hb : b < nb := hb
  show (E.name g (.cells sz cs)).H[b]? ≠ _
  rw [Bw, if_neg (by omega)]
  exact h z ys
 BT := by
  intro b l n z hb hB
  have hb : b < nb := hb
  have hB : (E.name g (.cells sz cs)).H[b]? = _ := hB
  rw [Bw, if_neg (by omega)] at hB
  exact ⟨l, n, hB, ak _, fun _ => ⟨by show (E.name g (.cells sz cs)).φ b = E.φ b; rw [Co, if_neg (by omega)], fun cc _ hc => ⟨cc, hc, rfl⟩⟩⟩
 fresh := by
  intro b x i u h1 h2 hb hl he
  have hl : live (E.name g (.cells sz cs)).H[b]? := hl
  have he : (E.name g (.cells sz cs)).φ b = x := he
  rw [Co] at he
  rw [Bw] at hl
  by_cases hbb : b = E.H.length
  ·rw [if_pos hbb] at he
   subst he
   exact absurd (.inl hg) h2
  ·rw [if_neg hbb] at he hl
   exact ⟨b, hb, hl, he⟩
theorem O2 {E : AN} {g sz : Nat} {cs : List V} (hg : g ∈ E.BM) (hn : E.n = E.H.length) {v : V} {u : bm} (h : A6 E v u) : A6 (E.name g (.cells sz cs)) v u :=
 (C9.grow (E.name g (.cells sz cs)) (n := E.n) (m := E.m) (iw _) (ak _)).rep v u ((Nl hg hn (ak _) (ak _)).rep v u h)
theorem Sq {E0 : AN} {H : A4} (h : Ap c E0 E H) (hb : c.base ≤ H.length) (h0 : E0.n ≤ H.length) {g sz : Nat} {cs : List V} {u : bm} {v : Nat → V} (hp : Vd E.w u g v cs) (hg : g ∈ E.BM) (hg0 : E0.w.heap.size ≤ g) (hg1 : g ∉ E0.BM) :
    Ap c E0 (E.name g (.cells sz cs)) (H ++ [.cells sz cs]) ∧ A6 (E.name g (.cells sz cs)) (v H.length) u := by
  have hn : E.n = E.H.length := by rw [h.n, h.H]
  obtain ⟨⟨cc, t, p1, p2, p3⟩, p4⟩ := hp
  have hf : ∀ base nb d, base ≤ c.base → nb ≤ E.n → d ≤ E.m → D0 E base nb d → D0 (E.name g (.cells sz cs)) base nb d := by
    intro base nb d hbase hnb hd hf b z xs hlt hB ct tt hc i y w hv hu
    have hne : b ≠ E.H.length := by rw [h.H]; omega
    rw [Bw, if_neg hne] at hB
    rw [Co, if_neg hne] at hc
    exact (Nl hg hn hnb hd).rep _ _ (hf b z xs hlt hB ct tt hc i y w hv hu)
  have hgl := (h.heap.BM g hg).2
  refine ⟨⟨by show E.H ++ _ = _; rw [h.H], by show E.n + 1 = _; rw [h.n]; simp, h.m, ?_, ?_, fun gr base nb d h1 h2 h3 h4 => hf base nb d h1 (bt h2 h.CI.len) (by rw [h.m]; exact h3) (h.Gn gr base nb d h1 h2 h3 h4), fun gr base d h1 h3 h4 => (hf base E.n d h1 (ak _) (by rw [h.m]; exact h3) (h.HP gr base d h1 h3 h4)).up (iw _), fun b hb2 hl => ?_⟩, ?_⟩
  · exact
    { lk := h.CI.lk
      os := h.CI.os
      tape := h.CI.tape
      output := h.CI.output
      size := h.CI.size
      len := kb h.CI.len
      mm := h.CI.mm
      cell := h.CI.cell
      block := h.CI.block
      mono := by
        intro lv x i hl hu
        rcases Wi hu with h1 | rfl
        · exact h.CI.mono lv x i hl h1
        · exact .inr hg0
      By := by
        intro b hb1 hb2
        obtain ⟨q1, q2⟩ := h.CI.By b hb1 hb2
        have hne : b ≠ E.H.length := by rw [h.H]; omega
        refine ⟨by rw [Co, if_neg hne]; exact q1, fun l n z => ?_⟩
        rw [Bw, if_neg hne]
        exact q2 l n z
      cells := by
        intro b hb1 hb2 z xs
        have hne : b ≠ E.H.length := by rw [h.H]; omega
        rw [Bw, if_neg hne]
        exact h.CI.cells b hb1 hb2 z xs
      BT := by
        intro b l n z hb1 hB
        have hne : b ≠ E.H.length := by rw [h.H]; omega
        rw [Bw, if_neg hne] at hB
        obtain ⟨k, k1, k2, k3⟩ := h.CI.BT b l n z hb1 hB
        exact ⟨k, k1, k2, fun e => ⟨by rw [Co, if_neg hne]; exact (k3 e).1, (k3 e).2⟩⟩
      fresh := by
        intro b hl
        rw [Bw] at hl
        rw [Co]
        by_cases hbb : b = E.H.length
        · rw [if_pos hbb]; exact .inr hg0
        · rw [if_neg hbb] at hl ⊢; exact h.CI.fresh b hl
      BM := fun x hx => Iy.2 ⟨h.CI.BM x hx, fun e => hg1 (e ▸ hx)⟩
      Hn := fun x hx => h.CI.Hn x (Iy.1 hx).1
      Gp := h.CI.Gp }
  · exact
    { cells := by
        intro b z xs hB
        rw [Bw] at hB
        rw [Co]
        by_cases hbb : b = E.H.length
        · rw [if_pos hbb] at hB ⊢
          simp only [aa, Bb.cells.injEq] at hB
          obtain ⟨rfl, rfl⟩ := hB
          exact ⟨cc, t, p1, p2, fun i y hy => p3 _ i y hy⟩
        · rw [if_neg hbb] at hB ⊢
          obtain ⟨c', t', h1, h2, h3⟩ := h.heap.cells b z xs hB
          exact ⟨c', t', h1, h2, fun i y hy => let ⟨w, h4, h5⟩ := h3 i y hy; ⟨w, h4, O2 hg hn h5⟩⟩
      BT := by
        intro b l n z hB
        rw [Bw] at hB
        rw [Co]
        by_cases hbb : b = E.H.length
        · rw [if_pos hbb] at hB; cases hB
        · rw [if_neg hbb] at hB ⊢; exact h.heap.BT b l n z hB
      lvl := by
        intro b l n z hB
        rw [Bw] at hB
        by_cases hbb : b = E.H.length
        · rw [if_pos hbb] at hB; cases hB
        · rw [if_neg hbb] at hB; exact h.heap.lvl b l n z hB
      dm := h.heap.dm
      inj := by
        intro b b' h1 h2 he
        rw [Bw] at h1 h2
        rw [Co, Co] at he
        by_cases hb1 : b = E.H.length <;> by_cases hb2 : b' = E.H.length
        · omega
        · rw [if_pos hb1, if_neg hb2] at he
          rw [if_neg hb2] at h2
          exact absurd he.symm (hgl b' h2)
        · rw [if_neg hb1, if_pos hb2] at he
          rw [if_neg hb1] at h1
          exact absurd he (hgl b h1)
        · rw [if_neg hb1, if_neg hb2] at he
          rw [if_neg hb1] at h1
          rw [if_neg hb2] at h2
          exact h.heap.inj b b' h1 h2 he
      maps := by
        intro b As hB
        rw [Bw] at hB
        rw [Co]
        by_cases hbb : b = E.H.length
        · rw [if_pos hbb] at hB; cases hB
        · rw [if_neg hbb] at hB ⊢; exact h.heap.maps b As hB
      BM := by
        intro x hx
        obtain ⟨hx1, hx2⟩ := Iy.1 hx
        refine ⟨(h.heap.BM x hx1).1, fun b hl => ?_⟩
        rw [Bw] at hl
        rw [Co]
        by_cases hbb : b = E.H.length
        · rw [if_pos hbb]; exact fun e => hx2 e.symm
        · rw [if_neg hbb] at hl ⊢; exact (h.heap.BM x hx1).2 b hl }
  · rw [az (by omega)]
    exact h.kept b hb2 hl
  · refine p4 _ _ ?_ ?_ fun l n z => ?_
    · rw [Co, if_pos (by rw [h.H])]
    · show H.length < E.n + 1; rw [h.n]; omega
    · rw [Bw, if_pos (by rw [h.H])]; simp
end
section
variable {c : Cx} {E : AN} {S : St} {a : Act} {o : bq}
theorem NX (ts : Array bm) (d i : Nat) (v u : bm) : (ts.setIfInBounds d v).getD i u = if i = d ∧ d < ts.size then v else ts.getD i u := by
 simp only [dz, Array.getElem?_setIfInBounds]
 by_cases h : d = i
 ·subst h
  by_cases h2 : d < ts.size
  ·simp [h2]
  ·simp [h2]
 ·rw [if_neg h, if_neg (fun e => h e.1.symm)]
theorem CK.next (hs : CK c E S a) {E' : AN} {H' : A4} (ha : Ap c E E' H') {T : Nat → V} {ts : Array bm} {ds : List Deferred} (hT : ∀ i, A6 E' (T i) (ts.getD i undef)) (hsz : ts.size = a.tmps.size) : CK c E' { T, H := H' } { tmps := ts, defers := ds } where
  H := ha.H
  lk := by rw [ha.CI.lk, hs.lk]
  n := ha.n
  m := by rw [ha.m, hs.m]
  tmps := hT
  size := hsz.trans hs.size
  heap := ha.heap
  base := by have := hs.base; have h1 := hs.n; have h2 := ha.n; have h3 := ha.CI.len; show _ ≤ H'.length; omega
  DV := hs.DV
  deep := hs.deep
theorem CK.put (hs : CK c E S a) {E' : AN} {H' : A4} (ha : Ap c E E' H') {d : Nat} {v : V} {u : bm} (hd : d < c.ntmps) (hr : A6 E' v u) : CK c E' (({ S with H := H' } : St).set d v) (a.put (some d) u) := by
 refine CK.next hs ha (fun i => ?_) (by simp)
 rw [NX]
 show A6 E' (if i = d then v else S.T i) _
 by_cases h : i = d
 ·rw [if_pos h, if_pos ⟨h, by rw [hs.size]; exact hd⟩]; exact hr
 ·rw [if_neg h, if_neg (fun e => h e.1)]; exact ha.CI.rep hs.heap _ _ (hs.tmps i)
theorem CK.stay (hs : CK c E S a) {E' : AN} {H' : A4} (ha : Ap c E E' H') : CK c E' { S with H := H' } a := by
 refine CK.next (ds := a.defers) hs ha (fun i => ha.CI.rep hs.heap _ _ (hs.tmps i)) rfl
theorem TG (hs : CK c E S a) (hΓ : GU c.P c.hints c.Γ) (hd : a.defers = []) {S' : St} (h : IV c o S = some S') {next : Act → ej → Prop} {Q : Exit → Act → ej → Prop}
  (hn : ∀ E' a', CK c E' S' a' → Ap c E E' S'.H → a'.defers = [] → next a' E'.w) : o.wp c.P a E.w next Q := by
 unfold IV at h
 split at h
 ·rename_i hdst
  simp only [af, Prod.exists] at h
  obtain ⟨v, H', hop, rfl⟩ := h
  refine Ta hs hΓ hop next Q fun E' u ha hr => ?_
  rw [hdst]
  exact hn E' a (CK.stay hs ha) ha hd
 ·rename_i d hdst
  split at h
  case isFalse => cases h
  rename_i hlt
  simp only [af, Prod.exists] at h
  obtain ⟨v, H', hop, rfl⟩ := h
  refine Ta hs hΓ hop next Q fun E' u ha hr => ?_
  rw [hdst]
  exact hn E' _ (CK.put hs ha hlt hr) ha hd
theorem Qm (hs : CK c E S a) {ops : Array bq} {b : Bool} (h : CW ops S.T o = some b) : Region.wanted o (yielded ops a.tmps) = b := by
 unfold CW at h
 unfold Region.wanted
 split at h
 ·rename_i hg
  rw [hg]
  simpa using h
 ·rename_i j want hg
  rw [hg]
  split at h
  ·rename_i t ht
   have hr := hs.tmps t
   simp only [yielded, ht, ab]
   split at h
   ·rename_i b' hb
    simp only [aa] at h
    rw [hb] at hr
    simp only [A6] at hr
    have : a.tmps[t]? = some (.bool b') := by
     rw [dz] at hr
     cases h2 : a.tmps[t]? with
     | none => rw [h2] at hr; simp [undef] at hr
     | some x => rw [h2] at hr; simp only [er] at hr; rw [hr]
    rw [this]
    simpa using h
   ·rename_i hb
    simp only [aa] at h
    subst h
    rw [hb] at hr
    simp only [A6] at hr
    obtain ⟨vs, hv, hvs⟩ := hr
    simp only [AH] at hvs
    rw [dz] at hv
    cases h2 : a.tmps[t]? with
    | none => simp
    | some x =>
     rw [h2] at hv
     simp only [er] at hv
     rw [hv]
     simp
   ·cases h
  ·cases h
theorem Lb (E : AN) : A6 E C7 undef := by
 simp only [C7, A6]
 exact ⟨#[], rfl, by simp only [AH]⟩
theorem CK.BQ (hs : CK c E S a) (s k : Bool) : CK (c.BQ s k) E S a := ⟨hs.H, hs.lk, hs.n, hs.m, hs.tmps, hs.size, hs.heap, hs.base, hs.DV, hs.deep⟩
theorem CK.TP {s k : Bool} (hs : CK (c.BQ s k) E S a) : CK c E S a := ⟨hs.H, hs.lk, hs.n, hs.m, hs.tmps, hs.size, hs.heap, hs.base, hs.DV, hs.deep⟩
theorem Ap.TP {s k : Bool} {E' : AN} {H' : A4} (h : Ap (c.BQ s k) E E' H') : Ap c E E' H' := ⟨h.H, h.n, h.m, h.CI, h.heap, h.Gn, h.HP, h.kept⟩
theorem KK (hs : CK c E S a) (hΓ : GU c.P c.hints c.Γ) (hd : a.defers = []) {s k : Bool} {ops : Array bq} {S' : St} (h : BZ (c.BQ s k) ops o S = some S') {next : Act → ej → Prop} {Q : Exit → Act → ej → Prop}
  (hn : ∀ E' a', CK c E' S' a' → Ap c E E' S'.H → a'.defers = [] → next a' E'.w) :
  if Region.wanted o (yielded ops a.tmps) then o.wp c.P a E.w next Q ∧ (∃ r, C5 (c.BQ s k) o S = some r) else next (a.put o.dst undef) E.w := by
 unfold BZ at h
 simp only [ae] at h
 obtain ⟨b, hb, h1⟩ := h
 rw [Qm hs hb]
 cases b with
 | true =>
  rw [if_pos rfl] at h1 ⊢
  refine ⟨TG (c := c.BQ s k) (hs.BQ s k) hΓ hd h1 fun E1 a1 hs1 ha1 hd1 => hn E1 a1 hs1.TP ha1.TP hd1, ?_⟩
  unfold IV at h1
  split at h1
  ·simp only [af] at h1; exact ⟨_, h1.choose_spec.1⟩
  ·split at h1
   ·simp only [af] at h1; exact ⟨_, h1.choose_spec.1⟩
   ·cases h1
 | false =>
  simp only [ba, if_false] at h1 ⊢
  split at h1
  ·rename_i d hdst
   split at h1
   case isFalse => cases h1
   rename_i hlt
   simp only [aa] at h1
   subst h1
   rw [hdst]
   exact hn E _ (CK.put hs (Ap.refl hs) hlt (Lb E)) (show Ap c E E S.H from Ap.refl hs) hd
  ·rename_i hdst
   simp only [aa] at h1
   subst h1
   rw [hdst]
   exact hn E a hs (Ap.refl hs) hd
theorem RJ (hs : CK c E S a) (hΓ : GU c.P c.hints c.Γ) (hd : a.defers = []) {s k : Bool} {ops : Array bq} {S' : St} (h : BZ (c.BQ s k) ops o S = some S') {next : Act → ej → Prop} {Q : Exit → Act → ej → Prop}
  (hn : ∀ E' a', CK c E' S' a' → Ap c E E' S'.H → a'.defers = [] → next a' E'.w) :
  if Region.wanted o (yielded ops a.tmps) then o.wp c.P a E.w next Q ∨ (o.asks c.P a E.w ∧ LetsOut Q) else next (a.put o.dst undef) E.w := by
 have := KK hs hΓ hd h (Q := Q) hn
 split
 ·rename_i hw; rw [if_pos hw] at this; exact .inl this.1
 ·rename_i hw; rw [if_neg hw] at this; exact this
def Dm (a : Act) (ps : List (Nat × bm)) : Act := ps.foldl (fun a p => a.put (some p.1) p.2) a
theorem Fg (a : Act) (p : Nat × bm) (ps : List (Nat × bm)) : Dm a (p :: ps) = Dm (a.put (some p.1) p.2) ps := rfl
theorem T4 (a : Act) (ps : List (Nat × bm)) (p : Nat × bm) : Dm a (ps ++ [p]) = (Dm a ps).put (some p.1) p.2 := by simp [Dm]
theorem JO {dst : Option Nat} {v : bm} : ∀ (ps : List (Nat × bm)) (a : Act), (∀ p ∈ ps, dst ≠ some p.1) → Dm (a.put dst v) ps = (Dm a ps).put dst v
 | [], _, _ => rfl
 | p :: ps, a, h => by
  rw [Fg, Fg, ← JO ps _ fun q hq => h q (ca _ hq), Act.put_comm a v p.2]
  intro d hd e
  exact h p (bu ..) (by rw [hd, e])
theorem Ky {ops : Array bq} {o : bq} (hsel : ∀ cs b, o.op ≠ .select cs b) : ∀ (ps : List (Nat × bm)) (a : Act), (∀ p ∈ ps, p.1 ∉ o.looksAt ops) → execOp (Dm a ps).eval o = execOp a.eval o
 | [], _, _ => rfl
 | p :: ps, a, h => by
  rw [Fg, Ky hsel ps _ fun q hq => h q (ca _ hq)]
  exact execOp_put (ops := ops) o hsel a (some p.1) p.2 fun d hd => by cases hd; exact h p (bu ..)
theorem M3 {ops : Array bq} {o : bq} : ∀ (ps : List (Nat × bm)) (a : Act), (∀ p ∈ ps, p.1 ∉ o.looksAt ops) → Region.wanted o (yielded ops (Dm a ps).tmps) = Region.wanted o (yielded ops a.tmps)
 | [], _, _ => rfl
 | p :: ps, a, h => by
  rw [Fg, M3 ps _ fun q hq => h q (ca _ hq)]
  exact wanted_put o a (some p.1) p.2 fun d hd => by cases hd; exact h p (bu ..)
theorem Kc : ∀ (ps : List (Nat × bm)) (a : Act) (d : Deferred), Dm { a with defers := d :: a.defers } ps = { Dm a ps with defers := d :: (Dm a ps).defers }
 | [], _, _ => rfl
 | p :: ps, a, d => by
  rw [Fg, Fg, ← Kc ps]
  rfl
theorem ZS {ops : Array bq} {P : bg} {o : bq} {w : ej} (hsel : ∀ cs b, o.op ≠ .select cs b) {ps : List (Nat × bm)} {a : Act} (h1 : ∀ p ∈ ps, p.1 ∉ o.looksAt ops) (h2 : ∀ p ∈ ps, o.dst ≠ some p.1) {next next' : Act → ej → Prop} {Q : Exit → Act → ej → Prop}
  (hn : ∀ a' w', next a' w' → next' (Dm a' ps) w') (h : o.wp P a w next (fun _ _ _ => False)) : o.wp P (Dm a ps) w next' Q := by
 unfold Oper.wp at *
 rw [Ky hsel ps a h1]
 generalize (execOp a.eval o).run P w = r at *
 have hput : ∀ a v, (Dm a ps).put o.dst v = Dm (a.put o.dst v) ps := fun a v => (JO ps a h2).symm
 cases r with
 | ok n w' =>
  cases n <;> simp only [Oper.upon] at h ⊢
  case value u => rw [hput]; exact hn _ _ h
  case skip => rw [hput]; exact hn _ _ h
  case defer d => rw [← Kc, hput]; exact hn _ _ h
  case enter f args =>
   refine Calls.mono h fun e w'' he => ?_
   cases e with
   | returned u => simp only [] at he ⊢; rw [hput]; exact hn _ _ he
   | panicked c => exact he.elim
   | outgrown => obtain ⟨_, _, h⟩ := he; exact h.elim
  case row row args => exact Rows.mono h fun u w'' he => by rw [hput]; exact hn _ _ he
 | halt x w' =>
  cases x <;> simp only [Oper.upon] at h
theorem PA {ops : Array bq} {Q : Exit → Act → ej → Prop} {cf : Nat → Cx} (hcf : ∀ i, ∃ s k, cf i = c.BQ s k) : ∀ (l : List Nat) {E : AN} {S : St} {a : Act} (hs : CK c E S a) (hΓ : GU c.P c.hints c.Γ) (hd : a.defers = []) {S' : St} (h : DK cf ops l S = some S')
  (hn : ∀ E' a', CK c E' S' a' → Ap c E E' S'.H → a'.defers = [] → Q .normal a' E'.w), wpOps c.P ops Q l a E.w
 | [], E, S, a, hs, _, hd, S', h, hn => by
  simp only [DK, aa] at h
  subst h
  exact hn E a hs (Ap.refl hs) hd
 | i :: rest, E, S, a, hs, hΓ, hd, S', h, hn => by
  simp only [DK] at h
  simp only [wpOps]
  split at h
  ·cases h
  ·rename_i o ho
   simp only [ae] at h
   obtain ⟨S1, h1, h2⟩ := h
   obtain ⟨s, k, hc⟩ := hcf i
   rw [hc] at h1
   simp only [ho]
   exact RJ hs hΓ hd h1 fun E1 a1 hs1 ha1 hd1 => PA hcf rest hs1 hΓ hd1 h2 fun E' a' hs' ha' hd' => hn E' a' hs' (ha1.trans ha') hd'
theorem Wa {p : Nat → Prop} : ∀ n, p n → ∃ k, p k ∧ ∀ j, p j → k ≤ j := by
 intro n
 induction n using mM with
 | _ n ih =>
  intro hn
  by_cases h : ∃ m, m < n ∧ p m
  ·obtain ⟨m, hm, hp⟩ := h
   exact ih m hm hp
  ·exact ⟨n, hn, fun j hj => Nat.le_of_not_lt fun hlt => h ⟨j, hlt, hj⟩⟩
theorem Ii {ow : Bool} {ops : Array bq} (h : Ih ow ops = true) :
  (∀ i, i < ops.size → i ∈ Oc ow ops) ∧ (∀ i ∈ Oc ow ops, i < ops.size) ∧ (∀ i, i < ops.size → (∀ e ∈ HN ops i, e < i) ∧ ∀ j ∈ (Ex ops).getD i [], ∃ e ∈ HN ops i, e = j ∨ j ∈ (Ex ops).getD e []) ∧ CO ow ops (Ex ops) (Oc ow ops) = true := by
 unfold Ih at h
 simp only [av, cb, dg, ep, decide_eq_true_eq, List.any_eq_true, de, beq_iff_eq] at h
 obtain ⟨⟨⟨h1, h2⟩, h3⟩, h4⟩ := h
 exact ⟨h1, h2, h3, h4⟩
theorem Fk {ow : Bool} {ops : Array bq} {tab : List (List Nat)} : ∀ {l l' : List Nat}, l'.Sublist l → CO ow ops tab l = true → CO ow ops tab l' = true
 | _, _, .slnil, h => h
 | _, _, .cons a s, h => by
  simp only [CO, av] at h
  exact Fk s h.2
 | _, _, .cons_cons a s, h => by
  simp only [CO, av, cb] at h ⊢
  exact ⟨fun i hi => h.1 i (s.subset hi), Fk s h.2⟩
def MV (ow : Bool) (ops : Array bq) (tab : List (List Nat)) (j i : Nat) : Prop :=
 i ≠ j ∧ i ∉ tab.getD j [] ∧ (j ∈ tab.getD i [] ∨ LO ops tab j i = true ∨ (Jt ops tab j i).isSome = true ∨ ∃ x y, ops[j]? = some x ∧ ops[i]? = some y ∧ IK ow ops x y = true ∧ (Gd x = true → Du y = true → Jh ops tab i = true))
theorem PD {ow : Bool} {ops : Array bq} {tab : List (List Nat)} {j : Nat} {r : List Nat} (h : CO ow ops tab (j :: r) = true) : ∀ i ∈ r, MV ow ops tab j i := by
 intro i hi
 simp only [CO, av, cb] at h
 obtain ⟨q1, q2⟩ := h.1 i hi
 simp only [bne_iff_ne, ne_eq, ft, ep, decide_eq_false_iff_not] at q1
 refine ⟨q1.1, q1.2, ?_⟩
 simp only [de, ep, decide_eq_true_eq] at q2
 rcases q2 with ((q2 | q2) | q2) | q2
 ·exact .inl q2
 ·exact .inr (.inl q2)
 ·exact .inr (.inr (.inl q2))
 ·refine .inr (.inr (.inr ?_))
  split at q2
  ·rename_i x y hx hy
   simp only [av, de, ft] at q2
   refine ⟨x, y, hx, hy, q2.1, fun hl hc => ?_⟩
   rcases q2.2 with (q3 | q3) | q3
   ·rw [hl] at q3; cases q3
   ·rw [hc] at q3; cases q3
   ·exact q3
  ·cases q2
theorem Hq {ow : Bool} {ops : Array bq} {tab : List (List Nat)} {i : Nat} {r2 : List Nat} : ∀ {r1 : List Nat}, CO ow ops tab (r1 ++ i :: r2) = true → (∀ j ∈ r1, MV ow ops tab j i) ∧ ∀ m ∈ r2, MV ow ops tab i m
 | [], h => ⟨fun j hj => absurd hj (by simp), PD h⟩
 | j :: r1, h => by
  have h1 := PD h
  simp only [di, CO, av] at h
  obtain ⟨k1, k2⟩ := Hq h.2
  refine ⟨fun j' hj' => ?_, k2⟩
  rcases bw.1 hj' with rfl | hj'
  ·exact h1 i (by simp)
  ·exact k1 j' hj'
theorem J3 {ops : Array bq} {tab : List (List Nat)} {j m : Nat} (h : LO ops tab j m = true) : ∃ x y d, ops[j]? = some x ∧ ops[m]? = some y ∧ KM y = true ∧ y.guard = none ∧ y.dst = some d ∧ Oper.apart ops x y = true ∧ Oper.apart ops y x = true ∧ ∀ k, k < ops.size → m ∈ tab.getD k [] → j ∈ tab.getD k [] := by
 unfold LO at h
 split at h
 case h_2 => cases h
 rename_i x y hx hy
 simp only [av, ft, ep, decide_eq_false_iff_not, cb, dg, de, decide_eq_true_eq] at h
 obtain ⟨⟨⟨⟨⟨h1, h2⟩, h3⟩, h4⟩, h5⟩, h6⟩ := h
 have hg : y.guard = none := by cases hh : y.guard with | none => rfl | some _ => rw [hh] at h2; cases h2
 obtain ⟨d, hd⟩ : ∃ d, y.dst = some d := by cases hh : y.dst with | some d => exact ⟨d, rfl⟩ | none => rw [hh] at h3; cases h3
 exact ⟨x, y, d, hx, hy, h1, hg, hd, h4, h5, fun k hk hm => (h6 k hk).resolve_left (fun e => e hm)⟩
theorem TI {ow : Bool} {ops : Array bq} {x y : bq} (h : IK ow ops x y = true) : Oper.apart ops x y = true ∧ Oper.apart ops y x = true := by
 unfold IK at h
 simp only [av] at h
 exact h.1
theorem L7 {α : Type} {x : Option α} (h : HQ x = true) : x = none := by cases x with | none => rfl | some _ => cases h
theorem Lr {ops : Array bq} {tab : List (List Nat)} {j i : Nat} {p : Nat × Nat} (h : Jt ops tab j i = some p) : ∃ x y t t' v, ops[j]? = some x ∧ ops[i]? = some y ∧ x.op = .load t (.tmp p.1) ∧ y.op = .store t' (.tmp p.2) v ∧ x.guard = none ∧ y.guard = none ∧
  Oper.apart ops x y = true ∧ Oper.apart ops y x = true ∧ L4 ops tab j p.1 = true ∧ L4 ops tab i p.2 = true ∧ x.dst ≠ some p.1 ∧ y.dst = none := by
 unfold Jt at h
 split at h
 case h_2 => cases h
 rename_i x y hx hy
 split at h
 case h_2 => cases h
 rename_i t a t' b v ox oy
 split at h
 case isFalse => cases h
 rename_i hc
 simp only [aa] at h
 subst h
 simp only [av, bne_iff_ne, ne_eq] at hc
 obtain ⟨⟨⟨⟨⟨⟨⟨h1, h2⟩, h3⟩, h4⟩, h5⟩, h6⟩, h7⟩, h8⟩ := hc
 exact ⟨x, y, t, t', v, hx, hy, ox, oy, L7 h1, L7 h2, h3, h4, h5, h6, h7, L7 h8⟩
theorem Gw {ops : Array bq} {tab : List (List Nat)} {j a k : Nat} {o : bq} (h : L4 ops tab j a = true) (hk : k ∉ tab.getD j []) (ho : ops[k]? = some o) : o.dst ≠ some a := by
 unfold L4 at h
 simp only [cb, dg, de, ep, decide_eq_true_eq] at h
 have := (h k (ar.1 ho).1).resolve_left hk
 rw [ho] at this
 simpa using this
theorem Rj {ops : Array bq} {base : Nat} {T : Nat → V} (h : Jw ops base T = true) {i j : Nat} (hi : i < ops.size) (hj : j < ops.size) (h1 : j ∉ (Ex ops).getD i []) (h2 : i ∉ (Ex ops).getD j []) {p : Nat × Nat} (hp : Jt ops (Ex ops) j i = some p) : G0 base (T p.1) (T p.2) = true := by
 unfold Jw at h
 rw [cb] at h
 refine h p ?_
 unfold Wf
 rw [List.mem_flatMap]
 refine ⟨i, dg.2 hi, jv.2 ⟨j, dg.2 hj, ?_⟩⟩
 rw [if_neg, hp]
 simp only [de, ep, decide_eq_true_eq]
 rintro (h | h)
 ·exact h1 h
 ·exact h2 h
theorem dL.of {c : Cx} {ops : Array bq} {r1 r2 : List Nat} {i : Nat} {y : bq} {S' : St} (hp : CO c.lits ops (Ex ops) (r1 ++ i :: r2) = true) (hpart : Jw ops c.base S'.T = true) (hr : ∀ k ∈ r1, k ∉ (Ex ops).getD i []) {s1 s2 : List Nat} {j : Nat} (he : r1 = s1 ++ j :: s2)
  (hls : (Jt ops (Ex ops) j i).isSome = true) (ho : ops[i]? = some y) : dL c ops j y (s2 ++ i :: r2) S' := by
 obtain ⟨p, hls⟩ := jd.1 hls
 obtain ⟨x, y', t, t', v, hx, hy, ox, oy, gx, gy, a1, a2, f1, f2, d1, d2⟩ := Lr hls
 rw [ho] at hy
 cases hy
 subst he
 have q1 := (Hq (r1 := s1) (i := j) (r2 := s2 ++ i :: r2) (by simpa using hp)).2
 have q2 := (Hq hp).2
 have hj := hr j (by simp)
 refine ⟨x, t, p.1, t', p.2, v, hx, ox, oy, gx, gy, a1, fun k hk o hok => ?_, Rj hpart (ar.1 ho).1 (ar.1 hx).1 hj ((q1 i (by simp)).2.1) hls⟩
 rcases bw.1 hk with rfl | hk
 ·rw [hx] at hok
  cases hok
  exact ⟨d1, Gw f2 hj hx⟩
 ·refine ⟨Gw f1 (q1 k hk).2.1 hok, ?_⟩
  rcases au.1 hk with h | h
  ·exact Gw f2 (hr k (by simp [h])) hok
  ·rcases bw.1 h with rfl | h
   ·rw [ho] at hok; cases hok; rw [d2]; exact fun e => by cases e
   ·exact Gw f2 (q2 k h).2.1 hok
theorem MV.apart {ow : Bool} {ops : Array bq} {tab : List (List Nat)} {j i : Nat} (h : MV ow ops tab j i) (hn : j ∉ tab.getD i []) : ∃ x y, ops[j]? = some x ∧ ops[i]? = some y ∧ Oper.apart ops x y = true ∧ Oper.apart ops y x = true := by
 rcases h.2.2 with h | h | h | ⟨x, y, h1, h2, h3, _⟩
 ·exact absurd h hn
 ·obtain ⟨x, y, _, h1, h2, _, _, _, h3, h4, _⟩ := J3 h
  exact ⟨x, y, h1, h2, h3, h4⟩
 ·obtain ⟨p, h⟩ := jd.1 h
  obtain ⟨x, y, _, _, _, h1, h2, _, _, _, _, h3, h4, _⟩ := Lr h
  exact ⟨x, y, h1, h2, h3, h4⟩
 ·exact ⟨x, y, h1, h2, TI h3⟩
theorem Cm {ow : Bool} {ops : Array bq} {tab : List (List Nat)} : ∀ {l : List Nat}, CO ow ops tab l = true → l.Nodup
 | [], _ => jq
 | j :: l, h => by
  simp only [CO, av, cb, bne_iff_ne, ne_eq] at h
  rw [dr]
  exact ⟨fun hx => (h.1 j hx).1.1 rfl, Cm h.2⟩
theorem P4 {ops : Array bq} {i e : Nat} {o : bq} (ho : ops[i]? = some o) : e ∈ HN ops i ↔ ∃ d ∈ o.after, Region.binds .any d = true ∧ d.on = e := by
 unfold HN
 rw [ho]
 simp only [ea, mE, Array.mem_toList_iff]
 constructor
 ·rintro ⟨d, ⟨h1, h2⟩, h3⟩; exact ⟨d, h1, h2, h3⟩
 ·rintro ⟨d, h1, h2, h3⟩; exact ⟨d, ⟨h1, h2⟩, h3⟩
theorem Fv {listed : Array Bool} {i : Nat} (h : i < listed.size) (b b' : Bool) : listed.getD i b = listed.getD i b' := by
 simp [dz, h]
structure Pd where
 m : Nat
 d : Nat
 u : bm
 g : Nat
structure jD (c : Cx) (ops : Array bq) (E0 E : AN) (S : St) (listed : Array Bool) (r : List Nat) (p : Pd) : Prop where
 op : ∃ o, ops[p.m]? = some o ∧ o.guard = none ∧ o.dst = some p.d ∧ ∃ v sz cs, (∀ H2, C5 (Ed c ops p.m) o ⟨S.T, H2⟩ = some (v H2.length, H2 ++ [.cells sz cs])) ∧ Vd E.w p.u p.g v cs
 BM : p.g ∈ E.BM
 new : E0.w.heap.size ≤ p.g
 S5 : p.g ∉ E0.BM
 mem : p.m ∈ r
 done : listed.getD p.m true = true
 Zp : ∀ j ∈ (Ex ops).getD p.m [], j ∉ r
def K6 (ops : Array bq) (r : List Nat) (m : Nat) : Prop := ∃ r1 r2 b, r = r1 ++ m :: r2 ∧ b ∈ r1 ∧ LO ops (Ex ops) b m = true
theorem Ix {α : Type} {x y : α} {l r : List α} (h : x ∈ l ++ r) : x ∈ l ++ y :: r := (List.Sublist.append (List.Sublist.refl l) (List.sublist_cons_self y r)).subset h
theorem IC {α : Type} {x y : α} {l r : List α} (h : x ∈ l ++ y :: r) (hn : x ≠ y) : x ∈ l ++ r := by
 rcases au.1 h with h | h
 ·exact cq _ h
 ·rcases bw.1 h with h | h
  ·exact absurd h hn
  ·exact List.mem_append_right _ h
theorem TF {r1 r2 r1' r2' : List Nat} {m : Nat} (hn : (r1 ++ m :: r2).Nodup) (h : r1 ++ m :: r2 = r1' ++ m :: r2') : r1 = r1' ∧ r2 = r2' := by
 induction r1 generalizing r1' with
 | nil =>
  cases r1' with
  | nil => simpa using h
  | cons x xs =>
   simp only [ff, di, ei] at h
   obtain ⟨rfl, h⟩ := h
   simp only [ff, dr] at hn
   exact absurd (by rw [h]; simp) hn.1
 | cons y ys ih =>
  cases r1' with
  | nil =>
   simp only [ff, di, ei] at h
   obtain ⟨rfl, h⟩ := h
   simp only [di, dr] at hn
   exact absurd (by simp) hn.1
  | cons x xs =>
   simp only [di, ei] at h
   obtain ⟨rfl, h⟩ := h
   simp only [di, dr] at hn
   obtain ⟨h1, h2⟩ := ih hn.2 h
   exact ⟨by rw [h1], h2⟩
theorem Zb {cf : Nat → Cx} {ops : Array bq} {t : Nat} : ∀ (l : List Nat) {S S' : St}, DK cf ops l S = some S' → (∀ j ∈ l, ∀ o, ops[j]? = some o → o.dst ≠ some t) → S'.T t = S.T t
 | [], S, S', h, _ => by simp only [DK, aa] at h; rw [h]
 | j :: l, S, S', h, hj => by
  unfold DK at h
  split at h
  ·cases h
  rename_i o ho
  simp only [ae] at h
  obtain ⟨S1, h1, h2⟩ := h
  rw [Zb l h2 fun k hk => hj k (ca _ hk)]
  have hd := hj j (bu ..) o ho
  rw [Dn] at h1
  simp only [ae] at h1
  obtain ⟨v, _, h1⟩ := h1
  split at h1
  case isFalse => cases h1
  simp only [aa] at h1
  subst h1
  unfold IF
  cases hh : o.dst with
  | none => rfl
  | some d =>
   show (if t = d then _ else _) = _
   rw [if_neg]
   rintro rfl
   exact hd hh
theorem U6 {cf : Nat → Cx} {ops : Array bq} : ∀ (l l' : List Nat) {S S' : St}, DK cf ops (l ++ l') S = some S' → ∃ S1, DK cf ops l S = some S1 ∧ DK cf ops l' S1 = some S'
 | [], l', S, S', h => ⟨S, rfl, h⟩
 | j :: l, l', S, S', h => by
  simp only [di, DK] at h ⊢
  split at h
  ·cases h
  rename_i o ho
  simp only [ae] at h
  obtain ⟨S1, h1, h2⟩ := h
  obtain ⟨S2, h3, h4⟩ := U6 l l' h2
  exact ⟨S2, by simp only [h1, ab, h3], h4⟩
theorem Nw {cx : Cx} {ops : Array bq} {o : bq} {d : Nat} {S S1 : St} (hg : o.guard = none) (hd : o.dst = some d) (h : BZ cx ops o S = some S1) : d < cx.ntmps ∧ ∃ v H', C5 cx o S = some (v, H') ∧ S1 = ({ S with H := H' } : St).set d v := by
 unfold BZ CW at h
 rw [hg] at h
 simp only [ab, if_true] at h
 unfold IV at h
 rw [hd] at h
 simp only [] at h
 split at h
 case isFalse => cases h
 rename_i hlt
 simp only [af, Prod.exists] at h
 obtain ⟨v, H', h1, h2⟩ := h
 exact ⟨hlt, v, H', h1, h2.symm⟩
structure XY (c : Cx) (ops : Array bq) (E0 : AN) (S' : St) (fuel : Nat) (listed : Array Bool) (r : List Nat) (pend : List Pd) (E : AN) (S : St) (a A : Act) : Prop where
 size : listed.size = ops.size
 count : fuel + pend.length = r.length
 left : ∀ i, i ∈ r ↔ i < ops.size ∧ (listed.getD i true = false ∨ i ∈ pend.map (·.m))
 Fz : CO c.lits ops (Ex ops) r = true
 down : ∀ e, listed.getD e false = true → ∀ j ∈ (Ex ops).getD e [], listed.getD j false = true
 II : CK c E S a
 defers : a.defers = []
 act : A = Dm a (pend.map fun p => (p.d, p.u))
 rest : DK (Ed c ops) ops r S = some S'
 part : Jw ops c.base S'.T = true
 after : Ap c E0 E S.H
 QY : ∀ p ∈ pend, jD c ops E0 E S listed r p
 nodup : (pend.map (·.m)).Nodup
 gs : (pend.map (·.g)).Nodup
theorem XY.blocked {E0 : AN} {S' : St} {fuel : Nat} {ops : Array bq} {listed : Array Bool} {r : List Nat} {pend : List Pd} {A : Act} (h : XY c ops E0 S' fuel listed r pend E S a A) (hb : ∀ p ∈ pend, K6 ops r p.m) : ∀ (n : Nat) (p : Pd), p ∈ pend → (∃ r1 r2, r = r1 ++ p.m :: r2 ∧ r1.length = n) → ∃ b ∈ r, listed.getD b true = false ∧ ∀ k, k < ops.size → p.m ∈ (Ex ops).getD k [] → b ∈ (Ex ops).getD k [] := by
 intro n
 induction n using mM with
 | _ n ih =>
  rintro p hp ⟨r1, r2, hr, hl⟩
  obtain ⟨q1, q2, b, hq, hb1, hb2⟩ := hb p hp
  have hnd := Cm h.Fz
  obtain ⟨rfl, rfl⟩ := TF (by rw [← hr]; exact hnd) (hr.symm.trans hq)
  obtain ⟨_, _, _, _, _, _, _, _, _, _, hk⟩ := J3 hb2
  have hbr : b ∈ r := by rw [hr]; simp [hb1]
  rcases ((h.left b).1 hbr).2 with hl2 | hl2
  ·exact ⟨b, hbr, hl2, hk⟩
  ·obtain ⟨q, hq1, rfl⟩ := ea.1 hl2
   obtain ⟨s1, s2, rfl⟩ := fp hb1
   obtain ⟨b', h1, h2, h3⟩ := ih s1.length (by rw [← hl]; simp) q hq1 ⟨s1, s2 ++ p.m :: r2, by rw [hr]; simp, rfl⟩
   exact ⟨b', h1, h2, fun k hk1 hk2 => h3 k hk1 (hk k hk1 hk2)⟩
theorem LJ {c : Cx} {ops : Array bq} {o : bq} {T T' : Nat → V} {H : A4} (h : ∀ t ∈ o.looksAt ops, T t = T' t) : C5 c o { T := T, H := H } = C5 c o { T := T', H := H } := by
  refine P9 c o fun x hx => ?_
  cases x with
  | tmp t =>
    have : t ∈ o.looksAt ops := cq _ (jv.2 ⟨.tmp t, by simpa using hx, rfl⟩)
    simp only [ev, h t this]
  | _ => rfl
theorem gV {d : Option Nat} {x : V × A4} {S : St} {t : Nat} (h : d ≠ some t) : (IF d x S).T t = S.T t := by
 unfold IF
 cases d with
 | none => rfl
 | some d =>
  show (if t = d then _ else _) = _
  rw [if_neg]
  rintro rfl
  exact h rfl
theorem XY.settle {E0 : AN} {S' : St} {ops : Array bq} (hK : FU c.Γ) {listed : Array Bool} {A : Act} {fuel : Nat} {R : ej → Prop} : ∀ (n : Nat) {r : List Nat} {pend : List Pd} {E : AN} {S : St} {a : Act}, pend.length = n → XY c ops E0 S' fuel listed r pend E S a A →
    (∀ r pend E1 S a, XY c ops E0 S' fuel listed r pend E1 S a A → (∀ p ∈ pend, K6 ops r p.m) → E1.w = E.w → R E1.w) → R E.w
  | n, r, pend, E, S, a, hlen, h, hR => by
    by_cases hall : ∀ p ∈ pend, K6 ops r p.m
    · exact hR r pend E S a h hall rfl
    have : ∃ p, p ∈ pend ∧ ¬ K6 ops r p.m := fo fun hx => hall fun p hp => fo fun hy => hx ⟨p, hp, hy⟩
    obtain ⟨p, hp, hnb⟩ := this
    obtain ⟨pa, pb, rfl⟩ := fp hp
    have hpo := h.QY p hp
    obtain ⟨o, ho, hog, hod, v, sz, cs, hop, hpd⟩ := hpo.op
    obtain ⟨r1, r2, rfl⟩ := fp hpo.mem
    obtain ⟨p1, p2⟩ := Hq h.Fz
    have hnd := Cm h.Fz
    have hbub := SC (c := c) hK (cf := Ed c ops) (fun i => ⟨_, rfl⟩) ho (r2 := r2) r1 h.II.base h.rest fun s1 j s2 he => by
      have hj : j ∈ r1 := by rw [he]; simp
      rcases (p1 j hj).2.2 with h1 | h1 | h1 | ⟨x, y, hx, hy, hsw, hc⟩
      · exact absurd (by simp [hj]) (hpo.Zp j h1)
      · exact absurd ⟨r1, r2, j, rfl, hj, h1⟩ hnb
      · exact .inr (dL.of h.Fz h.part (fun k hk hc => absurd (by simp [hk]) (hpo.Zp k hc)) he h1 ho)
      · rw [ho] at hy
        simp only [aa] at hy
        subst hy
        exact .inl ⟨x, hx, hsw, hc⟩
    simp only [DK, ho, ae] at hbub
    obtain ⟨S1, g1, g2⟩ := hbub
    obtain ⟨hlt, v1, H1, h1, rfl⟩ := Nw hog hod g1
    have hSe : (⟨S.T, S.H⟩ : St) = S := rfl
    have hop1 := hop S.H
    rw [hSe, h1] at hop1
    simp only [aa, ag] at hop1
    obtain ⟨rfl, rfl⟩ := hop1
    have hEn : E.n = E.H.length := by rw [h.after.n, h.after.H]
    obtain ⟨ha, hru⟩ := Sq h.after h.II.base (bt h.after.CI.len (Nat.le_of_eq h.after.n)) (sz := sz) hpd hpo.BM hpo.new hpo.S5
    have hmd : ∀ q ∈ pa ++ pb, q.m ≠ p.m ∧ q.g ≠ p.g ∧ q ∈ pa ++ p :: pb := by
      intro q hq
      have hn1 := h.nodup
      have hn2 := h.gs
      simp only [fi, df] at hn1 hn2
      have hmem : q ∈ pa ++ p :: pb := Ix hq
      rw [cn] at hn1 hn2
      refine ⟨fun e => ?_, fun e => ?_, hmem⟩
      · rcases au.1 hq with hq | hq
        · exact hn1.2.2 q.m (fz hq) p.m (bu ..) e
        · exact (dr.1 hn1.2.1).1 (e ▸ fz hq)
      · rcases au.1 hq with hq | hq
        · exact hn2.2.2 q.g (fz hq) p.g (bu ..) e
        · exact (dr.1 hn2.2.1).1 (e ▸ fz hq)
    have hap : ∀ q ∈ pa ++ pb, ∃ oq, ops[q.m]? = some oq ∧ oq.dst = some q.d ∧ p.d ∉ oq.looksAt ops ∧ oq.dst ≠ some p.d := by
      intro q hq
      obtain ⟨hq1, hq2, hq3⟩ := hmd q hq
      have hqo := h.QY q hq3
      obtain ⟨oq, e1, e2, e3, _⟩ := hqo.op
      have hqr := hqo.mem
      have hkey : ∃ x y, ops[q.m]? = some x ∧ ops[p.m]? = some y ∧ Oper.apart ops x y = true ∧ Oper.apart ops y x = true := by
        rcases au.1 hqr with hq4 | hq4
        · exact (p1 q.m hq4).apart fun e => absurd hqr (hpo.Zp _ e)
        · rcases bw.1 hq4 with hq4 | hq4
          · exact absurd hq4 hq1
          · obtain ⟨x, y, k1, k2, k3, k4⟩ := (p2 q.m hq4).apart fun e => absurd hpo.mem (hqo.Zp _ e)
            exact ⟨y, x, k2, k1, k4, k3⟩
      obtain ⟨x, y, k1, k2, k3, k4⟩ := hkey
      rw [e1] at k1
      rw [ho] at k2
      simp only [aa] at k1 k2
      subst k1 k2
      obtain ⟨_, w2, w3⟩ := Oper.apart_spec k3
      exact ⟨oq, e1, e3, w3 _ hod, fun e => w2 _ e (by rw [hod])⟩
    let E1 := E.name p.g (.cells sz cs)
    have hsim : CK c E1 (({ S with H := S.H ++ [.cells sz cs] } : St).set p.d (v S.H.length)) (a.put (some p.d) p.u) := by
      refine
        { H := by show E.H ++ _ = S.H ++ _; rw [h.II.H]
          lk := h.II.lk
          n := by show E.n + 1 = _; rw [h.II.n]; show _ = (S.H ++ [_]).length; simp
          m := h.II.m
          tmps := fun i => ?_
          size := by rw [← h.II.size]; simp [Act.put]
          heap := ha.heap
          base := by show _ ≤ (S.H ++ [_]).length; have := h.II.base; simp; omega
          DV := h.II.DV
          deep := h.II.deep }
      show A6 E1 (if i = p.d then _ else S.T i) (((a.tmps).setIfInBounds p.d p.u).getD i undef)
      rw [NX]
      by_cases hi : i = p.d
      · rw [if_pos hi, if_pos ⟨hi, by rw [h.II.size]; exact hlt⟩]; exact hru
      · rw [if_neg hi, if_neg (fun e => hi e.1)]; exact O2 hpo.BM hEn (h.II.tmps i)
    refine XY.settle hK (n - 1) (r := r1 ++ r2) (pend := pa ++ pb) (E := E1) (S := ({ S with H := S.H ++ [.cells sz cs] } : St).set p.d (v S.H.length)) (a := a.put (some p.d) p.u) (by simp at hlen ⊢; omega) ?_ fun r' pend' E2 S2 a2 hm hb he => hR r' pend' E2 S2 a2 hm hb he
    have hcount := h.count
    exact
      { size := h.size
        count := by simp at hcount ⊢; omega
        left := fun i => by
          constructor
          · intro hi
            obtain ⟨k1, k2⟩ := (h.left i).1 (Ix hi)
            refine ⟨k1, k2.imp id fun k2 => ?_⟩
            obtain ⟨q, hq, rfl⟩ := ea.1 k2
            refine fz (IC hq ?_)
            rintro rfl
            have := hnd
            rw [cn] at this
            rcases au.1 hi with hi | hi
            · exact this.2.2 _ hi _ (bu ..) rfl
            · exact (dr.1 this.2.1).1 hi
          · rintro ⟨k1, k2⟩
            have hne : i ≠ p.m := by
              rintro rfl
              rcases k2 with k2 | k2
              · rw [hpo.done] at k2; cases k2
              · obtain ⟨q, hq, hqe⟩ := ea.1 k2
                exact (hmd q hq).1 hqe
            refine IC ((h.left i).2 ⟨k1, k2.imp id fun k2 => ?_⟩) hne
            obtain ⟨q, hq, rfl⟩ := ea.1 k2
            exact fz (Ix hq)
        Fz := Fk (by simp) h.Fz
        down := h.down
        II := hsim
        defers := h.defers
        act := by
          rw [h.act]
          simp only [fi, df]
          unfold Dm
          rw [ly, List.foldl_cons, ly]
          congr 1
          show (Dm a (pa.map fun p => (p.d, p.u))).put (some p.d) p.u = Dm (a.put (some p.d) p.u) (pa.map fun p => (p.d, p.u))
          refine (JO _ _ fun q hq => ?_).symm
          obtain ⟨q', hq', rfl⟩ := ea.1 hq
          obtain ⟨oq, _, e2, _, e4⟩ := hap q' (cq _ hq')
          intro e
          exact e4 (by rw [e2, ← e])
        rest := g2
        part := h.part
        after := ha
        QY := fun q hq => by
          obtain ⟨hq1, hq2, hq3⟩ := hmd q hq
          have hqo := h.QY q hq3
          obtain ⟨oq, e1, e2, e3, v2, sz2, cs2, e4, e5⟩ := hqo.op
          obtain ⟨oq', f1, f2, f3, _⟩ := hap q hq
          rw [e1] at f1
          simp only [aa] at f1
          subst f1
          refine ⟨⟨oq, e1, e2, e3, v2, sz2, cs2, fun H2 => ?_, e5⟩, Iy.2 ⟨hqo.BM, hq2⟩, hqo.new, hqo.S5, ?_, hqo.done, fun j hj hjr => hqo.Zp j hj (Ix hjr)⟩
          · rw [← e4 H2]
            refine (LJ (ops := ops) fun t ht => ?_)
            show (if t = p.d then _ else S.T t) = _
            rw [if_neg]
            rintro rfl
            exact f3 ht
          · exact IC hqo.mem hq1
        nodup := by
          have := h.nodup
          simp only [fi, df] at this ⊢
          exact this.sublist (by simp)
        gs := by
          have := h.gs
          simp only [fi, df] at this ⊢
          exact this.sublist (by simp) }
  termination_by n => n
  decreasing_by simp at hlen; omega
theorem XY.apart {E0 : AN} {S' : St} {fuel : Nat} {ops : Array bq} {listed : Array Bool} {r : List Nat} {pend : List Pd} {A : Act} (h : XY c ops E0 S' fuel listed r pend E S a A) {i : Nat} {oi : bq} (hi : ops[i]? = some oi) (hir : i ∈ r) (hil : listed.getD i true = false) (hanc : ∀ p ∈ pend, p.m ∉ (Ex ops).getD i []) : ∀ p ∈ pend, ∃ op, ops[p.m]? = some op ∧ Oper.apart ops op oi = true ∧ Oper.apart ops oi op = true := by
 intro p hp
 have hpo := h.QY p hp
 obtain ⟨r1, r2, rfl⟩ := fp hir
 obtain ⟨p1, p2⟩ := Hq h.Fz
 have hne : p.m ≠ i := by
  intro e
  have := hpo.done
  rw [e, hil] at this
  cases this
 rcases au.1 hpo.mem with hm | hm
 ·obtain ⟨x, y, k1, k2, k3, k4⟩ := (p1 p.m hm).apart (hanc p hp)
  rw [hi] at k2
  simp only [aa] at k2
  subst k2
  exact ⟨x, k1, k3, k4⟩
 ·rcases bw.1 hm with hm | hm
  ·exact absurd hm hne
  ·have hsz : p.m < listed.size := by
    rcases bz p.m listed.size with hl | hl
    ·exact hl
    ·rw [h.size] at hl
     obtain ⟨o, ho, _⟩ := hpo.op
     exact absurd (ar.1 ho).1 (dt.2 hl)
   have hna : i ∉ (Ex ops).getD p.m [] := by
    intro e
    have := h.down p.m (by rw [Fv hsz false true]; exact hpo.done) i e
    have hi2 : i < listed.size := by rw [h.size]; exact (ar.1 hi).1
    rw [Fv hi2 false true, hil] at this
    cases this
   obtain ⟨x, y, k1, k2, k3, k4⟩ := (p2 p.m hm).apart hna
   rw [hi] at k1
   simp only [aa] at k1
   subst k1
   exact ⟨y, k2, k4, k3⟩
theorem Lz {c : Cx} {o : bq} {S : St} {r : V × A4} (h : C5 c o S = some r) : ∀ cs b, o.op ≠ .select cs b := by
 intro cs b e
 unfold C5 at h
 simp only [e] at h
 cases h
theorem Ij {ops : Array bq} {E0 : AN} (hh0 : C1 E0) {Q : Exit → Act → ej → Prop} (hok : Ih c.lits ops = true) (hΓ : GU c.P c.hints c.Γ) (hK : FU c.Γ) {S' : St} (hn : ∀ E' a', CK c E' S' a' → Ap c E0 E' S'.H → a'.defers = [] → Q .normal a' E'.w) : ∀ (fuel : Nat) (listed : Array Bool) (r : List Nat) (pend : List Pd) {E : AN} {S : St} {a A : Act},
    XY c ops E0 S' fuel listed r pend E S a A → (∀ p ∈ pend, K6 ops r p.m) → wpAny c.P .any ops Q fuel listed A E.w
  | 0, listed, r, pend, E, S, a, A, h, hb => by
    have hun : ∀ i ∈ r, listed.getD i true = false → False := by
      intro i hi hl
      have hnd := Cm h.Fz
      have hle : pend.length + 1 ≤ r.length := by
        have h1 : (i :: pend.map (·.m)).Nodup := by
          refine dr.2 ⟨fun hm => ?_, h.nodup⟩
          obtain ⟨p, hp, rfl⟩ := ea.1 hm
          have := (h.QY p hp).done
          rw [hl] at this
          cases this
        have h2 := List.Nodup.length_le_of_subset h1 (l₂ := r) fun x hx => by
          rcases bw.1 hx with rfl | hx
          · exact hi
          · obtain ⟨p, hp, rfl⟩ := ea.1 hx
            exact (h.QY p hp).mem
        simpa using h2
      have := h.count
      omega
    have hp0 : pend = [] := by
      cases pend with
      | nil => rfl
      | cons p ps =>
        obtain ⟨r1, r2, hr⟩ := fp (h.QY p (bu ..)).mem
        obtain ⟨b, hb1, hb2, _⟩ := h.blocked hb _ p (bu ..) ⟨r1, r2, hr, rfl⟩
        exact (hun b hb1 hb2).elim
    subst hp0
    have hr0 : r = [] := by
      have := h.count
      exact bx (by simp at this; omega)
    subst hr0
    have hrest := h.rest
    simp only [DK, aa] at hrest
    subst hrest
    have hA : A = a := h.act
    subst hA
    refine ⟨?_, hn E A h.II h.after h.defers⟩
    rw [List.eq_nil_iff_forall_not_mem]
    intro i hi
    obtain ⟨h1, o, h2, _⟩ := mem_ready.1 hi
    have := (h.left i).2 ⟨(ar.1 h2).1, .inl h1⟩
    cases this
  | fuel + 1, listed, r, pend, E, S, a, A, h, hb => by
    obtain ⟨s1, s2, s3, s4⟩ := Ii hok
    have hsz := h.size
    refine ⟨fun hnil => ?_, fun i hi => ?_⟩
    · exfalso
      have hex : ∃ x, x ∈ r ∧ listed.getD x true = false := by
        refine fo fun hx => ?_
        have hnd := Cm h.Fz
        have := List.Nodup.length_le_of_subset hnd (l₂ := pend.map (·.m)) fun x hxr => by
          rcases ((h.left x).1 hxr).2 with h1 | h1
          · exact absurd ⟨x, hxr, h1⟩ hx
          · exact h1
        have hc := h.count
        simp at this
        omega
      obtain ⟨x, hx⟩ := hex
      obtain ⟨m, hm, hmin⟩ := Wa (p := fun k => k ∈ r ∧ listed.getD k true = false) x hx
      obtain ⟨hm1, _⟩ := (h.left m).1 hm.1
      have : m ∈ Region.ready .any ops listed := by
        rw [mem_ready]
        refine ⟨hm.2, ops[m], gu hm1, fun e he hb' => ?_⟩
        have hlt := (s3 m hm1).1 e.on ((P4 (gu hm1)).2 ⟨e, he, hb', rfl⟩)
        cases hl : listed.getD e.on true with
        | false => exact absurd (hmin e.on ⟨(h.left e.on).2 ⟨by omega, .inl hl⟩, hl⟩) (by omega)
        | true => rw [Fv (by omega) false true]; exact hl
      rw [hnil] at this
      cases this
    · obtain ⟨h1, o, ho, h2⟩ := mem_ready.1 hi
      have hlt : i < ops.size := (ar.1 ho).1
      have hir : i ∈ r := (h.left i).2 ⟨hlt, .inl h1⟩
      have hlist : ∀ e ∈ HN ops i, listed.getD e false = true := by
        intro e he
        obtain ⟨d, hd1, hd2, rfl⟩ := (P4 ho).1 he
        exact h2 d hd1 hd2
      have hanc : ∀ j ∈ (Ex ops).getD i [], listed.getD j false = true := by
        intro j hj
        obtain ⟨e, he, hej⟩ := (s3 i hlt).2 j hj
        rcases hej with rfl | hej
        · exact hlist _ he
        · exact h.down e (hlist e he) j hej
      have hancr : ∀ j ∈ (Ex ops).getD i [], j ∉ r := by
        intro j hj hjr
        rcases ((h.left j).1 hjr) with ⟨hjs, hl | hl⟩
        · have h4 := hanc j hj
          rw [Fv (by omega) false true, hl] at h4
          cases h4
        · obtain ⟨p, hp, rfl⟩ := ea.1 hl
          obtain ⟨r1, r2, hr⟩ := fp hjr
          obtain ⟨b, hb1, hb2, hb3⟩ := h.blocked hb _ p hp ⟨r1, r2, hr, rfl⟩
          have h4 := hanc b (hb3 i hlt hj)
          rw [Fv (by have := ((h.left b).1 hb1).1; omega) false true, hb2] at h4
          cases h4
      have hap := h.apart ho hir h1 fun p hp e => hancr _ e (h.QY p hp).mem
      have hl1 : ∀ q ∈ pend.map fun p => (p.d, p.u), q.1 ∉ o.looksAt ops := by
        intro q hq
        obtain ⟨p, hp, rfl⟩ := ea.1 hq
        obtain ⟨op, k1, k2, _⟩ := hap p hp
        obtain ⟨op', e1, _, e3, _⟩ := (h.QY p hp).op
        rw [e1] at k1
        simp only [aa] at k1
        subst k1
        exact (Oper.apart_spec k2).1 _ e3
      have hl2 : ∀ q ∈ pend.map fun p => (p.d, p.u), o.dst ≠ some q.1 := by
        intro q hq
        obtain ⟨p, hp, rfl⟩ := ea.1 hq
        obtain ⟨op, k1, k2, _⟩ := hap p hp
        obtain ⟨op', e1, _, e3, _⟩ := (h.QY p hp).op
        rw [e1] at k1
        simp only [aa] at k1
        subst k1
        exact (Oper.apart_spec k2).2.1 _ e3
      have hl3 : ∀ p ∈ pend, ∀ d, o.dst = some d → ∃ op, ops[p.m]? = some op ∧ d ∉ op.looksAt ops := by
        intro p hp d hd
        obtain ⟨op, k1, _, k2⟩ := hap p hp
        exact ⟨op, k1, (Oper.apart_spec k2).1 d hd⟩
      have hA := h.act
      subst hA
      obtain ⟨r1, r2, rfl⟩ := fp hir
      obtain ⟨p1, p2⟩ := Hq h.Fz
      have hnd := Cm h.Fz
      have hir12 : i ∉ r1 ++ r2 := by
        intro hx
        rw [cn] at hnd
        rcases au.1 hx with hx | hx
        · exact hnd.2.2 _ hx _ (bu ..) rfl
        · exact (dr.1 hnd.2.1).1 hx
      have hdown : ∀ e, (listed.setIfInBounds i true).getD e false = true → ∀ j ∈ (Ex ops).getD e [], (listed.setIfInBounds i true).getD j false = true := by
        intro e he j hj
        by_cases hx : i = e
        · subst hx
          exact getD_set_true (hanc j hj)
        · rw [getD_set_ne false hx] at he
          exact getD_set_true (h.down e he j hj)
      have hpm : ∀ p ∈ pend, p.m ≠ i := by
        intro p hp e
        have := (h.QY p hp).done
        rw [e, h1] at this
        cases this
      have hdone : ∀ p ∈ pend, (listed.setIfInBounds i true).getD p.m true = true := by
        intro p hp
        rw [getD_set_ne true (fun e => hpm p hp e.symm)]
        exact (h.QY p hp).done
      by_cases hcase : ∃ b ∈ r1, LO ops (Ex ops) b i = true
      ·
        obtain ⟨b, hb1, hb2⟩ := hcase
        obtain ⟨_, o', d, _, ho', hmk, hog, hod, _, _, _⟩ := J3 hb2
        rw [ho] at ho'
        simp only [aa] at ho'
        subst ho'
        obtain ⟨Sm, q1, q2⟩ := U6 r1 (i :: r2) h.rest
        simp only [DK, ho, ae] at q2
        obtain ⟨S1, q2, _⟩ := q2
        obtain ⟨_, v1, H1, q3, _⟩ := Nw hog hod q2
        have hT : ∀ t ∈ o.looksAt ops, Sm.T t = S.T t := by
          intro t ht
          refine Zb r1 q1 fun j hj oj hoj e => ?_
          obtain ⟨x, y, k1, k2, k3, _⟩ := (p1 j hj).apart fun e => hancr j e (by simp [hj])
          rw [hoj] at k1
          rw [ho] at k2
          simp only [aa] at k1 k2
          subst k1 k2
          exact (Oper.apart_spec k3).1 t e ht
        obtain ⟨c1, e1, e2⟩ : ∃ vv HH, C5 (Ed c ops i) o S = some (vv, HH) := by
          have := LJ (c := Ed c ops i) (ops := ops) (o := o) (H := Sm.H) hT
          rw [show (⟨Sm.T, Sm.H⟩ : St) = Sm from rfl, q3] at this
          unfold KM at hmk
          split at hmk
          · rename_i t hop
            unfold C5 at this ⊢
            simp only [hop] at this ⊢
            have t2 := this.symm
            simp only [ae] at t2
            obtain ⟨sz, hsz', z, hz, _⟩ := t2
            exact ⟨_, _, by simp only [hsz', hz, ab]; rfl⟩
          · rename_i t n m hop
            unfold C5 at this ⊢
            simp only [hop] at this ⊢
            have t2 := this.symm
            simp only [ae] at t2
            obtain ⟨N, hN, M, hM, t3⟩ := t2
            simp only [hN, hM, ab]
            unfold Iv at t3 ⊢
            split at t3
            case h_2 => cases t3
            rename_i k l
            simp only [ae] at t3
            obtain ⟨e, he, sz, hsz', by_, hby, z, hz, t4⟩ := t3
            split at t4
            case isFalse => cases t4
            rename_i hc
            simp only [he, hsz', hby, hz, ab]
            rw [if_pos hc]
            exact ⟨_, _, rfl⟩
          · cases hmk
        obtain ⟨v, sz, cs, u, cc, t, hop, hrun, hpd⟩ := Sn (c := Ed c ops i) (h.II.BQ true (Jh ops (Ex ops) i)) hmk e2
        have hsel := Lz e2
        let E1 : AN := { E with w := E.w.alloc (.cells cc t), BM := E.w.heap.size :: E.BM }
        have hsil : Eb E E1 cc t :=
          { heap := rfl, os := rfl, tape := rfl, output := rfl, By := rfl, H := rfl, lk := rfl, nn := rfl, mm := rfl
            BM := fun g => by
              show g ∈ E.w.heap.size :: E.BM ↔ g ∈ E.BM ∨ (g ∈ E.w.heap.size :: E.BM ∧ g = E.w.heap.size)
              simp only [bw]
              constructor
              · rintro (rfl | hg)
                · exact .inr ⟨.inl rfl, rfl⟩
                · exact .inl hg
              · rintro (hg | ⟨hg, _⟩)
                · exact .inr hg
                · exact hg }
        have hafter : Ap c E0 E1 S.H := by
          have hr := hsil.rel h.II.heap
          exact h.after.trans
            { H := h.II.H, n := h.II.n, m := rfl, CI := hsil.CI, heap := hr
              Gn := fun _ base nb d _ hn hd hf => hsil.Cf hn hd hf h.II.heap
              HP := fun _ base d _ hd hf => hsil.Cf (ak _) hd hf h.II.heap
              kept := fun _ _ _ => by rw [h.II.H] }
        have hsim : CK c E1 S a := ⟨h.II.H, h.II.lk, h.II.n, h.II.m, fun j => hsil.CI.rep h.II.heap _ _ (h.II.tmps j), h.II.size, hafter.heap, h.II.base, h.II.DV, h.II.deep⟩
        unfold wpOp
        simp only [ho]
        have hw : Region.wanted o (yielded ops (Dm a (pend.map fun p => (p.d, p.u))).tmps) = true := by
          unfold Region.wanted; rw [hog]
        rw [if_pos hw]
        refine .inl ?_
        unfold Oper.wp
        rw [Ky hsel _ a hl1]
        show o.upon c.P _ _ Q ((execOp a.eval o).run (Ed c ops i).P E.w)
        rw [hrun, Oper.upon_value]
        rw [hod]
        refine Ij hh0 hok hΓ hK hn fuel (listed.setIfInBounds i true) (r1 ++ i :: r2) (pend ++ [⟨i, d, u, E.w.heap.size⟩]) (E := E1) (S := S) (a := a) ?_ ?_
        · have hlis : (listed.setIfInBounds i true).getD i true = true := by simp [hsz, hlt]
          exact
            { size := by simp [hsz]
              count := by have := h.count; simp at this ⊢; omega
              left := fun x => by
                have hlx := h.left x
                by_cases hx : i = x
                · subst hx
                  exact ⟨fun _ => ⟨hlt, .inr (by simp)⟩, fun _ => by simp⟩
                · rw [getD_set_ne true hx, hlx]
                  simp only [fi, df, fq, au, bl]
                  constructor
                  · rintro ⟨k1, k2⟩; exact ⟨k1, k2.imp id .inl⟩
                  · rintro ⟨k1, k2⟩; exact ⟨k1, k2.imp id fun k => k.resolve_right fun e => hx e.symm⟩
              Fz := h.Fz
              down := hdown
              II := hsim
              defers := h.defers
              act := by
                rw [fi, df, fq, T4]
              rest := h.rest
              part := h.part
              after := hafter
              QY := fun p hp => by
                rcases au.1 hp with hp | hp
                · have hpo := h.QY p hp
                  obtain ⟨op, k1, k2, k3, v2, sz2, cs2, k4, ⟨cc2, t2, m1, m2⟩, m3⟩ := hpo.op
                  refine ⟨⟨op, k1, k2, k3, v2, sz2, cs2, k4, ⟨cc2, t2, ?_, m2⟩, m3⟩, ca _ hpo.BM, hpo.new, hpo.S5, hpo.mem, hdone p hp, hpo.Zp⟩
                  have := hsil.CI.Gp p.g hpo.BM (h.II.heap.BM _ hpo.BM).1
                  rw [this]; exact m1
                · simp only [bl] at hp
                  subst hp
                  exact ⟨⟨o, ho, hog, hod, v, sz, cs, hop, hpd⟩, bu .., h.after.CI.size, fun e => absurd (hh0.BM _ e).1 (dt.2 h.after.CI.size), hir, hlis, hancr⟩
              nodup := by
                rw [fi, df, fq, cn]
                refine ⟨h.nodup, by simp, fun x hx y hy e => ?_⟩
                simp only [bl] at hy
                obtain ⟨p, hp, rfl⟩ := ea.1 hx
                exact hpm p hp (e.trans hy)
              gs := by
                rw [fi, df, fq, cn]
                refine ⟨h.gs, by simp, fun x hx y hy e => ?_⟩
                simp only [bl] at hy
                obtain ⟨p, hp, rfl⟩ := ea.1 hx
                have := (h.II.heap.BM _ (h.QY p hp).BM).1
                rw [e, hy] at this
                exact absurd this (Nat.lt_irrefl _) }
        · intro p hp
          rcases au.1 hp with hp | hp
          · exact hb p hp
          · simp only [bl] at hp
            subst hp
            exact ⟨r1, r2, b, rfl, hb1, hb2⟩
      ·
        have hbub := SC (c := c) hK (cf := Ed c ops) (fun i => ⟨_, rfl⟩) ho (r2 := r2) r1 h.II.base h.rest fun s1 j s2 he => by
          have hj : j ∈ r1 := by rw [he]; simp
          rcases (p1 j hj).2.2 with hj2 | hj2 | hj2 | ⟨x, y, hx, hy, hsw, hc⟩
          · exact absurd (by simp [hj]) (hancr j hj2)
          · exact absurd ⟨j, hj, hj2⟩ hcase
          · exact .inr (dL.of h.Fz h.part (fun k hk hc => absurd (by simp [hk]) (hancr k hc)) he hj2 ho)
          · rw [ho] at hy
            simp only [aa] at hy
            subst hy
            exact .inl ⟨x, hx, hsw, hc⟩
        simp only [DK, ho, ae] at hbub
        obtain ⟨S1, g1, g2⟩ := hbub
        have hg := Dn (Ed c ops i) ops o S
        rw [g1] at hg
        have hg := hg.symm
        simp only [ae] at hg
        obtain ⟨ve, _, hg⟩ := hg
        split at hg
        case isFalse => cases hg
        simp only [aa] at hg
        have key : ∀ E1 a1, CK c E1 S1 a1 → Ap c E E1 S1.H → a1.defers = [] → wpAny c.P .any ops Q fuel (listed.setIfInBounds i true) (Dm a1 (pend.map fun p => (p.d, p.u))) E1.w := by
          intro E1 a1 hs1 ha1 hd1
          refine XY.settle (c := c) (E0 := E0) (S' := S') (ops := ops) hK (listed := listed.setIfInBounds i true) (A := Dm a1 (pend.map fun p => (p.d, p.u))) (fuel := fuel) (R := fun w => wpAny c.P .any ops Q fuel (listed.setIfInBounds i true) (Dm a1 (pend.map fun p => (p.d, p.u))) w) pend.length (r := r1 ++ r2) (pend := pend) (E := E1) (S := S1) (a := a1) rfl ?_ fun r' pend' E2 S2 a2 hm hb' he => Ij hh0 hok hΓ hK hn fuel _ r' pend' hm hb'
          exact
            { size := by simp [hsz]
              count := by have := h.count; simp at this ⊢; omega
              left := fun x => by
                have hlx := h.left x
                by_cases hx : i = x
                · subst hx
                  refine ⟨fun hm => absurd hm hir12, ?_⟩
                  rintro ⟨_, hm | hm⟩
                  · simp [hsz, hlt] at hm
                  · obtain ⟨p, hp, e⟩ := ea.1 hm
                    exact absurd e (hpm p hp)
                · rw [getD_set_ne true hx, ← hlx]
                  simp [au, bw, Ne.symm hx]
              Fz := Fk (by simp) h.Fz
              down := hdown
              II := hs1
              defers := hd1
              act := rfl
              rest := g2
              part := h.part
              after := h.after.trans ha1
              QY := fun p hp => by
                have hpo := h.QY p hp
                obtain ⟨op, k1, k2, k3, v2, sz2, cs2, k4, ⟨cc2, t2, m1, m2⟩, m3⟩ := hpo.op
                refine ⟨⟨op, k1, k2, k3, v2, sz2, cs2, fun H2 => ?_, ⟨cc2, t2, ?_, m2⟩, m3⟩, ha1.CI.BM _ hpo.BM, hpo.new, hpo.S5, IC hpo.mem (hpm p hp), hdone p hp, fun j hj hjr => hpo.Zp j hj (Ix hjr)⟩
                · rw [← k4 H2]
                  refine LJ (ops := ops) fun t ht => ?_
                  rw [← hg]
                  refine gV fun e => ?_
                  obtain ⟨op', e1, e2⟩ := hl3 p hp t e
                  rw [k1] at e1
                  simp only [aa] at e1
                  subst e1
                  exact e2 ht
                · rw [ha1.CI.Gp p.g hpo.BM (h.II.heap.BM _ hpo.BM).1]; exact m1
              nodup := h.nodup
              gs := h.gs }
        have hst := KK h.II hΓ h.defers (s := true) (k := Jh ops (Ex ops) i) (o := o) (ops := ops) g1 (next := fun a1 w1 => wpAny c.P .any ops Q fuel (listed.setIfInBounds i true) (Dm a1 (pend.map fun p => (p.d, p.u))) w1) (Q := fun _ _ _ => False) key
        unfold wpOp
        simp only [ho]
        rw [M3 _ a hl1]
        split
        · rename_i hw
          rw [if_pos hw] at hst
          obtain ⟨hst, r0, hr0⟩ := hst
          exact .inl (ZS (Lz hr0) hl1 hl2 (fun a' w' hx => hx) hst)
        · rename_i hw
          rw [if_neg hw] at hst
          rw [← JO _ a hl2]
          exact hst
def AN.drew (E : AN) : AN := { E with w := { E.w with drawn := E.w.drawn + 1 } }
theorem FR.drew (E : AN) : FR E E.drew where
 lk := rfl
 os := rfl
 tape := rfl
 output := rfl
 size := ak _
 len := ak _
 mm := rfl
 cell := fun _ _ _ h _ => h
 block := fun _ _ _ => rfl
 mono := fun _ _ _ _ h => .inl h
 By := fun _ _ h => ⟨rfl, h⟩
 cells := fun _ _ h => h
 BT := fun _ _ n _ _ h => ⟨n, h, ak _, fun _ => ⟨rfl, fun c _ hc => ⟨c, hc, rfl⟩⟩⟩
 fresh := fun _ h => .inl ⟨rfl, h⟩
 BM := fun _ h => h
 Hn := fun _ h => .inl h
 Gp := fun _ _ _ => rfl
theorem Ap.drew (hs : CK c E S a) : Ap c E E.drew S.H where
  H := hs.H
  n := hs.n
  m := rfl
  CI := FR.drew E
  heap :=
    { cells := fun b sz cs hb => by
        obtain ⟨x, t, h1, h2, h3⟩ := hs.heap.cells b sz cs hb
        exact ⟨x, t, h1, h2, fun i v hv => let ⟨u, h4, h5⟩ := h3 i v hv; ⟨u, h4, (FR.drew E).rep hs.heap _ _ h5⟩⟩
      BT := hs.heap.BT
      lvl := hs.heap.lvl
      dm := hs.heap.dm
      inj := hs.heap.inj
      maps := hs.heap.maps
      BM := hs.heap.BM }
  Gn := fun _ base nb d _ hnb hd hf b sz cs hlt hB x t hx i v u hv hu => ((FR.drew E).shrink hs.heap hnb hd).rep _ _ (hf b sz cs hlt hB x t hx i v u hv hu)
  HP := fun _ base d _ hd hf b sz cs hlt hB x t hx i v u hv hu => ((FR.drew E).shrink hs.heap (ak _) hd).rep _ _ (hf b sz cs hlt hB x t hx i v u hv hu)
  kept := fun _ _ _ => by rw [hs.H]
def X.Vt : X → Exit
 | .normal => .normal
 | .exit id => .exit id
 | .ret => .ret
open Classical in
theorem Oh {P : bg} {Q : Exit → Act → ej → Prop} {a : Act} {w : ej} {b : Code} (I : Nat → Act → ej → Prop) {n : Nat} (h0 : I n a w) (hz : ∀ a w, ¬ I 0 a w)
  (round : ∀ k a w, I (k + 1) a w → b.wp P (Exit.then (I k) Q) a w) : (Code.loop b).wp P Q a w := by
 let μ : Act → ej → Nat := fun a w => if h : ∃ k, I k a w then eb (Wa (p := fun k => I k a w) (eb h) (cj h)) else 0
 have hμ : ∀ a w (h : ∃ k, I k a w), I (μ a w) a w ∧ ∀ j, I j a w → μ a w ≤ j := by
  intro a w h
  have := cj (Wa (p := fun k => I k a w) (eb h) (cj h))
  show I (if h : ∃ k, I k a w then _ else 0) a w ∧ _
  simp only [μ, dif_pos h]
  exact this
 refine wp_loop (fun a w => ∃ k, I k a w) μ ⟨n, h0⟩ fun a w h => ?_
 obtain ⟨h1, h2⟩ := hμ a w h
 obtain ⟨k, hk⟩ : ∃ k, μ a w = k + 1 := by
  cases hm : μ a w with
  | zero => rw [hm] at h1; exact absurd h1 (hz a w)
  | succ k => exact ⟨k, rfl⟩
 rw [hk] at h1 ⊢
 refine wp_mono (round k a w h1) fun e a' w' hq => ?_
 cases e with
 | normal => exact ⟨⟨k, hq⟩, Nat.lt_succ_of_le ((hμ a' w' ⟨k, hq⟩).2 k hq)⟩
 | _ => exact hq
theorem C3 (hm : c.P.follows .mixedOrders = true) (hΓ : GU c.P c.hints c.Γ) (hK : FU c.Γ) (n : Nat) : ∀ (b : Code) {E : AN} {S : St} {a : Act} (hs : CK c E S a) (hd : a.defers = []) {x : X} {S' : St} (h : AZ c n b S = some (x, S')) {Q : Exit → Act → ej → Prop}
    (hn : ∀ E' a', CK c E' S' a' → Ap c E E' S'.H → a'.defers = [] → Q x.Vt a' E'.w), b.wp c.P Q a E.w
  | .skip, E, S, a, hs, hd, x, S', h, Q, hn => by
    simp only [AZ, aa, ag] at h
    obtain ⟨rfl, rfl⟩ := h
    exact wp_skip (hn E a hs (Ap.refl hs) hd)
  | .region id ops draw, E, S, a, hs, hd, x, S', h, Q, hn => by
    cases draw with
    | false =>
      simp only [AZ, ba, if_false, af, ag] at h
      obtain ⟨S1, h1, rfl, rfl⟩ := h
      exact wp_region (PA (fun _ => ⟨c.still, c.calm, rfl⟩) _ hs hΓ hd h1 hn)
    | true =>
      simp only [AZ, if_true, af, ag] at h
      obtain ⟨S1, h1, rfl, rfl⟩ := h
      split at h1
      case isFalse => cases h1
      rename_i hok
      rw [ae] at h1
      obtain ⟨S2, h1, hpart⟩ := h1
      split at hpart
      case isFalse => cases hpart
      rename_i hpart'
      cases hpart
      have hpart := hpart'
      obtain ⟨s1, s2, s3, s4⟩ := Ii hok
      have ha0 := Ap.drew hs
      have hs0 : CK c E.drew S a := CK.next (T := S.T) (ts := a.tmps) (ds := a.defers) hs ha0 (fun i => (FR.drew E).rep hs.heap _ _ (hs.tmps i)) rfl
      refine wp_region_any hm ?_
      have hlen : (Oc c.lits ops).length = ops.size := by
        have hnd := Cm s4
        refine Nat.le_antisymm ?_ ?_
        · have := List.Nodup.length_le_of_subset hnd (l₂ := da ops.size) fun i hi => dg.2 (s2 i hi)
          simpa using this
        · have := List.Nodup.length_le_of_subset (List.nodup_range (n := ops.size)) (l₂ := Oc c.lits ops) fun i hi => s1 i (dg.1 hi)
          simpa using this
      refine Ij (E0 := E.drew) hs0.heap hok hΓ hK (S' := S1) (fun E' a' hs' ha' hd' => hn E' a' hs' (ha0.trans ha') hd') ops.size (jl ops.size false) (Oc c.lits ops) [] (E := E.drew) (S := S) (a := a) ?_ (fun p hp => by cases hp)
      have hf : ∀ i, i < ops.size → (jl ops.size false).getD i true = false := fun i hi => by simp [dz, hi]
      exact
        { size := by simp
          count := by simpa using hlen.symm
          left := fun i => ⟨fun hi => ⟨s2 i hi, .inl (hf i (s2 i hi))⟩, fun hi => s1 i hi.1⟩
          Fz := s4
          down := fun e he j hj => by
            exfalso
            simp only [dz, ko] at he
            split at he <;> simp at he
          II := hs0
          defers := hd
          act := rfl
          rest := h1
          part := hpart
          after := Ap.refl hs0
          QY := fun p hp => by cases hp
          nodup := jq
          gs := jq }
  | .seq p q, E, S, a, hs, hd, x, S', h, Q, hn => by
    simp only [AZ] at h
    split at h
    · rename_i S1 h1
      refine wp_seq (C3 hm hΓ hK n p hs hd h1 fun E1 a1 hs1 ha1 hd1 => ?_)
      exact C3 hm hΓ hK n q hs1 hd1 h fun E' a' hs' ha' hd' => hn E' a' hs' (ha1.trans ha') hd'
    · rename_i hne
      refine wp_seq (C3 hm hΓ hK n p hs hd h fun E1 a1 hs1 ha1 hd1 => ?_)
      have := hn E1 a1 hs1 ha1 hd1
      cases x with
      | normal => exact absurd h (hne S')
      | exit i => exact this
      | ret => exact this
  | .cond y p q, E, S, a, hs, hd, x, S', h, Q, hn => by
    simp only [AZ] at h
    split at h
    · rename_i hy
      have hr := Al hs y _ hy
      simp only [A6] at hr
      exact wp_cond_true hr (C3 hm hΓ hK n p hs hd h hn)
    · rename_i hy
      have hr := Al hs y _ hy
      simp only [A6] at hr
      exact wp_cond_false hr (C3 hm hΓ hK n q hs hd h hn)
    · cases h
  | .block id p, E, S, a, hs, hd, x, S', h, Q, hn => by
    simp only [AZ] at h
    split at h
    · rename_i i S1 h1
      refine wp_block (C3 hm hΓ hK n p hs hd h1 fun E1 a1 hs1 ha1 hd1 => ?_)
      show if i = id then Q .normal a1 E1.w else Q (.exit i) a1 E1.w
      split at h
      · rename_i hi
        simp only [aa, ag] at h
        obtain ⟨rfl, rfl⟩ := h
        rw [if_pos hi]
        exact hn E1 a1 hs1 ha1 hd1
      · rename_i hi
        simp only [aa, ag] at h
        obtain ⟨rfl, rfl⟩ := h
        rw [if_neg hi]
        exact hn E1 a1 hs1 ha1 hd1
    · rename_i hne
      refine wp_block (C3 hm hΓ hK n p hs hd h fun E1 a1 hs1 ha1 hd1 => ?_)
      have := hn E1 a1 hs1 ha1 hd1
      cases x with
      | normal => exact this
      | exit i => exact absurd h (hne i S')
      | ret => exact this
  | .loop p, E, S, a, hs, hd, x, S', h, Q, hn => by
    simp only [AZ] at h
    refine Oh (I := fun k a' w' => ∃ E' S1, CK c E' S1 a' ∧ E'.w = w' ∧ Ap c E E' S1.H ∧ a'.defers = [] ∧ ED (AZ c n p) k S1 = some (x, S')) (n := n)
      ⟨E, S, hs, rfl, Ap.refl hs, hd, h⟩ (fun a w => by rintro ⟨E', S1, _, _, _, _, h⟩; simp [ED] at h) ?_
    rintro k a1 w1 ⟨E1, S1, hs1, rfl, ha1, hd1, hit⟩
    simp only [ED] at hit
    split at hit
    · rename_i S2 h2
      refine C3 hm hΓ hK n p hs1 hd1 h2 fun E2 a2 hs2 ha2 hd2 => ?_
      exact ⟨E2, S2, hs2, rfl, ha1.trans ha2, hd2, hit⟩
    · rename_i hne
      refine C3 hm hΓ hK n p hs1 hd1 hit fun E2 a2 hs2 ha2 hd2 => ?_
      have := hn E2 a2 hs2 (ha1.trans ha2) hd2
      cases x with
      | normal => exact absurd hit (hne S')
      | exit i => exact this
      | ret => exact this
  | .exit id, E, S, a, hs, hd, x, S', h, Q, hn => by
    simp only [AZ, aa, ag] at h
    obtain ⟨rfl, rfl⟩ := h
    exact wp_exit (hn E a hs (Ap.refl hs) hd)
  | .ret, E, S, a, hs, hd, x, S', h, Q, hn => by
    simp only [AZ, aa, ag] at h
    obtain ⟨rfl, rfl⟩ := h
    exact wp_ret (hn E a hs (Ap.refl hs) hd)
  | .label _, _, _, _, _, _, _, _, h, _, _ => by simp [AZ] at h
  | .goto _, _, _, _, _, _, _, _, h, _, _ => by simp [AZ] at h
  | .scope _, _, _, _, _, _, _, _, h, _, _ => by simp [AZ] at h
  | .refuse _, _, _, _, _, _, _, _, h, _, _ => by simp [AZ] at h
  | .rangeFunc .., _, _, _, _, _, _, _, h, _, _ => by simp [AZ] at h
end
def AN.out (E : AN) (lo : Nat) (lk : Lk) (d : Nat) (H : A4) (news : List Bb) (Ω : List Nat) : AN :=
  { w := E.w, φ := fun b => if b < lo then E.φ b else E.φ (Ω.getD (b - lo) 0), H := H.take lo ++ news, lk := lk, n := lo + news.length, m := d, BM := E.BM }
structure OP (E : AN) (lo d : Nat) (lk : Lk) : Prop where
 heap : C1 E
 le : lo ≤ E.H.length
 jA : ∀ lv, lv ≤ d → E.lk.take lv = lk.take lv
 len : lk.length = d
 DV : ∀ l ∈ lk, ∀ x ∈ l, x < lo
def dN (E : AN) (d b : Nat) : Prop := (∃ sz cs, E.H[b]? = some (.cells sz cs)) ∨ ∃ l n sz, E.H[b]? = some (.BT l n sz) ∧ d < l
theorem dN.live {E : AN} {d b : Nat} (h : dN E d b) : live E.H[b]? := by
 rcases h with ⟨_, _, h⟩ | ⟨_, _, _, h, _⟩ <;> (rw [h]; trivial)
structure FJ (E : AN) (lo d : Nat) (H : A4) (news : List Bb) (Ω F : List Nat) : Prop where
 len : H.length = E.H.length
 Og : Ω.length = news.length
 S5 : ∀ b : Nat, b < lo → H[b]? = E.H[b]?
 same : ∀ b : Nat, H[b]? = E.H[b]? ∨ H[b]? = some Bb.dead
 omega : ∀ b : Nat, b ∈ Ω → lo ≤ b ∧ H[b]? = some Bb.dead ∧ dN E d b
 RE : ∀ b : Nat, b ∈ F → lo ≤ b ∧ H[b]? = some Bb.dead ∧ live E.H[b]?
 nodup : Ω.Nodup
 apart : ∀ b : Nat, b ∈ Ω → b ∉ F
 GN : ∀ (j : Nat) x, news[j]? = some x → ∃ sz cs, x = .cells sz cs
structure S7 (news : List Bb) (Ω F : List Nat) (news' : List Bb) (Ω' F' : List Nat) : Prop where
 news : news <+: news'
 om : Ω <+: Ω'
 fr : ∀ b, b ∈ F → b ∈ F'
theorem S7.refl (news : List Bb) (Ω F : List Nat) : S7 news Ω F news Ω F := ⟨m9 _, m9 _, fun _ h => h⟩
theorem S7.trans {n1 n2 n3 : List Bb} {a1 a2 a3 f1 f2 f3 : List Nat} (h : S7 n1 a1 f1 n2 a2 f2) (k : S7 n2 a2 f2 n3 a3 f3) : S7 n1 a1 f1 n3 a3 f3 :=
 ⟨h.news.trans k.news, h.om.trans k.om, fun b hb => k.fr b (h.fr b hb)⟩
theorem UC {α : Type} {l l' : List α} (h : l <+: l') {i : Nat} {x : α} (hx : l[i]? = some x) : l'[i]? = some x := by
 obtain ⟨t, rfl⟩ := h
 rw [az (al.1 hx).1]
 exact hx
def dJ (E : AN) (lo d : Nat) (lk : Lk) (news : List Bb) (Ω F : List Nat) : Prop :=
 ∀ (j b sz : Nat) (cs : List V), Ω[j]? = some b → news[j]? = some (.cells sz cs) → ∃ c t, E.w.heap[E.φ b]? = some (.cells c t (0, 0)) ∧ cs.length ≤ c.size ∧
  ∀ Hf nf Ωf Ff, FJ E lo d Hf nf Ωf Ff → S7 news Ω F nf Ωf Ff → ∀ (i : Nat) v, cs[i]? = some v → ∃ u, c[i]? = some u ∧ A6 (E.out lo lk d Hf nf Ωf) v u
def dM (H : A4) (Ω F Ω' F' : List Nat) : Prop := ∀ b : Nat, b ∈ Ω' ∨ b ∈ F' → b ∈ Ω ∨ b ∈ F ∨ live H[b]?
section
variable {E : AN} {lo d : Nat} {lk : Lk}
theorem Ct (hL : OP E lo d lk) {H : A4} {news : List Bb} {Ω F : List Nat} (hs : FJ E lo d H news Ω F) (b : Nat) : (E.out lo lk d H news Ω).H[b]? = if b < lo then E.H[b]? else news[b - lo]? := by
 have hl : (H.take lo).length = lo := by rw [dq, hs.len]; have := hL.le; omega
 show (H.take lo ++ news)[b]? = _
 by_cases h : b < lo
 ·rw [if_pos h, az (by omega), eo h, hs.S5 b h]
 ·rw [if_neg h, cd (by omega), hl]
theorem Z1 {H : A4} {news : List Bb} {Ω F : List Nat} (hs : FJ E lo d H news Ω F) {j : Nat} {x : Bb} (hx : news[j]? = some x) : ∃ b, Ω[j]? = some b ∧ b ∈ Ω := by
 have hj : j < Ω.length := by rw [hs.Og]; exact (al.1 hx).1
 exact ⟨Ω[j], aj hj, List.getElem_mem hj⟩
theorem Dl (hL : OP E lo d lk) {H : A4} {news : List Bb} {Ω F : List Nat} (hs : FJ E lo d H news Ω F) {b : Nat} (hl : live (E.out lo lk d H news Ω).H[b]?) :
  (b < lo ∧ (E.out lo lk d H news Ω).φ b = E.φ b ∧ (E.out lo lk d H news Ω).H[b]? = E.H[b]? ∧ live E.H[b]?) ∨
  (∃ b0 sz cs, ¬ b < lo ∧ Ω[b - lo]? = some b0 ∧ b0 ∈ Ω ∧ (E.out lo lk d H news Ω).φ b = E.φ b0 ∧ news[b - lo]? = some (.cells sz cs) ∧ lo ≤ b0 ∧ dN E d b0) := by
 rw [Ct hL hs] at hl
 by_cases h : b < lo
 ·rw [if_pos h] at hl
  exact .inl ⟨h, by show (if b < lo then _ else _) = _; rw [if_pos h], by rw [Ct hL hs, if_pos h], hl⟩
 ·rw [if_neg h] at hl
  right
  cases hx : news[b - lo]? with
  | none => rw [hx] at hl; exact hl.elim
  | some x =>
   obtain ⟨b0, h1, h2⟩ := Z1 hs hx
   obtain ⟨sz, cs, rfl⟩ := hs.GN _ _ hx
   obtain ⟨h3, _, h4⟩ := hs.omega b0 h2
   refine ⟨b0, sz, cs, h, h1, h2, ?_, rfl, h3, h4⟩
   show (if b < lo then _ else E.φ (Ω.getD (b - lo) 0)) = _
   rw [if_neg h, iz, h1]
   rfl
theorem WM (hL : OP E lo d lk) {b : Nat} (hb : lo ≤ b) (lv : Nat) : AT (lk.take lv) b = true := by
 unfold AT
 rw [cb]
 intro l hl
 simp only [ft, ep, decide_eq_false_iff_not]
 intro hm
 have := hL.DV l (List.mem_of_mem_take hl) b hm
 omega
theorem U7 (hL : OP E lo d lk) {H : A4} {news : List Bb} {Ω F : List Nat} (hs : FJ E lo d H news Ω F) {lv : Nat} (hlv : lv ≤ d) {g i : Nat} (hu : (E.out lo lk d H news Ω).U (some lv) g i) : E.U (some lv) g i := by
 have hu' := hu
 rcases hu with hu | ⟨b, h1, h2, h3⟩
 ·exact .inl hu
 have hl : live (E.out lo lk d H news Ω).H[b]? := by
  split at h3
  ·rename_i he; rw [he]; trivial
  ·rename_i he; rw [he]; trivial
  ·rename_i he; rw [he]; trivial
  ·exact h3.elim
 rcases Dl hL hs hl with ⟨p1, p2, p3, p4⟩ | ⟨b0, sz, cs, p1, p2, p3, p4, p5, p6, p7⟩
 ·rw [p3] at h3
  refine .inr ⟨b, by rw [← p2]; exact h1, ?_, h3⟩
  rw [hL.jA lv hlv]
  exact h2
 ·refine .inr ⟨b0, by rw [← p4]; exact h1, by rw [hL.jA lv hlv]; exact WM hL p6 lv, ?_⟩
  rcases p7 with ⟨_, _, p7⟩ | ⟨l, n, z, p7, p8⟩
  ·rw [p7]; trivial
  ·rw [p7]; exact .inl (Nat.lt_of_le_of_lt hlv p8)
theorem Sz (hL : OP E lo d lk) {H : A4} {news : List Bb} {Ω F : List Nat} (hs : FJ E lo d H news Ω F) {b : Nat} (hb : b ∈ F) (lv : Option Nat) (i : Nat) : ¬ (E.out lo lk d H news Ω).U lv (E.φ b) i := by
 intro hu
 obtain ⟨h1, _, h2⟩ := hs.RE b hb
 rcases PX hu with hu | ⟨b', k1, k2⟩
 ·exact (hL.heap.BM _ hu).2 b h2 rfl
 rcases Dl hL hs k2 with ⟨p1, p2, p3, p4⟩ | ⟨b0, sz, cs, p1, p2, p3, p4, p5, p6, p7⟩
 ·rw [p2] at k1
  have := hL.heap.inj _ _ p4 h2 k1
  omega
 ·rw [p4] at k1
  have := hL.heap.inj _ _ p7.live h2 k1
  subst this
  exact hs.apart _ p3 hb
mutual
theorem KB {E E2 : AN} {d : Nat} (hw : E2.w = E.w) (hm : d ≤ E2.m) (hU : ∀ lv g i, lv ≤ d → E2.U (some lv) g i → E.U (some lv) g i) : ∀ (v : V) (u : bm), clean (d + 1) v = true → A6 E v u → A6 E2 v u
 | .int .., _, _, r => by simpa only [A6] using r
 | .bool _, _, _, r => by simpa only [A6] using r
 | .str _, _, _, r => by simpa only [A6] using r
 | .Gg, _, _, r => by simpa only [A6] using r
 | .Dw, _, _, r => by simpa only [A6] using r
 | .ptr .., _, h, _ => by simp [clean] at h
 | .lp .., _, h, _ => by simp [clean] at h
 | .tl .., _, h, _ => by simp [clean] at h
 | .snap .., _, h, _ => by simp [clean] at h
 | .pre .., _, h, _ => by simp [clean] at h
 | .sl .., _, h, _ => by simp [clean] at h
 | .fn .., _, h, _ => by simp [clean] at h
 | .lit lv len cs, _, h, r => by
  simp only [A6] at r ⊢
  simp only [clean, av, de, beq_iff_eq, decide_eq_true_eq] at h
  obtain ⟨hl, A, cap, h1, h2, h3⟩ := r
  have hlv : lv ≤ d := by omega
  refine ⟨bt hlv hm, A, cap, h1, h2, ?_⟩
  rcases h3 with h3 | ⟨g, o, h3, h4⟩
  ·exact .inl h3
  ·exact .inr ⟨g, o, h3, Ok hw hm hU lv hlv g o cs h.2 h4⟩
 | .agg cs, _, h, r => by
  simp only [A6] at r ⊢
  simp only [clean] at h
  obtain ⟨vs, h1, h2⟩ := r
  exact ⟨vs, h1, Ji hw hm hU cs _ h h2⟩
 | .EZ cs, _, h, r => by
  simp only [A6] at r ⊢
  simp only [clean] at h
  obtain ⟨vs, h1, h2⟩ := r
  exact ⟨vs, h1, Ji hw hm hU cs _ h h2⟩
theorem Ok {E E2 : AN} {d : Nat} (hw : E2.w = E.w) (hm : d ≤ E2.m) (hU : ∀ lv g i, lv ≤ d → E2.U (some lv) g i → E.U (some lv) g i) (lv : Nat) (hlv : lv ≤ d) (g : Nat) : ∀ (o : Nat) (cs : List V), clean.cleanL (d + 1) cs = true → Br E (some lv) g o cs → Br E2 (some lv) g o cs
 | _, [], _, _ => by simp only [Br]
 | o, c :: cs, h, r => by
  simp only [Br] at r ⊢
  simp only [clean.cleanL, av] at h
  obtain ⟨⟨u, h1, h2⟩, h3, h4⟩ := r
  exact ⟨⟨u, by rw [hw]; exact h1, KB hw hm hU c u h.1 h2⟩, fun hu => h3 (hU lv g o hlv hu), Ok hw hm hU lv hlv g (o + 1) cs h.2 h4⟩
theorem Ji {E E2 : AN} {d : Nat} (hw : E2.w = E.w) (hm : d ≤ E2.m) (hU : ∀ lv g i, lv ≤ d → E2.U (some lv) g i → E.U (some lv) g i) : ∀ (cs : List V) (vs : List bm), clean.cleanL (d + 1) cs = true → AH E cs vs → AH E2 cs vs
 | [], _, _, r => by simpa only [AH] using r
 | c :: cs, _, h, r => by
  simp only [AH] at r ⊢
  simp only [clean.cleanL, av] at h
  obtain ⟨u, us, h1, h2, h3⟩ := r
  exact ⟨u, us, h1, KB hw hm hU c u h.1 h2, Ji hw hm hU cs us h.2 h3⟩
end
def Hu (E : AN) (lo d : Nat) (lk : Lk) (H : A4) (news : List Bb) (H2 : A4) (news2 : List Bb) (R : AN → Prop) : Prop :=
 ∀ Ω F, FJ E lo d H news Ω F → dJ E lo d lk news Ω F → ∃ Ω2 F2, FJ E lo d H2 news2 Ω2 F2 ∧ dJ E lo d lk news2 Ω2 F2 ∧ S7 news Ω F news2 Ω2 F2 ∧ dM H Ω F Ω2 F2 ∧ (∀ b : Nat, H[b]? = some Bb.dead → H2[b]? = some Bb.dead) ∧
  ∀ Hf nf Ωf Ff, FJ E lo d Hf nf Ωf Ff → S7 news2 Ω2 F2 nf Ωf Ff → R (E.out lo lk d Hf nf Ωf)
theorem OD {f : A4 × List Bb → V → Option (V × A4 × List Bb)} (hf : ∀ H news v v' H2 news2, f (H, news) v = some (v', (H2, news2)) → (∃ u, A6 E v u) → Hu E lo d lk H news H2 news2 fun Z => ∀ u, A6 E v u → A6 Z v' u) :
  ∀ (vs : List V) (H : A4) (news : List Bb) (vs' : List V) (H2 : A4) (news2 : List Bb), Au.resL f (H, news) vs = some (vs', (H2, news2)) → (∃ us, AH E vs us) → Hu E lo d lk H news H2 news2 (fun Z => ∀ us, AH E vs us → AH Z vs' us) ∧ vs'.length = vs.length
 | [], H, news, vs', H2, news2, h, hex => by
  simp only [Au.resL, aa, ag] at h
  obtain ⟨rfl, rfl, rfl⟩ := h
  exact ⟨fun Ω F hs hF => ⟨Ω, F, hs, hF, S7.refl _ _ _, fun b hb => hb.elim .inl fun h => .inr (.inl h), fun _ h => h, fun _ _ _ _ _ _ us hu => by simpa only [AH] using hu⟩, rfl⟩
 | v :: vs, H, news, vs', H2, news2, h, hex => by
  simp only [Au.resL, ae, af, Prod.exists, ag] at h
  obtain ⟨v1, H1, n1, h1, vs2, H3, n3, h2, rfl, rfl, rfl⟩ := h
  obtain ⟨us0, hex⟩ := hex
  simp only [AH] at hex
  obtain ⟨u0, us1, _, hex1, hex2⟩ := hex
  have k1 := hf H news v v1 H1 n1 h1 ⟨u0, hex1⟩
  obtain ⟨k2, l2⟩ := OD hf vs H1 n1 vs2 H3 n3 h2 ⟨us1, hex2⟩
  refine ⟨fun Ω F hs hF => ?_, by simp [l2]⟩
  obtain ⟨Ω1, F1, a1, a2, a3, a4, a5, a6⟩ := k1 Ω F hs hF
  obtain ⟨Ω2, F2, b1, b2, b3, b4, b5, b6⟩ := k2 Ω1 F1 a1 a2
  refine ⟨Ω2, F2, b1, b2, a3.trans b3, fun b hb => ?_, fun b hb => b5 b (a5 b hb), fun Hf nf Ωf Ff hsf hext us hu => ?_⟩
  ·rcases b4 b hb with h | h | h
   ·exact a4 b (.inl h)
   ·exact a4 b (.inr h)
   ·right; right
    rcases a1.same b with hx | hx
    ·rcases hs.same b with hy | hy
     ·rw [hy, ← hx]; exact h
     ·rw [a5 b hy] at h; exact h.elim
    ·rw [hx] at h; exact h.elim
  ·simp only [AH] at hu ⊢
   obtain ⟨u, us', rfl, hu1, hu2⟩ := hu
   exact ⟨u, us', rfl, a6 Hf nf Ωf Ff hsf (b3.trans hext) u hu1, b6 Hf nf Ωf Ff hsf hext us' hu2⟩
theorem Iq {H : A4} {news : List Bb} {R : AN → Prop} (h : ∀ Hf nf Ωf Ff, FJ E lo d Hf nf Ωf Ff → R (E.out lo lk d Hf nf Ωf)) : Hu E lo d lk H news H news R :=
 fun Ω F hs hF => ⟨Ω, F, hs, hF, S7.refl _ _ _, fun b hb => hb.elim .inl fun h => .inr (.inl h), fun _ h => h, fun Hf nf Ωf Ff hsf _ => h Hf nf Ωf Ff hsf⟩
theorem FJ.kill {H : A4} {news : List Bb} {Ω F : List Nat} (hs : FJ E lo d H news Ω F) {b : Nat} (hb : lo ≤ b) (hl : b < H.length) : FJ E lo d (H.set b .dead) news Ω F where
 len := by simp [hs.len]
 Og := hs.Og
 S5 := fun x hx => by rw [Ab, if_neg (by omega)]; exact hs.S5 x hx
 same := fun x => by
  rw [Ab]
  split
  ·exact .inr rfl
  ·exact hs.same x
 omega := fun x hx => by
  obtain ⟨h1, h2, h3⟩ := hs.omega x hx
  refine ⟨h1, ?_, h3⟩
  rw [Ab]
  split
  ·rfl
  ·exact h2
 RE := fun x hx => by
  obtain ⟨h1, h2, h3⟩ := hs.RE x hx
  refine ⟨h1, ?_, h3⟩
  rw [Ab]
  split
  ·rfl
  ·exact h2
 nodup := hs.nodup
 apart := hs.apart
 GN := hs.GN
theorem NY {H : A4} {b : Nat} (hl : b < H.length) : (H.set b .dead)[b]? = some Bb.dead := by rw [Ab, if_pos ⟨rfl, hl⟩]
theorem Js (hL : OP E lo d lk) {th : Bool} {H : A4} {news : List Bb} {b off n sz : Nat} {cs cs' : List V} {H2 : A4} {news2 : List Bb} (hb : lo ≤ b) (hlive : live H[b]?) (hown : dN E d b)
  (hr : Hu E lo d lk (H.set b .dead) news H2 news2 (fun Z => ∀ us, AH E cs us → AH Z cs' us)) (hlen : cs'.length = cs.length)
  (hex : ∃ c t, E.w.heap[E.φ b]? = some (.cells c t (0, 0)) ∧ off + cs.length ≤ c.size ∧ ∀ (i : Nat) v, cs[i]? = some v → ∃ u, c[off + i]? = some u ∧ A6 E v u) {v' : V} {X2 : A4 × List Bb}
  (h : (if th then if off = 0 ∧ cs.length = n * sz then some (V.sl (lo + news2.length) 0 n, H2, news2 ++ [Bb.cells sz cs']) else none else some (V.lit 0 n cs', H2, news2)) = some (v', X2)) :
  Hu E lo d lk H news X2.1 X2.2 fun Z => ∀ cap, n ≤ cap → A6 Z v' (.slice (some ⟨E.φ b, off, none⟩) n cap) := by
 intro Ω F hs hF
 have hbl : b < H.length := by
  rcases bz b H.length with h | h
  ·exact h
  ·rw [bf h] at hlive; exact hlive.elim
 have hnd : H[b]? ≠ some .dead := fun e => by rw [e] at hlive; exact hlive.elim
 obtain ⟨Ω2, F2, a1, a2, a3, a4, a5, a6⟩ := hr Ω F (hs.kill hb hbl) hF
 have hdead : H2[b]? = some Bb.dead := a5 b (NY hbl)
 have hnO : b ∉ Ω2 := by
  intro hm
  rcases a4 b (.inl hm) with h | h | h
  ·exact hnd (hs.omega b h).2.1
  ·exact hnd (hs.RE b h).2.1
  ·rw [NY hbl] at h; exact h.elim
 have hnF : b ∉ F2 := by
  intro hm
  rcases a4 b (.inr hm) with h | h | h
  ·exact hnd (hs.omega b h).2.1
  ·exact hnd (hs.RE b h).2.1
  ·rw [NY hbl] at h; exact h.elim
 have hnew : ∀ x : Nat, x ∈ Ω2 ∨ x ∈ F2 → x ∈ Ω ∨ x ∈ F ∨ live H[x]? := by
  intro x hx
  rcases a4 x hx with h | h | h
  ·exact .inl h
  ·exact .inr (.inl h)
  ·right; right
   rw [Ab] at h
   split at h
   ·exact h.elim
   ·exact h
 have hdd : ∀ x : Nat, H[x]? = some Bb.dead → H2[x]? = some Bb.dead := by
  intro x hx
  refine a5 x ?_
  rw [Ab]
  split
  ·rfl
  ·exact hx
 obtain ⟨c, t, q1, q2, q3⟩ := hex
 have hvs : AH E cs ((c.toList.drop off).take cs.length) := by
  refine Dh _ _ (by simp; omega) fun i v u hi hj => ?_
  have hil : i < cs.length := (al.1 hi).1
  rw [eo hil, eg, en] at hj
  obtain ⟨u', h1, h2⟩ := q3 i v hi
  rw [hj] at h1
  simp only [aa] at h1
  subst h1
  exact h2
 have hcell : ∀ (i : Nat) u, ((c.toList.drop off).take cs.length)[i]? = some u → c[off + i]? = some u := by
  intro i u hi
  rw [dn] at hi
  split at hi
  ·rw [eg, en] at hi; exact hi
  ·cases hi
 cases th with
 | false =>
  simp only [ba, if_false, aa, ag] at h
  obtain ⟨rfl, rfl⟩ := h
  refine ⟨Ω2, b :: F2, ?_, ?_, ⟨a3.news, a3.om, fun x hx => bw.2 (.inr (a3.fr x hx))⟩, ?_, hdd, ?_⟩
  ·exact { a1 with
    RE := fun x hx => by
     rcases bw.1 hx with rfl | hx
     ·exact ⟨hb, hdead, hown.live⟩
     ·exact a1.RE x hx
    apart := fun x hx hm => by
     rcases bw.1 hm with rfl | hm
     ·exact hnO hx
     ·exact a1.apart x hx hm }
  ·intro j b0 z zs h1 h2
   obtain ⟨c', t', p1, p2, p3⟩ := a2 j b0 z zs h1 h2
   exact ⟨c', t', p1, p2, fun Hf nf Ωf Ff hsf hext => p3 Hf nf Ωf Ff hsf ⟨hext.news, hext.om, fun x hx => hext.fr x (bw.2 (.inr hx))⟩⟩
  ·rintro x (hx | hx)
   ·exact hnew x (.inl hx)
   ·rcases bw.1 hx with rfl | hx
    ·exact .inr (.inr hlive)
    ·exact hnew x (.inr hx)
  ·intro Hf nf Ωf Ff hsf hext cap hcap
   have hx2 : S7 news2 Ω2 F2 nf Ωf Ff := ⟨hext.news, hext.om, fun x hx => hext.fr x (bw.2 (.inr hx))⟩
   simp only [A6]
   refine ⟨db _, _, cap, rfl, hcap, .inr ⟨_, _, rfl, ?_⟩⟩
   refine Gh (a6 Hf nf Ωf Ff hsf hx2 _ hvs) (fun i u hi => ?_) fun i _ => Sz hL hsf (hext.fr b (bw.2 (.inl rfl))) _ _
   show E.w.cell? _ = _
   rw [cell_of_row _ _ _ _ _ _ q1]
   exact hcell i u hi
 | true =>
  simp only [if_true] at h
  split at h
  case isFalse => cases h
  rename_i hc
  obtain ⟨rfl, hcl⟩ := hc
  simp only [aa, ag] at h
  obtain ⟨rfl, rfl⟩ := h
  refine ⟨Ω2 ++ [b], F2, ?_, ?_, ⟨a3.news.trans (gb _ _), a3.om.trans (gb _ _), a3.fr⟩, ?_, hdd, ?_⟩
  ·exact { a1 with
    Og := by simp [a1.Og]
    omega := fun x hx => by
     rcases au.1 hx with hx | hx
     ·exact a1.omega x hx
     ·simp only [bl] at hx; subst hx; exact ⟨hb, hdead, hown⟩
    nodup := by
     rw [cn]
     refine ⟨a1.nodup, by simp, fun x hx y hy => ?_⟩
     simp only [bl] at hy
     subst hy
     rintro rfl
     exact hnO hx
    apart := fun x hx hm => by
     rcases au.1 hx with hx | hx
     ·exact a1.apart x hx hm
     ·simp only [bl] at hx; subst hx; exact hnF hm
    GN := fun j x hx => by
     rcases bz j news2.length with hj | hj
     ·rw [az hj] at hx; exact a1.GN j x hx
     ·rw [cd hj] at hx
      obtain ⟨h1, h2⟩ := al.1 hx
      simp only [dw] at h1
      have hz : j - news2.length = 0 := by omega
      simp only [hz, jm] at h2
      exact ⟨_, _, h2.symm⟩ }
  ·intro j b0 z zs h1 h2
   rcases bz j news2.length with hj | hj
   ·rw [az hj] at h2
    rw [az (by rw [a1.Og]; exact hj)] at h1
    obtain ⟨c', t', p1, p2, p3⟩ := a2 j b0 z zs h1 h2
    exact ⟨c', t', p1, p2, fun Hf nf Ωf Ff hsf hext => p3 Hf nf Ωf Ff hsf ⟨(gb _ _).trans hext.news, (gb _ _).trans hext.om, hext.fr⟩⟩
   ·rw [cd hj] at h2
    rw [cd (by rw [a1.Og]; exact hj)] at h1
    obtain ⟨hlt, h2⟩ := al.1 h2
    obtain ⟨_, h1⟩ := al.1 h1
    simp only [dw] at hlt
    have hz : j - news2.length = 0 := by omega
    have hz' : j - Ω2.length = 0 := by rw [a1.Og]; omega
    simp only [hz, jm, Bb.cells.injEq] at h2
    simp only [hz', jm] at h1
    obtain ⟨rfl, rfl⟩ := h2
    subst h1
    refine ⟨c, t, q1, by rw [hlen]; omega, fun Hf nf Ωf Ff hsf hext i v hv => ?_⟩
    have hx2 : S7 news2 Ω2 F2 nf Ωf Ff := ⟨(gb _ _).trans hext.news, (gb _ _).trans hext.om, hext.fr⟩
    obtain ⟨_, hg⟩ := B8 _ _ (a6 Hf nf Ωf Ff hsf hx2 _ hvs)
    obtain ⟨u, k1, k2⟩ := hg i v hv
    have := hcell i u k1
    rw [fy] at this
    exact ⟨u, this, k2⟩
  ·rintro x (hx | hx)
   ·rcases au.1 hx with hx | hx
    ·exact hnew x (.inl hx)
    ·simp only [bl] at hx; subst hx; exact .inr (.inr hlive)
   ·exact hnew x (.inr hx)
  ·intro Hf nf Ωf Ff hsf hext cap hcap
   have hj : nf[news2.length]? = some (.cells sz cs') := UC hext.news (by simp)
   have hjΩ : Ωf[news2.length]? = some b := UC hext.om (by rw [← a1.Og]; simp)
   have hlt : ¬ lo + news2.length < lo := by omega
   simp only [A6]
   refine ⟨?_, ⟨cap, ?_, hcap⟩, fun l k z => ?_⟩
   ·show lo + news2.length < lo + nf.length
    have := (al.1 hj).1
    omega
   ·show _ = Value.slice (some ⟨if lo + news2.length < lo then _ else E.φ (Ωf.getD (lo + news2.length - lo) 0), _, _⟩) _ _
    rw [if_neg hlt, jt, iz, hjΩ]
    rfl
   ·rw [Ct hL hsf, if_neg hlt, jt, hj]
    simp
end
section
variable {E : AN} {lo d : Nat} {lk : Lk}
theorem Z4 (hL : OP E lo d lk) {Hf : A4} {nf : List Bb} {Ωf Ff : List Nat} (hsf : FJ E lo d Hf nf Ωf Ff) {b m n l sz : Nat} {cs : List V} {u : bm} (hlo : b < lo) (hEb : E.H[b]? = some (.BT l m sz)) (hcl : clean.cleanL (d + 1) cs = true)
  (r : A6 E (.pre b m n cs) u) : A6 (E.out lo lk d Hf nf Ωf) (.pre b m n cs) u := by
 have hget : (E.out lo lk d Hf nf Ωf).H[b]? = E.H[b]? := by rw [Ct hL hsf, if_pos hlo]
 have hphi : (E.out lo lk d Hf nf Ωf).φ b = E.φ b := by show (if b < lo then _ else _) = _; rw [if_pos hlo]
 simp only [A6] at r ⊢
 obtain ⟨_, ⟨A, cap, r1, r2, ⟨g, o, r3, r4, r5⟩, r6⟩, r7⟩ := r
 obtain ⟨hA, _⟩ := (r6 _ _ _ hEb).2 rfl
 have hg : g = E.φ b := by rw [r3] at hA; simp only [aa, Addr.mk.injEq] at hA; exact hA.1
 refine ⟨by show b < lo + nf.length; omega, ⟨A, cap, r1, r2, ⟨g, o, r3, fun _ b' hb' hl => ?_, ?_⟩, fun l' n' z hx => ?_⟩, fun z c => by rw [hget]; exact r7 z c⟩
 ·have h2 : (E.out lo lk d Hf nf Ωf).H.length = lo + nf.length := by
   show (Hf.take lo ++ nf).length = _
   rw [aq, dq, hsf.len]
   have := hL.le
   omega
  have h1 : lo + nf.length ≤ b' := hb'
  rw [bf (by omega)] at hl
  exact hl.elim
 ·have key : ∀ (o : Nat) (cs : List V), clean.cleanL (d + 1) cs = true → Br E none g o cs → Br (E.out lo lk d Hf nf Ωf) none g o cs := by
   intro o cs
   induction cs generalizing o with
   | nil => intro _ _; simp only [Br]
   | cons c cs ih =>
    intro h r
    simp only [clean.cleanL, av] at h
    simp only [Br] at r ⊢
    obtain ⟨⟨u, k1, k2⟩, k3, k4⟩ := r
    refine ⟨⟨u, k1, KB (E := E) (E2 := E.out lo lk d Hf nf Ωf) (d := d) rfl (ak _) (fun lv g i hlv hu => U7 hL hsf hlv hu) c u h.1 k2⟩, fun hu => ?_, ih _ h.2 k4⟩
    rcases hu with hu | ⟨b', p1, p2⟩
    ·exact k3 (.inl hu)
    ·have hlv : live (E.out lo lk d Hf nf Ωf).H[b']? := by
      split at p2
      ·rename_i he; rw [he]; trivial
      ·rename_i he; rw [he]; trivial
      ·rename_i he; rw [he]; trivial
      ·exact p2.elim
     rcases Dl hL hsf hlv with ⟨q1, q2, q3, q4⟩ | ⟨b0, z, zs, q1, q2, q3, q4, q5, q6, q7⟩
     ·exact k3 (.inr ⟨b', by rw [← q2]; exact p1, by rw [q3] at p2; exact p2⟩)
     ·rw [q4, hg] at p1
      have := hL.heap.inj _ _ q7.live (by rw [hEb]; trivial) p1
      omega
  exact key o cs hcl r5
 ·rw [hget] at hx
  obtain ⟨p1, p2⟩ := r6 l' n' z hx
  refine ⟨p1, fun e => ?_⟩
  obtain ⟨p3, c, t, p4⟩ := p2 e
  exact ⟨by rw [hphi]; exact p3, c, t, by rw [hphi]; exact p4⟩
theorem OE (hL : OP E lo d lk) (th : Bool) : ∀ (k : Nat) (H : A4) (news : List Bb) (v v' : V) (H2 : A4) (news2 : List Bb), Au th lo (d + 1) k (H, news) v = some (v', (H2, news2)) → (∃ u, A6 E v u) →
  Hu E lo d lk H news H2 news2 fun Z => ∀ u, A6 E v u → A6 Z v' u
 | 0, H, news, v, v', H2, news2, h, _ => by simp [Au] at h
 | k + 1, H, news, v, v', H2, news2, h, hrep => by
  have ihL := OD (E := E) (lo := lo) (d := d) (lk := lk) fun H news v v' H2 news2 h hx => OE hL th k H news v v' H2 news2 h hx
  have same : (v', (H2, news2)) = (v, (H, news)) → (∀ Hf nf Ωf Ff, FJ E lo d Hf nf Ωf Ff → ∀ u, A6 E v u → A6 (E.out lo lk d Hf nf Ωf) v u) → Hu E lo d lk H news H2 news2 fun Z => ∀ u, A6 E v u → A6 Z v' u := by
   intro e hr
   simp only [ag] at e
   obtain ⟨rfl, rfl, rfl⟩ := e
   exact Iq hr
  have mono : ∀ {H : A4} {news : List Bb} {H2 : A4} {news2 : List Bb} {R R' : AN → Prop}, Hu E lo d lk H news H2 news2 R → (∀ Hf nf Ωf Ff, FJ E lo d Hf nf Ωf Ff → R (E.out lo lk d Hf nf Ωf) → R' (E.out lo lk d Hf nf Ωf)) → Hu E lo d lk H news H2 news2 R' := by
   intro H news H2 news2 R R' h hr Ω F hs hF
   obtain ⟨Ω2, F2, a1, a2, a3, a4, a5, a6⟩ := h Ω F hs hF
   exact ⟨Ω2, F2, a1, a2, a3, a4, a5, fun Hf nf Ωf Ff hsf hx => hr Hf nf Ωf Ff hsf (a6 Hf nf Ωf Ff hsf hx)⟩
  cases v with
  | int _ _ => simp only [Au, aa] at h; exact same h.symm fun _ _ _ _ _ u r => by simpa only [A6] using r
  | bool _ => simp only [Au, aa] at h; exact same h.symm fun _ _ _ _ _ u r => by simpa only [A6] using r
  | str _ => simp only [Au, aa] at h; exact same h.symm fun _ _ _ _ _ u r => by simpa only [A6] using r
  | Gg => simp only [Au, aa] at h; exact same h.symm fun _ _ _ _ _ u r => by simpa only [A6] using r
  | Dw => simp only [Au, aa] at h; exact same h.symm fun _ _ _ _ _ u r => by simpa only [A6] using r
  | lp _ _ _ => simp [Au] at h
  | fn _ _ => simp [Au] at h
  | ptr b off =>
   simp only [Au] at h
   split at h
   case isFalse => cases h
   rename_i hb
   simp only [aa] at h
   refine same h.symm fun Hf nf Ωf Ff hsf u r => ?_
   simp only [A6] at r ⊢
   obtain ⟨_, r2, r3⟩ := r
   refine ⟨by show b < lo + nf.length; omega, ?_, fun l n z => ?_⟩
   ·rw [r2]; show _ = Value.pointer (some ⟨if b < lo then E.φ b else _, off, none⟩); rw [if_pos hb]
   ·rw [Ct hL hsf, if_pos hb]; exact r3 l n z
  | D3 b =>
   simp only [Au] at h
   split at h
   case isFalse => cases h
   rename_i hb
   simp only [aa] at h
   refine same h.symm fun Hf nf Ωf Ff hsf u r => ?_
   simp only [A6] at r ⊢
   obtain ⟨_, r2, r3⟩ := r
   refine ⟨by show b < lo + nf.length; omega, ?_, fun l n z => ?_⟩
   ·rw [r2]; show _ = Value.map (some (if b < lo then E.φ b else _)); rw [if_pos hb]
   ·rw [Ct hL hsf, if_pos hb]; exact r3 l n z
  | lit lv n cs =>
   simp only [Au] at h
   split at h
   ·rename_i hc
    simp only [aa] at h
    exact same h.symm fun Hf nf Ωf Ff hsf u r => KB (E := E) (E2 := E.out lo lk d Hf nf Ωf) (d := d) rfl (ak _) (fun lv g i hlv hu => U7 hL hsf hlv hu) _ u hc r
   ·cases h
  | tl n cs =>
   simp only [Au] at h
   split at h
   ·rename_i h0
    simp only [aa, ag] at h
    obtain ⟨rfl, rfl, rfl⟩ := h
    refine Iq fun Hf nf Ωf Ff hsf u r => ?_
    simp only [A6] at r
    obtain ⟨A, rfl, hA⟩ := r
    cases th with
    | true =>
     simp only [if_true, A6]
     exact ⟨A, by rw [h0], .inl trivial⟩
    | false =>
     simp only [ba, if_false, A6]
     exact ⟨db _, A, n, by rw [h0], by omega, .inl trivial⟩
   rename_i h0
   simp only [af, Prod.exists, ag] at h
   obtain ⟨cs', H1, n1, h1, rfl, rfl, rfl⟩ := h
   have hx : ∃ us, AH E cs us := by
    obtain ⟨u, r⟩ := hrep
    simp only [A6] at r
    obtain ⟨A, rfl, hA⟩ := r
    rcases hA with hA | ⟨g, o, hA, hr⟩
    ·exact absurd hA h0
    ·exact ⟨_, Cy fun i v hi => let ⟨u, a1, a2, _⟩ := Bn _ _ hr i v hi; ⟨u, a1, a2⟩⟩
   obtain ⟨ih, l⟩ := ihL cs H news cs' H1 n1 h1 hx
   refine mono ih fun Hf nf Ωf Ff hsf hR u r => ?_
   simp only [A6] at r ⊢
   obtain ⟨A, rfl, hA⟩ := r
   refine ⟨db _, A, n, rfl, ak _, ?_⟩
   rcases hA with hA | ⟨g, o, hA, hr⟩
   ·exact .inl hA
   ·refine .inr ⟨g, o, hA, FB (E := E) (fun i v hi => let ⟨u, a1, a2, _⟩ := Bn _ _ hr i v hi; ⟨u, a1, a2⟩) hR l rfl fun i hi hu => ?_⟩
    obtain ⟨u', _, _, a3⟩ := Bn _ _ hr i _ (aj hi)
    exact a3 (U7 hL hsf (db _) hu)
  | snap b n cs =>
   simp only [Au] at h
   split at h
   case h_2 => cases h
   rename_i l m sz hb
   split at h
   ·cases h
   rename_i hc
   simp only [not_or, dt, Decidable.not_not] at hc
   obtain ⟨hlo, rfl, hl⟩ := hc
   simp only [ae, Prod.exists] at h
   obtain ⟨cs', H1, n1, h1, h2⟩ := h
   intro Ω F hs hF
   have hEb : E.H[b]? = some (.BT l m sz) := by
    rcases hs.same b with h | h
    ·rw [← h]; exact hb
    ·rw [hb] at h; cases h
   obtain ⟨u0, hu0⟩ := hrep
   simp only [A6] at hu0
   obtain ⟨_, ⟨A, cap0, hu0, hcap0, ⟨g, o, hA, _, hr⟩, hcur⟩, _⟩ := hu0
   obtain ⟨_, hcur⟩ := hcur _ _ _ hEb
   obtain ⟨hA', c, t, hrow, _⟩ := hcur rfl
   rw [hA] at hA'
   simp only [aa, Addr.mk.injEq, and_true] at hA'
   obtain ⟨rfl, rfl⟩ := hA'
   obtain ⟨ih, hlen⟩ := ihL cs _ news cs' H1 n1 h1 ⟨_, Cy fun i v hi => let ⟨u, a1, a2, _⟩ := Bn _ _ hr i v hi; ⟨u, a1, a2⟩⟩
   have hget : ∀ (i : Nat) v, cs[i]? = some v → ∃ u, c[0 + i]? = some u ∧ A6 E v u := by
    intro i v hi
    obtain ⟨u, k1, k2, _⟩ := Bn _ _ hr i v hi
    rw [cell_of_row _ _ _ _ _ _ hrow] at k1
    exact ⟨u, k1, k2⟩
   have hcs : 0 + cs.length ≤ c.size := by
    rcases jh cs.length with h0 | h0
    ·omega
    ·obtain ⟨u, k1, _⟩ := hget (cs.length - 1) _ (aj (by omega))
     have := (ar.1 k1).1
     omega
   have h2' : (if th then if 0 = 0 ∧ cs.length = m * sz then some (V.sl (lo + n1.length) 0 m, H1, n1 ++ [Bb.cells sz cs']) else none else some (V.lit 0 m cs', H1, n1)) = some (v', (H2, news2)) := by
    rw [← h2]
    simp
   have := Js (E := E) (off := 0) (n := m) hL hlo (by rw [hb]; trivial) (.inr ⟨l, m, sz, hEb, hl⟩) ih hlen ⟨c, t, hrow, hcs, hget⟩ h2'
   refine mono (R' := fun Z => ∀ u, A6 E _ u → A6 Z v' u) this (fun Hf nf Ωf Ff hsf hR u r => ?_) Ω F hs hF
   simp only [A6] at r
   obtain ⟨_, ⟨A2, cap, rfl, hcap, _, hcur2⟩, _⟩ := r
   obtain ⟨_, hcur2⟩ := hcur2 _ _ _ hEb
   obtain ⟨rfl, _⟩ := hcur2 rfl
   exact hR cap hcap
  | pre b m0 n cs =>
   simp only [Au] at h
   split at h
   case h_2 => cases h
   rename_i l m sz hb
   split at h
   ·cases h
   rename_i hm
   simp only [Decidable.not_not] at hm
   subst hm
   split at h
   ·rename_i hlo
    split at h
    case isFalse => cases h
    rename_i hcl
    simp only [aa, ag] at h
    obtain ⟨rfl, rfl, rfl⟩ := h
    intro Ω F hs hF
    have hEb : E.H[b]? = some (.BT l m sz) := by rw [← hs.S5 b hlo]; exact hb
    exact Iq (R := fun Z => ∀ u, A6 E (.pre b m n cs) u → A6 Z (.pre b m n cs) u) (fun Hf nf Ωf Ff hsf u r => Z4 hL hsf hlo hEb hcl r) Ω F hs hF
   rename_i hlo
   split at h
   ·cases h
   rename_i hl
   simp only [ae, Prod.exists] at h
   obtain ⟨cs', H1, n1, h1, h2⟩ := h
   intro Ω F hs hF
   have hEb : E.H[b]? = some (.BT l m sz) := by
    rcases hs.same b with h | h
    ·rw [← h]; exact hb
    ·rw [hb] at h; cases h
   obtain ⟨u0, hu0⟩ := hrep
   simp only [A6] at hu0
   obtain ⟨_, ⟨A, cap0, hu0, hcap0, ⟨g, o, hA, _, hr⟩, hcur⟩, _⟩ := hu0
   obtain ⟨_, hcur⟩ := hcur _ _ _ hEb
   obtain ⟨hA', c, t, hrow⟩ := hcur rfl
   rw [hA] at hA'
   simp only [aa, Addr.mk.injEq, and_true] at hA'
   obtain ⟨rfl, rfl⟩ := hA'
   obtain ⟨ih, hlen⟩ := ihL cs _ news cs' H1 n1 h1 ⟨_, Cy fun i v hi => let ⟨u, a1, a2, _⟩ := Bn _ _ hr i v hi; ⟨u, a1, a2⟩⟩
   have hget : ∀ (i : Nat) v, cs[i]? = some v → ∃ u, c[0 + i]? = some u ∧ A6 E v u := by
    intro i v hi
    obtain ⟨u, k1, k2, _⟩ := Bn _ _ hr i v hi
    rw [cell_of_row _ _ _ _ _ _ hrow] at k1
    exact ⟨u, k1, k2⟩
   have hcs : 0 + cs.length ≤ c.size := by
    rcases jh cs.length with h0 | h0
    ·omega
    ·obtain ⟨u, k1, _⟩ := hget (cs.length - 1) _ (aj (by omega))
     have := (ar.1 k1).1
     omega
   have h2' : (if th then if 0 = 0 ∧ cs.length = n * sz then some (V.sl (lo + n1.length) 0 n, H1, n1 ++ [Bb.cells sz cs']) else none else some (V.lit 0 n cs', H1, n1)) = some (v', (H2, news2)) := by
    rw [← h2]
    simp
   have := Js (E := E) (off := 0) (n := n) hL (dt.1 hlo) (by rw [hb]; trivial) (.inr ⟨l, m, sz, hEb, dt.1 hl⟩) ih hlen ⟨c, t, hrow, hcs, hget⟩ h2'
   refine mono (R' := fun Z => ∀ u, A6 E _ u → A6 Z v' u) this (fun Hf nf Ωf Ff hsf hR u r => ?_) Ω F hs hF
   simp only [A6] at r
   obtain ⟨_, ⟨A2, cap, rfl, hcap, _, hcur2⟩, _⟩ := r
   obtain ⟨_, hcur2⟩ := hcur2 _ _ _ hEb
   obtain ⟨rfl, _⟩ := hcur2 rfl
   exact hR cap hcap
  | sl b off n =>
   simp only [Au] at h
   split at h
   ·rename_i hb
    simp only [aa] at h
    refine same h.symm fun Hf nf Ωf Ff hsf u r => ?_
    simp only [A6] at r ⊢
    obtain ⟨_, ⟨cap, r1, r2⟩, r3⟩ := r
    refine ⟨by show b < lo + nf.length; omega, ⟨cap, ?_, r2⟩, fun l n z => ?_⟩
    ·rw [r1]; show _ = Value.slice (some ⟨if b < lo then E.φ b else _, off, none⟩) _ _; rw [if_pos hb]
    ·rw [Ct hL hsf, if_pos hb]; exact r3 l n z
   rename_i hlo
   split at h
   case h_2 => cases h
   rename_i sz cs hb
   split at h
   ·cases h
   rename_i hc
   simp only [ae, Prod.exists] at h
   obtain ⟨cs', H1, n1, h1, h2⟩ := h
   intro Ω F hs hF
   have hEb : E.H[b]? = some (.cells sz cs) := by
    rcases hs.same b with h | h
    ·rw [← h]; exact hb
    ·rw [hb] at h; cases h
   have hcl : ((cs.drop off).take (n * sz)).length = n * sz := by simp; omega
   obtain ⟨c, t, hrow, hcs, hget⟩ := hL.heap.cells b sz cs hEb
   have hget2 : ∀ (i : Nat) v, ((cs.drop off).take (n * sz))[i]? = some v → ∃ u, c[off + i]? = some u ∧ A6 E v u := by
    intro i v hi
    rw [dn] at hi
    split at hi
    ·rw [eg] at hi; exact hget _ v hi
    ·cases hi
   obtain ⟨ih, hlen⟩ := ihL _ _ news cs' H1 n1 h1 ⟨_, Cy (g := E.φ b) (o := off) fun i v hi => let ⟨u, a1, a2⟩ := hget2 i v hi; ⟨u, by rw [cell_of_row _ _ _ _ _ _ hrow]; exact a1, a2⟩⟩
   have h2' : (if th then if off = 0 ∧ ((cs.drop off).take (n * sz)).length = n * sz then some (V.sl (lo + n1.length) 0 n, H1, n1 ++ [Bb.cells sz cs']) else none else some (V.lit 0 n cs', H1, n1)) = some (v', (H2, news2)) := by
    cases th with
    | false => exact h2
    | true =>
     simp only [if_true] at h2 ⊢
     split at h2
     ·rename_i hx
      rw [if_pos ⟨hx.1, hcl⟩]; exact h2
     ·cases h2
   have := Js (E := E) (off := off) (n := n) hL (by omega) (by rw [hb]; trivial) (.inl ⟨sz, cs, hEb⟩) ih hlen ⟨c, t, hrow, by rw [hcl]; omega, hget2⟩ h2'
   refine mono (R' := fun Z => ∀ u, A6 E _ u → A6 Z v' u) this (fun Hf nf Ωf Ff hsf hR u r => ?_) Ω F hs hF
   simp only [A6] at r
   obtain ⟨_, ⟨cap, rfl, hcap⟩, _⟩ := r
   exact hR cap hcap
  | agg cs =>
   simp only [Au, af, Prod.exists, ag] at h
   obtain ⟨cs', H1, n1, h1, rfl, rfl, rfl⟩ := h
   obtain ⟨ih, l⟩ := ihL cs H news cs' H1 n1 h1 (by
    obtain ⟨u, r⟩ := hrep
    simp only [A6] at r
    obtain ⟨vs, _, hr⟩ := r
    exact ⟨_, hr⟩)
   refine mono ih fun Hf nf Ωf Ff hsf hR u r => ?_
   simp only [A6] at r ⊢
   obtain ⟨vs, hv, hr⟩ := r
   exact ⟨vs, hv, hR _ hr⟩
  | EZ cs =>
   simp only [Au, af, Prod.exists, ag] at h
   obtain ⟨cs', H1, n1, h1, rfl, rfl, rfl⟩ := h
   obtain ⟨ih, l⟩ := ihL cs H news cs' H1 n1 h1 (by
    obtain ⟨u, r⟩ := hrep
    simp only [A6] at r
    obtain ⟨vs, _, hr⟩ := r
    exact ⟨_, hr⟩)
   refine mono ih fun Hf nf Ωf Ff hsf hR u r => ?_
   simp only [A6] at r ⊢
   obtain ⟨vs, hv, hr⟩ := r
   exact ⟨vs, hv, hR _ hr⟩
end
theorem C9.bU (E : AN) (L : List Nat) (hd : E.m ≤ E.lk.length) : C9 E { E with lk := E.lk ++ [L] } where
 len := ak _
 lvl := ak _
 By := fun _ _ h => ⟨rfl, h⟩
 cells := fun _ _ h => h
 BT := fun _ l n _ _ h => ⟨l, n, h, ak _, fun _ => ⟨rfl, fun c _ hc => ⟨c, hc, rfl⟩⟩⟩
 cell := by
  intro lv g i u hlv _ h1 h3
  refine ⟨h1, fun hu => h3 ?_⟩
  cases lv with
  | none => exact hu
  | some lv =>
   have hle : lv ≤ E.lk.length := bt hlv hd
   rcases hu with hu | ⟨b, p1, p2, p3⟩
   ·exact .inl hu
   refine .inr ⟨b, p1, ?_, p3⟩
   have : (E.lk ++ [L]).take lv = E.lk.take lv := iq hle
   rw [← this]
   exact p2
 fresh := fun b _ _ _ _ _ hb hl he => ⟨b, hb, hl, he⟩
theorem D0.lock {E : AN} {L : List Nat} {base nb d : Nat} (hd : d ≤ E.lk.length) (h : D0 E base nb d) : D0 (E.lock L) base nb d :=
 fun b sz cs hlt hB c t hc i v u hv hu => (C9.bU (E.shrink nb d) L hd).rep v u (h b sz cs hlt hB c t hc i v u hv hu)
theorem D0.all {E : AN} (hh : C1 E) (base : Nat) : D0 E base E.n E.m := by
 intro b sz cs hlt hB c t hc i v u hv hu
 obtain ⟨c', t', h1, _, h2⟩ := hh.cells b sz cs hB
 rw [hc] at h1
 simp only [aa, Obj.cells.injEq] at h1
 obtain ⟨rfl, _⟩ := h1
 obtain ⟨u', h3, h4⟩ := h2 i v hv
 rw [hu] at h3
 simp only [aa] at h3
 subst h3
 exact h4
section
variable {E : AN} {lo d : Nat} {lk : Lk}
theorem HA {H : A4} {news : List Bb} {Ω : List Nat} {b : Nat} (hb : b < lo) : (E.out lo lk d H news Ω).φ b = E.φ b := by
 show (if b < lo then _ else _) = _; rw [if_pos hb]
theorem Oy (hL : OP E lo d lk) {H : A4} {news : List Bb} {Ω F : List Nat} (hs : FJ E lo d H news Ω F) {nb d' : Nat} (hnb : nb ≤ lo) (hd : d' ≤ d) : C9 (E.shrink nb d') ((E.out lo lk d H news Ω).shrink nb d') where
 len := ak _
 lvl := ak _
 cell := by
  intro lv g i u hlv haw h1 h3
  refine ⟨h1, fun hu => h3 ?_⟩
  cases lv with
  | some l => exact U7 hL hs (bt hlv hd) hu
  | none =>
   have hu0 : (E.out lo lk d H news Ω).U none g i := hu
   rcases hu0 with hu0 | ⟨b, h4, h5⟩
   ·exact .inl hu0
   have hl : live (E.out lo lk d H news Ω).H[b]? := by
    split at h5
    ·rename_i he; rw [he]; trivial
    ·rename_i he; rw [he]; trivial
    ·rename_i he; rw [he]; trivial
    ·exact h5.elim
   rcases Dl hL hs hl with ⟨p1, p2, p3, p4⟩ | ⟨b0, sz, cs, p1, p2, p3, p4, p5, p6, p7⟩
   ·rw [p3] at h5
    exact .inr ⟨b, p2.symm.trans h4, h5⟩
   ·exact absurd (p4.symm.trans h4) (haw rfl b0 (bt hnb p6) p7.live)
 By := by
  intro b hb hn
  have hb : b < nb := hb
  refine ⟨HA (H := H) (news := news) (lk := lk) (d := d) (by omega), fun l n z => ?_⟩
  show (E.out lo lk d H news Ω).H[b]? ≠ _
  rw [Ct hL hs, if_pos (by omega)]
  exact hn l n z
 cells := by
  intro b hb hn z cs
  have hb : b < nb := hb
  show (E.out lo lk d H news Ω).H[b]? ≠ _
  rw [Ct hL hs, if_pos (by omega)]
  exact hn z cs
 BT := by
  intro b l n sz hb hB
  have hb : b < nb := hb
  have hB : (E.out lo lk d H news Ω).H[b]? = _ := hB
  rw [Ct hL hs, if_pos (by omega)] at hB
  exact ⟨l, n, hB, ak _, fun _ => ⟨HA (H := H) (news := news) (lk := lk) (d := d) (by omega), fun c _ hc => ⟨c, hc, rfl⟩⟩⟩
 fresh := by
  intro b g i u h1 _ hb hl he
  rcases Dl hL hs hl with ⟨p1, p2, p3, p4⟩ | ⟨b0, sz, cs, p1, p2, p3, p4, p5, p6, p7⟩
  ·exact ⟨b, hb, p4, p2.symm.trans he⟩
  ·exact ⟨b0, bt hnb p6, p7.live, p4.symm.trans he⟩
end
section
variable {c : Cx} {E0 E' : AN} {L : List Nat} {Hc : A4}
structure PV (c : Cx) (E0 E' : AN) (L : List Nat) (Hc : A4) : Prop where
 Ty : C1 E0
 n0 : E0.n = E0.H.length
 m0 : E0.m = E0.lk.length
 base : c.base = E0.n
 lk : c.lk = E0.lk ++ [L]
 DV : ∀ l ∈ E0.lk, ∀ x ∈ l, x < E0.n
 after : Ap c (E0.lock L) E' Hc
theorem PV.last (h : PV c E0 E' L Hc) : OP E' E0.n E0.m E0.lk where
 heap := h.after.heap
 le := by
  have h1 := h.after.n
  have h2 := h.after.H
  have h3 : E0.n ≤ E'.n := h.after.CI.len
  rw [h2, ← h1]; exact h3
 jA := by
  intro lv hlv
  have h1 : E'.lk = E0.lk ++ [L] := h.after.CI.lk
  rw [h1]
  exact iq (by rw [← h.m0]; exact hlv)
 len := h.m0.symm
 DV := h.DV
theorem PV.fresh (h : PV c E0 E' L Hc) {b : Nat} (hb : E0.n ≤ b) (hl : live E'.H[b]?) : E0.w.heap.size ≤ E'.φ b := by
 rcases h.after.CI.fresh b hl with ⟨_, h2⟩ | h2
 ·have h2 : live E0.H[b]? := h2
  rw [bf (by rw [← h.n0]; exact hb)] at h2
  exact h2.elim
 ·exact h2
theorem PV.lvl (h : PV c E0 E' L Hc) {b l n sz : Nat} (hb : b < E0.n) (hB : E'.H[b]? = some (.BT l n sz)) : l ≤ E0.m := by
 obtain ⟨k, h1, _⟩ := h.after.CI.BT b l n sz hb hB
 rw [h.m0]
 exact h.Ty.lvl b l k sz h1
theorem Uv (hD : PV c E0 E' L Hc) (hg : c.hints.grow c.fn = false) {th : Bool} {v v' : V} {u : bm} {H2 : A4} {news : List Bb} (hr : A6 E' v u) (h : Au th E0.n (E0.m + 1) CA (Hc, []) v = some (v', (H2, news))) :
    ∃ E1, E1.w = E'.w ∧ AF c.hints c.fn L E0 E1 (H2.take E0.n ++ news) ∧ A6 E1 v' u := by
  have hL := hD.last
  have hHc : E'.H = Hc := hD.after.H
  have hev := hD.after.CI
  have hs0 : FJ E' E0.n E0.m Hc [] [] [] :=
    { len := by rw [hHc], Og := rfl, S5 := fun b _ => by rw [hHc], same := fun b => .inl (by rw [hHc]), omega := fun b hb => (by cases hb), RE := fun b hb => (by cases hb), nodup := jq, apart := fun b hb => (by cases hb), GN := fun j x hx => by simp at hx }
  obtain ⟨Ω, F, hs, hF, _, _, _, hrep⟩ := OE (lk := E0.lk) hL th CA Hc [] v v' H2 news h ⟨u, hr⟩ [] [] hs0 (fun j b sz cs h1 _ => by simp at h1)
  let E1 := E'.out E0.n E0.lk E0.m H2 news Ω
  have hlen : (H2.take E0.n).length = E0.n := by rw [dq, hs.len]; have := hL.le; omega
  have hf0 : D0 E' E0.n E0.n E0.m := hD.after.Gn hg _ _ _ (by rw [hD.base]; exact ak _) (ak _) (iw _) (D0.lock (by rw [hD.m0]; exact ak _) (D0.all hD.Ty _))
  have hgrow : C9 (E1.shrink E0.n E0.m) E1 := C9.grow E1 (mF _ _) (ak _)
  have hrel : C1 E1 :=
    { cells := by
        intro b sz cs hB
        by_cases hb : b < E0.n
        · have hB' := hB
          rw [Ct hL hs, if_pos hb] at hB'
          obtain ⟨c', t, h1, h2, h3⟩ := hL.heap.cells b sz cs hB'
          refine ⟨c', t, ?_, h2, fun i v hv => ?_⟩
          · show E'.w.heap[(E'.out E0.n E0.lk E0.m H2 news Ω).φ b]? = _
            rw [HA hb]; exact h1
          · obtain ⟨u, h4, _⟩ := h3 i v hv
            exact ⟨u, h4, hgrow.rep _ _ ((Oy hL hs (ak _) (ak _)).rep _ _ (hf0 b sz cs hb hB' c' t h1 i v u hv h4))⟩
        · rcases Dl hL hs (b := b) (by rw [hB]; trivial) with ⟨p1, _⟩ | ⟨b0, sz', cs', p1, p2, p3, p4, p5, p6, p7⟩
          · exact absurd p1 hb
          · rw [Ct hL hs, if_neg hb, p5] at hB
            simp only [aa, Bb.cells.injEq] at hB
            obtain ⟨rfl, rfl⟩ := hB
            obtain ⟨c', t, h1, h2, h3⟩ := hF _ _ _ _ p2 p5
            refine ⟨c', t, ?_, h2, h3 H2 news Ω F hs (S7.refl _ _ _)⟩
            show E'.w.heap[(E'.out E0.n E0.lk E0.m H2 news Ω).φ b]? = _
            rw [p4]; exact h1
      BT := by
        intro b l n sz hB
        by_cases hb : b < E0.n
        · rw [Ct hL hs, if_pos hb] at hB
          obtain ⟨c', t, h1, h2⟩ := hL.heap.BT b l n sz hB
          refine ⟨c', t, ?_, h2⟩
          show E'.w.heap[(E'.out E0.n E0.lk E0.m H2 news Ω).φ b]? = _
          rw [HA hb]; exact h1
        · rw [Ct hL hs, if_neg hb] at hB
          obtain ⟨_, _, hx⟩ := hs.GN _ _ hB
          cases hx
      lvl := by
        intro b l n sz hB
        by_cases hb : b < E0.n
        · rw [Ct hL hs, if_pos hb] at hB
          have := hD.lvl hb hB
          rw [hD.m0] at this
          exact this
        · rw [Ct hL hs, if_neg hb] at hB
          obtain ⟨_, _, hx⟩ := hs.GN _ _ hB
          cases hx
      dm := by show E0.m ≤ E0.lk.length; rw [hD.m0]; exact ak _
      maps := by
        intro b As hB
        by_cases hb : b < E0.n
        · rw [Ct hL hs, if_pos hb] at hB
          obtain ⟨h1, h2⟩ := hL.heap.maps b As hB
          refine ⟨?_, h2⟩
          show E'.w.heap[(E'.out E0.n E0.lk E0.m H2 news Ω).φ b]? = _
          rw [HA hb]; exact h1
        · rw [Ct hL hs, if_neg hb] at hB
          obtain ⟨_, _, hx⟩ := hs.GN _ _ hB
          cases hx
      inj := by
        intro b b' h1 h2 he
        rcases Dl hL hs h1 with ⟨p1, p2, p3, p4⟩ | ⟨b0, sz, cs, p1, p2, p3, p4, p5, p6, p7⟩ <;>
        rcases Dl hL hs h2 with ⟨q1, q2, q3, q4⟩ | ⟨b0', sz', cs', q1, q2, q3, q4, q5, q6, q7⟩
        · exact hL.heap.inj _ _ p4 q4 (by rw [← p2, ← q2]; exact he)
        · have := hL.heap.inj _ _ p4 q7.live (by rw [← p2, ← q4]; exact he)
          omega
        · have := hL.heap.inj _ _ p7.live q4 (by rw [← p4, ← q2]; exact he)
          omega
        · have := hL.heap.inj _ _ p7.live q7.live (by rw [← p4, ← q4]; exact he)
          subst this
          have h5 := (al.1 p2)
          have h6 := (al.1 q2)
          obtain ⟨i1, e1⟩ := h5
          obtain ⟨i2, e2⟩ := h6
          have := (List.getElem_inj (h₀ := i1) (h₁ := i2) hs.nodup).1 (e1.trans e2.symm)
          omega
      BM := fun g hg => ⟨(hL.heap.BM g hg).1, fun b hl => by
        rcases Dl hL hs hl with ⟨p1, p2, p3, p4⟩ | ⟨b0, sz, cs, p1, p2, p3, p4, p5, p6, p7⟩
        · rw [p2]; exact (hL.heap.BM g hg).2 _ p4
        · rw [p4]; exact (hL.heap.BM g hg).2 _ p7.live⟩ }
  have hold : ∀ b, b < E0.n → E1.H[b]? = E'.H[b]? := fun b hb => by
    show (E'.out E0.n E0.lk E0.m H2 news Ω).H[b]? = _
    rw [Ct hL hs, if_pos hb]
  refine ⟨E1, rfl, ⟨rfl, ?_, ?_, hrel, ?_, (fun h => by rw [hg] at h; cases h), ?_⟩, hrep H2 news Ω F hs (S7.refl _ _ _) u hr⟩
  · show E0.n + news.length = (H2.take E0.n ++ news).length
    rw [aq, hlen]
  · exact
    { lk := rfl
      os := hev.os
      tape := hev.tape
      output := hev.output
      size := hev.size
      len := mF _ _
      mm := rfl
      cell := hev.cell
      block := hev.block
      mono := by
        intro lv g i hlv hu
        rcases hu with hu | hu
        · exact hev.mono lv g i hlv (.inl hu)
        cases lv with
        | some l =>
          obtain ⟨b, h1, h2, h3⟩ := hu
          have hl : live E1.H[b]? := by
            split at h3
            · rename_i he; rw [AN.EF] at he; rw [he]; trivial
            · rename_i he; rw [AN.EF] at he; rw [he]; trivial
            · rename_i he; rw [AN.EF] at he; rw [he]; trivial
            · exact h3.elim
          rcases Dl hL hs hl with ⟨p1, p2, p3, p4⟩ | ⟨b0, sz, cs, p1, p2, p3, p4, p5, p6, p7⟩
          · refine hev.mono (some l) g i hlv (.inr ⟨b, by rw [← p2]; exact h1, ?_, ?_⟩)
            · have : E'.lk = E0.lk ++ [L] := hev.lk
              rw [this]; exact h2
            · rw [AN.EF, hold b p1] at h3; exact h3
          · right
            rw [← h1, AN.KR]
            show _ ≤ (E'.out E0.n E0.lk E0.m H2 news Ω).φ b
            rw [p4]
            exact hD.fresh p6 p7.live
        | none =>
          obtain ⟨b, h1, h3⟩ := hu
          have hl : live E1.H[b]? := by
            split at h3
            · rename_i he; rw [AN.EF] at he; rw [he]; trivial
            · rename_i he; rw [AN.EF] at he; rw [he]; trivial
            · rename_i he; rw [AN.EF] at he; rw [he]; trivial
            · exact h3.elim
          rcases Dl hL hs hl with ⟨p1, p2, p3, p4⟩ | ⟨b0, sz, cs, p1, p2, p3, p4, p5, p6, p7⟩
          · refine hev.mono none g i hlv (.inr ⟨b, by rw [← p2]; exact h1, ?_⟩)
            rw [AN.EF, hold b p1] at h3; exact h3
          · right
            rw [← h1, AN.KR]
            show _ ≤ (E'.out E0.n E0.lk E0.m H2 news Ω).φ b
            rw [p4]
            exact hD.fresh p6 p7.live
      By := by
        intro b hb hn
        obtain ⟨h1, h2⟩ := hev.By b hb hn
        refine ⟨(HA (H := H2) (news := news) (lk := E0.lk) (d := E0.m) hb).trans h1, fun l n z => ?_⟩
        rw [AN.EF, hold b hb]
        exact h2 l n z
      cells := by
        intro b hb hn z cs
        rw [AN.EF, hold b hb]
        exact hev.cells b hb hn z cs
      BT := by
        intro b l n sz hb hB
        rw [AN.EF, hold b hb] at hB
        obtain ⟨k, h1, h2, h3⟩ := hev.BT b l n sz hb hB
        exact ⟨k, h1, h2, fun e => ⟨(HA (H := H2) (news := news) (lk := E0.lk) (d := E0.m) hb).trans (h3 e).1, (h3 e).2⟩⟩
      fresh := by
        intro b hl
        rcases Dl hL hs hl with ⟨p1, p2, p3, p4⟩ | ⟨b0, sz, cs, p1, p2, p3, p4, p5, p6, p7⟩
        · rcases hev.fresh b p4 with ⟨h1, h2⟩ | h1
          · exact .inl ⟨p2.trans h1, h2⟩
          · exact .inr (by rw [AN.KR]; show _ ≤ (E'.out E0.n E0.lk E0.m H2 news Ω).φ b; rw [p2]; exact h1)
        · exact .inr (by rw [AN.KR]; show _ ≤ (E'.out E0.n E0.lk E0.m H2 news Ω).φ b; rw [p4]; exact hD.fresh p6 p7.live)
      BM := hev.BM
      Hn := hev.Hn
      Gp := hev.Gp }
  · intro _ base nb d' hbase hnb hd hf
    have hf1 := hD.after.Gn hg base nb d' (by rw [hD.base]; exact hbase) hnb (kb hd) (D0.lock (L := L) (by rw [← hD.m0]; exact hd) hf)
    intro b sz cs hlt hB c' t hc i v u hv hu
    have hb : b < E0.n := ck hlt hbase
    rw [hold b hb] at hB
    have hc : E'.w.heap[(E'.out E0.n E0.lk E0.m H2 news Ω).φ b]? = _ := hc
    rw [HA hb] at hc
    exact (Oy hL hs hnb hd).rep v u (hf1 b sz cs hlt hB c' t hc i v u hv hu)
  · intro b hb hk
    rw [hold b hb, hHc]
    exact hD.after.kept b (by rw [hD.base]; exact hb) (by rw [hD.lk]; exact hk)
end
def FO (d : Nat) : Bb → Bb
 | .BT l n sz => .BT (min l d) n sz
 | .cells sz cs => if cs.all (Bk (d + 1)) then .cells sz cs else .dead
 | x => x
theorem Wu (d : Nat) : Wt (d + 1) = FO d := by funext x; cases x <;> rfl
theorem Sk {d : Nat} {x : Option Bb} : live (x.map (FO d)) → live x := by
 cases x with
 | none => exact id
 | some x => cases x with
  | cells sz cs => intro _; trivial
  | _ => exact id
def AN.grown (E : AN) (lo : Nat) (lk : Lk) (d : Nat) : AN := { w := E.w, φ := E.φ, H := E.H.take lo ++ (E.H.drop lo).map (FO d), lk := lk, n := E.n, m := d, BM := E.BM }
section
variable {c : Cx} {E0 E' : AN} {L : List Nat} {Hc : A4}
theorem Hl (E : AN) (lo : Nat) (lk : Lk) (d : Nat) (hlo : lo ≤ E.H.length) (b : Nat) : (E.grown lo lk d).H[b]? = if b < lo then E.H[b]? else (E.H[b]?).map (FO d) := by
 have hl : (E.H.take lo).length = lo := by rw [dq]; omega
 show (E.H.take lo ++ (E.H.drop lo).map (FO d))[b]? = _
 by_cases h : b < lo
 ·rw [if_pos h, az (by omega), eo h]
 ·rw [if_neg h, cd (by omega), hl, List.getElem?_map, eg]
  congr 2
  omega
theorem Gb {E : AN} {lo : Nat} {lk : Lk} {d : Nat} (hlo : lo ≤ E.H.length) {b : Nat} : live (E.grown lo lk d).H[b]? → live E.H[b]? := by
 rw [Hl E lo lk d hlo]
 split
 ·exact id
 ·exact Sk
theorem Fw {E : AN} {lo : Nat} {lk : Lk} {d : Nat} (hlo : lo ≤ E.H.length) {b sz : Nat} {cs : List V} (h : (E.grown lo lk d).H[b]? = some (.cells sz cs)) : E.H[b]? = some (.cells sz cs) ∧ (¬ b < lo → cs.all (Bk (d + 1)) = true) := by
 rw [Hl E lo lk d hlo] at h
 split at h
 ·rename_i hb; exact ⟨h, fun x => absurd hb x⟩
 ·cases hx : E.H[b]? with
  | none => rw [hx] at h; simp at h
  | some x =>
   rw [hx] at h
   cases x with
   | cells z es =>
    simp only [ai, FO, aa] at h
    split at h
    ·rename_i hc
     cases h
     exact ⟨rfl, fun _ => hc⟩
    ·cases h
   | BT _ _ _ => simp [FO] at h
   | mp _ => simp [FO] at h
   | dead => simp [FO] at h
theorem Nh {E : AN} {lo : Nat} {lk : Lk} {d : Nat} (hlo : lo ≤ E.H.length) {b : Nat} {As : List (V × V)} (h : (E.grown lo lk d).H[b]? = some (.mp As)) : E.H[b]? = some (.mp As) := by
 rw [Hl E lo lk d hlo] at h
 split at h
 ·exact h
 ·cases hx : E.H[b]? with
  | none => rw [hx] at h; simp at h
  | some x =>
   rw [hx] at h
   cases x with
   | cells z es =>
    simp only [ai, FO, aa] at h
    split at h <;> cases h
   | BT _ _ _ => simp [FO] at h
   | mp _ => simpa [FO] using h
   | dead => simp [FO] at h
theorem GR {E : AN} {lo : Nat} {lk : Lk} {d : Nat} (hlo : lo ≤ E.H.length) {b l n sz : Nat} (h : (E.grown lo lk d).H[b]? = some (.BT l n sz)) : ∃ l0, E.H[b]? = some (.BT l0 n sz) ∧ l ≤ l0 ∧ (b < lo → l = l0) ∧ (¬ b < lo → l ≤ d) := by
 rw [Hl E lo lk d hlo] at h
 split at h
 ·rename_i hb
  exact ⟨l, h, ak _, fun _ => rfl, fun x => absurd hb x⟩
 ·rename_i hb
  cases hx : E.H[b]? with
  | none => rw [hx] at h; simp at h
  | some x =>
   rw [hx] at h
   cases x with
   | BT l0 n0 sz0 =>
    simp only [ai, FO, aa, Bb.BT.injEq] at h
    obtain ⟨rfl, rfl, rfl⟩ := h
    exact ⟨l0, rfl, Nat.min_le_left _ _, fun x => absurd x hb, fun _ => Nat.min_le_right _ _⟩
   | cells _ _ =>
    simp only [ai, FO, aa] at h
    split at h <;> cases h
   | mp _ => simp [FO] at h
   | dead => simp [FO] at h
theorem Tx {E : AN} {lo : Nat} {lk L : Lk} {d : Nat} (hlo : lo ≤ E.H.length) (hlk : E.lk = L) {lv : Nat} {g i : Nat} (h : ({ E.grown lo lk d with lk := L } : AN).U (some lv) g i) : E.U (some lv) g i := by
 rcases h with h | ⟨b, h1, h2, h3⟩
 ·exact .inl h
 refine .inr ⟨b, h1, by rw [hlk]; exact h2, ?_⟩
 have h3 : match (E.grown lo lk d).H[b]? with
  | some (.cells _ _) | some (.mp _) => True
  | some (.BT l n sz) => lv < l ∨ n * sz ≤ i
  | _ => False := h3
 split at h3
 ·rename_i he
  rw [(Fw hlo he).1]; trivial
 ·rename_i he
  rw [Nh hlo he]; trivial
 ·rename_i he
  obtain ⟨l0, h4, h5, _⟩ := GR hlo he
  rw [h4]
  rcases h3 with h3 | h3
  ·exact .inl (ck h3 h5)
  ·exact .inr h3
 ·exact h3.elim
theorem Tw {E : AN} {lo : Nat} {lk : Lk} {d : Nat} (hlo : lo ≤ E.H.length) {g i : Nat} (h : (E.grown lo lk d).U none g i) : E.U none g i := by
 rcases h with h | ⟨b, h1, h3⟩
 ·exact .inl h
 refine .inr ⟨b, h1, ?_⟩
 split at h3
 ·rename_i he
  rw [(Fw hlo he).1]; trivial
 ·rename_i he
  rw [Nh hlo he]; trivial
 ·rename_i he
  obtain ⟨l0, h4, _⟩ := GR hlo he
  rw [h4]
  exact h3
 ·exact h3.elim
theorem RP {E : AN} {lo : Nat} {lk : Lk} {d d' : Nat} (hlo : lo ≤ E.H.length) (hlk : ∀ lv, lv ≤ d → E.lk.take lv = lk.take lv) (hd : d' ≤ d) : C9 (E.shrink E.n d') ((E.grown lo lk d).shrink E.n d') where
 len := ak _
 lvl := ak _
 cell := by
  intro lv g i u hlv _ h1 h3
  refine ⟨h1, fun hu => h3 ?_⟩
  cases lv with
  | some l =>
   have hl : l ≤ d := bt hlv hd
   refine Tx (E := E) (lo := lo) (lk := lk) (d := d) (L := E.lk) hlo rfl ?_
   rcases hu with hu | ⟨b, p1, p2, p3⟩
   ·exact .inl hu
   refine .inr ⟨b, p1, ?_, p3⟩
   show AT (E.lk.take l) b = true
   rw [hlk l hl]; exact p2
  | none => exact Tw (lk := lk) (d := d) hlo hu
 By := by
  intro b hb hn
  refine ⟨rfl, fun l n z hx => ?_⟩
  obtain ⟨l0, h, _⟩ := GR (lk := lk) (d := d) hlo hx
  exact hn l0 n z h
 cells := by
  intro b hb hn z cs hx
  exact hn z cs (Fw (lk := lk) (d := d) hlo hx).1
 BT := by
  intro b l n sz hb hB
  obtain ⟨l0, h, _⟩ := GR (lk := lk) (d := d) hlo hB
  exact ⟨l0, n, h, ak _, fun _ => ⟨rfl, fun c _ hc => ⟨c, hc, rfl⟩⟩⟩
 fresh := fun b g i u _ _ hb hl he => ⟨b, hb, Gb (lk := lk) (d := d) hlo hl, he⟩
theorem RV (hD : PV c E0 E' L Hc) (hg : c.hints.grow c.fn = true) {v : V} {u : bm} (hr : A6 E' v u) (hv : Bk (E0.m + 1) v = true) :
    ∃ E1, E1.w = E'.w ∧ AF c.hints c.fn L E0 E1 (Hc.take E0.n ++ (Hc.drop E0.n).map (FO E0.m)) ∧ A6 E1 v u := by
  have hL := hD.last
  have hHc : E'.H = Hc := hD.after.H
  have hev := hD.after.CI
  have hlo := hL.le
  have hnH : E'.n = E'.H.length := by rw [hHc]; exact hD.after.n
  let E1 := E'.grown E0.n E0.lk E0.m
  have hk : ∀ d', d' ≤ E0.m → C9 (E'.shrink E'.n d') (E1.shrink E'.n d') := fun d' hd => RP hlo hL.jA hd
  have hk1 : C9 (E'.shrink E'.n E0.m) E1 := hk E0.m (ak _)
  have hfAll : D0 E' E0.n E'.n E0.m := hD.after.HP hg _ _ (by rw [hD.base]; exact ak _) (iw _) (D0.lock (by rw [hD.m0]; exact ak _) (D0.all hD.Ty _))
  have hrel : C1 E1 :=
    { cells := by
        intro b sz cs hB
        obtain ⟨hB', hcl⟩ := Fw hlo hB
        obtain ⟨c', t, h1, h2, h3⟩ := hL.heap.cells b sz cs hB'
        refine ⟨c', t, h1, h2, fun i v hv => ?_⟩
        obtain ⟨u, h4, h5⟩ := h3 i v hv
        refine ⟨u, h4, hk1.rep _ _ ?_⟩
        by_cases hb : b < E0.n
        · exact hfAll b sz cs hb hB' c' t h1 i v u hv h4
        · refine GY v u ?_ h5
          have := hcl hb
          rw [cb] at this
          exact this v (List.mem_of_getElem? hv)
      BT := by
        intro b l n sz hB
        obtain ⟨l0, h, _⟩ := GR hlo hB
        exact hL.heap.BT b l0 n sz h
      lvl := by
        intro b l n sz hB
        obtain ⟨l0, h, _, h1, h2⟩ := GR hlo hB
        show l ≤ E0.lk.length
        rw [← hD.m0]
        by_cases hb : b < E0.n
        · rw [h1 hb]; exact hD.lvl hb h
        · exact h2 hb
      dm := by show E0.m ≤ E0.lk.length; rw [hD.m0]; exact ak _
      inj := fun b b' h1 h2 he => hL.heap.inj b b' (Gb hlo h1) (Gb hlo h2) he
      maps := fun b As hB => hL.heap.maps b As (Nh hlo hB)
      BM := fun g hg => ⟨(hL.heap.BM g hg).1, fun b hl => (hL.heap.BM g hg).2 b (Gb hlo hl)⟩ }
  have hold : ∀ b, b < E0.n → E1.H[b]? = E'.H[b]? := fun b hb => by
    show (E'.grown E0.n E0.lk E0.m).H[b]? = _
    rw [Hl _ _ _ _ hlo, if_pos hb]
  refine ⟨E1, rfl, ⟨?_, ?_, ?_, hrel, (fun h => by rw [hg] at h; cases h), ?_, ?_⟩, hk1.rep _ _ (GY v u hv hr)⟩
  · show E'.H.take _ ++ (E'.H.drop _).map _ = _
    rw [hHc]
  · show E'.n = _
    rw [hnH, hHc]
    simp
    rw [hHc] at hlo
    omega
  · exact
    { lk := rfl
      os := hev.os
      tape := hev.tape
      output := hev.output
      size := hev.size
      len := hev.len
      mm := rfl
      cell := hev.cell
      block := hev.block
      mono := by
        intro lv g i hlv hu
        refine hev.mono lv g i hlv ?_
        cases lv with
        | some l => exact Tx (E := E') (lo := E0.n) (lk := E0.lk) (d := E0.m) (L := E0.lk ++ [L]) hlo hev.lk hu
        | none => exact Tw (lk := E0.lk) (d := E0.m) hlo hu
      By := by
        intro b hb hn
        obtain ⟨h1, h2⟩ := hev.By b hb hn
        refine ⟨h1, fun l n z => ?_⟩
        rw [AN.EF, hold b hb]
        exact h2 l n z
      cells := by
        intro b hb hn z cs
        rw [AN.EF, hold b hb]
        exact hev.cells b hb hn z cs
      BT := by
        intro b l n sz hb hB
        rw [AN.EF, hold b hb] at hB
        exact hev.BT b l n sz hb hB
      fresh := fun b hl => hev.fresh b (Gb (lk := E0.lk) (d := E0.m) hlo hl)
      BM := hev.BM
      Hn := hev.Hn
      Gp := hev.Gp }
  · intro _ base d' hbase hd hf
    have hf1 := hD.after.HP hg base d' (by rw [hD.base]; exact hbase) (kb hd) (D0.lock (L := L) (by rw [← hD.m0]; exact hd) hf)
    intro b sz cs hlt hB c' t hc i v u hv hu
    exact (hk d' hd).rep v u (hf1 b sz cs hlt (Fw (lk := E0.lk) (d := E0.m) hlo hB).1 c' t hc i v u hv hu)
  · intro b hb hkk
    rw [hold b hb, hHc]
    exact hD.after.kept b (by rw [hD.base]; exact hb) (by rw [hD.lk]; exact hkk)
theorem Uy {P : bg} {E : AN} (hh : C1 E) {t : ao} {p v : V} {u : bm} (hp : A6 E p u) (h : Ep P t E.H p = some v) :
  ∃ ad x, u = .pointer (some ad) ∧ (loadVar t ad).run P E.w = .ok x E.w ∧ A6 E v x := by
 unfold Ep at h
 split at h
 ·split at h
  case h_2 => simp at h
  rename_i b off _ sz cs hb
  simp only [A6] at hp
  obtain ⟨_, hp, _⟩ := hp
  obtain ⟨x, h1, h2⟩ := Kd (P := P) (o := 0) (Qz hh hb) h
  rw [fy] at h1
  exact ⟨_, x, hp, h1, h2⟩
 ·simp only [A6] at hp
  obtain ⟨_, g, o, hp, hr⟩ := hp
  obtain ⟨x, h1, h2⟩ := Kd (P := P) (o := o) (fun i v hi => by
   obtain ⟨u, h1, h2, _⟩ := Bn _ _ hr i v hi
   exact ⟨u, h1, h2⟩) h
  exact ⟨_, x, hp, h1, h2⟩
 ·simp at h
theorem IG {P : bg} {E : AN} (hh : C1 E) {T : Nat → V} {ts : Array bm} (hT : ∀ i, A6 E (T i) (ts.getD i undef)) : ∀ (l : List dv) (vs : List V), Av P E.H T l = some vs →
  ∃ us, (l.mapM (m := Sem) fun (r : dv) => match r with
   | .tmp t => pure (ts.getD t undef)
   | .cell a t => do loadVar t (← asAddr (ts.getD a undef))).run P E.w = .ok us E.w ∧ AH E vs us
 | [], vs, h => by
  simp only [Av, aa] at h
  subst h
  exact ⟨[], by simp, by simp only [AH]⟩
 | .tmp t :: l, vs, h => by
  simp only [Av, af] at h
  obtain ⟨ws, hw, rfl⟩ := h
  obtain ⟨us, h1, h2⟩ := IG hh hT l ws hw
  refine ⟨ts.getD t undef :: us, ?_, ?_⟩
  ·simp only [jw, Sem.run_bind, Sem.run_pure, Result.andThen_ok, h1]
  ·simp only [AH]; exact ⟨_, us, rfl, hT t, h2⟩
 | .cell a t :: l, vs, h => by
  simp only [Av, ae, af] at h
  obtain ⟨v, hv, ws, hw, rfl⟩ := h
  obtain ⟨us, h1, h2⟩ := IG hh hT l ws hw
  obtain ⟨ad, x, k1, k2, k3⟩ := Uy (P := P) hh (hT a) hv
  refine ⟨x :: us, ?_, ?_⟩
  ·have ha : (asAddr (ts.getD a undef)).run P E.w = .ok ad E.w := by rw [k1]; rfl
   simp only [jw, Sem.run_bind, Sem.run_pure, Result.andThen_ok, ha, k2, h1]
  ·simp only [AH]; exact ⟨_, us, rfl, k3, h2⟩
theorem Rn {P : bg} {E : AN} (hh : C1 E) {T : Nat → V} {ts : Array bm} (hT : ∀ i, A6 E (T i) (ts.getD i undef)) {fn : Func} {vs : List V} (h : Av P E.H T fn.results.toList = some vs) :
  ∃ u, (results fn ts).run P E.w = .ok u E.w ∧ A6 E (Et vs) u := by
 obtain ⟨us, h1, h2⟩ := IG (P := P) hh hT _ _ h
 obtain ⟨hl, hg⟩ := B8 _ _ h2
 refine ⟨if h : us.toArray.size = 1 then us.toArray[0] else .tuple us.toArray, ?_, ?_⟩
 ·unfold results
  rw [Array.mapM_eq_mapM_toList]
  simp only [Sem.run_bind, Sem.run_map, Sem.run_pure]
  exact congrArg (fun r : Result (List bm) => (r.andThen fun a w' => Result.ok a.toArray w').andThen fun a w' => Result.ok (if h : a.size = 1 then a[0] else Value.tuple a) w') h1
 ·match us, hl, hg, h2 with
  | [], hl, hg, h2 =>
   have : vs = [] := bx hl
   subst this
   simp only [Et, A6]
   exact ⟨#[], rfl, by simp only [AH]⟩
  | [u], hl, hg, h2 =>
   obtain ⟨v, rfl⟩ := List.length_eq_one_iff.1 hl
   simp only [AH] at h2
   obtain ⟨u', us', h3, h4, h5⟩ := h2
   simp only [ei] at h3
   obtain ⟨rfl, _⟩ := h3
   simpa [Et] using h4
  | u1 :: u2 :: us, hl, hg, h2 =>
   have : Et vs = .EZ vs := by
    match vs, hl with
    | v1 :: v2 :: vs, _ => rfl
   rw [this]
   simp only [A6]
   exact ⟨(u1 :: u2 :: us).toArray, by simp, h2⟩
end
theorem UW {E : AN} {vs : List V} {us : List bm} (h : AH E vs us) (n : Nat) (i : Nat) : A6 E (JX vs i) ((us.toArray ++ jl n undef).getD i undef) := by
 obtain ⟨hl, hg⟩ := B8 _ _ h
 unfold JX
 rw [iz, dz, Array.getElem?_append]
 by_cases hi : i < us.length
 ·rw [if_pos (by simpa using hi)]
  have hv : i < vs.length := by omega
  obtain ⟨u, h1, h2⟩ := hg i _ (aj hv)
  rw [aj hv, List.getElem?_toArray, h1]
  exact h2
 ·rw [if_neg (by simpa using hi), bf (by omega)]
  rw [ko]
  split
  ·exact Lb E
  ·exact Lb E
theorem Oa {b : Code} {N : Kp} (h : EO b = some N) : b = .seq N.R0 (.seq (.seq (.region N.i #[N.o1, N.o2] false) (.cond (.tmp N.q) N.A .skip)) N.B) ∧
  N.o1.dst = some N.p ∧ N.o1.op = .move (.tmp N.z) ∧ N.o1.guard = none ∧ N.o2.dst = some N.q ∧ N.o2.op = .binOp .eql N.t (.tmp N.p) (.const (.slice none 0 0)) N.t2 ∧ N.o2.guard = none := by
 unfold EO at h
 split at h
 case h_2 => cases h
 rename_i R0 i ops q' A B
 unfold Sv at h
 split at h
 case h_2 => cases h
 rename_i o1 o2 hops
 split at h
 case h_2 => cases h
 rename_i p z q t p' t2 h1 h2 h3 h4 h5 h6
 split at h
 case isFalse => cases h
 rename_i hpq
 obtain ⟨rfl, rfl⟩ := hpq
 simp only [aa] at h
 subst h
 have : ops = #[o1, o2] := by
  apply Array.toList_inj.1
  rw [hops]
 subst this
 exact ⟨rfl, h1, h2, h3, h4, h5, h6⟩
theorem Sj {E : AN} {x : V} {u : bm} {n : Nat} (hr : A6 E x u) (hn : Cd x = some n) : ∃ A cap, u = .slice A n cap ∧ (n ≠ 0 → A ≠ none) := by
 cases x with
 | lit lv len cs =>
  simp only [Cd, aa] at hn
  subst hn
  simp only [A6] at hr
  obtain ⟨_, A, cap, h1, _, h3⟩ := hr
  refine ⟨A, cap, h1, fun h => ?_⟩
  rcases h3 with h3 | ⟨g, o, h3, _⟩
  ·exact absurd h3 h
  ·rw [h3]; simp
 | tl len cs =>
  simp only [Cd, aa] at hn
  subst hn
  simp only [A6] at hr
  obtain ⟨A, h1, h3⟩ := hr
  refine ⟨A, _, h1, fun h => ?_⟩
  rcases h3 with h3 | ⟨g, o, h3, _⟩
  ·exact absurd h3 h
  ·rw [h3]; simp
 | snap b len cs =>
  simp only [Cd, aa] at hn
  subst hn
  simp only [A6] at hr
  obtain ⟨_, ⟨A, cap, h1, _, ⟨g, o, h3, _⟩, _⟩, _⟩ := hr
  exact ⟨A, cap, h1, fun _ => by rw [h3]; simp⟩
 | pre b m0 len cs =>
  simp only [Cd, aa] at hn
  subst hn
  simp only [A6] at hr
  obtain ⟨_, ⟨A, cap, h1, _, ⟨g, o, h3, _⟩, _⟩, _⟩ := hr
  exact ⟨A, cap, h1, fun _ => by rw [h3]; simp⟩
 | sl b off len =>
  simp only [Cd, aa] at hn
  subst hn
  simp only [A6] at hr
  obtain ⟨_, ⟨cap, h1, _⟩, _⟩ := hr
  exact ⟨_, cap, h1, fun _ => by simp⟩
 | _ => simp [Cd] at hn
theorem VF {P : bg} (w : ej) {t e : ao} (A : Option Addr) (n c : Nat) (ht : P.underlying t = some (.slice e)) : (binOp .eql t (.slice A n c) (.slice none 0 0)).run P w = .ok (.bool A.isNone) w := by
 cases A with
 | none =>
  have h : ∀ d : Nat, (Op.equalIn (d + 1) t (.slice none n c) (.slice none 0 0)).run P w = .ok true w := fun d => by
   simp [Op.equalIn, run_underlying ht]
  simp only [binOp]
  simp [Op.equal, Op.maxDepth, h 9999]
 | some a =>
  have h : ∀ d : Nat, (Op.equalIn (d + 1) t (.slice (some a) n c) (.slice none 0 0)).run P w = .ok false w := fun d => by
   simp [Op.equalIn, run_underlying ht]
  simp only [binOp]
  simp [Op.equal, Op.maxDepth, h 9999]
theorem R6 {c : Cx} (hm : c.P.follows .mixedOrders = true) (hΓ : GU c.P c.hints c.Γ) (hK : FU c.Γ) {n : Nat} {rs : List dv} {b : Code} {E : AN} {S : St} {a : Act} (hs : CK c E S a) (hd : a.defers = []) {r : List V × A4} (h : Ik c n rs b S = some r) {Q : Exit → Act → ej → Prop}
  (hn : ∀ E' a' S' (x : X), CK c E' S' a' → Ap c E E' S'.H → a'.defers = [] → (x = .normal ∨ x = .ret) → Av c.P S'.H S'.T rs = some r.1 → r.2 = S'.H → Q x.Vt a' E'.w) : b.wp c.P Q a E.w := by
 unfold Ik at h
 split at h
 ·obtain ⟨x, S1, h1, h2, h3, h4⟩ := Hg h
  exact C3 hm hΓ hK n b hs hd h1 fun E' a' hs' ha' hd' => hn E' a' S1 x hs' ha' hd' h2 h3 h4
 ·rename_i N hN
  obtain ⟨rfl, k1, k2, k3, k4, k5, k6⟩ := Oa hN
  split at h
  case h_2 => cases h
  rename_i S0 h0
  split at h
  case isFalse => cases h
  rename_i hc
  obtain ⟨hp, hq, hpq, hel⟩ := hc
  refine wp_seq (C3 hm hΓ hK n N.R0 hs hd h0 fun E1 a1 hs1 ha1 hd1 => ?_)
  obtain ⟨len, hlen⟩ : ∃ len, Cd (S0.T N.z) = some len := by
   cases hh : Cd (S0.T N.z) with
   | none => rw [hh] at h; cases h
   | some len => exact ⟨len, rfl⟩
  obtain ⟨A, cap, hu, hA⟩ := Sj (hs1.tmps N.z) hlen
  obtain ⟨e, he⟩ := jd.1 hel
  have hin : MC c n rs N S0 A.isNone = some r := by
   rw [hlen] at h
   cases len with
   | zero =>
    simp only [] at h
    split at h
    case isFalse => cases h
    rename_i hsame
    cases A with
    | none => exact hsame.trans h
    | some _ => exact h
   | succ m =>
    cases A with
    | none => exact absurd rfl (hA (by omega))
    | some _ => exact h
  obtain ⟨x, S2, h1, h2, h3, h4⟩ := Hg hin
  have hu0 : a1.eval (.tmp N.z) = .slice A len cap := hu
  refine wp_seq (wp_seq (wp_region ?_))
  show wpOps c.P #[N.o1, N.o2] _ [0, 1] a1 E1.w
  have hg1 : (#[N.o1, N.o2] : Array bq)[0]? = some N.o1 := rfl
  have hg2 : (#[N.o1, N.o2] : Array bq)[1]? = some N.o2 := rfl
  simp only [wpOps, hg1, hg2]
  have hw1 : ∀ y : Nat → Option Bool, Region.wanted N.o1 y = true := fun y => by unfold Region.wanted; rw [k3]
  have hw2 : ∀ y : Nat → Option Bool, Region.wanted N.o2 y = true := fun y => by unfold Region.wanted; rw [k6]
  rw [if_pos (hw1 _)]
  refine .inl ?_
  have hs2 : CK c E1 (S0.set N.p (S0.T N.z)) (a1.put (some N.p) (a1.eval (.tmp N.z))) := CK.put (H' := S0.H) hs1 (Ap.refl hs1) hp (hs1.tmps N.z)
  have hrun1 : (execOp a1.eval N.o1).run c.P E1.w = .ok (.value (a1.eval (.tmp N.z))) E1.w := by simp only [execOp, k2]; rfl
  unfold Oper.wp
  rw [hrun1, Oper.upon_value, k1]
  rw [if_pos (hw2 _)]
  refine .inl ?_
  have hev : (a1.put (some N.p) (a1.eval (.tmp N.z))).eval (.tmp N.p) = .slice A len cap := by
   have hlt : N.p < a1.tmps.size := by rw [hs1.size]; exact hp
   show ((a1.tmps).setIfInBounds N.p (a1.eval (.tmp N.z))).getD N.p undef = _
   rw [NX, if_pos ⟨rfl, hlt⟩, hu0]
  have hrun2 : (execOp (a1.put (some N.p) (a1.eval (.tmp N.z))).eval N.o2).run c.P E1.w = .ok (.value (.bool A.isNone)) E1.w := by
   have hc2 : (a1.put (some N.p) (a1.eval (.tmp N.z))).eval (.const (.slice none 0 0)) = .slice none 0 0 := rfl
   simp only [execOp, k5, hev, hc2]
   have hguard : eqGuard .eql N.t (.tmp N.p) (.const (.slice none 0 0)) (.slice A len cap) (.slice none 0 0) = pure () := rfl
   simp only [hguard, Sem.run_bind, Sem.run_pure, Result.andThen_ok, VF E1.w A len cap (Bg he)]
  rw [hrun2, Oper.upon_value, k4]
  have hs3 : CK c E1 ((S0.set N.p (S0.T N.z)).set N.q (.bool A.isNone)) ((a1.put (some N.p) (a1.eval (.tmp N.z))).put (some N.q) (.bool A.isNone)) := CK.put (H' := S0.H) (S := S0.set N.p (S0.T N.z)) hs2 (show Ap c E1 E1 S0.H from Ap.refl hs1) hq (by simp only [A6])
  have hfin : ∀ E' a', CK c E' S2 a' → Ap c E1 E' S2.H → a'.defers = [] → Q x.Vt a' E'.w := fun E' a' hs' ha' hd' => hn E' a' S2 x hs' (ha1.trans ha') hd' h2 h3 h4
  have hcond : ((a1.put (some N.p) (a1.eval (.tmp N.z))).put (some N.q) (.bool A.isNone)).eval (.tmp N.q) = .bool A.isNone := by
   have := hs3.tmps N.q
   have hT : ((S0.set N.p (S0.T N.z)).set N.q (.bool A.isNone)).T N.q = .bool A.isNone := if_pos rfl
   rw [hT] at this
   simp only [A6] at this
   exact this
  cases hb : A.isNone with
  | true =>
   rw [hb] at h1 hs3 hcond
   simp only [if_true] at h1
   refine wp_cond_true hcond ?_
   simp only [AZ] at h1
   split at h1
   ·rename_i S3 h5
    refine C3 (c := c) hm hΓ hK n N.A hs3 hd1 h5 fun E' a' hs' ha' hd' => ?_
    exact C3 (c := c) hm hΓ hK n N.B hs' hd' h1 fun E'' a'' hs'' ha'' hd'' => hfin E'' a'' hs'' (ha'.trans ha'') hd''
   ·rename_i hne
    refine C3 (c := c) hm hΓ hK n N.A hs3 hd1 h1 fun E' a' hs' ha' hd' => ?_
    have := hfin E' a' hs' ha' hd'
    cases x with
    | normal => exact absurd h1 (hne S2)
    | exit i => exact this
    | ret => exact this
  | false =>
   rw [hb] at h1 hs3 hcond
   simp only [ba, if_false] at h1
   refine wp_cond_false hcond (wp_skip ?_)
   exact C3 (c := c) hm hΓ hK n N.B hs3 hd1 h1 hfin
theorem LS (P : bg) (hfol : P.follows .mixedOrders = true) (h : BI) : ∀ n, GU P h (Db P h n)
  | 0 => ⟨fun k args H lk r hr => by simp [Db] at hr, fun k args H lk L v H' hr => by simp [Db] at hr⟩
  | n + 1 => by
    have ih := LS P hfol h n
    refine ⟨fun k args H lk r hr => ?_, fun k args H lk L v H' hr E0 us hH hlk hn hm hh hlocks hrep => ?_⟩
    · simp only [Db] at hr
      split at hr
      case h_2 => cases hr
      rename_i fn hfn
      split at hr
      case h_2 => cases hr
      rename_i body hbody
      split at hr
      case isFalse => cases hr
      rename_i hc
      exact ⟨fn, hfn, by rw [hbody]; rfl, hc.2⟩
    · simp only [Db] at hr
      split at hr
      case h_2 => cases hr
      rename_i fn hfn
      split at hr
      case h_2 => cases hr
      rename_i body hbody
      split at hr
      case isFalse => cases hr
      rename_i hc
      obtain ⟨hlen, hname⟩ := hc
      subst hH hlk
      let c : Cx := { P := P, hints := h, fn := k, ntmps := fn.ntmps, base := E0.H.length, lk := E0.lk ++ [L], Γ := Db P h n }
      have hal : args.length = us.length := (B8 _ _ hrep).1
      have hs : CK c (E0.lock L) { T := JX args, H := E0.H } { tmps := us.toArray ++ jl (fn.ntmps - us.toArray.size) undef, defers := [] } :=
        { H := rfl
          lk := rfl
          n := hn
          m := by show E0.m + 1 = (E0.lk ++ [L]).length; rw [hm]; simp
          tmps := fun i => UW hrep _ i
          size := by simp; show us.length + (fn.ntmps - us.length) = fn.ntmps; omega
          heap := hh.lock L
          base := ak _
          DV := hlocks
          deep := by show 0 < (E0.lk ++ [L]).length; simp }
      simp only [ae] at hr
      obtain ⟨q, hex, hl⟩ := hr
      refine calls_of_wp hfn hbody ?_
      refine R6 (c := c) hfol ih (Rp P h n) hs rfl hex fun E' a' S x hs' ha' hd' hx hvs hq => ?_
      rw [hq] at hl
      rw [← hs'.H] at hvs
      obtain ⟨u0, hu0, hr0⟩ := Rn (P := P) hs'.heap hs'.tmps hvs
      have hD : PV c E0 E' L S.H :=
        { Ty := hh, n0 := hn, m0 := hm, base := hn.symm, lk := rfl
          DV := fun l hl x hx => by rw [hn]; exact hlocks l (au.2 (.inl hl)) x hx
          after := ha' }
      have hdl : (E0.lk ++ [L]).length = E0.m + 1 := by rw [hm]; simp
      have key : ∃ E1 : AN, E1.w = E'.w ∧ AF h k L E0 E1 H' ∧ A6 E1 v u0 := by
        unfold EE at hl
        split at hl
        · rename_i hg
          split at hl
          case isFalse => cases hl
          rename_i hcl
          simp only [aa, ag] at hl
          obtain ⟨rfl, rfl⟩ := hl
          rw [hdl] at hcl
          obtain ⟨E1, k1, k2, k3⟩ := RV hD hg hr0 hcl
          refine ⟨E1, k1, ?_, k3⟩
          rw [← hn, hdl, Wu]
          exact k2
        · rename_i hg
          simp only [af, Prod.exists, ag] at hl
          obtain ⟨v1, H2, news, h1, rfl, rfl⟩ := hl
          rw [hdl, ← hn] at h1
          obtain ⟨E1, k1, k2, k3⟩ := Uv hD (by simpa using hg) hr0 h1
          exact ⟨E1, k1, by rw [← hn]; exact k2, k3⟩
      obtain ⟨E1, k1, k2, k3⟩ := key
      rcases hx with rfl | rfl
      · exact ⟨hd', u0, hu0, E1, k1, k2, k3⟩
      · exact ⟨hd', u0, hu0, E1, k1, k2, k3⟩
abbrev ZT := fh → List V → A4 → Lk → Option (V × A4)
def Zn (Γ Γ' : ZT) : Prop := ∀ k a H lk r, Γ k a H lk = some r → Γ' k a H lk = some r
def Cx.at (c : Cx) (Γ : ZT) : Cx := { c with Γ := Γ }
theorem gL {c : Cx} {Γ : ZT} (hG : Zn c.Γ Γ) {o : bq} {S : St} {r : V × A4} (h : C5 c o S = some r) : C5 (c.at Γ) o S = some r := by
 by_cases hc : Du o = true
 ·unfold Du at hc
  split at hc
  case h_2 => cases hc
  rename_i f args ats ho
  simp only [C5, ho] at h ⊢
  split at h
  case h_2 => cases h
  rename_i g caps hf
  simp only [ae, Prod.exists] at h
  obtain ⟨vs, hvs, as, M, H1, hl, hg⟩ := h
  simp only [hf, hvs, ab]
  have : Ah (c.at Γ) (c.hints.Es g) S.H (vs ++ caps) = Ah c (c.hints.Es g) S.H (vs ++ caps) := by
   have : ∀ (vs : List V) (ms : List Qq) (H : A4), Ah (c.at Γ) ms H vs = Ah c ms H vs := by
    intro vs
    induction vs with
    | nil => intro ms H; rfl
    | cons v vs ih =>
     intro ms H
     simp only [Ah]
     have : Fo (c.at Γ) (ms.headD .M8) H v = Fo c (ms.headD .M8) H v := rfl
     rw [this]
     congr 1
     funext r
     rw [ih]
   exact this _ _ _
  show (Ah (c.at Γ) (c.hints.Es g) S.H (vs ++ caps)).bind _ = _
  rw [this, hl]
  exact hG _ _ _ _ _ hg
 ·have : C5 (c.at Γ) o S = C5 c o S := by
   have em : ∀ (ps : List (Nat × V)) (H : A4), CH (c.at Γ) H ps = CH c H ps := by
    intro ps
    induction ps with
    | nil => intro H; rfl
    | cons p ps ih =>
     intro H
     obtain ⟨i, v⟩ := p
     simp only [CH]
     have : FL (c.at Γ) H v = FL c H v := rfl
     rw [this]
     congr 1
     funext r
     rw [ih]
   obtain ⟨dst, op, ty, pos, aft, gd⟩ := o
   cases op <;> try rfl
   case buildSlice t n ps =>
    simp only [C5]
    congr 1
    funext ps
    rw [em]
    rfl
   case makeMap t r => cases r <;> rfl
   case call k =>
    obtain ⟨callee, args, ats⟩ := k
    cases callee with
    | value f => exact absurd rfl hc
    | builtin b => cases b <;> rfl
    | invoke r n => rfl
  rw [this]
  exact h
theorem RI {c : Cx} {Γ : ZT} (hG : Zn c.Γ Γ) {ops : Array bq} {o : bq} {S S' : St} (h : BZ c ops o S = some S') : BZ (c.at Γ) ops o S = some S' := by
 rw [Dn] at h ⊢
 simp only [ae, Prod.exists] at h
 obtain ⟨v, H', h1, h2⟩ := h
 unfold DJ at h1
 simp only [ae] at h1
 obtain ⟨b, hb, h1⟩ := h1
 have : DJ (c.at Γ) ops o S = some (v, H') := by
  unfold DJ
  rw [hb, ab]
  cases b with
  | true => simp only [if_true] at h1 ⊢; exact gL hG h1
  | false => simpa using h1
 rw [this]
 exact h2
theorem Sy {Γ : ZT} {cf : Nat → Cx} (hG : ∀ i, Zn (cf i).Γ Γ) {ops : Array bq} : ∀ (l : List Nat) {S S' : St}, DK cf ops l S = some S' → DK (fun i => (cf i).at Γ) ops l S = some S'
 | [], S, S', h => h
 | i :: l, S, S', h => by
  simp only [DK] at h ⊢
  split at h
  ·cases h
  simp only [ae] at h
  obtain ⟨S1, h1, h2⟩ := h
  rw [RI (hG i) h1]
  exact Sy hG l h2
theorem KN {f g : St → Option (X × St)} (hfg : ∀ S r, f S = some r → g S = some r) : ∀ {n m : Nat}, n ≤ m → ∀ {S : St} {r : X × St}, ED f n S = some r → ED g m S = some r
 | 0, m, _, S, r, h => by simp [ED] at h
 | n + 1, 0, hnm, S, r, h => by omega
 | n + 1, m + 1, hnm, S, r, h => by
  simp only [ED] at h ⊢
  split at h
  ·rename_i S1 h1
   rw [hfg _ _ h1]
   exact KN hfg (by omega) h
  ·rename_i hne
   rw [hfg _ _ h]
   split
   ·rename_i S1 he
    simp only [aa] at he
    subst he
    exact absurd h (hne S1)
   ·rfl
theorem De {c : Cx} {Γ : ZT} (hG : Zn c.Γ Γ) {n m : Nat} (hnm : n ≤ m) : ∀ (b : Code) {S : St} {r : X × St}, AZ c n b S = some r → AZ (c.at Γ) m b S = some r
 | .skip, S, r, h => h
 | .region id ops draw, S, r, h => by
  simp only [AZ, af] at h ⊢
  obtain ⟨S1, h1, rfl⟩ := h
  refine ⟨S1, ?_, rfl⟩
  split at h1
  ·rename_i hd
   rw [if_pos hd]
   split at h1
   ·rename_i hok
    rw [if_pos (show Ih (c.at Γ).lits ops = true from hok)]
    rw [ae] at h1 ⊢
    obtain ⟨S2, h1, h2⟩ := h1
    exact ⟨S2, Sy (cf := Ed c ops) (fun _ => hG) _ h1, h2⟩
   ·cases h1
  ·rename_i hd
   rw [if_neg hd]
   exact Sy (cf := fun _ => c) (fun _ => hG) _ h1
 | .seq p q, S, r, h => by
  simp only [AZ] at h ⊢
  split at h
  ·rename_i S1 h1
   rw [De hG hnm p h1]
   exact De hG hnm q h
  ·rename_i hne
   rw [De hG hnm p h]
   split
   ·rename_i S1 he
    simp only [aa] at he
    subst he
    exact absurd h (hne S1)
   ·rfl
 | .cond y p q, S, r, h => by
  simp only [AZ] at h ⊢
  split at h
  ·exact De hG hnm p h
  ·exact De hG hnm q h
  ·cases h
 | .block id p, S, r, h => by
  simp only [AZ] at h ⊢
  split at h
  ·rename_i i S1 h1
   rw [De hG hnm p h1]
   exact h
  ·rename_i hne
   rw [De hG hnm p h]
   split
   ·rename_i i S1 he
    simp only [aa] at he
    subst he
    exact absurd h (hne i S1)
   ·rfl
 | .loop p, S, r, h => by
  simp only [AZ] at h ⊢
  exact KN (fun S r h => De hG hnm p h) hnm h
 | .exit id, S, r, h => h
 | .ret, S, r, h => h
 | .label _, _, _, h => by simp [AZ] at h
 | .goto _, _, _, h => by simp [AZ] at h
 | .scope _, _, _, h => by simp [AZ] at h
 | .refuse _, _, _, h => by simp [AZ] at h
 | .rangeFunc .., _, _, h => by simp [AZ] at h
theorem WH {P : bg} {rs : List dv} {x y : Option (X × St)} (h : ∀ r, x = some r → y = some r) {r : List V × A4} (hr : Jo P rs x = some r) : Jo P rs y = some r := by
 obtain ⟨e, S, h1, h2, h3, h4⟩ := Hg hr
 rw [h _ h1]
 obtain ⟨vs, H⟩ := r
 simp only [] at h3 h4
 subst h4
 rcases h2 with rfl | rfl
 ·simp only [Jo, h3, ai]
 ·simp only [Jo, h3, ai]
theorem Vs {c : Cx} {Γ : ZT} (hG : Zn c.Γ Γ) {n m : Nat} (hnm : n ≤ m) {rs : List dv} {b : Code} {S : St} {r : List V × A4} (h : Ik c n rs b S = some r) : Ik (c.at Γ) m rs b S = some r := by
 unfold Ik at h ⊢
 have hw : ∀ N S bb r, MC c n rs N S bb = some r → MC (c.at Γ) m rs N S bb = some r := fun N S bb r hr => WH (fun q hq => De hG hnm _ hq) hr
 cases hN : EO b with
 | none =>
  rw [hN] at h
  simp only [] at h ⊢
  exact WH (fun q hq => De hG hnm _ hq) h
 | some N =>
  rw [hN] at h
  simp only [] at h ⊢
  split at h
  case h_2 => cases h
  rename_i S0 h0
  rw [De hG hnm _ h0]
  simp only []
  split at h
  case isFalse => cases h
  rename_i hc
  have hc' : N.p < (c.at Γ).ntmps ∧ N.q < (c.at Γ).ntmps ∧ N.p ≠ N.q ∧ (B4 (c.at Γ).P N.t).isSome = true := hc
  rw [if_pos hc']
  split at h
  ·exact hw _ _ _ _ h
  ·split at h
   case isFalse => cases h
   rename_i hs
   have h2 := hw _ _ _ _ h
   have h1 := hw _ _ _ _ (hs.trans h)
   rw [if_pos (h1.trans h2.symm)]
   exact h2
  ·cases h
theorem Qb (P : bg) (h : BI) : ∀ {n m : Nat}, n ≤ m → Zn (Db P h n) (Db P h m)
  | 0, m, _, k, a, H, lk, r, hr => by simp [Db] at hr
  | n + 1, 0, hnm, _, _, _, _, _, _ => by omega
  | n + 1, m + 1, hnm, k, a, H, lk, r, hr => by
    have ih : Zn (Db P h n) (Db P h m) := Qb P h (by omega)
    simp only [Db] at hr ⊢
    split at hr
    case h_2 => cases hr
    rename_i fn hfn
    split at hr
    case h_2 => cases hr
    rename_i body hbody
    split at hr
    case isFalse => cases hr
    rename_i hc
    simp only [hbody, hc, and_self, if_true]
    simp only [ae] at hr ⊢
    obtain ⟨q, h1, h2⟩ := hr
    exact ⟨q, Vs (c := { P := P, hints := h, fn := k, ntmps := fn.ntmps, base := H.length, lk := lk, Γ := Db P h n }) ih (by omega : n ≤ m) h1, h2⟩
open Classical in
noncomputable def Ai (P : bg) (h : BI) : ZT := fun k a H lk =>
 if hx : ∃ n r, Db P h n k a H lk = some r then some (eb (cj hx)) else none
theorem UI {P : bg} {h : BI} {n : Nat} {k : fh} {a : List V} {H : A4} {lk : Lk} {r : V × A4} (hr : Db P h n k a H lk = some r) : Ai P h k a H lk = some r := by
 have hx : ∃ n r, Db P h n k a H lk = some r := ⟨n, r, hr⟩
 unfold Ai
 rw [dif_pos hx]
 have h1 := cj (cj hx)
 have h2 := Qb P h (gi n (eb hx)) _ _ _ _ _ hr
 have h3 := Qb P h (gh n (eb hx)) _ _ _ _ _ h1
 rw [← h3, h2]
theorem Qa {P : bg} {h : BI} {k : fh} {a : List V} {H : A4} {lk : Lk} {r : V × A4} (hr : Ai P h k a H lk = some r) : ∃ n, Db P h n k a H lk = some r := by
 unfold Ai at hr
 split at hr
 ·rename_i hx
  simp only [aa] at hr
  exact ⟨_, hr ▸ cj (cj hx)⟩
 ·cases hr
theorem T6 (P : bg) (hfol : P.follows .mixedOrders = true) (h : BI) : GU P h (Ai P h) where
 body := fun k args H lk r hr => let ⟨n, hn⟩ := Qa hr; (LS P hfol h n).body k args H lk r hn
 run := fun k args H lk L v H' hr => let ⟨n, hn⟩ := Qa hr; (LS P hfol h n).run k args H lk L v H' hn
theorem Z0 {P : bg} {h : BI} {c : Cx} (hc : c.Γ = Ai P h) {o : bq} {S : St} {r : V × A4} (hr : C5 c o S = some r) : ∃ n, C5 (c.at (Db P h n)) o S = some r := by
 by_cases hcl : Du o = true
 ·have hh := hr
  unfold Du at hcl
  split at hcl
  case h_2 => cases hcl
  rename_i f args ats ho
  simp only [C5, ho] at hr
  split at hr
  case h_2 => cases hr
  rename_i g caps hf
  simp only [ae, Prod.exists] at hr
  obtain ⟨vs, hvs, as, M, H1, hl, hg⟩ := hr
  rw [hc] at hg
  obtain ⟨n, hn⟩ := Qa hg
  refine ⟨n, ?_⟩
  have : ∀ (vs : List V) (ms : List Qq) (H : A4), Ah (c.at (Db P h n)) ms H vs = Ah c ms H vs := by
   intro vs
   induction vs with
   | nil => intro ms H; rfl
   | cons v vs ih =>
    intro ms H
    simp only [Ah]
    have : Fo (c.at (Db P h n)) (ms.headD .M8) H v = Fo c (ms.headD .M8) H v := rfl
    rw [this]
    congr 1
    funext r
    rw [ih]
  simp only [C5, ho, hf, hvs, ab]
  show (Ah (c.at (Db P h n)) (c.hints.Es g) S.H (vs ++ caps)).bind _ = _
  rw [this, hl]
  exact hn
 ·refine ⟨0, ?_⟩
  have em : ∀ (ps : List (Nat × V)) (H : A4), CH (c.at (Db P h 0)) H ps = CH c H ps := by
   intro ps
   induction ps with
   | nil => intro H; rfl
   | cons p ps ih =>
    intro H
    obtain ⟨i, v⟩ := p
    simp only [CH]
    have : FL (c.at (Db P h 0)) H v = FL c H v := rfl
    rw [this]
    congr 1
    funext r
    rw [ih]
  have : C5 (c.at (Db P h 0)) o S = C5 c o S := by
   obtain ⟨dst, op, ty, pos, aft, gd⟩ := o
   cases op <;> try rfl
   case buildSlice t n ps =>
    simp only [C5]
    congr 1
    funext ps
    rw [em]
    rfl
   case makeMap t r => cases r <;> rfl
   case call k =>
    obtain ⟨callee, args, ats⟩ := k
    cases callee with
    | value f => exact absurd rfl hcl
    | builtin b => cases b <;> rfl
    | invoke r n => rfl
  rw [this]
  exact hr
theorem Sa {P : bg} {h : BI} {c : Cx} (hc : c.Γ = Ai P h) {ops : Array bq} {o : bq} {S S' : St} (hr : BZ c ops o S = some S') : ∃ n, ∀ m, n ≤ m → BZ (c.at (Db P h m)) ops o S = some S' := by
 rw [Dn] at hr
 simp only [ae, Prod.exists] at hr
 obtain ⟨v, H', h1, h2⟩ := hr
 unfold DJ at h1
 simp only [ae] at h1
 obtain ⟨b, hb, h1⟩ := h1
 have key : ∃ n, DJ (c.at (Db P h n)) ops o S = some (v, H') := by
  unfold DJ
  simp only [hb, ab]
  cases b with
  | true => simp only [if_true] at h1 ⊢; exact Z0 hc h1
  | false => exact ⟨0, by simpa using h1⟩
 obtain ⟨n, hn⟩ := key
 refine ⟨n, fun m hm => ?_⟩
 have : BZ (c.at (Db P h n)) ops o S = some S' := by
  rw [Dn, hn]
  exact h2
 exact RI (c := c.at (Db P h n)) (Qb P h hm) this
theorem O6 {P : bg} {h : BI} {cf : Nat → Cx} (hc : ∀ i, (cf i).Γ = Ai P h) {ops : Array bq} : ∀ (l : List Nat) {S S' : St}, DK cf ops l S = some S' → ∃ n, ∀ m, n ≤ m → DK (fun i => (cf i).at (Db P h m)) ops l S = some S'
 | [], S, S', hr => ⟨0, fun _ _ => hr⟩
 | i :: l, S, S', hr => by
  simp only [DK] at hr
  split at hr
  ·cases hr
  rename_i o ho
  simp only [ae] at hr
  obtain ⟨S1, h1, h2⟩ := hr
  obtain ⟨n1, k1⟩ := Sa (hc i) h1
  obtain ⟨n2, k2⟩ := O6 hc l h2
  refine ⟨max n1 n2, fun m hm => ?_⟩
  simp only [DK, ho, k1 m (by omega), ab]
  exact k2 m (by omega)
theorem Ow {F : Nat → St → Option (X × St)} {f : St → Option (X × St)} (hf : ∀ S r, f S = some r → ∃ n, ∀ m, n ≤ m → F m S = some r) : ∀ (j : Nat) {S : St} {r : X × St}, ED f j S = some r → ∃ n, ∀ m, n ≤ m → ED (F m) j S = some r
 | 0, S, r, h => by simp [ED] at h
 | j + 1, S, r, h => by
  simp only [ED] at h
  split at h
  ·rename_i S1 h1
   obtain ⟨n1, k1⟩ := hf _ _ h1
   obtain ⟨n2, k2⟩ := Ow hf j h
   refine ⟨max n1 n2, fun m hm => ?_⟩
   simp only [ED, k1 m (by omega)]
   exact k2 m (by omega)
  ·rename_i hne
   obtain ⟨n1, k1⟩ := hf _ _ h
   refine ⟨n1, fun m hm => ?_⟩
   simp only [ED, k1 m hm]
   split
   ·rename_i S1 he
    simp only [aa] at he
    subst he
    exact absurd h (hne S1)
   ·rfl
theorem E7 {P : bg} {h : BI} {c : Cx} (hc : c.Γ = Ai P h) (j : Nat) : ∀ (b : Code) {S : St} {r : X × St}, AZ c j b S = some r → ∃ n, ∀ m, n ≤ m → AZ (c.at (Db P h m)) m b S = some r
 | .skip, S, r, hr => ⟨0, fun _ _ => hr⟩
 | .region id ops draw, S, r, hr => by
  simp only [AZ, af] at hr ⊢
  obtain ⟨S1, h1, rfl⟩ := hr
  split at h1
  ·rename_i hd
   split at h1
   ·rename_i hok
    rw [ae] at h1
    obtain ⟨S2, h1, h2⟩ := h1
    obtain ⟨n, k⟩ := O6 (cf := Ed c ops) (fun _ => hc) _ h1
    exact ⟨n, fun m hm => ⟨S1, by rw [if_pos hd, if_pos (show Ih (c.at (Db P h m)).lits ops = true from hok), ae]; exact ⟨S2, k m hm, h2⟩, rfl⟩⟩
   ·cases h1
  ·rename_i hd
   obtain ⟨n, k⟩ := O6 (cf := fun _ => c) (fun _ => hc) _ h1
   exact ⟨n, fun m hm => ⟨S1, by rw [if_neg hd]; exact k m hm, rfl⟩⟩
 | .seq p q, S, r, hr => by
  simp only [AZ] at hr ⊢
  split at hr
  ·rename_i S1 h1
   obtain ⟨n1, k1⟩ := E7 hc j p h1
   obtain ⟨n2, k2⟩ := E7 hc j q hr
   refine ⟨max n1 n2, fun m hm => ?_⟩
   rw [k1 m (by omega)]
   exact k2 m (by omega)
  ·rename_i hne
   obtain ⟨n1, k1⟩ := E7 hc j p hr
   refine ⟨n1, fun m hm => ?_⟩
   rw [k1 m hm]
   split
   ·rename_i S1 he
    simp only [aa] at he
    subst he
    exact absurd hr (hne S1)
   ·rfl
 | .cond y p q, S, r, hr => by
  simp only [AZ] at hr ⊢
  split at hr
  ·exact E7 hc j p hr
  ·exact E7 hc j q hr
  ·cases hr
 | .block id p, S, r, hr => by
  simp only [AZ] at hr ⊢
  split at hr
  ·rename_i i S1 h1
   obtain ⟨n1, k1⟩ := E7 hc j p h1
   refine ⟨n1, fun m hm => ?_⟩
   rw [k1 m hm]
   exact hr
  ·rename_i hne
   obtain ⟨n1, k1⟩ := E7 hc j p hr
   refine ⟨n1, fun m hm => ?_⟩
   rw [k1 m hm]
   split
   ·rename_i i S1 he
    simp only [aa] at he
    subst he
    exact absurd hr (hne i S1)
   ·rfl
 | .loop p, S, r, hr => by
  simp only [AZ] at hr ⊢
  obtain ⟨n, k⟩ := Ow (F := fun m => AZ (c.at (Db P h m)) m p) (fun S r h => E7 hc j p h) j hr
  exact ⟨max n j, fun m hm => KN (fun _ _ h => h) (by omega) (k m (by omega))⟩
 | .exit id, S, r, hr => ⟨0, fun _ _ => hr⟩
 | .ret, S, r, hr => ⟨0, fun _ _ => hr⟩
 | .label _, _, _, h => by simp [AZ] at h
 | .goto _, _, _, h => by simp [AZ] at h
 | .scope _, _, _, h => by simp [AZ] at h
 | .refuse _, _, _, h => by simp [AZ] at h
 | .rangeFunc .., _, _, h => by simp [AZ] at h
open Classical in
noncomputable def Dd (c : Cx) (b : Code) (S : St) : Option (X × St) :=
 if hx : ∃ n r, AZ c n b S = some r then some (eb (cj hx)) else none
theorem Bm {c : Cx} {n : Nat} {b : Code} {S : St} {r : X × St} (hr : AZ c n b S = some r) : Dd c b S = some r := by
 have hx : ∃ n r, AZ c n b S = some r := ⟨n, r, hr⟩
 unfold Dd
 rw [dif_pos hx]
 have h1 := cj (cj hx)
 have h2 := De (c := c) (Γ := c.Γ) (fun _ _ _ _ _ h => h) (gi n (eb hx)) b hr
 have h3 := De (c := c) (Γ := c.Γ) (fun _ _ _ _ _ h => h) (gh n (eb hx)) b h1
 rw [← h3, h2]
theorem Dk {c : Cx} {b : Code} {S : St} {r : X × St} (hr : Dd c b S = some r) : ∃ n, ∀ m, n ≤ m → AZ c m b S = some r := by
 unfold Dd at hr
 split at hr
 ·rename_i hx
  simp only [aa] at hr
  exact ⟨_, fun m hm => De (c := c) (Γ := c.Γ) (fun _ _ _ _ _ h => h) hm b (hr ▸ cj (cj hx))⟩
 ·cases hr
theorem Hd {c : Cx} {b : Code} {S : St} {x : Option (X × St)} (h1 : ∀ r, x = some r → Dd c b S = some r) (h2 : ∀ n r, AZ c n b S = some r → x = some r) : Dd c b S = x := by
 cases he : Dd c b S with
 | none =>
  cases x with
  | none => rfl
  | some r => rw [h1 r rfl] at he; cases he
 | some r =>
  obtain ⟨n, hn⟩ := Dk he
  exact (h2 n r (hn n (ak _))).symm
section
variable {c : Cx} {S : St}
theorem SO : Dd c .skip S = some (.normal, S) := Bm (n := 0) rfl
theorem SM (id : Nat) : Dd c (.exit id) S = some (.exit id, S) := Bm (n := 0) rfl
theorem Ug : Dd c .ret S = some (.ret, S) := Bm (n := 0) rfl
theorem Ph (id : Nat) (ops : Array bq) : Dd c (.region id ops false) S = (DK (fun _ => c) ops (da ops.size) S).map fun S' => (.normal, S') :=
 Hd (fun r h => Bm (n := 0) (by simpa only [AZ, ba, if_false] using h)) fun n r h => by simpa only [AZ, ba, if_false] using h
theorem SL (id : Nat) (ops : Array bq) : Dd c (.region id ops true) S = if Ih c.lits ops then ((DK (Ed c ops) ops (Oc c.lits ops) S).bind fun S' => if Jw ops c.base S'.T then some S' else none).map fun S' => (.normal, S') else none := by
 refine Hd (fun r h => Bm (n := 0) ?_) fun n r h => ?_
 ·simp only [AZ, if_true]
  split at h
  ·rename_i hd; rw [if_pos hd]; exact h
  ·cases h
 ·simp only [AZ, if_true] at h
  split
  ·rename_i hd; rw [if_pos hd] at h; exact h
  ·rename_i hd; rw [if_neg hd] at h; exact h
def Rv (x : Option (X × St)) (k : St → Option (X × St)) : Option (X × St) :=
 match x with
 | some (.normal, S) => k S
 | r => r
theorem Uh (p q : Code) : Dd c (.seq p q) S = Rv (Dd c p S) fun S' => Dd c q S' := by
 refine Hd (fun r h => ?_) fun n r h => ?_
 ·unfold Rv at h
  split at h
  ·rename_i S1 h1
   obtain ⟨n1, k1⟩ := Dk h1
   obtain ⟨n2, k2⟩ := Dk h
   refine Bm (n := max n1 n2) ?_
   simp only [AZ, k1 _ (gi ..), k2 _ (gh ..)]
  ·rename_i hne
   obtain ⟨n1, k1⟩ := Dk h
   refine Bm (n := n1) ?_
   simp only [AZ, k1 _ (ak _)]
   split
   ·rename_i S1 he
    simp only [aa] at he
    subst he
    exact absurd h (hne S1)
   ·rfl
 ·simp only [AZ] at h
  split at h
  ·rename_i S1 h1
   rw [Bm h1]
   exact Bm h
  ·rename_i hne
   rw [Bm h]
   obtain ⟨x, S1⟩ := r
   cases x with
   | normal => exact absurd h (hne S1)
   | exit i => rfl
   | ret => rfl
theorem SK (y : aw) (p q : Code) : Dd c (.cond y p q) S = match ev S.T y with
  | some (.bool true) => Dd c p S
  | some (.bool false) => Dd c q S
  | _ => none := by
 refine Hd (fun r h => ?_) fun n r h => ?_
 ·split at h
  ·rename_i hy
   obtain ⟨n, k⟩ := Dk h
   exact Bm (n := n) (by simp only [AZ, hy, k n (ak _)])
  ·rename_i hy
   obtain ⟨n, k⟩ := Dk h
   exact Bm (n := n) (by simp only [AZ, hy, k n (ak _)])
  ·cases h
 ·simp only [AZ] at h
  split at h
  ·rename_i hy; simp only [hy]; exact Bm h
  ·rename_i hy; simp only [hy]; exact Bm h
  ·cases h
theorem R5 (id : Nat) (p : Code) : Dd c (.block id p) S = match Dd c p S with
  | some (.exit i, S') => if i = id then some (.normal, S') else some (.exit i, S')
  | r => r := by
 refine Hd (fun r h => ?_) fun n r h => ?_
 ·split at h
  ·rename_i i S1 h1
   obtain ⟨n, k⟩ := Dk h1
   exact Bm (n := n) (by simp only [AZ, k n (ak _)]; exact h)
  ·rename_i hne
   obtain ⟨n, k⟩ := Dk h
   refine Bm (n := n) ?_
   simp only [AZ, k n (ak _)]
   split
   ·rename_i i S1 he
    simp only [aa] at he
    subst he
    exact absurd h (hne i S1)
   ·rfl
 ·simp only [AZ] at h
  split at h
  ·rename_i i S1 h1
   rw [Bm h1]
   exact h
  ·rename_i hne
   rw [Bm h]
   obtain ⟨x, S1⟩ := r
   cases x with
   | normal => rfl
   | exit i => exact absurd h (hne i S1)
   | ret => rfl
theorem SN (p : Code) : Dd c (.loop p) S = Rv (Dd c p S) fun S' => Dd c (.loop p) S' := by
 refine Hd (fun r h => ?_) fun n r h => ?_
 ·unfold Rv at h
  split at h
  ·rename_i S1 h1
   obtain ⟨n1, k1⟩ := Dk h1
   obtain ⟨n2, k2⟩ := Dk h
   refine Bm (n := max n1 n2 + 1) ?_
   have h3 := k2 (max n1 n2) (gh ..)
   simp only [AZ] at h3
   simp only [AZ, ED, k1 (max n1 n2 + 1) (by omega)]
   exact KN (fun S r h => De (c := c) (Γ := c.Γ) (fun _ _ _ _ _ h => h) (iw _) p h) (ak _) h3
  ·rename_i hne
   obtain ⟨n1, k1⟩ := Dk h
   refine Bm (n := n1 + 1) ?_
   simp only [AZ, ED, k1 (n1 + 1) (iw _)]
   split
   ·rename_i S1 he
    simp only [aa] at he
    subst he
    exact absurd h (hne S1)
   ·rfl
 ·simp only [AZ] at h
  cases n with
  | zero => simp [ED] at h
  | succ n =>
   simp only [ED] at h
   split at h
   ·rename_i S1 h1
    rw [Bm h1]
    refine Bm (n := n + 1) ?_
    simp only [AZ]
    exact KN (fun _ _ h => h) (iw _) h
   ·rename_i hne
    rw [Bm h]
    obtain ⟨x, S1⟩ := r
    cases x with
    | normal => exact absurd h (hne S1)
    | exit i => rfl
    | ret => rfl
end
noncomputable def B0 (P : bg) (h : BI) (k ntmps base : Nat) (lk : Lk) : Cx := { P := P, hints := h, fn := k, ntmps := ntmps, base := base, lk := lk, Γ := Ai P h }
def dU (P : bg) (h : BI) (k base d : Nat) (rs : List dv) (x : Option (X × St)) : Option (V × A4) :=
 match x with
 | some (.normal, S) | some (.ret, S) => (Av P S.H S.T rs).bind fun vs => EE h k base d (Et vs) S.H
 | _ => none
theorem T5 {P : bg} {h : BI} {k : fh} {fn : Func} {body : Code} (hfn : P.funcs[k]? = some fn) (hb : fn.body = some body) {args : List V} {H : A4} {lk : Lk} (hns : EO body = none) (hlen : args.length ≤ fn.ntmps) (hname : (fn.name == "runtime.NumGoroutine") = false) {r : V × A4}
    (hr : dU P h k H.length lk.length fn.results.toList (Dd (B0 P h k fn.ntmps H.length lk) body { T := JX args, H := H }) = some r) : Ai P h k args H lk = some r := by
  have main : ∀ x S, Dd (B0 P h k fn.ntmps H.length lk) body { T := JX args, H := H } = some (x, S) → (x = .normal ∨ x = .ret) → ((Av P S.H S.T fn.results.toList).bind fun vs => EE h k H.length lk.length (Et vs) S.H) = some r → Ai P h k args H lk = some r := by
    intro x S hx hxx hl
    obtain ⟨n, hn⟩ := Dk hx
    obtain ⟨m, hm⟩ := E7 (P := P) (h := h) rfl n body (hn n (ak _))
    refine UI (n := m + 1) ?_
    simp only [Db, hfn, hb]
    rw [if_pos ⟨hlen, hname⟩]
    have := hm m (ak _)
    unfold Cx.at B0 at this
    simp only [] at this
    unfold Ik
    rw [hns]
    simp only []
    rw [this]
    rcases hxx with rfl | rfl
    · simp only [Jo]
      simp only [ae] at hl
      obtain ⟨vs, h1, h2⟩ := hl
      simp only [h1, ai, ab, h2]
    · simp only [Jo]
      simp only [ae] at hl
      obtain ⟨vs, h1, h2⟩ := hl
      simp only [h1, ai, ab, h2]
  unfold dU at hr
  split at hr
  · rename_i S hx; exact main _ S hx (.inl rfl) hr
  · rename_i S hx; exact main _ S hx (.inr rfl) hr
  · cases hr
end Go.Proofs.YtblodpbcinkehaaGreat.K
