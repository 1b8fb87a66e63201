/-
 Part of a proof. No conditions.
-/
import Derived.Test.YtjklepgidjimfaaGreatK2
set_option linter.unusedVariables false
set_option linter.unusedSimpArgs false
namespace Go.Proofs.YtjklepgidjimfaaGreat.K
open List renaming mem_append → eb, mem_cons → fi, mem_singleton → dt, mem_append_left → ew, pairwise_map → nv, pairwise_append → me, mem_cons_self → fh, mem_cons_of_mem → fm, length_take → gh, mem_append_right → ft, getElem?_take → gm, getElem?_eq_none → en, getElem?_eq_some_iff → du, length_append → dw, headD_cons → ni, tail_cons → np, nil_append → gu, length_map → ja, length_drop → ko, replicate → gf, mem_iff_getElem → ij, length_set → fa, getElem_set → iu, mem_of_getElem? → ee, getElem_mem → gl, length_cons → er, getElem?_cons_succ → nj, append_nil → gi, eq_nil_of_length_eq_zero → ff, nodup_append → fy, getElem?_append_right → fe, getElem?_append_left → eh, pairwise_singleton → oz, nodup_cons → ia, append_assoc → eo, length_singleton → jm
open Nat renaming le_refl → dz, blt → fj, le_of_lt → kf, ble → jn, le_of_ble_eq_true → fb, not_lt → ib, one_pos → ig, succ_mul → kr
open Go renaming Program → ep, Oper → fc, TypeId → ea, Operand → ed, FuncId → jc
open Option renaming bind_some → ba, map_some → dq
open Bool renaming false_eq_true → ei
open Option.some renaming injEq → an
section
variable {G G1 G' H H0 H1 Hm : A5} {rs ub rs1 rest : List B8} {S Sc F F2 : List Nat}
def B8.self (r : B8) : B8 := r.sP r.CP
def B8.form : B8 → B8 → Prop
 | .Au n _, .Au m _ => m = n
 | .Aj S n _, .Aj S' m _ => S' = S ∧ m = n
 | .tree S _ _, .tree S' _ _ => S' = S
 | _, _ => False
def Rm : List B8 → List B8 → Prop
 | [], [] => True
 | r :: rs, q :: qs => r.form q ∧ Rm rs qs
 | _, _ => False
def B8.jI (Sc : List Nat) : B8 → Prop
 | .Au .. => True
 | .Aj S _ _ => ∀ b ∈ S, b ∈ Sc
 | .tree S _ _ => ∀ b ∈ S, b ∈ Sc
 | _ => False
def Tc (Sc : List Nat) : List B8 → Prop
 | [] => True
 | r :: rs => r.jI Sc ∧ Tc Sc rs
def GP : List B8 → List Nat
 | [] => []
 | r :: rs => r.CP ++ GP rs
def Uz : List B8 → List B8 → List B8
 | r :: rs, q :: qs => q.sP r.CP :: Uz rs qs
 | _, _ => []
theorem Hd : ∀ {rs : List B8} {b : Nat}, b ∈ GP rs ↔ ∃ r ∈ rs, b ∈ r.CP
 | [], b => by simp [GP]
 | r :: rs, b => by
  simp only [GP, eb, Hd, fi]
  constructor
  ·rintro (h | ⟨q, h1, h2⟩)
   ·exact ⟨r, .inl rfl, h⟩
   ·exact ⟨q, .inr h1, h2⟩
  ·rintro ⟨q, rfl | h1, h2⟩
   ·exact .inl h2
   ·exact .inr ⟨q, h1, h2⟩
theorem J8 : ∀ {rs : List B8}, Tc Sc rs → ∀ r ∈ rs, r.jI Sc
 | q :: qs, h, r, hr => by
  rcases fi.1 hr with rfl | hr
  ·exact h.1
  ·exact J8 h.2 r hr
theorem eE {r : B8} (h : r.jI Sc) : r.lQ = true := by cases r <;> first | rfl | cases h
theorem Td {r : B8} (h : r.jI Sc) (hk : r.ok H G) {b : Nat} (hb : b ∈ r.CP) (hl : b < H.length) : b ∈ Sc := by
 cases r with
 | Au n x => simp only [B8.CP, dt] at hb; subst hb; have := hk.1; omega
 | Aj S n x => simp only [B8.CP, dt] at hb; subst hb; exact h _ (hk.1 hl)
 | tree S F p => exact h _ ((hk.1 b hb).2 hl)
 | own v d sz n cells => cases h
 | N4 S v d d1 sz n cells => cases h
theorem A6.qS (hO : A6 H G (ub ++ rest)) (hc : ∀ r ∈ ub, r.lQ = true) : A6 G G (ub.map B8.self) where
 pre := fun _ _ => rfl
 len := dz _
 ok := fun r hr => by
  obtain ⟨r0, h0, rfl⟩ := List.mem_map.1 hr
  exact nT (hO.ok r0 (ew _ h0)) (hc r0 h0) fun b hb => hb
 apart := by
  rw [nv]
  refine (me.1 hO.apart).1.imp fun h => ?_
  unfold B8.self
  rw [B8.R9, B8.R9]; exact h
theorem YM {r q : B8} (hf : r.form q) (hr : r.ok H G) (hq : (q.sP r.CP).ok Hm G') (hl : Hm.length = G.length) (hGl : H.length ≤ G.length) : q.ok H G' ∧ ∀ b ∈ q.CP, b < G.length → b ∈ r.CP := by
 cases r with
 | Au n b =>
  cases q with
  | Au m b' => cases hf; exact ⟨⟨hr.1, hq.2⟩, fun c hc _ => hc⟩
  | _ => cases hf
 | Aj S n b =>
  cases q with
  | Aj S' m b' => obtain ⟨rfl, rfl⟩ := hf; exact ⟨⟨hr.1, hq.2⟩, fun c hc _ => hc⟩
  | _ => cases hf
 | tree S F p =>
  cases q with
  | tree S' F' p' =>
   cases hf
   refine ⟨⟨fun b hb => ⟨(hq.1 b hb).1, fun h => ?_⟩, hq.2⟩, fun b hb sd => (hq.1 b hb).2 (by omega)⟩
   exact (hr.1 b ((hq.1 b hb).2 (by omega))).2 h
  | _ => cases hf
 | own v d sz n cells => cases q <;> cases hf
 | N4 S v d d1 sz n cells => cases q <;> cases hf
theorem QD (hl : Hm.length = G.length) (hGl : H.length ≤ G.length) : ∀ {ub rs1 : List B8}, Rm ub rs1 → (∀ r ∈ ub, r.ok H G) → (∀ r ∈ Uz ub rs1, r.ok Hm G') → (Uz ub rs1).map B8.CP = rs1.map B8.CP ∧ (∀ q ∈ rs1, q.ok H G') ∧ ∀ q ∈ rs1, ∀ b ∈ q.CP, b < G.length → ∃ r ∈ ub, b ∈ r.CP
 | [], [], _, _, _ => ⟨rfl, (fun q hq => by cases hq), (fun q hq => by cases hq)⟩
 | r :: rs, q :: qs, hf, h0, h1 => by
  obtain ⟨k1, k2⟩ := YM hf.1 (h0 r (fh ..)) (h1 _ (fh ..)) hl hGl
  obtain ⟨i1, i2, i3⟩ := QD hl hGl hf.2 (fun r hr => h0 r (fm _ hr)) (fun r hr => h1 r (fm _ hr))
  refine ⟨?_, fun p hp => ?_, fun p hp b hb sd => ?_⟩
  ·simp only [Uz, List.map_cons, B8.R9, i1]
  ·rcases fi.1 hp with rfl | hp
   ·exact k1
   ·exact i2 p hp
  ·rcases fi.1 hp with rfl | hp
   ·exact ⟨r, fh .., k2 b hb sd⟩
   ·obtain ⟨x, hx, hb⟩ := i3 p hp b hb sd
    exact ⟨x, fm _ hx, hb⟩
theorem A6.oU (hO : A6 H G (ub ++ rest)) (tc : Tc Sc ub) (hf : Rm ub rs1) (hse : BK G Hm (GP ub)) (ho : A6 Hm G' (Uz ub rs1)) :
  BK H (G'.take H.length) Sc ∧ A6 (G'.take H.length) G' (rs1 ++ rest) := by
 have l1 := hO.len
 have l2 := ho.len
 have l3 := hse.1
 have ht : (G'.take H.length).length = H.length := by rw [gh]; omega
 obtain ⟨b1, b2, b3⟩ := QD (H := H) (G := G) (G' := G') (Hm := Hm) l3 l1 hf (fun r hr => hO.ok r (ew _ hr)) ho.ok
 have tg : ∀ b, b < G.length → b ∉ GP ub → G'[b]? = G[b]? := fun b hb hn => by rw [ho.pre b (by omega)]; exact hse.2 b hn
 obtain ⟨a1, a2, a3⟩ := me.1 hO.apart
 have hrest : ∀ r ∈ rest, ∀ x ∈ r.CP, x < G.length ∧ x ∉ GP ub := fun r hr x hx => ⟨B8.Er (hO.ok r (ft _ hr)) hx, fun h => by
  obtain ⟨r0, h0, hx0⟩ := Hd.1 h
  exact a3 r0 h0 r hr x hx0 hx⟩
 refine ⟨⟨ht, fun b hb => ?_⟩, fun b hb => ?_, by rw [ht]; omega, fun r hr => ?_, ?_⟩
 ·rw [gm]
  split
  ·rename_i sd
   rw [tg b (by omega) fun h => ?_]
   ·exact hO.pre b sd
   ·obtain ⟨r0, h0, hx0⟩ := Hd.1 h
    exact hb (Td (J8 tc r0 h0) (hO.ok r0 (ew _ h0)) hx0 sd)
  ·rename_i hge; rw [en (by omega)]
 ·rw [ht] at hb; rw [gm, ru hb]
 ·refine B8.TO ht ?_
  rcases eb.1 hr with hr | hr
  ·exact b2 r hr
  ·exact B8.Et (hO.ok r (ft _ hr)) fun x hx => tg x (hrest r hr x hx).1 (hrest r hr x hx).2
 ·refine me.2 ⟨?_, a2, fun r hr r' hr' x hx um => ?_⟩
  ·have h1 : (rs1.map B8.CP).Pairwise fun a b => ∀ x ∈ a, x ∉ b := by
    rw [← b1, nv]; exact ho.apart
   rwa [nv] at h1
  ·have h9 := hrest r' hr' x um
   obtain ⟨r0, h0, hx0⟩ := b3 r hr x hx h9.1
   exact h9.2 (Hd.2 ⟨r0, h0, hx0⟩)
theorem BK.oV {j : Nat} (sb : BK H0 H Sc) (hO : A6 H G rs) {p : A5 → Prop} (hj : rs[j]? = some (.tree S F p)) (tc : ∀ b ∈ S, b ∈ Sc) (hl : G'.length = G.length) (hs : ∀ b, b ∉ F → G'[b]? = G[b]?) : BK H0 (G'.take H.length) Sc := by
 have ht : (G'.take H.length).length = H.length := by rw [gh, hl]; have := hO.len; omega
 refine ⟨by rw [ht]; exact sb.1, fun b hb => ?_⟩
 rw [gm]
 split
 ·rename_i sd
  rw [hs b fun h => hb (tc _ (((hO.tree hj).2 b h).2 sd)), hO.pre b sd]
  exact sb.2 b hb
 ·rename_i hge
  rw [← sb.2 b hb, en (by omega)]
theorem BK.nU (h1 : BK H0 H Sc) (h2 : BK H H1 Sc) : BK H0 H1 Sc := ⟨h2.1.trans h1.1, fun b hb => by rw [h2.2 b hb, h1.2 b hb]⟩
theorem BK.none (h : BK H H1 []) : H1 = H := List.ext_getElem? fun b => h.2 b (by simp)
theorem sL {A B : List Nat} : ∀ b ∈ A, b ∈ A ++ B := fun b hb => ew _ hb
theorem sR {A B X : List Nat} (h : ∀ b ∈ X, b ∈ B) : ∀ b ∈ X, b ∈ A ++ B := fun b hb => ft _ (h b hb)
theorem sN {B : List Nat} : ∀ b ∈ ([] : List Nat), b ∈ B := fun b hb => by cases hb
end
section steps
variable {P : ep} {h : BX} {fk n base : Nat} {lk : Lk} {c : Cx} {ops : Array fc} {s kk : Bool} {d : Nat} {ty : ea} {pos : String} {aft : Array Edge} {l : List (Bool × Bool × fc)} {Q : St → Prop} {T : Nat → V} {G G' H H0 : A5} {rs : List B8} {op : Op} {S Sc F F2 : List Nat}
variable {α : Type} [AF α]
theorem O4 {st xt e e' : ea} {x y : ed} {v w : V} {xs ys zs : List α} {by_ sc : Nat} {z : List V} (hO : A6 H G rs) (j : Nat) (tf : CL by_ xs ys = some zs) (hy : Kn G w ys) (he : B0 P st = some e) (hz : B3 P e = some (AF.sz α)) (vd : C3 P e = some by_) (vi : BH P e = some z) (he' : B0 P xt = some e') (sj : sc < lk.length) (sb : BK H0 H Sc) (hS : ∀ b ∈ Sc, AT lk b = true) (tc : ∀ b ∈ S, b ∈ Sc) (hb : base = H0.length)
  (k : ∀ v' F' H' G', BK H0 H' Sc → A6 H' G' (rs.set j (Gr S F' sc zs v')) → BZ (Ar P h fk n base lk) ops l ⟨D6 T d v', G'⟩ Q)
  (h1 : ev T x = some v := by rfl) (h2 : ev T y = some w := by rfl) (ug : z.length = AF.sz α := by rfl) (hj : rs[j]? = some (Gr S F sc xs v) := by rfl) (yu : h.XE fk = false := by rfl) (hd : fj d n = true := by rfl) :
  BZ (Ar P h fk n base lk) ops ((s, kk, ⟨some d, .call ⟨.builtin .append, #[x, y], #[st, xt]⟩, ty, pos, aft, none⟩) :: l) ⟨T, G⟩ Q := by
 have tj : base = H.length := hb.trans sb.1.symm
 subst tj
 obtain ⟨v', F', G', e1, ⟨q1, rfl, q2, q3⟩ | q⟩ := kE hO j tf hy he hz vd vi he' (kf sj) (fun b hb => hS b (tc b hb)) h1 h2 ug hj yu
 ·exact pV e1 hd (k v' F' _ G' (sb.oV hO hj tc q1 q2) q3)
 ·exact pV e1 hd (k v' F' H G' sb q)
theorem WX {t : ea} {x y : ed} {b off sz m : Nat} {cs xs : List V} {v : V} (sk : List V) (hO : A6 H G rs) (j : Nat) (hz : B3 P t = some m) (sb : BK H0 H Sc) (hS : ∀ b ∈ Sc, AT lk b = true) (tc : ∀ b ∈ S, b ∈ Sc) (hb : base = H0.length) (hgv : BS 1 v = true)
  (k : ∀ H' G', BK H0 H' Sc → A6 H' G' (rs.set j (.Aj S b (.cells sz sk))) → BZ (Ar P h fk n base lk) ops l ⟨T, G'⟩ Q) (h1 : ev T x = some (.ptr b off) := by rfl) (hj : rs[j]? = some (.Aj S b (.cells sz cs)) := by rfl) (h2 : ev T y = some v := by rfl) (h3 : v.cellsOf = xs := by rfl) (h4 : xs.length = m := by rfl) (h5 : jn (off + m) cs.length = true := by rfl) (h6 : xs.all V.Bm = true := by rfl) (h7 : CA cs off xs = sk := by rfl) (hg : h.grow fk = true := by rfl) :
  BZ (Ar P h fk n base lk) ops ((s, kk, ⟨none, .store t x y, ty, pos, aft, none⟩) :: l) ⟨T, G⟩ Q := by
 subst h3 h4 h7
 have tj : base = H.length := hb.trans sb.1.symm
 obtain ⟨hgt, hlo⟩ := hO.W1 hj
 have sd : b < G.length := (du.1 hgt).1
 have hO' := hO.rR (r' := .Aj S b (.cells sz (CA cs off v.cellsOf))) (x := .cells sz (CA cs off v.cellsOf)) hj rfl rfl ⟨hlo, by rw [AX, ru ⟨rfl, sd⟩]⟩
 refine fF (v := CT) ?_ (k _ _ (sb.set (fun hl => tc _ (hlo hl)) _) hO')
 rw [Ka]
 simp only [h1, h2, ba, G0]
 subst tj
 rw [ru (Mf hS fun hl => tc _ (hlo hl))]
 have e : (if b < ((Ar P h fk n H.length lk).Ay s kk).base then (if ((Ar P h fk n H.length lk).Ay s kk).hints.grow ((Ar P h fk n H.length lk).Ay s kk).fn then if BS 1 v then some (v, G) else none else AV ((Ar P h fk n H.length lk).Ay s kk).base Ba G v) else some (v, G)) = some (v, G) := by
  split
  ·rw [ru (show ((Ar P h fk n H.length lk).Ay s kk).hints.grow ((Ar P h fk n H.length lk).Ay s kk).fn = true from hg)]
  ·rfl
 rw [e]
 simp only [ba, hgt]
 rw [ru ⟨hz, fb h5, h6⟩]
 rfl
theorem rI {xs : List α} {i : Int} {x : α} {t e : ea} {y z : ed} {kd : IntKind} {v : V} {sc : Nat} (hO : A6 H G rs) (j : Nat) (hc : AR xs i = some x) (he : B0 P t = some e) (hz : B3 P e = some (AF.sz α))
  (k : ∀ lv, BZ (Ar P h fk n base lk) ops l ⟨D6 T d (.lp lv (AB 0 xs) (i.toNat * AF.sz α)), G⟩ Q)
  (h1 : ev T y = some v := by rfl) (h2 : ev T z = some (.int kd i) := by rfl) (hj : rs[j]? = some (Gr S F sc xs v) := by rfl) (hd : fj d n = true := by rfl) :
  BZ (Ar P h fk n base lk) ops ((s, kk, ⟨some d, .indexAddr t y z, ty, pos, aft, none⟩) :: l) ⟨T, G⟩ Q := by
 have main : ∀ lv, RO ((Ar P h fk n base lk).Ay s kk).d (AF.sz α) v i = some (.lp lv (AB 0 xs) (i.toNat * AF.sz α)) → BZ (Ar P h fk n base lk) ops ((s, kk, ⟨some d, .indexAddr t y z, ty, pos, aft, none⟩) :: l) ⟨T, G⟩ Q := fun lv hq => by
  refine pV ?_ hd (k lv)
  rw [Ef]
  show (B0 P t).bind _ = _
  rw [he, ba]
  show (B3 P e).bind _ = _
  simp only [hz, h1, h2, ba, asInt, hq, dq]
 rcases JL (hO.tree hj).1 with rfl | ⟨b, rfl⟩
 ·refine main 0 ?_
  simp only [RO, D4, ba]
  rw [ru (Fj hc)]
 ·refine main ((Ar P h fk n base lk).Ay s kk).d ?_
  simp only [RO, D4, ba]
  rw [ru (Fj hc)]
variable {ub rest : List B8} {ι : Type} {rs1 : ι → List B8}
theorem ZL {f : ed} {args : Array ed} {ats : Array ea} {g : jc} {caps vs so : List V} {v : V} {G2 : A5} (hO : A6 H G2 (ub ++ rest)) (sb : BK H0 H Sc) (hU : ∀ b ∈ Sc, AT lk b = true) (hlo : EK lk H0.length) (hb : base = H0.length) (tc : Tc Sc ub) (hg : h.grow fk = true ∨ Sc = [])
  (hr : ∀ L, EK (lk ++ [L]) G2.length → (∀ b ∈ GP ub, b < G2.length) → (∀ b ∈ GP ub, AT (lk ++ [L]) b = true) → A6 G2 G2 (ub.map B8.self) → ∃ v1 H1, Aw P h g so G2 (lk ++ [L]) = some (v1, H1) ∧ v1 = v ∧ ∃ (Fs : ι) (Hm : A5), BK G2 Hm (GP ub) ∧ A6 Hm H1 (Uz ub (rs1 Fs)))
  (hf : ∀ Fs, Rm ub (rs1 Fs)) (h1 : ev T f = some (.fn g caps)) (h2 : Ld T args.toList = some vs) (h3 : AW ((Ar P h fk n base lk).Ay s false) (h.Df g) G (vs ++ caps) = some (so, [], G2)) :
  ∃ H' G' Fs, He ((Ar P h fk n base lk).Ay s false) (.call ⟨.value f, args, ats⟩) ⟨T, G⟩ = some (v, G') ∧ BK H0 H' Sc ∧ A6 H' G' (rs1 Fs ++ rest) := by
 have sd : ∀ b ∈ GP ub, b < G2.length := fun b tp => by obtain ⟨r, hr, hx⟩ := Hd.1 tp; exact B8.Er (hO.ok r (ew _ hr)) hx
 have hSc : ∀ b ∈ GP ub, b < H.length → b ∈ Sc := fun b tp hl => by
  obtain ⟨r, hr, hx⟩ := Hd.1 tp
  exact Td (J8 tc r hr) (hO.ok r (ew _ hr)) hx hl
 have sn : ∀ b ∈ ((Ar P h fk n base lk).Ay s false).C6 g [] G2, b < base ∧ Sc = [] := fun b tp => by
  have := iV b tp
  refine ⟨this.1, hg.resolve_left fun e => ?_⟩
  rw [this.2] at e; cases e
 have tj : base = H.length := hb.trans sb.1.symm
 obtain ⟨v1, H1, hv, rfl, Fs, Hm, hse, ho⟩ := hr (((Ar P h fk n base lk).Ay s false).C6 g [] G2) (hlo.push (by rw [← sb.1]; exact hO.len) fun b hx => by
  have := (sn b hx).1
  have := hO.len
  omega) sd (fun b tp => by
  rcases Nat.lt_or_ge b H.length with hl | hl
  ·have h9 := hSc b tp hl
   have e : ((Ar P h fk n base lk).Ay s false).C6 g [] G2 = [] := List.eq_nil_iff_forall_not_mem.2 fun x hx => by
    rw [(sn x hx).2] at h9; cases h9
   rw [e]
   exact Jc (hU b h9)
  ·exact hlo.free (by rw [← sb.1]; exact hl) fun hx => by have := (sn b hx).1; omega) (hO.qS fun r hr => eE (J8 tc r hr))
 obtain ⟨e1, e2⟩ := hO.oU tc (hf Fs) hse ho
 exact ⟨_, H1, Fs, by
  rw [GF]
  simp only [h1, h2, ba, Pz]
  show (AW ((Ar P h fk n base lk).Ay s false) (h.Df g) G (vs ++ caps)).bind _ = _
  rw [h3]
  exact hv, sb.nU e1, e2⟩
theorem O5 {f : ed} {args : Array ed} {ats : Array ea} {g : jc} {caps vs so : List V} {v : V} {G2 : A5} (hO : A6 H G2 (ub ++ rest)) (sb : BK H0 H Sc) (hU : ∀ b ∈ Sc, AT lk b = true) (hlo : EK lk H0.length) (hb : base = H0.length) (tc : Tc Sc ub)
  (hr : ∀ L, EK (lk ++ [L]) G2.length → (∀ b ∈ GP ub, b < G2.length) → (∀ b ∈ GP ub, AT (lk ++ [L]) b = true) → A6 G2 G2 (ub.map B8.self) → ∃ v1 H1, Aw P h g so G2 (lk ++ [L]) = some (v1, H1) ∧ v1 = v ∧ ∃ (Fs : ι) (Hm : A5), BK G2 Hm (GP ub) ∧ A6 Hm H1 (Uz ub (rs1 Fs)))
  (hf : ∀ Fs, Rm ub (rs1 Fs)) (k : ∀ Fs H' G', BK H0 H' Sc → A6 H' G' (rs1 Fs ++ rest) → BZ (Ar P h fk n base lk) ops l ⟨D6 T d v, G'⟩ Q)
  (h3 : AW ((Ar P h fk n base lk).Ay s false) (h.Df g) G (vs ++ caps) = some (so, [], G2)) (hg : h.grow fk = true ∨ Sc = [] := by first | exact .inl rfl | exact .inr rfl) (h1 : ev T f = some (.fn g caps) := by rfl) (h2 : Ld T args.toList = some vs := by rfl) (hd : fj d n = true := by rfl) :
  BZ (Ar P h fk n base lk) ops ((s, false, ⟨some d, .call ⟨.value f, args, ats⟩, ty, pos, aft, none⟩) :: l) ⟨T, G⟩ Q := by
 obtain ⟨H', G', Fs, e1, e2, e3⟩ := ZL (ats := ats) hO sb hU hlo hb tc hg hr hf h1 h2 h3
 exact pV e1 hd (k Fs H' G' e2 e3)
end steps
theorem XM {sc : Nat} {lk : Lk} {L : List Nat} (h : sc < lk.length) : sc < (lk ++ [L]).length := by rw [dw]; exact Nat.lt_add_right _ h
theorem tB {lk : Lk} {L : List Nat} : lk.length < (lk ++ [L]).length := by simp
theorem vR {H0 H : A5} {S : List Nat} {lk : Lk} (sb : BK H0 H S) (h : EK lk H0.length) : EK lk H.length := by rw [sb.1]; exact h
section
variable {c : Cx} {H G : A5} {rs uz : List B8} {ms : List SZ} {vs so : List V} {M : List Nat} {G2 : A5}
theorem Nd {b off : Nat} (h : AW c ms G vs = some (so, M, G2)) : AW c (.J1 :: ms) G (.ptr b off :: vs) = some (.ptr b off :: so, M, G2) := by
 have e : Al (c.d + 1) G Ba (.ptr b off) = some (.ptr b off, []) := rfl
 simp only [AW, ni, np, E8, e, dq, ba, h, gu]
theorem DG {v v' : V} (h1 : Al (c.d + 1) G Ba v = some (v', [])) (h2 : AW c [] G vs = some (so, [], G2)) : AW c [] G (v :: vs) = some (v' :: so, [], G2) := by
 simp only [AW, List.headD_nil, E8, h1, dq, ba, List.tail_nil, h2, gu]
theorem Nc {v v' : V} (h1 : Al (c.d + 1) G Ba v = some (v', [])) (h2 : AW c ms G vs = some (so, [], G2)) : AW c (.J1 :: ms) G (v :: vs) = some (v' :: so, [], G2) := by
 simp only [AW, ni, np, E8, h1, dq, ba, h2, gu]
theorem Rt {k : Nat} {cs xs : List V} (hO : A6 H G rs) (hgv : oM 2 H rs (cs.take k) xs uz) (hn : (cs.drop k).all QT = true := by rfl) :
  ∃ G2, A6 H G2 uz ∧ ∀ {c : Cx} {ms vs so}, c.base = H.length → c.calm = false → AW c ms G2 vs = some (so, [], G2) → AW c (.O2 k true :: ms) G (.agg cs :: vs) = some (.agg (xs ++ cs.drop k) :: so, [], G2) := by
 obtain ⟨G2, e, o⟩ := hgv G hO 5
 refine ⟨G2, o, fun {c ms vs so} hb hc h => ?_⟩
 have e1 : AV c.base Ba G (.agg (cs.take k)) = some (.agg xs, G2) := by
  rw [hb]
  show AV H.length (5 + 2 + 1) G _ = _
  rw [AV, e]; rfl
 have e2 : E8 c (.O2 k true) G (.agg cs) = some (.agg (xs ++ cs.drop k), [], G2) := by
  unfold E8
  simp only [hn, if_true, hc, ei, if_false, e1, dq, ba]
 simp only [AW, ni, np, e2, ba, h, dq, gu]
theorem XL {k : Nat} {cs xs : List V} (he : Al.lendL (Al (c.d + 1) G 7) (cs.take k) = some (xs, [])) (h : AW c ms G vs = some (so, [], G2)) (hn : (cs.drop k).all QT = true := by rfl) :
  AW c (.O2 k false :: ms) G (.agg cs :: vs) = some (.agg (xs ++ cs.drop k) :: so, [], G2) := by
 have e1 : Al (c.d + 1) G Ba (.agg (cs.take k)) = some (.agg xs, []) := by
  show Al (c.d + 1) G (7 + 1) _ = _
  rw [Al, he]; rfl
 have e2 : E8 c (.O2 k false) G (.agg cs) = some (.agg (xs ++ cs.drop k), [], G) := by
  unfold E8
  simp only [hn, if_true, ei, if_false, e1, dq, ba]
 simp only [AW, ni, np, e2, ba, h, dq, gu]
theorem HT {f : V → Option (V × List Nat)} {v v' : V} {us tn : List V} (h1 : f v = some (v', [])) (h2 : Al.lendL f us = some (tn, [])) : Al.lendL f (v :: us) = some (v' :: tn, []) := by
 simp only [Al.lendL, h1, ba, h2, dq, gu]
theorem iU {f : V → Option (V × List Nat)} : Al.lendL f [] = some ([], []) := rfl
end
section steps
variable {P : ep} {h : BX} {fk n base : Nat} {lk : Lk} {c : Cx} {ops : Array fc} {s kk : Bool} {d : Nat} {ty : ea} {pos : String} {aft : Array Edge} {l : List (Bool × Bool × fc)} {Q : St → Prop} {T : Nat → V} {G G' H H0 : A5} {rs : List B8} {op : Op} {S Sc F F2 : List Nat}
variable {ub rest : List B8} {ι : Type} {rs1 : ι → List B8}
theorem XS {f : ed} {args : Array ed} {ats : Array ea} {g : jc} {caps vs so : List V} {v : V} {G2 : A5} (hO : A6 H G2 (ub ++ rest)) (hlo : EK lk H.length) (hb : base = H.length) (tc : Tc [] ub)
  (hr : ∀ L, EK (lk ++ [L]) G2.length → (∀ b ∈ GP ub, b < G2.length) → (∀ b ∈ GP ub, AT (lk ++ [L]) b = true) → A6 G2 G2 (ub.map B8.self) → ∃ v1 H1, Aw P h g so G2 (lk ++ [L]) = some (v1, H1) ∧ v1 = v ∧ ∃ (Fs : ι) (Hm : A5), BK G2 Hm (GP ub) ∧ A6 Hm H1 (Uz ub (rs1 Fs)))
  (hf : ∀ Fs, Rm ub (rs1 Fs)) (k : ∀ Fs G', A6 H G' (rs1 Fs ++ rest) → BZ (Ar P h fk n base lk) ops l ⟨D6 T d v, G'⟩ Q)
  (h3 : AW ((Ar P h fk n base lk).Ay s false) (h.Df g) G (vs ++ caps) = some (so, [], G2)) (h1 : ev T f = some (.fn g caps) := by rfl) (h2 : Ld T args.toList = some vs := by rfl) (hd : fj d n = true := by rfl) :
  BZ (Ar P h fk n base lk) ops ((s, false, ⟨some d, .call ⟨.value f, args, ats⟩, ty, pos, aft, none⟩) :: l) ⟨T, G⟩ Q := by
 obtain ⟨H', G', Fs, e1, e2, e3⟩ := ZL (ats := ats) hO (BK.refl H []) (fun b hb => by cases hb) hlo hb tc (.inr rfl) hr hf h1 h2 h3
 rw [e2.none] at e3
 exact pV e1 hd (k Fs G' e3)
theorem A6.rA {H1 : A5} {rsN : List B8} (hO : A6 H G rs) (hN : A6 G H1 rsN) (hf : Tc [] rsN) : A6 H H1 (rsN ++ rs) := by
 have l1 := hO.len
 have l2 := hN.len
 have xf : ∀ r ∈ rsN, ∀ b ∈ r.CP, G.length ≤ b := fun r hr b hb => ib.1 fun hl => by cases Td (J8 hf r hr) (hN.ok r hr) hb hl
 refine ⟨fun b hb => by rw [hN.pre b (by omega)]; exact hO.pre b hb, by omega, fun r hr => ?_, ?_⟩
 ·rcases eb.1 hr with hr | hr
  ·have h1 := hN.ok r hr
   have h2 := J8 hf r hr
   cases r with
   | Au n b => exact ⟨by have := h1.1; omega, h1.2⟩
   | Aj S n b => exact ⟨fun hl => absurd (h1.1 (by omega)) fun hx => (by cases h2 _ hx), h1.2⟩
   | tree S F p => exact ⟨fun b hb => ⟨(h1.1 b hb).1, fun hl => absurd ((h1.1 b hb).2 (by omega)) fun hx => (by cases h2 _ hx)⟩, h1.2⟩
   | own v d sz n cells => cases h2
   | N4 S' v d d1 sz n cells => cases h2
  ·exact B8.Et (hO.ok r hr) fun x hx => hN.pre x (B8.Er (hO.ok r hr) hx)
 ·refine me.2 ⟨hN.apart, hO.apart, fun r hr r' hr' x hx um => ?_⟩
  have := xf r hr x hx
  have := B8.Er (hO.ok r' hr') um
  omega
theorem vI {f : ed} {args : Array ed} {ats : Array ea} {g : jc} {caps vs so : List V} {M : List Nat} {vF : ι → V} {rsN : ι → List B8} (hO : A6 H G rs)
  (hr : ∀ L, ∃ v1 H1, Aw P h g so G (lk ++ [L]) = some (v1, H1) ∧ ∃ E : ι, v1 = vF E ∧ A6 G H1 (rsN E)) (hf : ∀ E, Tc [] (rsN E))
  (k : ∀ E G', A6 H G' (rsN E ++ rs) → BZ (Ar P h fk n base lk) ops l ⟨D6 T d (vF E), G'⟩ Q)
  (h3 : AW ((Ar P h fk n base lk).Ay s kk) (h.Df g) G (vs ++ caps) = some (so, M, G)) (h1 : ev T f = some (.fn g caps) := by rfl) (h2 : Ld T args.toList = some vs := by rfl) (hd : fj d n = true := by rfl) :
  BZ (Ar P h fk n base lk) ops ((s, kk, ⟨some d, .call ⟨.value f, args, ats⟩, ty, pos, aft, none⟩) :: l) ⟨T, G⟩ Q := by
 obtain ⟨v1, H1, hv, E, rfl, ho⟩ := hr (((Ar P h fk n base lk).Ay s kk).C6 g M G)
 refine pV (v := vF E) (G' := H1) ?_ hd (k E H1 (hO.rA ho (hf E)))
 rw [GF]
 simp only [h1, h2, ba, Pz]
 show (AW ((Ar P h fk n base lk).Ay s kk) (h.Df g) G (vs ++ caps)).bind _ = _
 rw [h3]
 exact hv
theorem qH {P : ep} {h : BX} {T : Nat → V} {G H : A5} {k d : Nat} {lr : List ResultVar} {vs : List V} {xx : X} {vF : ι → V} {rsN : ι → List B8} (E : ι) (hO : A6 H G (rsN E)) (hrel : ZD H.length d (rsN E)) (h1 : BP P G T lr = some vs) (h2 : FT vs = vF E) (hc : BS d (vF E) = true) (hg : h.grow k = true) (hx : xx = .normal ∨ xx = .ret) :
  VV P h k H.length d lr (fun v1 H1 => ∃ E : ι, v1 = vF E ∧ A6 H H1 (rsN E)) xx ⟨T, G⟩ := by
 have ye := hO.len
 have hlen : (Kl H.length d G).length = G.length := by unfold Kl; rw [dw, gh, ja, ko]; omega
 refine ⟨hx, vF E, Kl H.length d G, ?_, E, rfl, fun b hb => ?_, by rw [hlen]; exact hO.len, fun r hr => hrel r hr _ _ rfl ye (hO.ok r hr), hO.apart⟩
 ·simp only [h1, ba, h2, En, hg, if_true, hc]; rfl
 ·unfold Kl
  rw [J0 (by omega), ru hb]
  exact hO.pre b hb
theorem LM {t : ea} {x : ed} {b sz m off : Nat} {cs : List V} (sk : List V) (hO : A6 H G rs) (j : Nat) (ha : D7 P t = some true) (hz : B3 P t = some m) (k : BZ (Ar P h fk n base lk) ops l ⟨D6 T d (.agg sk), G⟩ Q) (h1 : ev T x = some (.ptr b off) := by rfl) (hj : rs[j]? = some (.Aj S b (.cells sz cs)) := by rfl) (hl : jn (off + m) cs.length = true := by rfl) (h3 : (cs.drop off).take m = sk := by rfl) (hd : fj d n = true := by rfl) :
  BZ (Ar P h fk n base lk) ops ((s, kk, ⟨some d, .load t x, ty, pos, aft, none⟩) :: l) ⟨T, G⟩ Q := by
 refine oE (.agg sk) (hO.W1 hj).1 ?_ k h1 hd
 subst h3
 unfold BN
 simp only [ha, hz, ba]
 rw [ru (fb hl)]
theorem rD {α : Type} [AF α] {t e : ea} {x : ed} {v v' : V} {z : List V} {m : Nat} {uz : List B8} (y : α) (hO : A6 H G rs) (hgv : lN m H rs v v' uz) (hga : sX v = true) (hnc : clean 1 v = false) (he : B0 P t = some e) (hz : B3 P e = some (AF.sz α)) (vi : BH P e = some z) (hb : base = H.length) (k : ∀ G', A6 H G' uz → BZ (Ar P h fk n base lk) ops l ⟨D6 T d (.tl ([y] : List α).length ((AB 0) [y])), G'⟩ Q)
  (hv : v'.cellsOf = AF.BD 0 y := by rfl) (ug : z.length = AF.sz α := by rfl) (hm : jn (1 * AF.sz α) 1048576 = true := by rfl) (hmd : jn m Ba = true := by rfl) (sd : h.lits fk = false := by rfl) (hkp : h.Ih fk = false := by rfl) (hgs : h.iO fk = true := by rfl) (h1 : ev T x = some v := by rfl) (hd : fj d n = true := by rfl) :
  BZ (Ar P h fk n base lk) ops ((s, kk, ⟨some d, .buildSlice t 1 #[(0, x)], ty, pos, aft, none⟩) :: l) ⟨T, G⟩ Q := by
 subst hb
 obtain ⟨G2, eg, o⟩ := hgv G hO (Ba - m)
 rw [Nat.sub_add_cancel (fb hmd)] at eg
 refine pV ?_ hd (k G2 o)
 unfold He Cn
 simp only []
 show (Sp T [(0, x)]).bind _ = _
 simp only [Sp, h1, ba, dq]
 have e0 : Fb ((Ar P h fk n H.length lk).Ay s kk) G v = some (v', G2) := by
  unfold Fb
  rw [show ((Ar P h fk n H.length lk).Ay s kk).hints.Ih ((Ar P h fk n H.length lk).Ay s kk).fn = false from hkp]
  cases s with
  | false => exact eg
  | true =>
   show (if clean 1 v then some (v, G) else if (h.iO fk && sX v) = true then AV H.length Ba G v else none) = _
   rw [hnc, hgs, hga]; exact eg
 have e1 : Cd ((Ar P h fk n H.length lk).Ay s kk) G [(0, v)] = some ([(0, v')], G2) := by
  simp only [Cd, e0, ba, dq]
 rw [e1]
 simp only [ba]
 show (B0 P t).bind _ = _
 rw [he]
 show (B3 P e).bind _ = _
 rw [hz]
 show (BH P e).bind _ = _
 rw [vi]
 simp only [ba]
 have hp : 0 < AF.sz α := AF.pos
 have xn : ((Ar P h fk n H.length lk).Ay s kk).own 1 = false := by show ((1 : Nat) != 0 && h.lits fk) = false; rw [sd]; simp
 simp only [xn, ei, if_false]
 rw [ru ⟨ug, by omega, fb hm⟩]
 have e2 : (gf 1 z).flatten = z := by simp
 have e3 : CA z (0 * AF.sz α) (AF.BD 0 y) = AF.BD 0 y := by
  unfold CA
  rw [Nat.zero_mul, List.take_zero, Nat.zero_add, List.drop_of_length_le (by rw [AF.len]; omega)]; simp
 simp only [e2, Eo, hv]
 rw [rr (by rw [AF.cell, AF.len]; simp; omega), e3]
 simp [AB]
end steps
section
variable {α : Type} [AF α] {G H : A5} {rs : List B8} {S F : List Nat} {sc : Nat} {xs : List α} {v : V} {vs : List V}
theorem qZ (h : clean 1 v = false) : clean.cleanL 1 (v :: vs) = false := by simp only [clean.cleanL, h, Bool.false_and]
theorem MZ (h : clean.cleanL 1 vs = false) : clean.cleanL 1 (v :: vs) = false := by simp only [clean.cleanL, h, Bool.and_false]
theorem kL {j : Nat} (hO : A6 H G rs) (hj : rs[j]? = some (Gr S F sc xs v)) : clean 1 v = false := by
 rcases JL (hO.tree hj).1 with rfl | ⟨b, rfl⟩ <;> rfl
theorem qK : ([] : List V).all WB = true := rfl
theorem Kh (h1 : WB v = true) (h2 : vs.all WB = true) : (v :: vs).all WB = true := by rw [List.all_cons, h1, h2]; rfl
theorem kJ {j : Nat} (hO : A6 H G rs) (hj : rs[j]? = some (Gr S F sc xs v)) : WB v = true := by
 rcases JL (hO.tree hj).1 with rfl | ⟨b, rfl⟩ <;> (simp only [WB, CH, CY]; rfl)
theorem Ie (xs : List α) : WB (.lit 0 xs.length (AB 0 xs)) = true := by simp only [WB, clean, CH]; rfl
end
section steps
variable {P : ep} {h : BX} {fk n base : Nat} {lk : Lk} {c : Cx} {ops : Array fc} {s kk : Bool} {d : Nat} {ty : ea} {pos : String} {aft : Array Edge} {l : List (Bool × Bool × fc)} {Q : St → Prop} {T : Nat → V} {G G' H H0 : A5} {rs : List B8} {op : Op} {S Sc F F2 : List Nat}
theorem uL {κ ν : Type} [GR κ] [GR ν] [DecidableEq κ] {t e : ea} {kt : KT} {x y w : ed} {b : Nat} {m : List (κ × ν)} (hO : A6 H G rs) (j : Nat) (k : κ) (v : ν) (hm : Kk P t = some (kt, e)) (hf : Jm kt κ) (sb : BK H0 H Sc) (hS : ∀ b ∈ Sc, AT lk b = true) (tc : ∀ b ∈ S, b ∈ Sc) (hb : base = H0.length)
  (kk' : ∀ H' G', BK H0 H' Sc → A6 H' G' (rs.set j (.Aj S b (.mp (BC (Dx k v m))))) → BZ (Ar P h fk n base lk) ops l ⟨T, G'⟩ Q)
  (h1 : ev T x = some (.Cm b) := by rfl) (h2 : ev T y = some (GR.pv k) := by rfl) (h3 : ev T w = some (GR.pv v) := by rfl) (hj : rs[j]? = some (.Aj S b (.mp (BC m))) := by rfl) :
  BZ (Ar P h fk n base lk) ops ((s, kk, ⟨none, .mapUpdate t x y w, ty, pos, aft, none⟩) :: l) ⟨T, G⟩ Q := by
 have tj : base = H.length := hb.trans sb.1.symm
 subst tj
 obtain ⟨hg, hlo⟩ := hO.W1 hj
 have sd : b < G.length := (du.1 hg).1
 refine fF (v := CT) ?_ (kk' _ _ (sb.set (fun hl => tc _ (hlo hl)) _) (hO.rR (x := .mp (BC (Dx k v m))) hj rfl rfl ⟨hlo, by rw [AX, ru ⟨rfl, sd⟩]⟩))
 show ((ev T x).bind fun m => (ev T y).bind fun kv => (ev T w).bind fun u => (Tl ((Ar P h fk n H.length lk).Ay s kk) t G m kv u).map fun H => (CT, H)) = _
 rw [h1, h2, h3]
 have hmK : Kk ((Ar P h fk n H.length lk).Ay s kk).P t = some (kt, e) := hm
 simp only [ba, Tl, hg, hmK]
 rw [ru ⟨GR.plain k, GR.plain v, by rw [hf k k]; simp, Mf hS fun hl => tc _ (hlo hl)⟩, Gu hf k m 0]
 unfold Dx
 cases hx : DH k m 0 with
 | none => simp only [Option.map_none, dq, QY]
 | some q => simp only [dq, Ob]
end steps
section
variable {G H : A5} {rs : List B8} {S S2 F : List Nat}
theorem A6.sT {p : A5 → Prop} (hO : A6 H G rs) (j : Nat) (hs : ∀ b ∈ S, b ∈ S2) (hj : rs[j]? = some (.tree S F p) := by rfl) : A6 H G (rs.set j (.tree S2 F p)) := by
 refine ⟨hO.pre, hO.len, fun r hr => ?_, FP hO.apart hj fun y hy => hy⟩
 obtain ⟨i, hi, e⟩ := ij.1 hr
 rw [fa] at hi
 rw [iu] at e
 split at e
 ·subst e
  have h := hO.ok _ (ee hj)
  exact ⟨fun b hb => ⟨(h.1 b hb).1, fun hl => hs b ((h.1 b hb).2 hl)⟩, h.2⟩
 ·subst e
  exact hO.ok _ (gl hi)
end
theorem CS {base d b : Nat} {S : List Nat} {x : Bv} (hb : b < base) : ZE base d (.Aj S b x) := fun H G hl hlg h => by
 refine ⟨h.1, ?_⟩
 subst hl
 unfold Kl
 rw [J0 hlg, ru hb]; exact h.2
theorem tO {d : Nat} : BS.cleanGL d [] = true := rfl
theorem U3 {d : Nat} {v : V} {vs : List V} (h1 : BS d v = true) (h2 : BS.cleanGL d vs = true) : BS.cleanGL d (v :: vs) = true := by simp only [BS.cleanGL, h1, h2, Bool.and_self]
theorem dH {v : V} {n : Nat} (h : D4 v = some n) : iR v false = some n := by cases v <;> first | exact h | simp [D4] at h
def Jl (sc : Nat) (G : A5) (w u : V) (F : List Nat) : Prop :=
 (u = w ∧ F = [] ∧ ∀ n cs, w ≠ .lit 0 n cs) ∨ ∃ n cs sz, w = .lit 0 n cs ∧ clean.cleanL 1 cs = true ∧ cs.all V.Bm = true ∧ ((n = 0 ∧ u = .tl 0 [] ∧ F = []) ∨ ∃ b l, u = .snap b n cs ∧ F = [b] ∧ G[b]? = some (.Bt l n sz) ∧ sc ≤ l ∧ cs.length = n * sz ∧ 0 < n)
def Bx (sc : Nat) (G : A5) : Nat → List V → List V → List Nat → Prop
 | _, [], us, F => us = [] ∧ F = []
 | 0, w :: ws, us, F => us = w :: ws ∧ F = []
 | k + 1, w :: ws, us, F => ∃ u tn F1 F2, us = u :: tn ∧ F = F1 ++ F2 ∧ Jl sc G w u F1 ∧ Bx sc G k ws tn F2
section
variable {sc : Nat} {G G' H H0 : A5} {w u : V} {ws us : List V} {F F1 F2 : List Nat} {rs : List B8} {S Sc : List Nat}
theorem Jl.mono (h : Jl sc G w u F) (hg : ∀ b ∈ F, G'[b]? = G[b]?) : Jl sc G' w u F := by
 rcases h with h | ⟨n, cs, sz, h1, h2, h3, h | ⟨b, l, h4, h5, h6, h7⟩⟩
 ·exact .inl h
 ·exact .inr ⟨n, cs, sz, h1, h2, h3, .inl h⟩
 ·exact .inr ⟨n, cs, sz, h1, h2, h3, .inr ⟨b, l, h4, h5, by rw [hg b (by rw [h5]; simp)]; exact h6, h7⟩⟩
theorem Bx.mono : ∀ {k : Nat} {ws us : List V} {F : List Nat}, Bx sc G k ws us F → (∀ b ∈ F, G'[b]? = G[b]?) → Bx sc G' k ws us F
 | _, [], us, F, h, _ => by unfold Bx at h ⊢; exact h
 | 0, w :: ws, us, F, h, _ => h
 | k + 1, w :: ws, us, F, h, hg => by
  obtain ⟨u, tn, F1, F2, rfl, rfl, h1, h2⟩ := h
  exact ⟨u, tn, F1, F2, rfl, rfl, h1.mono fun b hb => hg b (by simp [hb]), Bx.mono h2 fun b hb => hg b (by simp [hb])⟩
theorem Bx.zero (ws : List V) : Bx sc G 0 ws ws [] := by cases ws <;> exact ⟨rfl, rfl⟩
theorem Bx.len : ∀ {k : Nat} {ws us : List V} {F : List Nat}, Bx sc G k ws us F → us.length = ws.length
 | _, [], us, F, h => by unfold Bx at h; rw [h.1]
 | 0, w :: ws, us, F, h => by rw [h.1]
 | k + 1, w :: ws, us, F, h => by
  obtain ⟨u, tn, F1, F2, rfl, rfl, h1, h2⟩ := h
  rw [er, er, Bx.len h2]
theorem Bx.get : ∀ {k : Nat} {ws us : List V} {F : List Nat} {j : Nat}, Bx sc G k ws us F → k ≤ j → us[j]? = ws[j]?
 | _, [], us, F, j, h, _ => by unfold Bx at h; rw [h.1]
 | 0, w :: ws, us, F, j, h, _ => by rw [h.1]
 | k + 1, w :: ws, us, F, 0, h, hk => by omega
 | k + 1, w :: ws, us, F, j + 1, h, hk => by
  obtain ⟨u, tn, F1, F2, rfl, rfl, h1, h2⟩ := h
  simp only [nj]
  exact Bx.get h2 (by omega)
theorem Bx.put : ∀ {k : Nat} {ws us : List V} {F : List Nat}, Bx sc G k ws us F → ws[k]? = some w → Jl sc G w u F2 → Bx sc G (k + 1) ws (us.set k u) (F ++ F2)
 | _, [], us, F, h, hw, _ => by cases hw
 | 0, x :: ws, us, F, h, hw, hu => by
  obtain ⟨rfl, rfl⟩ := h
  simp only [List.getElem?_cons_zero, an] at hw
  subst hw
  exact ⟨u, ws, F2, [], rfl, by simp, hu, Bx.zero ws⟩
 | k + 1, x :: ws, us, F, h, hw, hu => by
  obtain ⟨u', tn, A, B, rfl, rfl, h1, h2⟩ := h
  simp only [nj] at hw
  exact ⟨u', tn.set k u, A, B ++ F2, rfl, by simp, h1, Bx.put h2 hw hu⟩
theorem Bx.skip {k : Nat} (h : Bx sc G k ws us F) (hw : ws[k]? = some w) (hn : ∀ n cs, w ≠ .lit 0 n cs) : Bx sc G (k + 1) ws us F := by
 have hu : us[k]? = some w := by rw [h.get (dz _)]; exact hw
 have := h.put hw (u := w) (F2 := []) (.inl ⟨rfl, rfl, hn⟩)
 obtain ⟨h1, h2⟩ := du.1 hu
 have e : us.set k w = us := by rw [← h2]; exact List.set_getElem_self h1
 rw [e, gi] at this
 exact this
theorem Bx.more {k j : Nat} (h : Bx sc G k ws us F) (hj : ws.length ≤ k) (zh : ws.length ≤ j) : Bx sc G j ws us F := by
 induction ws generalizing k j us F with
 | nil => unfold Bx at h ⊢; exact h
 | cons w ws ih =>
  cases k with
  | zero => simp at hj
  | succ k =>
   cases j with
   | zero => simp at zh
   | succ j =>
    obtain ⟨u, tn, F1, F2, rfl, rfl, h1, h2⟩ := h
    exact ⟨u, tn, F1, F2, rfl, rfl, h1, ih h2 (by simpa using hj) (by simpa using zh)⟩
theorem Bx.split : ∀ {a b us : List V} {F : List Nat} {k : Nat}, Bx sc G (a.length + k) (a ++ b) us F → ∃ u1 u2 F1 F2, us = u1 ++ u2 ∧ F = F1 ++ F2 ∧ Bx sc G a.length a u1 F1 ∧ Bx sc G k b u2 F2
 | [], b, us, F, k, h => ⟨[], us, [], F, rfl, rfl, by unfold Bx; exact ⟨rfl, rfl⟩, by simpa using h⟩
 | w :: a, b, us, F, k, h => by
  rw [er, show a.length + 1 + k = (a.length + k) + 1 by omega] at h
  obtain ⟨u, tn, F1, F2, rfl, rfl, h1, h2⟩ := h
  obtain ⟨u1, u2, A, B, rfl, rfl, h3, h4⟩ := Bx.split h2
  exact ⟨u :: u1, u2, F1 ++ A, B, rfl, by simp, ⟨u, u1, F1, A, rfl, rfl, h1, h3⟩, h4⟩
end
class VR (α : Type) [AF α] [Az α] : Prop where
 prom : ∀ {lo d sc : Nat} {G : A5} {us : List V} {F : List Nat} (x : α), Bx sc G (AF.sz α) (AF.BD 0 x) us F → F.Nodup → (∀ b ∈ F, lo ≤ b) → d ≤ sc → 0 < d → HN lo d (Az.dep α) (fun G => Az.tr G x) G us F
theorem Ug {sc : Nat} {G : A5} {w : V} {us : List V} {F : List Nat} (h : Bx sc G 1 [w] us F) : ∃ u, us = [u] ∧ Jl sc G w u F := by
 obtain ⟨u, tn, F1, F2, rfl, rfl, h1, h2⟩ := h
 unfold Bx at h2
 obtain ⟨rfl, rfl⟩ := h2
 exact ⟨u, rfl, by simpa using h1⟩
theorem LG {sc : Nat} {G : A5} {w : V} {us : List V} {F : List Nat} (h : Bx sc G 1 [w] us F) (hn : ∀ n cs, w ≠ .lit 0 n cs) : us = [w] ∧ F = [] := by
 obtain ⟨u, rfl, h1⟩ := Ug h
 rcases h1 with ⟨rfl, rfl, _⟩ | ⟨n, cs, sz, rfl, _⟩
 ·exact ⟨rfl, rfl⟩
 ·exact absurd rfl (hn n cs)
instance : VR Int := ⟨fun x h _ _ _ _ => by
 obtain ⟨rfl, rfl⟩ := LG h fun n cs e => by cases e
 exact TY x⟩
instance : VR Bool := ⟨fun x h _ _ _ _ => by
 obtain ⟨rfl, rfl⟩ := LG h fun n cs e => by cases e
 exact TY x⟩
instance : VR ByteArray := ⟨fun x h _ _ _ _ => by
 obtain ⟨rfl, rfl⟩ := LG h fun n cs e => by cases e
 exact TY x⟩
section
variable {α β : Type} [AF α] [Az α] [AF β] [Az β]
instance [Cq β] : VR (List β) := ⟨fun {lo d sc G us F} ys h hn hlo hd hd0 => by
 obtain ⟨u, rfl, h1⟩ := Ug h
 have h2 : 2 ≤ Az.dep (List β) := by
  show 2 ≤ Az.dep β + 1
  have : 0 < Az.dep β := Cq.pos (α := β)
  omega
 rcases h1 with ⟨rfl, rfl, hw⟩ | ⟨n, cs, sz, hw, hc, hcc, ⟨rfl, rfl, rfl⟩ | ⟨b, l, rfl, rfl, hg, hl, hlen, hn0⟩⟩
 ·exact absurd rfl (hw _ _)
 ·have e1 : ys.length = 0 := by injection hw
  have : ys = [] := ff e1
  subst this
  exact ⟨[], .nil, fun _ h => h, fun X _ k => ⟨[.tl 0 []], X.1, [], [], by rw [gi, show k + Az.dep (List β) = (k + (Az.dep (List β) - 1)) + 1 by omega]; rfl, fun _ _ => rfl, .nil, fun b hb => (by cases hb), fun _ _ => .inl ⟨rfl, rfl, rfl⟩⟩⟩
 ·have e1 : ys.length = n := by injection hw
  have e2 : AB 0 ys = cs := by injection hw
  subst e1 e2
  have e3 : sz = AF.sz β := by
   rw [By] at hlen
   exact (Nat.eq_of_mul_eq_mul_left hn0 hlen).symm
  subst e3
  refine e6 (fun X hX k => ?_) _ h2
  rw [hg] at hX
  have td := Gc (th := true) (lo := lo) (d := d) (k := k) (X := (X.1.set b .dead, X.2)) (AB 0 ys) (GV hd0 ig _ (CH ys)) (CY ys)
  have hbl := hlo b (by simp)
  rw [BO]
  simp only [hX]
  rw [rr (by omega), td]
  simp only [ba, if_true]
  rw [ru hlen]⟩
instance [VR α] [VR β] : VR (α × β) := ⟨fun {lo d sc G us F} x h hn hlo hd hd0 => by
 have h : Bx sc G (AF.sz α + AF.sz β) (AF.BD 0 x.1 ++ AF.BD 0 x.2) us F := h
 have el : (AF.BD 0 x.1).length = AF.sz α := AF.len x.1
 rw [← el] at h
 obtain ⟨u1, u2, F1, F2, rfl, rfl, h1, h2⟩ := Bx.split h
 rw [el] at h1
 obtain ⟨n1, n2, n3⟩ := KZ hn
 have p1 := VR.prom x.1 h1 n1 (fun b hb => hlo b (by simp [hb])) hd hd0
 have p2 := VR.prom x.2 h2 n2 (fun b hb => hlo b (by simp [hb])) hd hd0
 have m1 : jn (Az.dep α) (Az.dep (α × β)) = true := Nat.ble_eq.mpr (Nat.le_max_left _ _)
 have m2 : jn (Az.dep β) (Az.dep (α × β)) = true := Nat.ble_eq.mpr (Nat.le_max_right _ _)
 exact (p1.up m1).pair (p2.up m2) fun b hb tp => n3 b tp hb⟩
theorem Uf [VR α] {lo d sc : Nat} {G : A5} (hd : d ≤ sc) (hd0 : 0 < d) : ∀ {xs : List α} {us : List V} {F : List Nat}, Bx sc G (xs.length * AF.sz α) (AB 0 xs) us F → F.Nodup → (∀ b ∈ F, lo ≤ b) → HN lo d (Az.dep α) (fun G => NP Az.tr G xs) G us F
 | [], us, F, h, hn, hlo => by
  have h : Bx sc G (0 * AF.sz α) [] us F := h
  unfold Bx at h
  obtain ⟨rfl, rfl⟩ := h
  exact HN.nil
 | x :: xs, us, F, h, hn, hlo => by
  rw [Cl, er, kr, Nat.add_comm] at h
  have el : (AF.BD 0 x).length = AF.sz α := AF.len x
  rw [← el] at h
  obtain ⟨u1, u2, F1, F2, rfl, rfl, h1, h2⟩ := Bx.split h
  rw [el] at h1 h2
  obtain ⟨n1, n2, n3⟩ := KZ hn
  have p1 := VR.prom x h1 n1 (fun b hb => hlo b (by simp [hb])) hd hd0
  have p2 := Uf hd hd0 h2 n2 (fun b hb => hlo b (by simp [hb]))
  obtain ⟨A, a1, a2, a3⟩ := p1
  obtain ⟨B, b1, b2, b3⟩ := p2
  refine ⟨A ++ B, ?_, fun b hb => ?_, fun X hX k => ?_⟩
  ·rw [fy]
   exact ⟨a1, b1, fun p hp q hq e => by subst e; exact n3 p (a2 p hp) (b2 p hq)⟩
  ·rcases eb.1 hb with h | h
   ·exact ew _ (a2 b h)
   ·exact ft _ (b2 b h)
  ·exact FV.pair (t1 := fun G => Az.tr G x) (t2 := fun G => NP Az.tr G xs) (fun h hg => Az.frame h hg) (a3 X (fun b hb => hX b (ew _ hb)) k) fun Y hY => b3 Y (fun b hb => by
    rw [hY b fun h => n3 b (a2 b h) (b2 b hb)]
    exact hX b (ft _ hb)) k
end
section
variable {α : Type} [AF α]
def Tr (sc : Nat) (G : A5) (xs : List α) (v : V) (F : List Nat) (k : Nat) : Prop := ∃ F', F'.Nodup ∧ (∀ b ∈ F', b ∈ F) ∧ ((xs = [] ∧ v = .tl 0 [] ∧ F' = []) ∨
 ∃ b us F2, v = .sl b 0 xs.length ∧ G[b]? = some (.cells (AF.sz α) us) ∧ Bx sc G k (AB 0 xs) us F2 ∧ F' = b :: F2)
abbrev LV (S F : List Nat) (sc : Nat) (xs : List α) (v : V) (k : Nat) : B8 := .tree S F fun G => Tr sc G xs v F k
variable {G G' H H0 : A5} {F F2 S Sc : List Nat} {sc k : Nat} {xs : List α} {x : α} {v : V} {rs : List B8}
theorem Tr.mono (h : Tr sc G xs v F k) (hg : ∀ b ∈ F, G'[b]? = G[b]?) : Tr sc G' xs v F k := by
 obtain ⟨F', h1, h2, h3⟩ := h
 refine ⟨F', h1, h2, ?_⟩
 rcases h3 with h3 | ⟨b, us, F2, e1, e2, e3, rfl⟩
 ·exact .inl h3
 ·exact .inr ⟨b, us, F2, e1, by rw [hg b (h2 b (by simp))]; exact e2, e3.mono fun c hc => hg c (h2 c (by simp [hc])), rfl⟩
theorem mS (h : Tr sc G xs v F k) : D4 v = some xs.length := by
 obtain ⟨F', _, _, ⟨rfl, rfl, _⟩ | ⟨b, us, F2, rfl, _⟩⟩ := h <;> rfl
theorem cX {j : Nat} (hO : A6 H G rs) (hj : rs[j]? = some (LV S F sc xs v k)) (d : Nat) : BS d v = true := by
 obtain ⟨F', _, _, ⟨rfl, rfl, _⟩ | ⟨b, us, F2, rfl, _⟩⟩ := (hO.tree hj).1 <;> rfl
theorem TG {i : Int} (h : Tr sc G xs v F k) (hx : AR xs i = some x) : ∃ b us F2, v = .sl b 0 xs.length ∧ G[b]? = some (.cells (AF.sz α) us) ∧ Bx sc G k (AB 0 xs) us F2 ∧ (b :: F2).Nodup ∧ ∀ c ∈ b :: F2, c ∈ F := by
 obtain ⟨F', h1, h2, ⟨rfl, _, _⟩ | ⟨b, us, F2, e1, e2, e3, rfl⟩⟩ := h
 ·have := Fj hx; simp at this; omega
 ·exact ⟨b, us, F2, e1, e2, e3, h1, h2⟩
theorem cW {i : Int} (hx : AR xs i = some x) {off : Nat} {w : V} (hw : (AF.BD 0 x)[off]? = some w) : (AB 0 xs)[i.toNat * AF.sz α + off]? = some w := by
 have hi := Jz hx
 obtain ⟨h1, h2⟩ := du.1 hi
 have e : AB 0 xs = AB 0 (xs.take i.toNat) ++ (AF.BD 0 x ++ AB 0 (xs.drop (i.toNat + 1))) := by
  rw [← Cl, ← h2, ← List.drop_eq_getElem_cons h1, ← Gv, List.take_append_drop]
 have hl : (AB 0 (xs.take i.toNat)).length = i.toNat * AF.sz α := by rw [By, gh, Nat.min_eq_left (by omega)]
 rw [e, ← hl, fe (Nat.le_add_right _ _), Nat.add_sub_cancel_left, eh (du.1 hw).1, hw]
theorem A6.cU {j k' : Nat} {p : A5 → Prop} (hO : A6 H G rs) (hj : rs[j]? = some (.tree S F p)) {q : A5 → Prop} (h : ∀ G, p G → q G) : A6 H G (rs.set j (.tree S F q)) := by
 refine ⟨hO.pre, hO.len, fun r hr => ?_, FP hO.apart hj fun y hy => hy⟩
 obtain ⟨i, hi, e⟩ := ij.1 hr
 rw [fa] at hi
 rw [iu] at e
 split at e
 ·subst e
  have h1 := hO.ok _ (ee hj)
  exact ⟨h1.1, fun G' hg => h G' (h1.2 G' hg)⟩
 ·subst e
  exact hO.ok _ (gl hi)
theorem A6.cV {i : Int} {off : Nat} {w : V} (hO : A6 H G rs) (j : Nat) (hx : AR xs i = some x) (hw : (AF.BD 0 x)[off]? = some w) (hn : ∀ n cs, w ≠ .lit 0 n cs) (hj : rs[j]? = some (LV S F sc xs v (i.toNat * AF.sz α + off)) := by rfl) : A6 H G (rs.set j (LV S F sc xs v (i.toNat * AF.sz α + (off + 1)))) := by
 refine hO.cU (k' := 0) hj fun G h => ?_
 obtain ⟨F', h1, h2, h3⟩ := h
 refine ⟨F', h1, h2, h3.imp id fun ⟨b, us, F2, e1, e2, e3, e4⟩ => ⟨b, us, F2, e1, e2, e3.skip (cW hx hw) hn, e4⟩⟩
theorem A6.tV {k' : Nat} (hO : A6 H G rs) (j : Nat) (e : k' = k) (hj : rs[j]? = some (LV S F sc xs v k) := by rfl) : A6 H G (rs.set j (LV S F sc xs v k')) := by
 subst e
 exact hO.cU (k' := 0) hj fun G h => h
theorem A6.qO {k' : Nat} (hO : A6 H G rs) (j : Nat) (h1 : xs.length * AF.sz α ≤ k) (h2 : xs.length * AF.sz α ≤ k') (hj : rs[j]? = some (LV S F sc xs v k) := by rfl) : A6 H G (rs.set j (LV S F sc xs v k')) := by
 refine hO.cU (k' := 0) hj fun G h => ?_
 obtain ⟨F', q1, q2, h3⟩ := h
 refine ⟨F', q1, q2, h3.imp id fun ⟨b, us, F2, e1, e2, e3, e4⟩ => ⟨b, us, F2, e1, e2, e3.more (by rw [By]; exact h1) (by rw [By]; exact h2), e4⟩⟩
theorem Jl.lower {w u : V} {F : List Nat} (h : Jl sc G w u F) (hb : ∀ b ∈ F, ∀ l n sz, G[b]? = some (.Bt l n sz) → sc ≤ l → ∃ l', G'[b]? = some (.Bt l' n sz) ∧ sc ≤ l') : Jl sc G' w u F := by
 rcases h with h | ⟨n, cs, sz, h1, h2, h3, h | ⟨b, l, h4, h5, h6, h7, h8⟩⟩
 ·exact .inl h
 ·exact .inr ⟨n, cs, sz, h1, h2, h3, .inl h⟩
 ·obtain ⟨l', e1, e2⟩ := hb b (by rw [h5]; simp) l n sz h6 h7
  exact .inr ⟨n, cs, sz, h1, h2, h3, .inr ⟨b, l', h4, h5, e1, e2, h8⟩⟩
theorem Bx.lower : ∀ {k : Nat} {ws us : List V} {F : List Nat}, Bx sc G k ws us F → (∀ b ∈ F, ∀ l n sz, G[b]? = some (.Bt l n sz) → sc ≤ l → ∃ l', G'[b]? = some (.Bt l' n sz) ∧ sc ≤ l') → Bx sc G' k ws us F
 | _, [], us, F, h, _ => by unfold Bx at h ⊢; exact h
 | 0, w :: ws, us, F, h, _ => h
 | k + 1, w :: ws, us, F, h, hb => by
  obtain ⟨u, tn, F1, F2, rfl, rfl, h1, h2⟩ := h
  exact ⟨u, tn, F1, F2, rfl, rfl, h1.lower fun b tp => hb b (by simp [tp]), Bx.lower h2 fun b tp => hb b (by simp [tp])⟩
theorem rP {base d : Nat} (hd : sc ≤ d - 1) (hv : ∀ b o n, v = .sl b o n → b < base) : ZE base d (LV S F sc xs v k) := fun H G hl hlg h => by
 obtain ⟨hb, hp⟩ := h
 subst hl
 have hlen : (Kl H.length d G).length = G.length := by unfold Kl; rw [dw, gh, ja, ko]; omega
 refine ⟨fun b tp => by rw [hlen]; exact hb b tp, fun G' hg => ?_⟩
 obtain ⟨F', h1, h2, h3⟩ := hp G fun _ _ => rfl
 refine ⟨F', h1, h2, ?_⟩
 rcases h3 with h3 | ⟨b, us, F2, e1, e2, e3, rfl⟩
 ·exact .inl h3
 ·have eg : ∀ c ∈ b :: F2, G'[c]? = if c < H.length then G[c]? else (G[c]?).map (NI d) := fun c hc => by
   rw [hg c (h2 c hc)]; unfold Kl; exact J0 hlg _ _
  refine .inr ⟨b, us, F2, e1, ?_, e3.lower fun c hc l n sz e q => ?_, rfl⟩
  ·rw [eg b (by simp), ru (hv b _ _ e1)]; exact e2
  ·have := eg c (by simp [hc])
   rw [e] at this
   split at this
   ·exact ⟨l, this, q⟩
   ·exact ⟨min l (d - 1), this, by omega⟩
theorem qL {d lv : Nat} (hd : 0 < d) (j : Nat) (hO : A6 H G rs) (hj : rs[j]? = some (Gr [] F d xs v)) : ∃ u L F2 G1, (∀ k, BO true H.length d (k + 2) (G, []) v = some (u, G1, L)) ∧ G1.take H.length = H ∧ A6 H (H ++ L) [LV [] F2 lv xs u 0] := by
 obtain ⟨h, xg⟩ := hO.tree hj
 rcases h with ⟨rfl, rfl, rfl⟩ | ⟨b, l, rfl, rfl, xw, hl⟩
 ·refine ⟨.tl 0 [], [], [], G, fun k => rfl, hO.out, ?_⟩
  rw [gi]
  refine ⟨fun _ _ => rfl, dz _, fun r hr => ?_, oz ..⟩
  simp only [dt] at hr
  subst hr
  exact ⟨fun b hb => (by cases hb), fun _ _ => ⟨[], .nil, fun _ h => h, .inl ⟨rfl, rfl, rfl⟩⟩⟩
 ·have hlo := ib.1 fun h => by cases (xg b (by simp)).2 h
  have td := fun k => Gc (th := true) (lo := H.length) (d := d) (k := k) (X := (G.set b .dead, [])) (AB 0 xs) (GV hd ig _ (CH xs)) (CY xs)
  refine ⟨.sl (H.length + 0) 0 xs.length, [.cells (AF.sz α) (AB 0 xs)], [H.length], G.set b .dead, fun k => ?_, R8 hO hj fun c hc => ?_, fun c hc => by rw [eh hc], by simp, fun r hr => ?_, oz ..⟩
  ·rw [BO]
   simp only [xw]
   rw [rr (by omega), td]
   simp only [ba, if_true]
   rw [ru (By xs)]
   rfl
  ·rw [AX, rr]; rintro ⟨rfl, _⟩; exact hc (by simp)
  ·simp only [dt] at hr
   subst hr
   refine ⟨fun c hc => ?_, fun G' hg => ⟨[H.length], by simp, fun _ h => h, .inr ⟨H.length, AB 0 xs, [], rfl, ?_, Bx.zero _, rfl⟩⟩⟩
   ·simp only [dt] at hc
    subst hc
    exact ⟨by simp, fun h => by omega⟩
   ·rw [hg _ (by simp)]; exact H7 _ _
theorem cF {P : ep} {h : BX} {T : Nat → V} {k d lv : Nat} {lr : List ResultVar} {b : Bool} {xx : X} (hd : 0 < d) (hO : A6 H G rs) (j : Nat) (h1 : BP P G T lr = some [v, .bool b]) (hj : rs[j]? = some (Gr [] F d xs v) := by rfl) (hth : h.Ti k = true := by rfl) (hg : h.grow k = false := by rfl) (hx : xx = .normal ∨ xx = .ret := by first | exact Or.inl rfl | exact Or.inr rfl) :
  VV P h k H.length d lr (fun v1 H1 => ∃ E : List Nat × V, v1 = .Ei [E.2, .bool b] ∧ A6 H H1 [LV [] E.1 lv xs E.2 0]) xx ⟨T, G⟩ := by
 obtain ⟨u, L, F2, G1, e1, e2, e3⟩ := qL (lv := lv) hd j hO hj
 refine ⟨hx, .Ei [u, .bool b], H ++ L, ?_, (F2, u), rfl, e3⟩
 have e4 : BO true H.length d Ba (G, []) (.Ei [v, .bool b]) = some (.Ei [u, .bool b], G1, L) := by
  show BO true H.length d (7 + 1) (G, []) _ = _
  rw [BO]
  simp only [BO.resL, e1 5, ba]
  rfl
 simp only [h1, ba, FT, En, hg, ei, if_false, hth, e4, dq, e2]
end
section
variable {α : Type} [AF α] [Az α] [VR α] {G H : A5} {F : List Nat} {sc k : Nat} {xs : List α} {v : V} {rs : List B8}
theorem sO {dd : Nat} (hd : 0 < dd) (j : Nat) (hk : xs.length * AF.sz α ≤ k) (hj : rs[j]? = some (LV [] F dd xs v k) := by rfl) : RB (Az.dep α + 1) H dd rs [v] xs (rs.eraseIdx j) := fun X hO q => by
 obtain ⟨h, xg⟩ := hO.tree hj
 obtain ⟨F', n1, s1, h⟩ := h
 rcases h with ⟨rfl, rfl, rfl⟩ | ⟨b, us, F2, rfl, hg, hh, rfl⟩
 ·exact ⟨[.tl 0 []], X.1, [], [], by rw [gi]; rfl, hO.drop (List.eraseIdx_sublist _ _), .nil, fun b hb => (by cases hb), fun _ _ => .inl ⟨rfl, rfl, rfl⟩⟩
 ·have hb := s1 b (by simp)
  have hlo := ib.1 fun h => by cases (xg b hb).2 h
  have hul : us.length = xs.length * AF.sz α := by rw [hh.len, By]
  have hh2 : Bx dd X.1 (xs.length * AF.sz α) (AB 0 xs) us F2 := hh.more (by rw [By]; exact hk) (by rw [By]; exact dz _)
  rw [ia] at n1
  obtain ⟨F3, n3, s3, hp⟩ := Uf (lo := H.length) (dz _) hd hh2 n1.2 fun c hc => ib.1 fun h => by cases (xg c (s1 c (by simp [hc]))).2 h
  obtain ⟨c', X1, L, E, e1, t1, m1, b1, r1⟩ := hp (X.1.set b .dead, X.2) (fun c hc => by
   simp only [AX]
   rw [rr (by rintro ⟨rfl, _⟩; exact n1.1 (s3 b hc))]) q
  have hs : ∀ c, c ∉ F → X1[c]? = X.1[c]? := fun c hc => by
   rw [t1 c fun h => hc (s1 c (by simp [s3 c h]))]
   simp only [AX]
   rw [rr (by rintro ⟨rfl, _⟩; exact hc hb)]
  have td : c'.length = xs.length * AF.sz α := Ox (r1 (gf H.length .dead) (by simp))
  refine ⟨[.sl (H.length + (X.2 ++ L).length) 0 xs.length], X1, L ++ [.cells (AF.sz α) c'], (H.length + (X.2 ++ L).length) :: E, ?_, ?_, ?_, fun c hc => ?_, fun A hA => .inr ⟨_, c', E, rfl, ?_, ?_, rfl⟩⟩
  ·simp only [BO.resL, ← Nat.add_assoc]
   rw [BO, rr (by omega)]
   simp only [hg]
   have e0 : (us.drop 0).take (xs.length * AF.sz α) = us := by rw [List.drop_zero]; exact List.take_of_length_le (by omega)
   rw [rr (by omega), e0, e1]
   simp only [ba, if_true]
   rw [ru ⟨trivial, by omega⟩]
   simp only [ba, dq, eo]
  ·refine La hO hj ?_ hs
   rcases Nat.eq_zero_or_pos H.length with h0 | h0
   ·omega
   ·have h1 : X1[H.length - 1]? = X.1[H.length - 1]? := hs _ fun h => by cases (xg _ h).2 (by omega)
    have h2 : H.length - 1 < X.1.length := by have := hO.len; omega
    rw [List.getElem?_eq_getElem h2] at h1
    have := (du.1 h1).1
    omega
  ·rw [ia]
   refine ⟨fun h => ?_, m1⟩
   have := b1 _ h
   rw [dw] at this
   simp only at this
   omega
  ·rw [dw, jm]
   rcases fi.1 hc with rfl | hc
   ·rw [dw]; omega
   ·have := b1 c hc; simp only at this; omega
  ·rw [← eo X.2, ← eo A, fe (by rw [dw, hA]; exact dz _), show H.length + (X.2 ++ L).length - (A ++ (X.2 ++ L)).length = 0 by rw [dw (as := A), hA]; omega]; rfl
  ·refine Ge (r1 A hA) fun c hc => ?_
   rw [← eo X.2, ← eo A, eh]
   rw [dw, dw, hA]
   have := b1 c hc
   simp only at this
   omega
end
def vD (v : V) : Prop := ∀ b n cs, v = .snap b n cs → 0 < n
section steps
variable {P : ep} {h : BX} {fk n base : Nat} {lk : Lk} {c : Cx} {ops : Array fc} {s kk : Bool} {d : Nat} {ty : ea} {pos : String} {aft : Array Edge} {l : List (Bool × Bool × fc)} {Q : St → Prop} {T : Nat → V} {G G' H H0 : A5} {rs : List B8} {op : Op} {S Sc F F2 : List Nat}
variable {α : Type} [AF α]
theorem nL {xs : List α} {x : ed} {t : ea} {v : V} {sc q : Nat} (hO : A6 H G rs) (j : Nat) (ht : IA P t = some false) (k : BZ (Ar P h fk n base lk) ops l ⟨D6 T d (.int .i64 xs.length), G⟩ Q) (h1 : ev T x = some v := by rfl) (hj : rs[j]? = some (LV S F sc xs v q) := by rfl) (hd : fj d n = true := by rfl) :
  BZ (Ar P h fk n base lk) ops ((s, kk, ⟨some d, .call ⟨.builtin .len, #[x], #[t]⟩, ty, pos, aft, none⟩) :: l) ⟨T, G⟩ Q :=
 BE (b := false) (a := v) ht k h1 (dH (mS (hO.tree hj).1)) hd
theorem uM {xs : List α} {q : Nat} {i : Int} {x : α} {t e : ea} {y z : ed} {kd : IntKind} {v : V} {sc : Nat} (hO : A6 H G rs) (j : Nat) (hc : AR xs i = some x) (he : B0 P t = some e) (hz : B3 P e = some (AF.sz α)) (k : ∀ b, v = .sl b 0 xs.length → BZ (Ar P h fk n base lk) ops l ⟨D6 T d (.ptr b (i.toNat * AF.sz α)), G⟩ Q)
  (h1 : ev T y = some v := by rfl) (h2 : ev T z = some (.int kd i) := by rfl) (hj : rs[j]? = some (LV S F sc xs v q) := by rfl) (hd : fj d n = true := by rfl) :
  BZ (Ar P h fk n base lk) ops ((s, kk, ⟨some d, .indexAddr t y z, ty, pos, aft, none⟩) :: l) ⟨T, G⟩ Q := by
 obtain ⟨b, us, F2, rfl, _⟩ := TG (hO.tree hj).1 hc
 refine pV ?_ hd (k b rfl)
 rw [Ef]
 show (B0 P t).bind _ = _
 rw [he, ba]
 show (B3 P e).bind _ = _
 simp only [hz, h1, h2, ba, asInt, RO, D4]
 rw [ru (Fj hc)]
 simp
theorem Yj {xs : List α} {i : Int} {x : α} {t : ea} {y : ed} {v w : V} {off b q sc : Nat} (hO : A6 H G rs) (j : Nat) (hv : v = .sl b 0 xs.length) (hc : AR xs i = some x) (ha : D7 P t = some false) (hq : jn q off = true) (k : BZ (Ar P h fk n base lk) ops l ⟨D6 T d w, G⟩ Q)
  (hw : (AF.BD 0 x)[off]? = some w := by rfl) (h1 : ev T y = some (.ptr b (i.toNat * AF.sz α + off)) := by rfl) (hj : rs[j]? = some (LV S F sc xs v (i.toNat * AF.sz α + q)) := by rfl) (hd : fj d n = true := by rfl) :
  BZ (Ar P h fk n base lk) ops ((s, kk, ⟨some d, .load t y, ty, pos, aft, none⟩) :: l) ⟨T, G⟩ Q := by
 obtain ⟨b', us, F2, rfl, hg, hh, _⟩ := TG (hO.tree hj).1 hc
 cases hv
 refine oE w hg ?_ k h1 hd
 unfold BN
 rw [ha]
 show us[i.toNat * AF.sz α + off]? = some w
 rw [hh.get (Nat.add_le_add_left (fb hq) _)]
 exact cW hc hw
theorem Yk {β : Type} [AF β] {xs : List α} {i : Int} {x : α} {ys : List β} {t : ea} {y z : ed} {u v : V} {off b sc sz0 : Nat} (hO : A6 H G (.own u lk.length sz0 ys.length (AB 0 ys) :: rs)) (j : Nat) (hz : Nz u) (hzs : vD u) (hv : v = .sl b 0 xs.length) (hc : AR xs i = some x) (tu : B3 P t = some 1) (sj : sc < lk.length) (sb : BK H0 H Sc) (hS : ∀ b ∈ Sc, AT lk b = true) (tc : ∀ b ∈ S, b ∈ Sc) (hb : base = H0.length)
  (k : ∀ F' H' G', BK H0 H' Sc → A6 H' G' (rs.set j (LV S F' sc xs v (i.toNat * AF.sz α + (off + 1)))) → BZ (Ar P h fk n base lk) ops l ⟨T, G'⟩ Q)
  (hw : (AF.BD 0 x)[off]? = some (.lit 0 ys.length (AB 0 ys)) := by rfl) (h1 : ev T y = some (.ptr b (i.toNat * AF.sz α + off)) := by rfl) (h2 : ev T z = some u := by rfl) (hg : h.grow fk = true := by rfl) (hj : rs[j]? = some (LV S F sc xs v (i.toNat * AF.sz α + off)) := by rfl) :
  BZ (Ar P h fk n base lk) ops ((s, kk, ⟨none, .store t y z, ty, pos, aft, none⟩) :: l) ⟨T, G⟩ Q := by
 obtain ⟨hu1, hu2⟩ := Yi hO (j := 0) rfl
 obtain ⟨hul, huv⟩ := hO.own (k := 0) rfl
 have tj : base = H.length := hb.trans sb.1.symm
 have held : ∀ G', (∀ c ∈ (B8.own u lk.length sz0 ys.length (AB 0 ys)).CP, G'[c]? = G[c]?) → Jl sc G' (.lit 0 ys.length (AB 0 ys)) u (B8.own u lk.length sz0 ys.length (AB 0 ys)).CP := fun G' hg' => by
  refine .inr ⟨ys.length, AB 0 ys, sz0, rfl, CH ys, CY ys, ?_⟩
  rcases huv with rfl | ⟨b, rfl, uw, xp⟩
  ·have h0 := hz _ _ rfl
   have : ys = [] := ff h0
   subst this
   exact .inl ⟨rfl, rfl, rfl⟩
  ·exact .inr ⟨b, lk.length, rfl, rfl, by rw [hg' b (by simp [B8.CP])]; exact xp, kf sj, hul, hzs _ _ _ rfl⟩
 have hT := hO.swapT (j := 0) rfl rfl held
 have hT : A6 H G (.tree [] (B8.own u lk.length sz0 ys.length (AB 0 ys)).CP (fun G => Jl sc G (.lit 0 ys.length (AB 0 ys)) u (B8.own u lk.length sz0 ys.length (AB 0 ys)).CP) :: rs) := hT
 have hNn : (B8.own u lk.length sz0 ys.length (AB 0 ys)).CP.Nodup := by
  rcases huv with rfl | ⟨b, rfl, _⟩ <;> simp [B8.CP]
 generalize (B8.own u lk.length sz0 ys.length (AB 0 ys)).CP = N at hT held hNn
 have zg : ∀ r : B8, (r :: rs)[j + 1]? = some (LV S F sc xs v (i.toNat * AF.sz α + off)) := fun _ => hj
 obtain ⟨hm, xg⟩ := hT.tree (zg _)
 obtain ⟨hN, hbd2⟩ := hT.tree (j := 0) (F := N) (S := []) rfl
 have za : ∀ c ∈ N, c ∉ F := fun c hc wq => (List.pairwise_cons.1 hT.apart).1 _ (ee hj) c hc wq
 obtain ⟨b', us, E, rfl, xw, hh, hn, hE⟩ := TG hm hc
 cases hv
 have sd := (du.1 xw).1
 have hbF := hE b (by simp)
 have hat := cW hc hw
 have hlen : i.toNat * AF.sz α + off < us.length := by rw [hh.len]; exact (du.1 hat).1
 have hsp : CA us (i.toNat * AF.sz α + off) [u] = us.set (i.toNat * AF.sz α + off) u := by
  unfold CA
  rw [List.set_eq_take_append_cons_drop, ru hlen]
  simp
 have hs : ∀ c, c ∉ F → (G.set b (.cells (AF.sz α) (us.set (i.toNat * AF.sz α + off) u)))[c]? = G[c]? := fun c hc => by
  rw [AX, rr]
  rintro ⟨rfl, _⟩; exact hc hbF
 have h9 := hT.join (G' := G.set b (.cells (AF.sz α) (us.set (i.toNat * AF.sz α + off) u))) hj (fa ..) hs (p' := fun G => Tr sc G xs (.sl b 0 xs.length) (F ++ N) (i.toNat * AF.sz α + (off + 1))) fun G2 hG2 => ?_
 ·refine fF (Kg (cells := us) tu ?_ ?_ xw ?_ (by rw [hu1]; rfl) (by rw [hu1]; simp [hu2]) h1 h2) (k (F ++ N) _ _ (sb.oV hT (zg _) tc (fa ..) hs) ?_)
  ·rw [tj]
   exact Mf hS fun hl => tc _ ((xg b hbF).2 hl)
  ·have hcu : BS 1 u = true := by
    rcases huv with rfl | ⟨b, rfl, _⟩ <;> (simp only [BS]; exact Jx ig ys)
   rw [ru hg, ru hcu]; simp
  ·rw [hu1]; simp only [jm]; omega
  ·rw [hu1, hsp]; exact h9
 ·refine Tr.mono (G := G.set b (.cells (AF.sz α) (us.set (i.toNat * AF.sz α + off) u))) ⟨b :: (E ++ N), ?_, fun c hc => ?_, .inr ⟨b, us.set (i.toNat * AF.sz α + off) u, E ++ N, rfl, by rw [AX, ru ⟨rfl, sd⟩], ?_, rfl⟩⟩ hG2
  ·rw [ia] at hn
   rw [ia, fy]
   refine ⟨fun h => ?_, hn.2, hNn, fun p hp q hq e => ?_⟩
   ·rcases eb.1 h with h | h
    ·exact hn.1 h
    ·exact za b h hbF
   ·subst e; exact za p hq (hE p (by simp [hp]))
  ·rcases fi.1 hc with rfl | hc
   ·exact ew _ hbF
   ·rcases eb.1 hc with hc | hc
    ·exact ew _ (hE c (by simp [hc]))
    ·exact ft _ hc
  ·have := (hh.mono (G' := G.set b (.cells (AF.sz α) (us.set (i.toNat * AF.sz α + off) u))) fun c hc => by
    rw [AX, rr]
    rintro ⟨rfl, _⟩
    exact (ia.1 hn).1 hc).put hat (u := u) (F2 := N) (hN.mono fun c hc => by
    rw [AX, rr]
    rintro ⟨rfl, _⟩
    exact za _ hc hbF)
   exact this
theorem Kb {f : ed} {args : Array ed} {ats : Array ea} {g : jc} {fn : Func} {t e : ea} {by_ lv : Nat} {w : V} {M : List Nat} {z : List V} {xs zs : List α} (hO : A6 H G rs) (tf : CL by_ [] xs = some zs)
  (zo : P.funcs[g]? = some fn) (td : fn.body.bind Gh = some t) (he : B0 P t = some e) (hz : B3 P e = some (AF.sz α)) (vd : C3 P e = some by_) (vi : BH P e = some z)
  (k : ∀ v' G', Nz v' → vD v' → A6 H G' (.own v' lk.length (AF.sz α) xs.length (AB 0 xs) :: rs) → BZ (Ar P h fk n base lk) ops l ⟨D6 T d v', G'⟩ Q)
  (h1 : ev T f = some (.fn g []) := by rfl) (h2 : Ld T args.toList = some [w] := by rfl)
  (h3 : AW ((Ar P h fk n base lk).Ay s kk) (h.Df g) G [w] = some ([.lit lv xs.length (AB 0 xs)], M, G) := by rfl) (ug : z.length = AF.sz α := by rfl) (hnt : fj 7 fn.ntmps = true := by rfl) (hres : fn.results = #[.tmp 2] := by rfl) (ud : (fn.name == "runtime.NumGoroutine") = false := by rfl) (hg : h.grow g = true := by rfl) (yu : h.XE g = false := by rfl) (hd : fj d n = true := by rfl) :
  BZ (Ar P h fk n base lk) ops ((s, kk, ⟨some d, .call ⟨.value f, args, ats⟩, ty, pos, aft, none⟩) :: l) ⟨T, G⟩ Q := by
 obtain ⟨body, hb, td⟩ := Option.bind_eq_some_iff.1 td
 obtain rfl := ZI tf
 have hr := fun L => Rg zo hb td hnt hres ud hg he hz vd vi ug tf lv G (lk := lk ++ [L]) (by simp) yu
 by_cases h0 : zs.length = 0
 ·have hx : zs = [] := ff h0
  subst hx
  exact Ae (r := .tl 0 []) (G' := G) (fun L => by rw [hr L, ru h0]) (k _ _ Nz.nil (fun b n cs e => by cases e) (A6.HI hO lk.length ([] : List α))) h1 h2 h3 hd
 ·refine Ae (r := .snap G.length zs.length (AB 0 zs)) (G' := G ++ [.Bt lk.length zs.length (AF.sz α)]) (fun L => ?_) (k _ _ Nz.snap (fun b n cs e => by cases e; omega) (hO.push _ rfl ⟨By zs, .inr ⟨G.length, rfl, hO.len, H7 _ _⟩⟩)) h1 h2 h3 hd
  rw [hr L, rr h0, dw, jm, Nat.add_sub_cancel]
theorem qQ {α : Type} [AF α] {xs : List α} {v : V} {sc k : Nat} (hO : A6 H G rs) (j : Nat) (hF : ∀ b ∈ F, b < n) (hj : rs[j]? = some (LV S F sc xs v k) := by rfl) : ∀ b o m, v = .sl b o m → b < n := fun b o m e => by
 obtain ⟨F', _, h2, ⟨_, rfl, _⟩ | ⟨b', us, F2, rfl, _, _, rfl⟩⟩ := (hO.tree hj).1
 ·cases e
 ·cases e; exact hF _ (h2 _ (by simp))
theorem uB {ι : Type} {f : ed} {args : Array ed} {ats : Array ea} {g : jc} {caps vs so : List V} {M : List Nat} {vF : ι → V} {rsN : ι → List B8} (hO : A6 H G rs) (hlo : EK lk H.length) (hb : base = H.length)
  (hr : ∀ L, EK (lk ++ [L]) G.length → ∃ v1 H1, Aw P h g so G (lk ++ [L]) = some (v1, H1) ∧ ∃ E : ι, v1 = vF E ∧ A6 G H1 (rsN E)) (hf : ∀ E, Tc [] (rsN E))
  (k : ∀ E G', A6 H G' (rsN E ++ rs) → BZ (Ar P h fk n base lk) ops l ⟨D6 T d (vF E), G'⟩ Q)
  (h1 : ev T f = some (.fn g caps) := by rfl) (h2 : Ld T args.toList = some vs := by rfl) (h3 : AW ((Ar P h fk n base lk).Ay s kk) [] G (vs ++ caps) = some (so, M, G) := by rfl) (hd : fj d n = true := by rfl) (hm : h.Df g = [] := by rfl) :
  BZ (Ar P h fk n base lk) ops ((s, kk, ⟨some d, .call ⟨.value f, args, ats⟩, ty, pos, aft, none⟩) :: l) ⟨T, G⟩ Q := by
 obtain ⟨v1, H1, hv, E, rfl, ho⟩ := hr (((Ar P h fk n base lk).Ay s kk).C6 g M G) (hlo.push hO.len (Qb (IL _ _ _ h3) (by show base ≤ _; rw [hb]; exact hO.len)))
 refine pV (v := vF E) (G' := H1) ?_ hd (k E H1 (hO.rA ho (hf E)))
 rw [GF]
 simp only [h1, h2, ba, Pz]
 show (AW ((Ar P h fk n base lk).Ay s kk) (h.Df g) G (vs ++ caps)).bind _ = _
 rw [hm, h3]
 exact hv
end steps
def YU {α : Type} (xs : List α) : Option Unit := if xs.length ≤ 1099511627776 then some () else none
theorem iQ {α : Type} {xs : List α} {u : Unit} (h : YU xs = some u) : xs.length ≤ 1099511627776 := by
 unfold YU at h
 split at h
 ·assumption
 ·cases h
theorem nV {α : Type} {xs : List α} {i : Int} {x : α} {u : Unit} (hl : YU xs = some u) (hc : AR xs i = some x) : (AN (i + 1)).toNat = i.toNat + 1 := by
 have h1 := Fj hc
 have h2 := iQ hl
 rw [CJ ⟨by omega, by omega⟩]
 omega
theorem qR {α : Type} [AF α] {xs : List α} {i : Int} {x : α} {u : Unit} (hl : YU xs = some u) (hc : AR xs i = some x) {m : Nat} (hm : m = AF.sz α := by rfl) : (AN (i + 1)).toNat * AF.sz α + 0 = i.toNat * AF.sz α + m := by
 rw [nV hl hc, kr, hm]; omega
theorem qP {α : Type} [AF α] {xs : List α} {i : Int} (h : decide (i < (xs.length : Int)) = false) : xs.length * AF.sz α ≤ i.toNat * AF.sz α + 0 := Nat.mul_le_mul_right _ (nE h)
end Go.Proofs.YtjklepgidjimfaaGreat.K
