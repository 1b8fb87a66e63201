/-
 An interpreter of the Go code, proved sound, and the rules by which typed functions are shown to be what it computes. Part 3 of 4. No conditions.
-/
import Derived.Test.YtphpkphklegfeaaGreatK1
import Derived.WalkKit
import Derived.ProofKit
import Derived.OpenShut
import Derived.ShutString
import Derived.ChangeOld
import Derived.Below
import Derived.SizedLaws
import Derived.Carry
import Derived.IntWalk
import GoSem.ClaimFn
import Derived.KernelRfl
set_option linter.unusedVariables false
set_option linter.unusedSimpArgs false
namespace Go.Proofs.YtphpkphklegfeaaGreat.K
open Nat renaming le_refl → al, lt_of_lt_of_le → cw, lt_irrefl → jl, lt_or_ge → bz, le_max_left → ie, le_max_right → gp, blt → cm, le_of_ble_eq_true → ca, ble → fm, not_lt → dw, succ_mul → gm, add_comm → iz, one_pos → fh, add_sub_cancel_left → ic, zero_mul → nw, zero_add → gh, sub_self → fo, add_assoc → gj, pos_iff_ne_zero → ff, zero_le → dq, add_zero → ir, eq_zero_or_pos → jo, sub_add_cancel → nh, beq → dk, le_trans → cu
open List renaming mem_singleton → bh, getElem?_eq_some_iff → ak, getElem?_eq_getElem → ae, getElem?_append_left → aw, length_append → an, mem_cons → bq, pairwise_cons → cg, pairwise_iff_getElem → cz, length_set → bp, getElem_set → en, mem_of_getElem? → bj, mem_iff_getElem → ej, getElem_mem → bg, ext_getElem? → je, getElem?_take → di, getElem?_eq_none → ba, cons_append → dt, append_nil → dh, length_cons → gi, all_append → dv, getElem?_cons_zero → fb, getElem?_cons_succ → mb, append_assoc → bf, getElem?_append_right → bu, drop_append → lb, drop_of_length_le → fw, nil_append → dr, length_drop → im, set_cons_zero → my, take_zero → kr, drop_zero → ia, take_length_add_append → lj, drop_length_add_append → ll, replicate → cq, replicate_succ → kz, all_cons → gg, length_map → ee, mapM_cons → kq, drop_drop → oa, take_append_drop → mg, take_of_length_le → fy, set_append_right → ke, length_take → dn, length_replicate → ga, map_append → eh, drop_length → nm, mem_map → du, getElem?_map → dz, eq_nil_of_length_eq_zero → cp, getElem?_set → km, getElem_eraseIdx → mh, length_eraseIdx → kh, eraseIdx_sublist → gu, headD_nil → ob, tail_nil → oc, range → bt, take_length → er, all_nil → oe, length_singleton → cn, mem_append → aq, all_eq_true → cj, contains_iff_mem → mi, mem_range → cr, nodup_append → dc, mem_append_right → db, mem_append_left → cd, mem_cons_self → ck, mem_cons_of_mem → bw, drop → nq, nodup_cons → dp, take_left' → lg, drop_left' → ny, length_eq_one_iff → gl, pairwise_map → ni, pairwise_append → kl, mem_flatMap → nr
open Classical renaming choose → ei, choose_spec → de
open Option.some renaming injEq → ab, inj → av
open Option renaming bind_some → aa, bind_eq_some_iff → af, map_eq_some_iff → ag, map_some → aj, pure_def → jw, bind_eq_bind → kg, map_none → iq
open Go renaming Program → bm, Oper → ch, Operand → au, TypeId → ao, IntKind → fz, FuncId → eg, ResultVar → ed, World → et, Value → cb
open Bool renaming or_eq_true → df, false_eq_true → bd, and_eq_true → ar, and_true → ld, not_eq_true' → eb, not_eq_true → np
open Prod.mk renaming injEq → ah
open List.cons renaming injEq → ep
inductive BK where
 | AW (n : Nat) (b : Bz)
 | own (v : V) (d sz n : Nat) (cells : List V)
 | Cs (S : List Nat) (n : Nat) (b : Bz)
 | Mx (S : List Nat) (v : V) (d d1 sz n : Nat) (cells : List V)
 | tree (S F : List Nat) (p : A6 → Prop)
def BK.CO : BK → List Nat
 | .AW n _ => [n]
 | .own (.snap b _ _) _ _ _ _ => [b]
 | .Cs _ n _ => [n]
 | .Mx _ (.snap b _ _) _ _ _ _ _ => [b]
 | .tree _ F _ => F
 | _ => []
def BK.ZU : BK → Bool
 | .AW .. => true
 | .own .. => true
 | _ => false
def BK.ok (H G : A6) : BK → Prop
 | .AW n b => H.length ≤ n ∧ G[n]? = some b
 | .own v d sz n cells => cells.length = n * sz ∧ (v = .tl n cells ∨ ∃ b, v = .snap b n cells ∧ H.length ≤ b ∧ G[b]? = some (.C1 d n sz))
 | .Cs S n b => (n < H.length → n ∈ S) ∧ G[n]? = some b
 | .Mx S v d d1 sz n cells => cells.length = n * sz ∧ (v = .tl n cells ∨ ∃ b l, v = .snap b n cells ∧ G[b]? = some (.C1 l n sz) ∧ ((b < H.length ∧ b ∈ S ∧ l = d) ∨ (H.length ≤ b ∧ l = d1)))
 | .tree S F p => (∀ b ∈ F, b < G.length ∧ (b < H.length → b ∈ S)) ∧ ∀ G', (∀ b ∈ F, G'[b]? = G[b]?) → p G'
structure A4 (H G : A6) (rs : List BK) : Prop where
 pre : ∀ b, b < H.length → G[b]? = H[b]?
 len : H.length ≤ G.length
 ok : ∀ r ∈ rs, r.ok H G
 apart : rs.Pairwise fun r r' => ∀ x ∈ r.CO, x ∉ r'.CO
theorem A4.nil (H : A6) : A4 H H [] := ⟨fun _ _ => rfl, al _, fun _ h => absurd h (by simp), .nil⟩
theorem A4.drop {H G : A6} {rs rs' : List BK} (h : A4 H G rs) (hs : rs'.Sublist rs) : A4 H G rs' := ⟨h.pre, h.len, fun r hr => h.ok r (hs.subset hr), h.apart.sublist hs⟩
theorem BK.E4 {H G : A6} {r : BK} (h : r.ok H G) {x : Nat} (hx : x ∈ r.CO) : x < G.length := by
 cases r with
 | AW n b =>
  simp only [BK.CO, bh] at hx
  subst hx
  exact (ak.1 h.2).1
 | own v d sz n cells =>
  obtain ⟨_, rfl | ⟨b, rfl, h1, h2⟩⟩ := h
  ·simp [BK.CO] at hx
  ·simp only [BK.CO, bh] at hx
   subst hx
   exact (ak.1 h2).1
 | Cs S n b =>
  simp only [BK.CO, bh] at hx
  subst hx
  exact (ak.1 h.2).1
 | Mx S v d d1 sz n cells =>
  obtain ⟨_, rfl | ⟨b, l, rfl, h1, h2⟩⟩ := h
  ·simp [BK.CO] at hx
  ·simp only [BK.CO, bh] at hx
   subst hx
   exact (ak.1 h1).1
 | tree S F p => exact (h.1 x hx).1
theorem BK.MC {H G : A6} {r : BK} (h : r.ok H G) (ho : r.ZU = true) {x : Nat} (hx : x ∈ r.CO) : H.length ≤ x := by
 cases r with
 | AW n b =>
  simp only [BK.CO, bh] at hx
  subst hx
  exact h.1
 | own v d sz n cells =>
  obtain ⟨_, rfl | ⟨b, rfl, h1, h2⟩⟩ := h
  ·simp [BK.CO] at hx
  ·simp only [BK.CO, bh] at hx
   subst hx
   exact h1
 | Cs S n b => cases ho
 | Mx S v d d1 sz n cells => cases ho
 | tree S F p => cases ho
theorem BK.Eb {H G G' : A6} {r : BK} (h : r.ok H G) (hg : ∀ x ∈ r.CO, G'[x]? = G[x]?) : r.ok H G' := by
 cases r with
 | AW n b => exact ⟨h.1, by rw [hg n (by simp [BK.CO])]; exact h.2⟩
 | own v d sz n cells =>
  obtain ⟨hc, h | ⟨b, rfl, h1, h2⟩⟩ := h
  ·exact ⟨hc, .inl h⟩
  ·exact ⟨hc, .inr ⟨b, rfl, h1, by rw [hg b (by simp [BK.CO])]; exact h2⟩⟩
 | Cs S n b => exact ⟨h.1, by rw [hg n (by simp [BK.CO])]; exact h.2⟩
 | Mx S v d d1 sz n cells =>
  obtain ⟨hc, h | ⟨b, l, rfl, h1, h2⟩⟩ := h
  ·exact ⟨hc, .inl h⟩
  ·exact ⟨hc, .inr ⟨b, l, rfl, by rw [hg b (by simp [BK.CO])]; exact h1, h2⟩⟩
 | tree S F p =>
  refine ⟨fun b hb => ⟨?_, (h.1 b hb).2⟩, fun G2 h2 => h.2 G2 fun b hb => by rw [h2 b hb, hg b hb]⟩
  have e := ae (h.1 b hb).1
  rw [← hg b hb] at e
  exact (ak.1 e).1
theorem BK.Vd {H H' G : A6} {r : BK} (hl : H'.length = H.length) (h : r.ok H G) : r.ok H' G := by
 cases r with
 | AW n b => exact ⟨by rw [hl]; exact h.1, h.2⟩
 | own v d sz n cells => unfold BK.ok at h ⊢; rw [hl]; exact h
 | Cs S n b => unfold BK.ok at h ⊢; rw [hl]; exact h
 | Mx S v d d1 sz n cells => unfold BK.ok at h ⊢; rw [hl]; exact h
 | tree S F p => unfold BK.ok at h ⊢; rw [hl]; exact h
theorem A4.push {H G : A6} {rs : List BK} (h : A4 H G rs) (x : Bz) {r : BK} (hn : r.CO = [G.length]) (hr : r.ok H (G ++ [x])) : A4 H (G ++ [x]) (r :: rs) where
 pre := fun b hb => by rw [aw (cw hb h.len)]; exact h.pre b hb
 len := by rw [an]; have := h.len; omega
 ok := fun r' hr' => by
  rcases bq.1 hr' with rfl | hr'
  ·exact hr
  ·have h1 := h.ok r' hr'
   exact BK.Eb h1 fun x hx => by rw [aw (BK.E4 h1 hx)]
 apart := by
  refine cg.2 ⟨fun r' hr' x hx hx' => ?_, h.apart⟩
  rw [hn] at hx
  simp only [bh] at hx
  subst hx
  exact absurd (BK.E4 (h.ok r' hr') hx') (jl _)
theorem G5 (G : A6) (x : Bz) : (G ++ [x])[G.length]? = some x := by simp
theorem A4.alloc {H G : A6} {rs : List BK} (h : A4 H G rs) (x : Bz) : A4 H (G ++ [x]) (.AW G.length x :: rs) := h.push x rfl ⟨h.len, G5 G x⟩
theorem JE {rs : List BK} (h : rs.Pairwise fun r r' => ∀ x ∈ r.CO, x ∉ r'.CO) {k : Nat} {r r' : BK} (hk : rs[k]? = some r) (hn : ∀ x ∈ r'.CO, x ∈ r.CO) : (rs.set k r').Pairwise fun r r' => ∀ x ∈ r.CO, x ∉ r'.CO := by
 rw [cz] at h ⊢
 intro i j hi hj hij x hx hx'
 simp only [bp] at hi hj
 simp only [en] at hx hx'
 obtain ⟨hk1, hk2⟩ := ak.1 hk
 split at hx
 ·rename_i e
  subst e
  rw [if_neg (by omega)] at hx'
  refine h k j hk1 hj hij x ?_ hx'
  rw [hk2]; exact hn x hx
 ·split at hx'
  ·rename_i e
   subst e
   refine h i k hi hk1 hij x hx ?_
   rw [hk2]; exact hn x hx'
  ·exact h i j hi hj hij x hx hx'
theorem A4.set {H G : A6} {rs : List BK} (h : A4 H G rs) {k n : Nat} {r r' : BK} {x : Bz} (hk : rs[k]? = some r) (hr : r.CO = [n]) (hn : r'.CO = [n]) (ho : r'.ok H (G.set n x)) (hw : r.ZU = true := by rfl) : A4 H (G.set n x) (rs.set k r') where
 pre := fun b hb => by
  rw [Ai, if_neg]
  ·exact h.pre b hb
  ·rintro ⟨rfl, _⟩
   have := BK.MC (h.ok r (bj hk)) hw (x := n) (by rw [hr]; simp)
   omega
 len := by rw [bp]; exact h.len
 ok := fun r2 hr2 => by
  obtain ⟨j, hj, e⟩ := ej.1 hr2
  simp only [bp] at hj
  rw [en] at e
  split at e
  ·rw [← e]; exact ho
  ·rename_i hne
   subst e
   obtain ⟨hk1, hk2⟩ := ak.1 hk
   have h1 := h.ok _ (bg hj)
   refine BK.Eb h1 fun y hy => ?_
   rw [Ai, if_neg]
   rintro ⟨rfl, _⟩
   have hp := cz.1 h.apart
   rcases bz k j with hkj | hkj
   ·exact hp k j hk1 hj hkj n (by rw [hk2, hr]; simp) hy
   ·exact hp j k hj hk1 (by omega) n hy (by rw [hk2, hr]; simp)
 apart := JE h.apart hk (by rw [hr, hn]; exact fun _ h => h)
theorem A4.VD {H G : A6} {rs : List BK} (h : A4 H G rs) {k n : Nat} {S : List Nat} {b : Bz} (hk : rs[k]? = some (.Cs S n b)) : G[n]? = some b ∧ (n < H.length → n ∈ S) :=
 let x := h.ok _ (bj hk); ⟨x.2, x.1⟩
theorem A4.get {H G : A6} {rs : List BK} (h : A4 H G rs) {k n : Nat} {b : Bz} (hk : rs[k]? = some (.AW n b)) : G[n]? = some b ∧ H.length ≤ n :=
 let x := h.ok _ (bj hk); ⟨x.2, x.1⟩
theorem A4.out {H G : A6} {rs : List BK} (h : A4 H G rs) : G.take H.length = H := by
 apply je
 intro i
 rw [di]
 split
 ·rename_i hi; exact h.pre i hi
 ·rename_i hi; rw [ba (by omega)]
def CM (l : List (Nat × V)) (J : Nat → V) : Nat → V := l.foldr (fun p f => Cw f p.1 p.2) J
def W9 (T : Nat → V) : List (Nat × V) → Prop
 | [] => True
 | (d, v) :: l => T d = v ∧ W9 T l
theorem Ub {T : Nat → V} {d : Nat} {v : V} (h : T d = v) : Cw T d v = T := by
 funext i
 unfold Cw
 split
 ·rename_i e; rw [e, h]
 ·rfl
theorem Tv {T : Nat → V} : ∀ {l : List (Nat × V)}, W9 T l → CM l T = T
 | [], _ => rfl
 | (d, v) :: l, h => by
  show Cw (CM l T) d v = T
  rw [Tv h.2]
  exact Ub h.1
theorem bc {p : Prop} {b : Bool} (h1 : b = true → p) (h2 : b = false → p) : p := by cases b; exact h2 rfl; exact h1 rfl
theorem St.CM {T : Nat → V} {G : A6} (l : List (Nat × V)) (h : W9 T l) : (⟨T, G⟩ : St) = ⟨K.CM l T, G⟩ := by rw [Tv h]
theorem sh {T : Nat → V} {G : A6} {l : List (Nat × V)} (h : W9 T l := by repeat (first | exact trivial | refine ⟨rfl, ?_⟩)) : (⟨T, G⟩ : St) = ⟨K.CM l T, G⟩ := St.CM l h
def GD {σ ρ : Type} (F : σ → Option (σ ⊕ ρ)) : Nat → σ → Option ρ
 | 0, _ => none
 | n + 1, s => match F s with
  | some (.inl s') => GD F n s'
  | some (.inr r) => some r
  | none => none
theorem Q3 {σ ρ : Type} {F : σ → Option (σ ⊕ ρ)} : ∀ {n m : Nat}, n ≤ m → ∀ {s : σ} {r : ρ}, GD F n s = some r → GD F m s = some r
 | 0, m, _, s, r, h => by simp [GD] at h
 | n + 1, 0, hnm, s, r, h => by omega
 | n + 1, m + 1, hnm, s, r, h => by
  simp only [GD] at h ⊢
  split at h
  ·exact Q3 (by omega) h
  ·exact h
  ·cases h
open Classical in
noncomputable def AG {σ ρ : Type} (F : σ → Option (σ ⊕ ρ)) (s : σ) : Option ρ :=
 if h : ∃ n r, GD F n s = some r then some (ei (de h)) else none
theorem Q4 {σ ρ : Type} {F : σ → Option (σ ⊕ ρ)} {n : Nat} {s : σ} {r : ρ} (h : GD F n s = some r) : AG F s = some r := by
 have hx : ∃ n r, GD F n s = some r := ⟨n, r, h⟩
 unfold AG
 rw [dif_pos hx]
 have h1 := de (de hx)
 have h2 := Q3 (ie n (ei hx)) h
 have h3 := Q3 (gp n (ei hx)) h1
 rw [← h3, h2]
theorem M8 {σ ρ : Type} {F : σ → Option (σ ⊕ ρ)} {s : σ} {r : ρ} (h : AG F s = some r) : ∃ n, GD F n s = some r := by
 unfold AG at h
 split at h
 ·rename_i hx
  simp only [ab] at h
  exact ⟨_, h ▸ de (de hx)⟩
 ·cases h
theorem Be {σ ρ : Type} (F : σ → Option (σ ⊕ ρ)) (s : σ) : AG F s = (F s).bind fun x => match x with | .inl s' => AG F s' | .inr r => some r := by
 cases h : F s with
 | none =>
  simp only [Option.bind_none]
  cases hl : AG F s with
  | none => rfl
  | some r =>
   obtain ⟨n, hn⟩ := M8 hl
   cases n with
   | zero => simp [GD] at hn
   | succ n => simp [GD, h] at hn
 | some x =>
  simp only [aa]
  cases x with
  | inr r => exact Q4 (n := 1) (by simp [GD, h])
  | inl s' =>
   simp only []
   cases hl : AG F s' with
   | some r =>
    obtain ⟨n, hn⟩ := M8 hl
    exact Q4 (n := n + 1) (by simp [GD, h, hn])
   | none =>
    cases hl2 : AG F s with
    | none => rfl
    | some r =>
     obtain ⟨n, hn⟩ := M8 hl2
     cases n with
     | zero => simp [GD] at hn
     | succ n =>
      simp only [GD, h] at hn
      rw [Q4 hn] at hl
      cases hl
section
variable {P : bm} {h : Bp} {fk n base : Nat} {lk : Lk} {c : Cx} {ops : Array ch} {S : St} {Q : X → St → Prop}
theorem A9 {p : Code} {σ ρ : Type} {F : σ → Option (σ ⊕ ρ)} {r : ρ} (Rel : σ → St → Prop) {s : σ} (hl : AG F s = some r) (h0 : Rel s S)
  (step : ∀ s S x, Rel s S → F s = some x → (∀ r', x = .inr r' → r' = r) → GZ c p S (Pp (fun S' => ∃ s', x = .inl s' ∧ Rel s' S') Q)) : GZ c (.loop p) S Q := by
 obtain ⟨m, hm⟩ := M8 hl
 clear hl
 refine bQ (fun k S => ∃ s, Rel s S ∧ GD F k s = some r) m ⟨s, h0, hm⟩ ?_
 rintro k S1 _ ⟨s1, hr, hl⟩
 cases k with
 | zero => simp [GD] at hl
 | succ k =>
  simp only [GD] at hl
  split at hl
  ·rename_i s2 hs2
   refine MR (step s1 S1 _ hr hs2 (fun r' e => by cases e)) ?_
   intro x S' hx
   cases x with
   | normal =>
    obtain ⟨s', e, hr'⟩ := hx
    simp only [Sum.inl.injEq] at e
    subst e
    exact ⟨k, Nat.lt_succ_self k, s2, hr', hl⟩
   | exit i => exact hx
   | ret => exact hx
  ·rename_i r' hs2
   simp only [ab] at hl
   refine MR (step s1 S1 _ hr hs2 (fun r'' e => by cases e; exact hl)) ?_
   intro x S' hx
   cases x with
   | normal => obtain ⟨s', e, _⟩ := hx; cases e
   | exit i => exact hx
   | ret => exact hx
  ·cases hl
theorem By {p q : Code} (M : St → Prop) (h1 : GZ c p S (Pp M Q)) (h2 : ∀ S', M S' → GZ c q S' Q) : GZ c (.seq p q) S Q := by
 rw [XB]
 refine MR h1 fun x S' hx => ?_
 cases x with
 | normal => exact h2 S' hx
 | exit i => exact hx
 | ret => exact hx
theorem AV {p q : Code} (h1 : GZ c p S (Pp (fun S' => GZ c q S' Q) Q)) : GZ c (.seq p q) S Q := by rw [XB]; exact h1
theorem Bs {id : Nat} {l : List ch} (hq : BU (B5 P h fk n base lk) l.toArray (l.map fun o => (false, false, o)) S (Q .normal)) : GZ (B5 P h fk n base lk) (.region id l.toArray false) S Q := by
 rw [W6 ⟨rfl, rfl⟩]; exact hq
def Uk (id : Nat) (Q : X → St → Prop) : X → St → Prop := fun x S' => match x with | .exit i => if i = id then Q .normal S' else Q (.exit i) S' | x => Q x S'
theorem BO {id : Nat} {p : Code} (h1 : GZ c p S (Uk id Q)) : GZ c (.block id p) S Q := by
 rw [YH]
 refine MR h1 fun x S' hx => ?_
 cases x <;> exact hx
theorem bn {id : Nat} (h : Q .normal S) : Uk id Q .normal S := h
theorem be {id : Nat} (h : Q .normal S) : Uk id Q (.exit id) S := by unfold Uk; simp only [if_true]; exact h
theorem bo {id i : Nat} (hi : (i == id) = false := by rfl) (h : Q (.exit i) S) : Uk id Q (.exit i) S := by
 unfold Uk
 simp only [beq_eq_false_iff_ne, ne_eq] at hi
 simp only [hi, if_false]
 exact h
theorem br {id : Nat} (h : Q .ret S) : Uk id Q .ret S := h
theorem gn {k : St → Prop} (h : k S) : Pp k Q .normal S := h
theorem ge {k : St → Prop} {i : Nat} (h : Q (.exit i) S) : Pp k Q (.exit i) S := h
theorem gr {k : St → Prop} (h : Q .ret S) : Pp k Q .ret S := h
theorem bs {α β : Type} {x : Option α} {f : α → Option β} {r : β} (h : x.bind f = some r) : ∃ v, x = some v ∧ f v = some r := af.1 h
theorem bk {α β : Type} {x : Option α} {f : α → Option β} {r : β} {P : Prop} (h : x.bind f = some r) (k : ∀ v, x = some v → f v = some r → P) : P := by
 obtain ⟨v, h1, h2⟩ := bs h
 exact k v h1 h2
theorem ct {α : Type} {b : Bool} {x y z : α} (hb : b = true) (h : (bif b then x else y) = z) : x = z := by subst hb; exact h
theorem cf {α : Type} {b : Bool} {x y z : α} (hb : b = false) (h : (bif b then x else y) = z) : y = z := by subst hb; exact h
theorem lx {σ ρ : Type} {x : σ ⊕ ρ} {r : ρ} {y : Option ρ} (hx : ∀ r', x = .inr r' → r' = r) (h : y.map Sum.inr = some x) : y = some r := by
 rw [ag] at h
 obtain ⟨r', h1, h2⟩ := h
 rw [h1, hx r' h2.symm]
theorem rR {y : au} {p q : Code} {b : Bool} (h1 : b = true → GZ c p S Q) (h2 : b = false → GZ c q S Q) (hy : ev S.T y = some (.bool b) := by rfl) : GZ c (.cond y p q) S Q := by
 rw [bN, hy, bS, YG]
 cases b with
 | true => exact h1 rfl
 | false => exact h2 rfl
theorem Ak {y : au} {p q : Code} {b : Bool} {α : Type} {x1 x2 z : α} (hk : (bif b then x1 else x2) = z) (h1 : x1 = z → GZ c p S Q) (h2 : x2 = z → GZ c q S Q) (hy : ev S.T y = some (.bool b) := by rfl) : GZ c (.cond y p q) S Q := rR (fun hb => h1 (ct hb hk)) (fun hb => h2 (cf hb hk)) hy
theorem Ao (h : Q .normal S) : GZ c .skip S Q := by rw [bR]; exact h
theorem D5 {id : Nat} (h : Q (.exit id) S) : GZ c (.exit id) S Q := by rw [bP]; exact h
theorem Au (h : Q .ret S) : GZ c .ret S Q := by rw [fU]; exact h
theorem fV {l1 l2 : List (Bool × Bool × ch)} {Q : St → Prop} (M : St → Prop) (h1 : BU c ops l1 S M) (h2 : ∀ S', M S' → BU c ops l2 S' Q) : BU c ops (l1 ++ l2) S Q := by
 obtain ⟨S1, h3, h4⟩ := h1
 obtain ⟨S2, h5, h6⟩ := h2 S1 h4
 refine ⟨S2, ?_, h6⟩
 clear h2 h4 h6
 induction l1 generalizing S with
 | nil => simp only [NA, ab] at h3; subst h3; exact h5
 | cons x l1 ih =>
  obtain ⟨s, k, o⟩ := x
  simp only [NA, dt, af] at h3 ⊢
  obtain ⟨S3, h7, h8⟩ := h3
  exact ⟨S3, h7, ih h8⟩
section steps
variable {s kk : Bool} {d : Nat} {ty : ao} {pos : String} {aft : Array Edge} {l : List (Bool × Bool × ch)} {Q : St → Prop} {T : Nat → V} {G G' H : A6} {rs : List BK} {op : Op}
theorem pV {v : V} (hv : Hi ((B5 P h fk n base lk).BQ s kk) op ⟨T, G⟩ = some (v, G')) (hd : cm d n = true) (k : BU (B5 P h fk n base lk) ops l ⟨Cw T d v, G'⟩ Q) :
  BU (B5 P h fk n base lk) ops ((s, kk, ⟨some d, op, ty, pos, aft, none⟩) :: l) ⟨T, G⟩ Q := by
 rw [bU]
 exact ⟨ca hd, v, G', hv, k⟩
theorem a7 {v : V} (hv : Hi ((B5 P h fk n base lk).BQ s kk) op ⟨T, G⟩ = some (v, G')) (k : BU (B5 P h fk n base lk) ops l ⟨T, G'⟩ Q) :
  BU (B5 P h fk n base lk) ops ((s, kk, ⟨none, op, ty, pos, aft, none⟩) :: l) ⟨T, G⟩ Q := by
 rw [bT]
 exact ⟨v, G', hv, k⟩
theorem pE (k : Q ⟨T, G⟩) : BU c ops [] ⟨T, G⟩ Q := by rw [fW]; exact k
theorem pM {x : au} (v : V) (k : BU (B5 P h fk n base lk) ops l ⟨Cw T d v, G⟩ Q) (h1 : ev T x = some v := by rfl) (hd : cm d n = true := by rfl) :
  BU (B5 P h fk n base lk) ops ((s, kk, ⟨some d, .move x, ty, pos, aft, none⟩) :: l) ⟨T, G⟩ Q := pV (by rw [Zq]; simp only [h1, aj]) hd k
theorem pA {x : au} (v : V) (k : BU (B5 P h fk n base lk) ops l ⟨Cw T d v, G⟩ Q) (h1 : ev T x = some v := by rfl) (hd : cm d n = true := by rfl) :
  BU (B5 P h fk n base lk) ops ((s, kk, ⟨some d, .assign x, ty, pos, aft, none⟩) :: l) ⟨T, G⟩ Q := pV (by rw [Vf]; simp only [h1, aj]) hd k
theorem pB {bo : BinOp} {t t2 : ao} {x y : au} {a b v : V} (k : BU (B5 P h fk n base lk) ops l ⟨Cw T d v, G⟩ Q) (h1 : ev T x = some a := by rfl) (h2 : ev T y = some b := by rfl) (h3 : Qe P bo t a b = some v := by rfl) (hd : cm d n = true := by rfl) :
  BU (B5 P h fk n base lk) ops ((s, kk, ⟨some d, .binOp bo t x y t2, ty, pos, aft, none⟩) :: l) ⟨T, G⟩ Q := by
 refine pV ?_ hd k
 rw [Xs]
 simp only [h1, h2, aa]
 show (Qe P bo t a b).map _ = _
 rw [h3]; rfl
theorem AO {bo : BinOp} {t t2 : ao} {x y : au} {kd : fz} {a b : Int} {v : V} (k : BU (B5 P h fk n base lk) ops l ⟨Cw T d v, G⟩ Q) (h1 : ev T x = some (.int kd a) := by rfl) (h2 : ev T y = some (.int kd b) := by rfl) (h3 : We bo kd a b = some v := by rfl) (hd : cm d n = true := by rfl) :
  BU (B5 P h fk n base lk) ops ((s, kk, ⟨some d, .binOp bo t x y t2, ty, pos, aft, none⟩) :: l) ⟨T, G⟩ Q := pB k h1 h2 ((if_pos rfl).trans h3) hd
theorem pU {uo : UnOp} {t : ao} {x : au} {a v : V} (k : BU (B5 P h fk n base lk) ops l ⟨Cw T d v, G⟩ Q) (h1 : ev T x = some a := by rfl) (h3 : pN uo a = some v := by rfl) (hd : cm d n = true := by rfl) :
  BU (B5 P h fk n base lk) ops ((s, kk, ⟨some d, .unOp uo t x, ty, pos, aft, none⟩) :: l) ⟨T, G⟩ Q := by
 refine pV ?_ hd k
 rw [Zr]
 simp only [h1, h3, aa, aj]
theorem pF {st : ao} {x : au} {f off : Nat} {a v : V} (hf : AR P st f = some off) (k : BU (B5 P h fk n base lk) ops l ⟨Cw T d v, G⟩ Q) (h1 : ev T x = some a := by rfl) (h3 : eQ a off = some v := by rfl) (hd : cm d n = true := by rfl) :
  BU (B5 P h fk n base lk) ops ((s, kk, ⟨some d, .fieldAddr st x f, ty, pos, aft, none⟩) :: l) ⟨T, G⟩ Q := by
 refine pV ?_ hd k
 rw [Qu]
 show (AR P st f).bind _ = _
 simp only [hf, h1, h3, aa, aj]
theorem Ae {x : au} {t : ao} {b : Bool} {a : V} {m : Nat} (ht : IM P t = some b) (k : BU (B5 P h fk n base lk) ops l ⟨Cw T d (.int .i64 m), G⟩ Q) (h1 : ev T x = some a := by rfl) (h3 : k8 a b = some m := by rfl) (hd : cm d n = true := by rfl) :
  BU (B5 P h fk n base lk) ops ((s, kk, ⟨some d, .call ⟨.builtin .len, #[x], #[t]⟩, ty, pos, aft, none⟩) :: l) ⟨T, G⟩ Q := by
 refine pV ?_ hd k
 rw [eT]
 show (IM P t).bind _ = _
 simp only [ht, h1, h3, aa, aj]
theorem CT {t : ao} {x : au} {b off sz : Nat} {cs : List V} (hO : A4 H G rs) (j : Nat) (v : V) (ha : Cz P t = some false) (k : BU (B5 P h fk n base lk) ops l ⟨Cw T d v, G⟩ Q) (h1 : ev T x = some (.ptr b off) := by rfl) (hj : rs[j]? = some (.AW b (.cells sz cs)) := by rfl) (h2 : cs[off]? = some v := by rfl) (hd : cm d n = true := by rfl) :
  BU (B5 P h fk n base lk) ops ((s, kk, ⟨some d, .load t x, ty, pos, aft, none⟩) :: l) ⟨T, G⟩ Q := by
 refine pV ?_ hd k
 rw [K7]
 simp only [h1, aa, FL, (hO.get hj).1]
 show (BF P t cs off).map _ = _
 unfold BF
 simp only [ha, h2, aj]
theorem D9 {t : ao} {x : au} {b off sz m : Nat} {cs : List V} (hO : A4 H G rs) (j : Nat) (cs' : List V) (ha : Cz P t = some true) (hz : B8 P t = some m) (k : BU (B5 P h fk n base lk) ops l ⟨Cw T d (.agg cs'), G⟩ Q) (h1 : ev T x = some (.ptr b off) := by rfl) (hj : rs[j]? = some (.AW b (.cells sz cs)) := by rfl) (h2 : fm (off + m) cs.length = true := by rfl) (h3 : (cs.drop off).take m = cs' := by rfl) (hd : cm d n = true := by rfl) :
  BU (B5 P h fk n base lk) ops ((s, kk, ⟨some d, .load t x, ty, pos, aft, none⟩) :: l) ⟨T, G⟩ Q := by
 subst h3
 refine pV ?_ hd k
 rw [K7]
 simp only [h1, aa, FL, (hO.get hj).1]
 show (BF P t cs off).map _ = _
 unfold BF
 simp only [ha, hz, aa, if_pos (ca h2), aj]
theorem qA {t : ao} {x : au} {b off sz : Nat} {cs : List V} (v : V) (hO : A4 H G rs) (hb : H[b]? = some (.cells sz cs)) (ha : Cz P t = some false) (k : BU (B5 P h fk n base lk) ops l ⟨Cw T d v, G⟩ Q) (h1 : ev T x = some (.ptr b off) := by rfl) (h2 : cs[off]? = some v := by rfl) (hd : cm d n = true := by rfl) :
  BU (B5 P h fk n base lk) ops ((s, kk, ⟨some d, .load t x, ty, pos, aft, none⟩) :: l) ⟨T, G⟩ Q := by
 refine pV ?_ hd k
 rw [K7]
 have hg : G[b]? = some (.cells sz cs) := by rw [hO.pre b (ak.1 hb).1]; exact hb
 simp only [h1, aa, FL, hg]
 show (BF P t cs off).map _ = _
 unfold BF
 simp only [ha, h2, aj]
theorem Bq {t : ao} {x : au} {lv off : Nat} {cs : List V} (v : V) (hr : BF P t cs off = some v) (k : BU (B5 P h fk n base lk) ops l ⟨Cw T d v, G⟩ Q) (h1 : ev T x = some (.lp lv cs off) := by rfl) (hd : cm d n = true := by rfl) :
  BU (B5 P h fk n base lk) ops ((s, kk, ⟨some d, .load t x, ty, pos, aft, none⟩) :: l) ⟨T, G⟩ Q := by
 refine pV ?_ hd k
 rw [K7]
 simp only [h1, aa, FL]
 show (BF P t cs off).map _ = _
 rw [hr]; rfl
theorem eZ {t : ao} {x : au} {b off sz : Nat} {cs : List V} (v : V) (hb : G[b]? = some (.cells sz cs)) (hr : BF P t cs off = some v) (k : BU (B5 P h fk n base lk) ops l ⟨Cw T d v, G⟩ Q) (h1 : ev T x = some (.ptr b off) := by rfl) (hd : cm d n = true := by rfl) :
  BU (B5 P h fk n base lk) ops ((s, kk, ⟨some d, .load t x, ty, pos, aft, none⟩) :: l) ⟨T, G⟩ Q := by
 refine pV ?_ hd k
 rw [K7]
 simp only [h1, aa, FL, hb]
 show (BF P t cs off).map _ = _
 rw [hr]; rfl
theorem BR {t : ao} {x : au} {m : Nat} {v : V} {cs : List V} (hO : A4 H G rs) (hz : B8 P t = some m) (k : ∀ b G', A4 H G' (.AW b (.cells m cs) :: rs) → BU (B5 P h fk n base lk) ops l ⟨Cw T d (.ptr b 0), G'⟩ Q) (h1 : ev T x = some v := by rfl) (h2 : v.cellsOf = cs := by rfl) (h3 : cs.all V.Bm = true := by rfl) (hd : cm d n = true := by rfl) :
  BU (B5 P h fk n base lk) ops ((s, kk, ⟨some d, .box t x, ty, pos, aft, none⟩) :: l) ⟨T, G⟩ Q := by
 refine pV ?_ hd (k _ _ (hO.alloc (.cells m cs)))
 rw [Wh]
 show (B8 P t).bind _ = _
 simp only [hz, h1, h2, h3, aa, if_true]
theorem C9 {t : ao} {m : Nat} {z : List V} (hO : A4 H G rs) (hz : B8 P t = some m) (h1 : BJ P t = some z) (k : ∀ b G', A4 H G' (.AW b (.cells m z) :: rs) → BU (B5 P h fk n base lk) ops l ⟨Cw T d (.ptr b 0), G'⟩ Q) (hd : cm d n = true := by rfl) :
  BU (B5 P h fk n base lk) ops ((s, kk, ⟨some d, .alloc t, ty, pos, aft, none⟩) :: l) ⟨T, G⟩ Q := by
 refine pV ?_ hd (k _ _ (hO.alloc (.cells m z)))
 rw [Xr]
 show (B8 P t).bind _ = _
 simp only [hz]
 show (BJ P t).bind _ = _
 simp only [h1, aa]
theorem Cg {t : ao} {x y : au} {b off sz m : Nat} {cs xs : List V} {v : V} (hO : A4 H G rs) (j : Nat) (hz : B8 P t = some m) (hb : base = H.length) (k : ∀ G', A4 H G' (rs.set j (.AW b (.cells sz (Bo cs off xs)))) → BU (B5 P h fk n base lk) ops l ⟨T, G'⟩ Q) (h1 : ev T x = some (.ptr b off) := by rfl) (hj : rs[j]? = some (.AW b (.cells sz cs)) := by rfl) (h2 : ev T y = some v := by rfl) (h3 : v.cellsOf = xs := by rfl) (h4 : xs.length = m := by rfl) (h5 : fm (off + m) cs.length = true := by rfl) (h6 : xs.all V.Bm = true := by rfl) :
  BU (B5 P h fk n base lk) ops ((s, kk, ⟨none, .store t x y, ty, pos, aft, none⟩) :: l) ⟨T, G⟩ Q := by
 subst hb h3 h4
 obtain ⟨hg, hbb⟩ := hO.get hj
 have hlt : b < G.length := (ak.1 hg).1
 refine a7 (v := Ck) ?_ (k _ (hO.set (x := .cells sz (Bo cs off v.cellsOf)) hj rfl rfl ⟨hbb, by rw [Ai, if_pos ⟨rfl, hlt⟩]⟩))
 rw [N9]
 simp only [h1, h2, aa, G7]
 have hm : ((B5 P h fk n H.length lk).BQ s kk).BV b = true := by
  unfold Cx.BV
  simp only [df, decide_eq_true_eq]
  exact .inl hbb
 have hnb : ¬ b < ((B5 P h fk n H.length lk).BQ s kk).base := dw.2 hbb
 rw [if_pos hm, if_neg hnb]
 simp only [aa, hg]
 rw [if_pos ⟨hz, ca h5, h6⟩]
 rfl
theorem Cm {x y z : au} {b : Bool} (hb : b = true) (v : V) (k : BU (B5 P h fk n base lk) ops l ⟨Cw T d v, G⟩ Q) (h1 : ev T x = some (.bool b) := by rfl) (h2 : ev T y = some v := by rfl) (hd : cm d n = true := by rfl) :
  BU (B5 P h fk n base lk) ops ((s, kk, ⟨some d, .pick x y z, ty, pos, aft, none⟩) :: l) ⟨T, G⟩ Q := by subst hb; exact pV (by rw [U7]; simp only [h1, h2, aa, Vm, aj]) hd k
theorem Cl {x y z : au} {b : Bool} (hb : b = false) (v : V) (k : BU (B5 P h fk n base lk) ops l ⟨Cw T d v, G⟩ Q) (h1 : ev T x = some (.bool b) := by rfl) (h2 : ev T z = some v := by rfl) (hd : cm d n = true := by rfl) :
  BU (B5 P h fk n base lk) ops ((s, kk, ⟨some d, .pick x y z, ty, pos, aft, none⟩) :: l) ⟨T, G⟩ Q := by subst hb; exact pV (by rw [U7]; simp only [h1, h2, aa, UB, aj]) hd k
theorem AA {dst : Option Nat} {j t : Nat} {w b : Bool} (hb : b = w) (k : BU c ops ((s, kk, ⟨dst, op, ty, pos, aft, none⟩) :: l) ⟨T, G⟩ Q) (hj : (ops[j]?).bind (·.dst) = some t := by rfl) (ht : T t = .bool b := by rfl) : BU c ops ((s, kk, ⟨dst, op, ty, pos, aft, some (j, w)⟩) :: l) ⟨T, G⟩ Q := by
 subst hb
 obtain ⟨S', h1, h2⟩ := k
 refine ⟨S', ?_, h2⟩
 simp only [NA] at h1 ⊢
 rw [← h1]
 have : Bx (c.BQ s kk) ops ⟨dst, op, ty, pos, aft, some (j, b)⟩ ⟨T, G⟩ = Bx (c.BQ s kk) ops ⟨dst, op, ty, pos, aft, none⟩ ⟨T, G⟩ := by
  unfold Bx D1
  simp only [hj, ht, beq_self_eq_true, aa, if_true]
  rfl
 rw [this]
theorem Bg {j t : Nat} {w b : Bool} (hb : b = !w) (k : BU (B5 P h fk n base lk) ops l ⟨Cw T d Ck, G⟩ Q) (hj : (ops[j]?).bind (·.dst) = some t := by rfl) (ht : T t = .bool b := by rfl) (hd : cm d n = true := by rfl) :
  BU (B5 P h fk n base lk) ops ((s, kk, ⟨some d, op, ty, pos, aft, some (j, w)⟩) :: l) ⟨T, G⟩ Q := by
 subst hb
 rw [Rp]
 refine ⟨ca hd, false, ?_, ?_⟩
 ·unfold Ps
  simp only [hj, aa, ht]
  cases w <;> rfl
 ·simp only [bd, if_false]; exact k
theorem Cp {j t : Nat} {w : Bool} (k : BU (B5 P h fk n base lk) ops l ⟨Cw T d Ck, G⟩ Q) (hj : (ops[j]?).bind (·.dst) = some t := by rfl) (ht : T t = Ck := by rfl) (hd : cm d n = true := by rfl) :
  BU (B5 P h fk n base lk) ops ((s, kk, ⟨some d, op, ty, pos, aft, some (j, w)⟩) :: l) ⟨T, G⟩ Q := by
 rw [Rp]
 refine ⟨ca hd, false, ?_, ?_⟩
 ·unfold Ps
  simp only [hj, aa, ht, Ck]
 ·simp only [bd, if_false]; exact k
theorem q9 {f : eg} {caps : Array au} {vs : List V} (k : BU (B5 P h fk n base lk) ops l ⟨Cw T d (.fn f vs), G⟩ Q) (h1 : LO T caps.toList = some vs := by rfl) (hd : cm d n = true := by rfl) :
  BU (B5 P h fk n base lk) ops ((s, kk, ⟨some d, .makeFunc (.func f) #[] caps, ty, pos, aft, none⟩) :: l) ⟨T, G⟩ Q := by
 refine pV ?_ hd k
 rw [T6]
 simp only [h1, aa]
theorem AM {f : au} {args : Array au} {ats : Array ao} {g : eg} {caps vs vs' : List V} {M : List Nat} {r : V} (hr : ∀ L, Am P h g vs' G (lk ++ [L]) = some (r, G')) (k : BU (B5 P h fk n base lk) ops l ⟨Cw T d r, G'⟩ Q) (h1 : ev T f = some (.fn g caps) := by rfl) (h2 : LO T args.toList = some vs := by rfl) (h3 : An ((B5 P h fk n base lk).BQ s kk) (h.DS g) G (vs ++ caps) = some (vs', M, G) := by rfl) (hd : cm d n = true := by rfl) :
  BU (B5 P h fk n base lk) ops ((s, kk, ⟨some d, .call ⟨.value f, args, ats⟩, ty, pos, aft, none⟩) :: l) ⟨T, G⟩ Q := by
 refine pV ?_ hd k
 rw [Gi]
 simp only [h1, h2, aa, Qh]
 show (An ((B5 P h fk n base lk).BQ s kk) (h.DS g) G (vs ++ caps)).bind _ = _
 rw [h3]
 exact hr _
theorem Ad {st t : ao} {x y : au} {f off o2 b sz d2 : Nat} {a a' : V} {cs : List V} {s2 k2 : Bool} {ty2 : ao} {pos2 : String} {aft2 : Array Edge} (hf : AR P st f = some off) (hO : A4 H G rs) (j : Nat) (v : V) (ha : Cz P t = some false) (k : BU (B5 P h fk n base lk) ops l ⟨Cw (Cw T d a') d2 v, G⟩ Q) (h1 : ev T x = some a := by rfl) (h3 : eQ a off = some a' := by rfl) (hd : cm d n = true := by rfl) (h4 : ev (Cw T d a') y = some (.ptr b o2) := by rfl) (hj : rs[j]? = some (.AW b (.cells sz cs)) := by rfl) (h2 : cs[o2]? = some v := by rfl) (hd2 : cm d2 n = true := by rfl) :
  BU (B5 P h fk n base lk) ops ((s, kk, ⟨some d, .fieldAddr st x f, ty, pos, aft, none⟩) :: (s2, k2, ⟨some d2, .load t y, ty2, pos2, aft2, none⟩) :: l) ⟨T, G⟩ Q := pF hf (CT hO j v ha k h4 hj h2 hd2) h1 h3 hd
end steps
def pP (P : bm) (h : Bp) (k base d : Nat) (rs : List ed) (out : V × A6) (x : X) (S : St) : Prop :=
 (x = .normal ∨ x = .ret) ∧ ((BI P S.H S.T rs).bind fun vs => Dd h k base d (EI vs) S.H) = some out
theorem AF {fn : Func} {body : Code} {k : eg} (hfn : P.funcs[k]? = some fn) (hb : fn.body = some body) {m : Nat} (hn : fn.ntmps = m) {args : List V} {H : A6} {rs : Array ed} (hrs : fn.results = rs) (hlen : fm args.length m = true) (hname : (fn.name == "runtime.NumGoroutine") = false) {out : V × A6}
  (hr : A4 H H [] → GZ (B5 P h k m H.length lk) body ⟨JO args, H⟩ (pP P h k H.length lk.length rs.toList out)) (hns : FO body = none := by rfl) : Am P h k args H lk = some out :=
 Rd hfn hb hn hns (ca hlen) hname hrs (hr (A4.nil H))
theorem rP {k d : Nat} {lr : List ed} {x : X} {T : Nat → V} {G H : A6} {rs : List BK} {vs : List V} {v v' : V} {G2 : A6} (hO : A4 H G rs) (hg : h.grow k = false) (hx : x = .normal ∨ x = .ret) (h1 : BI P G T lr = some vs := by rfl) (h2 : EI vs = v := by rfl)
  (h3 : BL (h.QW k) H.length d Cq (G, []) v = some (v', (G2, []))) (h4 : G2.take H.length = H) : pP P h k H.length d lr (v', H) x ⟨T, G⟩ := by
 refine ⟨hx, ?_⟩
 simp only [h1, aa, h2, Dd, hg, bd, if_false, h3, aj, h4, dh]
theorem AQ {k d : Nat} {lr : List ed} {T : Nat → V} {G H : A6} {rs : List BK} {vs : List V} {v v' : V} (hO : A4 H G rs) (hg : h.grow k = false := by rfl) (h1 : BI P G T lr = some vs := by rfl) (h2 : EI vs = v := by rfl)
  (h3 : BL (h.QW k) H.length d Cq (G, []) v = some (v', (G, [])) := by rfl) {x : X} (hx : x = .normal ∨ x = .ret := by first | exact Or.inl rfl | exact Or.inr rfl) : pP P h k H.length d lr (v', H) x ⟨T, G⟩ := rP hO hg hx h1 h2 h3 hO.out
end
class AL (α : Type) where
 sz : Nat
 pos : 0 < sz
 Ba : Nat → α → List V
 len : ∀ {l} x, (Ba l x).length = sz
 Fx : ∀ {m d} x, (m == 0 || decide (m < d)) = true → clean.cleanL d (Ba m x) = true
 cell : ∀ {l} x, (Ba l x).all V.Bm = true
theorem AL.clean {α : Type} [AL α] (x : α) : clean.cleanL 1 (AL.Ba 0 x) = true := AL.Fx x rfl
def A8 {α : Type} [AL α] (m : Nat) (xs : List α) : List V := xs.flatMap (AL.Ba m)
abbrev iv (x : Int) : V := .int .i64 x
abbrev AK {α : Type} [AL α] (l m : Nat) (xs : List α) : V := .lit l xs.length (A8 m xs)
theorem C2 (d : Nat) : ∀ (xs ys : List V), clean.cleanL d (xs ++ ys) = (clean.cleanL d xs && clean.cleanL d ys)
 | [], ys => by simp [clean.cleanL]
 | x :: xs, ys => by simp only [dt, clean.cleanL, C2 d xs ys, Bool.and_assoc]
theorem Cf {α : Type} [AL α] {m : Nat} (x : α) (xs : List α) : A8 m (x :: xs) = AL.Ba m x ++ A8 m xs := rfl
theorem To {α : Type} [AL α] {m : Nat} : A8 m ([] : List α) = [] := rfl
theorem Tl {α : Type} [AL α] {m : Nat} (xs ys : List α) : A8 m (xs ++ ys) = A8 m xs ++ A8 m ys := by simp [A8]
theorem EA {α : Type} [AL α] {m : Nat} : ∀ (xs : List α), (A8 m xs).length = xs.length * AL.sz α
 | [] => by simp [A8]
 | x :: xs => by rw [Cf, an, EA xs, AL.len, gi, gm, iz]
theorem Hv {α : Type} [AL α] {m d : Nat} (h : (m == 0 || decide (m < d)) = true) : ∀ (xs : List α), clean.cleanL d (A8 m xs) = true
 | [] => rfl
 | x :: xs => by rw [Cf, C2, AL.Fx x h, Hv h xs]; rfl
theorem FZ {α : Type} [AL α] (xs : List α) : clean.cleanL 1 ((A8 0) xs) = true := Hv rfl xs
theorem E9 {α : Type} [AL α] {m : Nat} : ∀ (xs : List α), (A8 m xs).all V.Bm = true
 | [] => rfl
 | x :: xs => by rw [Cf, dv, AL.cell, E9 xs]; rfl
instance : AL Int := ⟨1, fh, fun _ x => [.int .i64 x], fun _ => rfl, fun _ _ => rfl, fun _ => rfl⟩
instance : AL Bool := ⟨1, fh, fun _ x => [.bool x], fun _ => rfl, fun _ _ => rfl, fun _ => rfl⟩
instance : AL ByteArray := ⟨1, fh, fun _ x => [.str x], fun _ => rfl, fun _ _ => rfl, fun _ => rfl⟩
instance {α : Type} [AL α] : AL (List α) := ⟨1, fh, fun l x => [.lit l x.length (A8 l x)], fun _ => rfl, fun x h => by simp only [clean.cleanL, K.clean, Hv h, h]; rfl, fun _ => rfl⟩
abbrev BE (x : Int) : Int := IntKind.wrap .i64 x
def AH {α : Type} (xs : List α) (i : Int) : Option α := if 0 ≤ i then xs[i.toNat]? else none
theorem EZ {α : Type} {xs : List α} {i : Int} {x : α} (h : AH xs i = some x) : 0 ≤ i ∧ i < xs.length := by
 unfold AH at h
 split at h
 ·rename_i h0
  have := (ak.1 h).1
  exact ⟨h0, by omega⟩
 ·cases h
theorem IY {α : Type} {xs : List α} {i : Int} {x : α} (h : AH xs i = some x) : xs[i.toNat]? = some x := by
 unfold AH at h
 split at h
 ·exact h
 ·cases h
theorem OO {α : Type} [AL α] {m : Nat} : ∀ {xs : List α} {j : Nat} {x : α}, xs[j]? = some x → ∃ a b, A8 m xs = a ++ (AL.Ba m x ++ b) ∧ a.length = j * AL.sz α
 | [], j, x, h => by simp at h
 | y :: xs, 0, x, h => by
  simp only [fb, ab] at h
  subst h
  exact ⟨[], A8 m xs, by simp [Cf], by simp⟩
 | y :: xs, j + 1, x, h => by
  simp only [mb] at h
  obtain ⟨a, b, h1, h2⟩ := OO h
  exact ⟨AL.Ba m y ++ a, b, by rw [Cf, h1, bf], by rw [an, AL.len, h2, gm, iz]⟩
theorem Tm {α : Type} [AL α] {m : Nat} {xs : List α} {i : Int} {x : α} (h : AH xs i = some x) {off : Nat} (ho : off < AL.sz α) : (A8 m xs)[i.toNat * AL.sz α + off]? = (AL.Ba m x)[off]? := by
 obtain ⟨a, b, h1, h2⟩ := OO (IY h)
 rw [h1, bu (by omega), h2, ic, aw (by rw [AL.len]; exact ho)]
theorem Xb {α : Type} [AL α] {m : Nat} {xs : List α} {i : Int} {x : α} (h : AH xs i = some x) {off k : Nat} (ho : off + k ≤ AL.sz α) : ((A8 m xs).drop (i.toNat * AL.sz α + off)).take k = ((AL.Ba m x).drop off).take k := by
 obtain ⟨a, b, h1, h2⟩ := OO (IY h)
 rw [h1, ← h2, lb, fw (by omega), dr]
 rw [show a.length + off - a.length = off by omega, List.drop_append_of_le_length (by rw [AL.len]; omega), List.take_append_of_le_length (by rw [im, AL.len]; omega)]
theorem RE {α : Type} [AL α] {m : Nat} {xs : List α} {i : Int} {x : α} (h : AH xs i = some x) : i.toNat * AL.sz α + AL.sz α ≤ (A8 m xs).length := by
 obtain ⟨a, b, h1, h2⟩ := OO (IY h)
 rw [h1, an, an, AL.len]
 omega
theorem ZJ {α : Type} [AL α] {m : Nat} {xs : List α} {i : Int} {x : α} (h : AH xs i = some x) (y : α) : Bo (A8 m xs) (i.toNat * AL.sz α) (AL.Ba m y) = A8 m (xs.set i.toNat y) := by
 have key : ∀ (xs : List α) (j : Nat), j < xs.length → Bo (A8 m xs) (j * AL.sz α) (AL.Ba m y) = A8 m (xs.set j y) := by
  intro xs
  induction xs with
  | nil => intro j hj; simp at hj
  | cons z xs ih =>
   intro j hj
   cases j with
   | zero =>
    unfold Bo
    rw [my, Cf, Cf, nw, kr, dr, gh, AL.len, lb, fw (by rw [AL.len]; exact al _), dr, AL.len, fo, ia]
   | succ j =>
    have hj' : j < xs.length := by simpa using hj
    rw [List.set_cons_succ, Cf, Cf, ← ih j hj']
    unfold Bo
    have e1 : (j + 1) * AL.sz α = (AL.Ba m z).length + j * AL.sz α := by rw [AL.len, gm, iz]
    rw [e1, lj, gj, ll]
    simp [bf]
 exact key xs _ (by have := EZ h; omega)
theorem ZI {α : Type} [AL α] {m : Nat} (z : α) (n : Nat) : (cq n (AL.Ba m z)).flatten = A8 m (cq n z) := by
 induction n with
 | zero => rfl
 | succ n ih => rw [kz, List.flatten_cons, ih]; rfl
section reads
variable {P : bm} {α : Type} [AL α] {lm : Nat} {xs : List α} {i : Int} {x : α} {t : ao} {off m : Nat} {v : V} {cs : List V}
theorem Cu (h : AH xs i = some x) (ha : Cz P t = some false) (hv : (AL.Ba lm x)[off]? = some v := by rfl) : BF P t (A8 lm xs) (i.toNat * AL.sz α + off) = some v := by
 unfold BF
 rw [ha]
 have : off < AL.sz α := by rw [← AL.len x]; exact (ak.1 hv).1
 simp only [Tm h this, hv]
theorem GC (h : AH xs i = some x) (ha : Cz P t = some true) (hz : B8 P t = some m) (hm : fm (off + m) (AL.sz α) = true := by rfl) (hv : ((AL.Ba lm x).drop off).take m = cs := by rfl) : BF P t (A8 lm xs) (i.toNat * AL.sz α + off) = some (.agg cs) := by
 have hm := ca hm
 unfold BF
 rw [ha, hz]
 simp only [aa]
 rw [if_pos (by have := RE (m := lm) h; omega), Xb h hm, hv]
end reads
theorem YV {d d' : Nat} (hd : d ≤ d') (hd0 : 0 < d) : ∀ (v : V), clean d v = true → clean d' v = true := by
 have key : ∀ (v : V), (clean d v = true → clean d' v = true) := by
  intro v
  refine V.rec (motive_1 := fun v => clean d v = true → clean d' v = true) (motive_2 := fun vs => clean.cleanL d vs = true → clean.cleanL d' vs = true) ?_ ?_ ?_ ?_ ?_ ?_ ?_ ?_ ?_ ?_ ?_ ?_ ?_ ?_ ?_ ?_ ?_ v
  all_goals intros
  all_goals (try (simp only [clean, ar, df, decide_eq_true_eq] at *))
  all_goals (try trivial)
  ·rename_i lv n cs ih h
   exact ⟨by rcases h.1 with h1 | h1; exact .inl h1; exact .inr (by omega), ih h.2⟩
  all_goals (try (rename_i ih h; exact ih h))
  ·rename_i a as h1 h2 h
   simp only [clean.cleanL, ar] at h ⊢
   exact ⟨h1 h.1, h2 h.2⟩
 exact key
theorem GL {d d' : Nat} (hd : d ≤ d') (hd0 : 0 < d) : ∀ (vs : List V), clean.cleanL d vs = true → clean.cleanL d' vs = true
 | [], _ => rfl
 | v :: vs, h => by
  simp only [clean.cleanL, ar] at h ⊢
  exact ⟨YV hd hd0 v h.1, GL hd hd0 vs h.2⟩
theorem Fa {th : Bool} {lo d k : Nat} {X : A6 × List Bz} : ∀ (vs : List V), clean.cleanL d vs = true → vs.all V.Bm = true → BL.resL (BL th lo d (k + 1)) X vs = some (vs, X)
 | [], _, _ => rfl
 | v :: vs, h, hc => by
  simp only [clean.cleanL, ar] at h
  simp only [gg, ar] at hc
  have : BL th lo d (k + 1) X v = some (v, X) := by
   cases v with
   | lit lv n cs => simp only [BL]; rw [if_pos h.1]
   | int _ _ => rfl
   | bool _ => rfl
   | str _ => rfl
   | IJ => rfl
   | FP => rfl
   | agg cs => cases hc.1
   | GS cs => cases hc.1
   | _ => simp [clean] at h
  simp only [BL.resL, this, aa, Fa vs h.2 hc.2, aj]
theorem Ni {lv : Nat} {H : A6} {k : Nat} : ∀ (vs : List V), clean.cleanL 1 vs = true → vs.all V.Bm = true → Ax.lendL (Ax lv H (k + 1)) vs = some (vs, [])
 | [], _, _ => rfl
 | v :: vs, h, hc => by
  simp only [clean.cleanL, ar] at h
  simp only [gg, ar] at hc
  have : Ax lv H (k + 1) v = some (v, []) := by
   cases v with
   | lit lv n cs => rfl
   | int _ _ => rfl
   | bool _ => rfl
   | str _ => rfl
   | IJ => rfl
   | FP => rfl
   | agg cs => cases hc.1
   | GS cs => cases hc.1
   | _ => simp [clean] at h
  simp only [Ax.lendL, this, aa, Ni vs h.2 hc.2, aj, dh]
def Gv (bytes : Nat) (n : Int) : Option Nat := if 0 ≤ n ∧ n * (bytes + 1) ≤ 70368744177664 then some n.toNat else none
section steps
variable {P : bm} {h : Bp} {fk n base : Nat} {lk : Lk} {c : Cx} {ops : Array ch} {s kk : Bool} {d : Nat} {ty : ao} {pos : String} {aft : Array Edge} {l : List (Bool × Bool × ch)} {Q : St → Prop} {T : Nat → V} {G G' H : A6} {rs : List BK} {op : Op}
variable {α : Type} [AL α]
theorem pX {lm : Nat} {xs : List α} {i : Int} {x : α} {t e : ao} {y z : au} {lv : Nat} {kd : fz} (hc : AH xs i = some x) (he : B6 P t = some e) (hz : B8 P e = some (AL.sz α)) (k : BU (B5 P h fk n base lk) ops l ⟨Cw T d (.lp lv (A8 lm xs) (i.toNat * AL.sz α)), G⟩ Q)
  (h1 : ev T y = some (.lit lv xs.length (A8 lm xs)) := by rfl) (h2 : ev T z = some (.int kd i) := by rfl) (hd : cm d n = true := by rfl) :
  BU (B5 P h fk n base lk) ops ((s, kk, ⟨some d, .indexAddr t y z, ty, pos, aft, none⟩) :: l) ⟨T, G⟩ Q := by
 refine pV ?_ hd k
 rw [DM]
 show (B6 P t).bind _ = _
 rw [he, aa]
 show (B8 P e).bind _ = _
 simp only [hz, h1, h2, aa, asInt, Qn, Ct]
 rw [if_pos (EZ hc)]
 rfl
theorem qC {xs : List α} {i : Int} {x : α} {t e : ao} {y z : au} {b m : Nat} {kd : fz} (hl : xs.length = m) (hc : AH xs i = some x) (he : B6 P t = some e) (hz : B8 P e = some (AL.sz α)) (k : BU (B5 P h fk n base lk) ops l ⟨Cw T d (.ptr b (i.toNat * AL.sz α)), G⟩ Q)
  (h1 : ev T y = some (.sl b 0 m) := by rfl) (h2 : ev T z = some (.int kd i) := by rfl) (hd : cm d n = true := by rfl) :
  BU (B5 P h fk n base lk) ops ((s, kk, ⟨some d, .indexAddr t y z, ty, pos, aft, none⟩) :: l) ⟨T, G⟩ Q := by
 subst hl
 refine pV ?_ hd k
 rw [DM]
 show (B6 P t).bind _ = _
 rw [he, aa]
 show (B8 P e).bind _ = _
 simp only [hz, h1, h2, aa, asInt, Qn, Ct]
 rw [if_pos (EZ hc)]
 simp
theorem lQ {a : Int} {m by_ : Nat} {t e : ao} {y z' : au} (hO : A4 H G rs) (hm : Gv by_ a = some m) (zv : α) (he : B6 P t = some e) (hz : B8 P e = some (AL.sz α)) (hb : CH P e = some by_) {z : List V} (hzero : BJ P e = some z)
  (k : ∀ b G', A4 H G' (.AW b (.cells (AL.sz α) ((A8 0) (cq m zv))) :: rs) → BU (B5 P h fk n base lk) ops l ⟨Cw T d (.sl b 0 m), G'⟩ Q)
  (h0 : z.map (I3 (h.H4 fk)) = (AL.Ba 0) zv := by rfl) (h1 : ev T y = some (.int .i64 a) := by rfl) (h2 : ev T z' = some (.int .i64 a) := by rfl) (hd : cm d n = true := by rfl) :
  BU (B5 P h fk n base lk) ops ((s, kk, ⟨some d, .makeSlice t y z', ty, pos, aft, none⟩) :: l) ⟨T, G⟩ Q := by
 unfold Gv at hm
 split at hm
 case isFalse => cases hm
 rename_i hc
 simp only [ab] at hm
 subst hm
 refine pV ?_ hd (k _ _ (hO.alloc _))
 rw [Kh]
 simp only [h1, h2, aa, Jz]
 show (B6 P t).bind _ = _
 rw [he, aa]
 show (B8 P e).bind _ = _
 rw [hz, aa]
 show (CH P e).bind _ = _
 rw [hb, aa]
 show (BJ P e).bind _ = _
 rw [hzero, aa, if_pos ⟨trivial, hc.1, hc.2, by rw [← ee (f := I3 (h.H4 fk)), h0]; exact AL.len zv, ff.1 (AL.pos)⟩]
 show some (V.sl G.length 0 a.toNat, G ++ [Bz.cells (AL.sz α) (cq a.toNat (z.map (I3 (h.H4 fk)))).flatten]) = _
 rw [h0, ZI]
theorem qB {xs : List α} {i : Int} {x : α} {t : ao} {y z : au} {b sz : Nat} (hO : A4 H G rs) (j : Nat) (hc : AH xs i = some x) (hz : B8 P t = some (AL.sz α)) (hb : base = H.length) (yv : α) (v : V)
  (k : ∀ G', A4 H G' (rs.set j (.AW b (.cells sz ((A8 0) (xs.set i.toNat yv))))) → BU (B5 P h fk n base lk) ops l ⟨T, G'⟩ Q)
  (h1 : ev T y = some (.ptr b (i.toNat * AL.sz α)) := by rfl) (hj : rs[j]? = some (.AW b (.cells sz ((A8 0) xs))) := by rfl) (h2 : ev T z = some v := by rfl) (h3 : v.cellsOf = (AL.Ba 0) yv := by rfl) :
  BU (B5 P h fk n base lk) ops ((s, kk, ⟨none, .store t y z, ty, pos, aft, none⟩) :: l) ⟨T, G⟩ Q := by
 subst hb
 obtain ⟨hg, hbb⟩ := hO.get hj
 have hlt : b < G.length := (ak.1 hg).1
 refine a7 (v := Ck) ?_ (k _ (hO.set (x := .cells sz ((A8 0) (xs.set i.toNat yv))) hj rfl rfl ⟨hbb, by rw [Ai, if_pos ⟨rfl, hlt⟩]⟩))
 rw [N9]
 simp only [h1, h2, aa, G7]
 have hm : ((B5 P h fk n H.length lk).BQ s kk).BV b = true := by
  unfold Cx.BV
  simp only [df, decide_eq_true_eq]
  exact .inl hbb
 have hnb : ¬ b < ((B5 P h fk n H.length lk).BQ s kk).base := dw.2 hbb
 rw [if_pos hm, if_neg hnb]
 simp only [aa, hg, h3]
 have e1 : B8 P t = some ((AL.Ba 0) yv).length := by rw [AL.len]; exact hz
 have e2 : i.toNat * AL.sz α + ((AL.Ba 0) yv).length ≤ ((A8 0) xs).length := by rw [AL.len]; exact RE hc
 rw [ZJ hc]
 exact congrArg (fun x : Option A6 => x.map fun H => (Ck, H)) (if_pos ⟨e1, e2, AL.cell yv⟩)
end steps
section ends
variable {P : bm} {h : Bp} {k d : Nat} {lr : List ed} {T : Nat → V} {G H : A6} {rs : List BK} {vs : List V} {α : Type} [AL α] {x : X}
theorem fT {c : Cx} {ops : Array ch} {S : St} {Q : X → St → Prop} {id : Nat} (l : List (Nat × Bool)) (l' : List (Bool × Bool × ch)) (h : YX ops l = true) (hl : Kq ops l = l') (hq : BU c ops l' S (Q .normal)) : GZ c (.region id ops true) S Q := by
 subst hl; exact bO l h hq
theorem fS {c : Cx} {ops : Array ch} {S : St} {Q : X → St → Prop} {id : Nat} (l : List (Nat × Bool)) (ps : List (Nat × Nat)) (l' : List (Bool × Bool × ch)) (h : WE ops l ps = true) (hl : Kq ops l = l') (hq : BU c ops l' S fun S' => (ps.all fun p => En c.base (S'.T p.1) (S'.T p.2)) = true ∧ Q .normal S') : GZ c (.region id ops true) S Q := by
 subst hl; exact Ro l ps h hq
end ends
section
open Go.RowKit
def GN (W : et) : Ab := { w := W, φ := fun b => b, H := [], lk := [], n := 0, m := 0, Bj := [] }
theorem ZO (W : et) (lv : Option Nat) (g i : Nat) : ¬ (GN W).U lv g i := by
 intro h
 rcases h with h | h
 ·cases h
 cases lv with
 | some lv =>
  obtain ⟨b, _, _, h⟩ := h
  have h : match ([] : A6)[b]? with
   | some (.cells _ _) | some (.mp _) => True
   | some (.C1 l n sz) => lv < l ∨ n * sz ≤ i
   | _ => False := h
  simp at h
 | none =>
  obtain ⟨b, _, h⟩ := h
  have h : match ([] : A6)[b]? with
   | some (.cells _ _) | some (.mp _) => True
   | some (.C1 _ n sz) => n * sz ≤ i
   | _ => False := h
  simp at h
theorem VJ (W : et) : CW (GN W) where
 cells := fun b sz cs h => by have h : ([] : A6)[b]? = some (.cells sz cs) := h; simp at h
 C1 := fun b l n sz h => by have h : ([] : A6)[b]? = some (.C1 l n sz) := h; simp at h
 lvl := fun b l n sz h => by have h : ([] : A6)[b]? = some (.C1 l n sz) := h; simp at h
 dm := al _
 inj := fun b b' h _ _ => by have h : live ([] : A6)[b]? := h; simp [live] at h
 maps := fun b BP h => by have h : ([] : A6)[b]? = some (.mp BP) := h; simp at h
 Bj := fun g hg => by cases hg
theorem ZX {P : bm} (hfol : P.follows .mixedOrders = true) {h : Bp} {k : eg} {args : Array cb} {W : et} {vs : List V} (hrep : AU (GN W) vs args.toList) (hrun : Am P h k vs [] [[]] = some (.bool true, [])) :
  Calls P k args W fun e W' => e = .returned (.bool true) ∧ Below W.heap.size W W' := by
 have hc := (Vr P hfol h).run k vs [] [] [] (.bool true) [] hrun (GN W) args.toList rfl rfl rfl rfl (VJ W) (by simp) ((Cn.EH (GN W) [] (al _)).Ih _ _ hrep)
 have he : args.toList.toArray = args := by simp
 rw [he] at hc
 refine hc.mono fun e W' hR => ?_
 cases e with
 | returned u =>
  obtain ⟨E1, rfl, hb, hr⟩ := hR
  simp only [AB] at hr
  subst hr
  refine ⟨rfl, hb.D8.os, hb.D8.tape, hb.D8.output, hb.D8.size, fun g hg => hb.D8.block g hg fun i hu => ?_⟩
  rcases hu with hu | ⟨b, _, _, hu⟩
  ·cases hu
  have hx : ((GN W).lock []).H[b]? = none := by show ([] : A6)[b]? = none; rfl
  rw [hx] at hu
  exact hu
 | _ => exact hR.elim
def Fg (P : bm) (t : ao) (α : Type) [AL α] (fits : α → Prop) : Prop :=
 ∀ {K : Type} (enc : ao × cb → K) (W : et) (sp : Nat → Bool) (fuel : Nat) (cs : List cb) (d : DataW K) (ps : List MemPlace), DataW.trod enc P W 0 sp true fuel t cs = some (d, ps) → ∃ x : α, AU (GN W) ((AL.Ba 0) x) cs ∧ fits x
abbrev Fi (x : Int) : Prop := -9223372036854775808 ≤ x ∧ x ≤ 9223372036854775807
abbrev DH {α : Type} (f : α → Prop) (xs : List α) : Prop := xs.length ≤ 9223372036854775807 ∧ ∀ x ∈ xs, f x
section
variable {P : bm} {t : ao}
theorem Y3 (ht : P.underlying t = some (.int .i64)) : Fg P t Int Fi := by
 intro K enc W sp fuel cs d ps h
 cases fuel with
 | zero => simp [DataW.trod] at h
 | succ fuel =>
  simp only [DataW.trod, ht] at h
  split at h <;> try (simp_all; done)
  rename_i k k' n heq
  split at h
  case isFalse => cases h
  rename_i hc
  simp only [ab, TypeDesc.int.injEq] at heq
  subst heq
  obtain ⟨rfl, hw⟩ := hc
  simp only [Lit.wf, ar, decide_eq_true_eq] at hw
  refine ⟨n, ?_, ?_⟩
  ·show AU _ [.int .i64 n] _
   simp only [AU, AB]
   exact ⟨_, _, rfl, rfl, rfl⟩
  ·have h1 : IntKind.min .i64 = -9223372036854775808 := rfl
   have h2 : IntKind.max .i64 = 9223372036854775807 := rfl
   rw [h1, h2] at hw
   exact hw
theorem Vp (ht : P.underlying t = some .bool) : Fg P t Bool fun _ => True := by
 intro K enc W sp fuel cs d ps h
 cases fuel with
 | zero => simp [DataW.trod] at h
 | succ fuel =>
  simp only [DataW.trod, ht] at h
  split at h <;> try (simp_all; done)
  rename_i b heq
  refine ⟨b, ?_, trivial⟩
  show AU _ [.bool b] _
  simp only [AU, AB]
  exact ⟨_, _, rfl, rfl, rfl⟩
theorem XK {W : et} {a : Addr} {n : Nat} {cs : List cb} (h : W.cells? 0 a n = some cs) : cs.length = n ∧ ∀ i, i < n → ∃ u, cs[i]? = some u ∧ W.cell? (a.add i) = some u := by
 unfold World.cells? at h
 rw [if_pos (dq _)] at h
 have key : ∀ (l : List Nat) (cs : List cb), (l.mapM fun i => W.cell? (a.add i)) = some cs → cs.length = l.length ∧ ∀ (i j : Nat), l[i]? = some j → ∃ u, cs[i]? = some u ∧ W.cell? (a.add j) = some u := by
  intro l
  induction l with
  | nil =>
   intro cs h
   simp only [List.mapM_nil, jw, ab] at h
   subst h
   exact ⟨rfl, fun i j h => by simp at h⟩
  | cons x l ih =>
   intro cs h
   simp only [kq, kg, af, jw, ab] at h
   obtain ⟨u, hu, us, hus, rfl⟩ := h
   obtain ⟨h1, h2⟩ := ih us hus
   refine ⟨by simp [h1], fun i j hij => ?_⟩
   cases i with
   | zero =>
    simp only [fb, ab] at hij
    subst hij
    exact ⟨u, rfl, hu⟩
   | succ i => exact h2 i j (by simpa using hij)
 obtain ⟨h1, h2⟩ := key _ _ h
 refine ⟨by simpa using h1, fun i hi => h2 i i ?_⟩
 rw [List.getElem?_range hi]
theorem Wq {W : et} {lv : Option Nat} {g : Nat} : ∀ {vs : List V} {cs : List cb} {o : Nat}, AU (GN W) vs cs → (∀ i u, cs[i]? = some u → W.cell? ⟨g, o + i, none⟩ = some u) → Ca (GN W) lv g o vs
 | [], cs, o, _, _ => by simp only [Ca]
 | v :: vs, cs, o, h, hc => by
  simp only [AU] at h
  obtain ⟨u, us, rfl, h1, h2⟩ := h
  simp only [Ca]
  refine ⟨⟨u, hc 0 u rfl, h1⟩, ZO _ _ _ _, Wq h2 fun i u hi => ?_⟩
  have := hc (i + 1) u (by simpa using hi)
  rw [show o + 1 + i = o + (i + 1) by omega]
  exact this
theorem UJ {W : et} {lv : Option Nat} {g : Nat} : ∀ {vs ws : List V} {o : Nat}, Ca (GN W) lv g o vs → Ca (GN W) lv g (o + vs.length) ws → Ca (GN W) lv g o (vs ++ ws)
 | [], ws, o, _, h => h
 | v :: vs, ws, o, h, h' => by
  simp only [Ca, dt] at h ⊢
  exact ⟨h.1, h.2.1, UJ h.2.2 (by rw [show o + 1 + vs.length = o + (v :: vs).length by simp; omega]; exact h')⟩
theorem Eo {e : ao} {α : Type} [AL α] {f : α → Prop} (ht : P.underlying t = some (.slice e)) (hz : P.cellsOf e = AL.sz α) (he : Fg P e α f) : Fg P t (List α) (DH f) := by
 intro K enc W sp fuel cs d ps h
 cases fuel with
 | zero => simp [DataW.trod] at h
 | succ fuel =>
  simp only [DataW.trod, ht] at h
  split at h <;> try (simp_all; done)
  ·refine ⟨[], ?_, by simp [DH]⟩
   show AU _ [.lit 0 0 []] _
   simp only [AU, AB]
   exact ⟨_, _, rfl, ⟨al _, none, 0, rfl, al _, .inl trivial⟩, rfl⟩
  ·rename_i e' a len cap heq
   simp only [ab, TypeDesc.slice.injEq] at heq
   subst heq
   split at h
   case isFalse => cases h
   rename_i hc
   simp only [af] at h
   obtain ⟨es, hes, _⟩ := h
   have key : ∀ (n k : Nat) (es : List (DataW K × List MemPlace)), ((List.range' k n).mapM fun i => (W.cells? 0 (a.add (i * P.cellsOf e)) (P.cellsOf e)).bind (DataW.trod enc P W 0 sp true fuel e)) = some es →
     ∃ xs : List α, xs.length = n ∧ (∀ x ∈ xs, f x) ∧ ((0 < n → k = 0 → a.spot = none) ∧ (n = 0 ∨ 0 < k ∨ a.spot = none) → ∀ lv, Ca (GN W) lv a.block (a.off + k * AL.sz α) ((A8 0) xs)) ∧ (0 < n → k = 0 → a.spot = none) := by
    intro n
    induction n with
    | zero => intro k es _; exact ⟨[], rfl, by simp, fun _ lv => by rw [To]; simp only [Ca], fun h => absurd h (jl _)⟩
    | succ n ih =>
     intro k es h
     rw [List.range'_succ] at h
     simp only [kq, kg, af, jw, ab] at h
     obtain ⟨y, ⟨cs, hcs, hy⟩, ys, hys, rfl⟩ := h
     obtain ⟨x, hx, hfx⟩ := he enc W sp fuel cs y.1 y.2 hy
     obtain ⟨xs, h1, h2, h3, _⟩ := ih (k + 1) ys hys
     obtain ⟨c1, c2⟩ := XK hcs
     have hpos : 0 < P.cellsOf e := by rw [hz]; exact AL.pos
     have hspot : k = 0 → a.spot = none := by
      intro hk
      subst hk
      obtain ⟨u, _, hu⟩ := c2 0 hpos
      have e1 : ((a.add (0 * P.cellsOf e)).add 0) = a := by simp [Addr.add]
      rw [e1] at hu
      unfold World.cell? at hu
      split at hu
      ·split at hu
       ·cases hu
       ·rename_i hs; simpa using hs
      ·cases hu
     refine ⟨x :: xs, by simp [h1], fun z hz' => ?_, fun _ lv => ?_, fun _ => hspot⟩
     ·rcases bq.1 hz' with rfl | hz'
      ·exact hfx
      ·exact h2 z hz'
     ·rw [Cf]
      refine UJ (Wq hx fun i u hi => ?_) ?_
      ·have hlt : i < P.cellsOf e := by rw [← c1]; exact (ak.1 hi).1
       obtain ⟨u', hu1, hu2⟩ := c2 i hlt
       rw [hi] at hu1
       simp only [ab] at hu1
       subst hu1
       have e1 : W.cell? ((a.add (k * P.cellsOf e)).add i) = W.cell? ⟨a.block, a.off + k * AL.sz α + i, none⟩ := by
        congr 1
        rw [← hz]
        unfold Addr.add
        by_cases h1 : k * P.cellsOf e = 0
        ·have hk : k = 0 := by
          rcases Nat.mul_eq_zero.1 h1 with h | h
          ·exact h
          ·omega
         have hs := hspot hk
         by_cases h2 : i = 0
         ·simp only [h1, h2, if_true, ir]
          cases a; simp_all
         ·simp only [h1, h2, if_true, if_false, ir]
        ·by_cases h2 : i = 0
         ·simp only [h1, h2, if_true, if_false, ir]
         ·simp only [h1, h2, if_false]
       rw [← e1]
       exact hu2
      ·rw [AL.len, show a.off + k * AL.sz α + AL.sz α = a.off + (k + 1) * AL.sz α by rw [gm]; omega]
       exact h3 ⟨fun _ h => by omega, .inr (.inl (Nat.succ_pos k))⟩ lv
   rw [List.range_eq_range'] at hes
   obtain ⟨xs, h1, h2, h3, h4⟩ := key len 0 es hes
   refine ⟨xs, ?_, ?_, h2⟩
   ·show AU _ [.lit 0 xs.length ((A8 0) xs)] _
    simp only [AU, AB]
    refine ⟨_, _, rfl, ⟨al _, some a, cap, by rw [h1], by rw [h1]; exact hc.2.1, ?_⟩, rfl⟩
    rcases jo len with hl | hl
    ·exact .inl (by rw [h1, hl])
    ·have hs := h4 hl rfl
     refine .inr ⟨a.block, a.off, by cases a; simp_all, ?_⟩
     have := h3 ⟨fun _ _ => hs, .inr (.inr hs)⟩ (some 0)
     simpa using this
   ·rw [h1]
    have := hc.2.2
    have hm : maxLen = 9223372036854775807 := rfl
    omega
theorem Sk {E : Ab} {xs ys : List V} {cs : List cb} {off sz : Nat} (h1 : AU E xs ((cs.drop off).take sz)) (h2 : AU E ys (cs.drop (off + sz))) : AU E (xs ++ ys) (cs.drop off) := by
 have := FA h1 (by rw [← oa] at h2; exact h2)
 rwa [mg] at this
theorem J3 {E : Ab} {xs : List V} {cs : List cb} {off sz : Nat} (hl : cs.length = off + sz) (h1 : AU E xs ((cs.drop off).take sz)) : AU E xs (cs.drop off) := by
 rwa [fy (by rw [im]; omega)] at h1
theorem Et {K : Type} {enc : ao × cb → K} {W : et} {sp : Nat → Bool} {fuel : Nat} {cs : List cb} {d : DataW K} {ps : List MemPlace} {fs : Array Field} (ht : P.underlying t = some (.struct fs)) (h : DataW.trod enc P W 0 sp true fuel t cs = some (d, ps)) :
  ∃ fuel', cs.length = P.cellsOf t ∧ ∀ f ∈ fs.toList, ∃ d' ps', DataW.trod enc P W 0 sp true fuel' f.type ((cs.drop f.offset).take (P.cellsOf f.type)) = some (d', ps') := by
 cases fuel with
 | zero => simp [DataW.trod] at h
 | succ fuel =>
  simp only [DataW.trod, ht] at h
  split at h
  case isFalse => cases h
  rename_i hc
  simp only [ag] at h
  obtain ⟨xs, hxs, hx2⟩ := h
  refine ⟨fuel, hc, ?_⟩
  clear ht hc hx2
  generalize fs.toList = l at hxs ⊢
  induction l generalizing xs with
  | nil => simp
  | cons f l ih =>
   simp only [kq, kg, af, jw, ab] at hxs
   obtain ⟨y, hy, ys, hys, rfl⟩ := hxs
   intro g hg
   rcases bq.1 hg with rfl | hg
   ·exact ⟨y.1, y.2, hy⟩
   ·exact ih ys hys g hg
end
theorem Km {P : bm} {t : ao} {fs : Array Field} {W : et} {base : Nat} {v : cb} (ht : P.underlying t = some (.struct fs)) (ho : Value.okWide P W .any base t v) : ∃ cs, v = .agg cs := by
 unfold Value.okWide at ho
 rw [ht] at ho
 obtain ⟨cs, h, _⟩ := ho
 exact ⟨cs, h⟩
theorem iG {E : Ab} {xs : List V} {v : cb} (hv : ∃ cs, v = .agg cs) (h : AU E xs v.cells.toList) : AB E (.agg xs) v := by
 obtain ⟨cs, rfl⟩ := hv
 simp only [AB]
 exact ⟨cs, rfl, h⟩
theorem mB (E : Ab) : AU E [] [] := by simp only [AU]
theorem YR {E : Ab} {x : V} {xs : List V} {v : cb} {vs : List cb} (h : AB E x v) (hs : AU E xs vs) : AU E (x :: xs) (v :: vs) := by
 simp only [AU]
 exact ⟨v, vs, rfl, h, hs⟩
end
theorem LL {x : Int} (h : -9223372036854775808 ≤ x ∧ x ≤ 9223372036854775807) : BE x = x := IntWalk.i64_in x h
theorem AS {i : Nat} (h : i < 9223372036854775807) : BE ((i : Int) + 1) = ((i + 1 : Nat) : Int) := by rw [LL ⟨by omega, by omega⟩]; rfl
theorem AE {α : Type} (xs : List α) (i : Nat) : AH xs (i : Int) = xs[i]? := by
 unfold AH
 rw [if_pos (by omega)]
 rfl
theorem J5 {α : Type} {xs : List α} {i : Nat} (h : i < xs.length) : AH xs (i : Int) = some xs[i] := by rw [AE]; exact ae h
theorem FM {by_ n : Nat} (h : n * (by_ + 1) ≤ 70368744177664) : Gv by_ (n : Int) = some n := by
 unfold Gv
 have h1 : (n : Int) * ((by_ : Int) + 1) ≤ 70368744177664 := by
  have e : (n : Int) * ((by_ : Int) + 1) = ((n * (by_ + 1) : Nat) : Int) := by rw [Int.natCast_mul, Int.natCast_add]; rfl
  rw [e]
  omega
 rw [if_pos ⟨Int.natCast_nonneg n, h1⟩]
 rfl
theorem Ze {σ ρ : Type} {F : σ → Option (σ ⊕ ρ)} (φ : ρ → Prop) (n : Nat) (st : Nat → σ) (h : ∀ i, i < n → F (st i) = some (.inl (st (i + 1))) ∨ ∃ r, F (st i) = some (.inr r) ∧ φ r) (hend : ∃ r, F (st n) = some (.inr r) ∧ φ r) : ∃ r, AG F (st 0) = some r ∧ φ r := by
 have key : ∀ k i, i + k = n → ∃ r, AG F (st i) = some r ∧ φ r := by
  intro k
  induction k with
  | zero =>
   intro i hi
   have : i = n := by omega
   subst this
   obtain ⟨r, h1, h2⟩ := hend
   exact ⟨r, by rw [Be, h1]; rfl, h2⟩
  | succ k ih =>
   intro i hi
   rcases h i (by omega) with h1 | ⟨r, h1, h2⟩
   ·obtain ⟨r, h2, h3⟩ := ih (i + 1) (by omega)
    exact ⟨r, by rw [Be, h1]; exact h2, h3⟩
   ·exact ⟨r, by rw [Be, h1]; rfl, h2⟩
 exact key n 0 (by omega)
theorem Ez {σ ρ : Type} {F : σ → Option (σ ⊕ ρ)} (n : Nat) (st : Nat → σ) {r : ρ} (h : ∀ i, i < n → F (st i) = some (.inl (st (i + 1)))) (hend : F (st n) = some (.inr r)) : AG F (st 0) = some r := by
 obtain ⟨r', h1, h2⟩ := Ze (φ := fun r' => r' = r) n st (fun i hi => .inl (h i hi)) ⟨r, hend, rfl⟩
 rw [h1, h2]
theorem aG {α : Type} (ys : List α) (i : Nat) (z : α) (m : Nat) (h : ys.length = i) : (ys ++ cq (m + 1) z).set i = fun y => ys ++ y :: cq m z := by
 funext y
 subst h
 rw [ke _ _ (al _), fo, kz, my]
theorem V9 {α β : Type} (xs : List α) (g : α → β) (z : β) {F : List β × Int → Option ((List β × Int) ⊕ List β)}
  (h : ∀ (ys : List β) (i : Nat) (x : α), xs[i]? = some x → ys.length = xs.length → F (ys, (i : Int)) = some (.inl (ys.set i (g x), ((i + 1 : Nat) : Int)))) (hend : ∀ ys : List β, F (ys, (xs.length : Int)) = some (.inr ys)) :
  AG F (cq xs.length z, (0 : Int)) = some (xs.map g) := by
 have hs : ∀ i, i ≤ xs.length → ((xs.take i).map g ++ cq (xs.length - i) z).length = xs.length := by
  intro i hi
  simp only [an, ee, dn, ga]
  omega
 have := Ez (F := F) (r := xs.map g) xs.length (fun i => ((xs.take i).map g ++ cq (xs.length - i) z, (i : Int))) (fun i hi => ?_) ?_
 ·simpa using this
 ·rw [h _ i xs[i] (ae hi) (hs i (by omega))]
  congr 3
  rw [show xs.length - i = (xs.length - (i + 1)) + 1 by omega, aG _ _ _ _ (by simp; omega)]
  have : (xs.take (i + 1)).map g = (xs.take i).map g ++ [g xs[i]] := by rw [List.take_add_one, ae hi, eh]; rfl
  rw [this, bf]
  rfl
 ·have := hend (xs.map g)
  simpa using this
abbrev Gk {α : Type} (f : α → Prop) (xs : List α) : Prop := xs.length ≤ 1048576 ∧ ∀ x ∈ xs, f x
theorem Bf {i n : Nat} (h : i < n) : decide ((i : Int) < (n : Int)) = true := by rw [decide_eq_true_eq]; omega
theorem Bd (n : Nat) : decide ((n : Int) < (n : Int)) = false := by rw [decide_eq_false_iff_not]; omega
theorem Bi {α : Type} {xs : List α} {i : Nat} {x : α} (h : xs[i]? = some x) : i < xs.length := (ak.1 h).1
theorem OW {α : Type} {xs : List α} {left : Int} (h0 : 0 ≤ left) (h1 : left ≤ 1048576) (hx : xs.length ≤ 9223372036854775807) :
  ∃ v, (bif decide (BE (left - (xs.length : Int)) < (0 : Int)) then some (-1 : Int) else some (BE (left - (xs.length : Int)))) = some v ∧ v ≤ left ∧ (v < 0 ∨ Gk (fun _ => True) xs) := by
 rw [LL ⟨by omega, by omega⟩]
 cases hb : decide ((left - (xs.length : Int)) < (0 : Int)) with
 | true => exact ⟨_, rfl, by omega, .inl (by decide)⟩
 | false =>
  simp only [decide_eq_false_iff_not] at hb
  exact ⟨_, rfl, by omega, .inr ⟨by omega, fun _ _ => trivial⟩⟩
theorem TL {α : Type} {xs : List α} {F : Int × Int → Option ((Int × Int) ⊕ Int)} {g : α → Int → Option Int} {fit sm : α → Prop} {left : Int}
  (hg : ∀ x l, fit x → 0 ≤ l → l ≤ 1048576 → ∃ v, g x l = some v ∧ v ≤ l ∧ (v < 0 ∨ sm x)) (hF : ∀ (l : Int) (i : Nat) (x : α), xs[i]? = some x → F (l, (i : Int)) = (g x l).bind fun v => bif decide (v < (0 : Int)) then some (.inr (-1)) else some (.inl (v, BE ((i : Int) + 1))))
  (hend : ∀ l, F (l, (xs.length : Int)) = some (.inr l)) (h0 : 0 ≤ left) (h1 : left ≤ 1048576) (hx : DH fit xs) :
  ∃ v, (bif decide (BE (left - (xs.length : Int)) < (0 : Int)) then some (-1 : Int) else AG F (BE (left - (xs.length : Int)), (0 : Int))) = some v ∧ v ≤ left ∧ (v < 0 ∨ Gk sm xs) := by
 have hx1 := hx.1
 rw [LL ⟨by omega, by omega⟩]
 cases hb : decide ((left - (xs.length : Int)) < (0 : Int)) with
 | true => exact ⟨_, rfl, by omega, .inl (by decide)⟩
 | false =>
  simp only [decide_eq_false_iff_not] at hb
  simp only [cond_false]
  have key : ∀ (k i : Nat) (l : Int), i + k = xs.length → 0 ≤ l → l ≤ left → (∀ j x, j < i → xs[j]? = some x → sm x) → ∃ v, AG F (l, (i : Int)) = some v ∧ v ≤ left ∧ (v < 0 ∨ ∀ x ∈ xs, sm x) := by
   intro k
   induction k with
   | zero =>
    intro i l hi hl0 hl1 hall
    have : i = xs.length := by omega
    subst this
    refine ⟨l, by rw [Be, hend]; rfl, hl1, .inr fun x hx => ?_⟩
    obtain ⟨j, hj, e⟩ := ej.1 hx
    exact hall j x hj (by rw [ae hj, e])
   | succ k ih =>
    intro i l hi hl0 hl1 hall
    have hlt : i < xs.length := by omega
    have hget := ae hlt
    obtain ⟨v, e1, e2, e3⟩ := hg xs[i] l (hx.2 _ (bg hlt)) hl0 (by omega)
    rw [Be, hF l i _ hget, e1, aa]
    cases hv : decide (v < (0 : Int)) with
    | true => exact ⟨-1, rfl, by omega, .inl (by decide)⟩
    | false =>
     simp only [decide_eq_false_iff_not] at hv
     simp only [cond_false, aa]
     rw [AS (by omega)]
     refine ih (i + 1) v (by omega) (by omega) (by omega) fun j x hj hjx => ?_
     by_cases hji : j = i
     ·subst hji
      rw [hget] at hjx
      simp only [ab] at hjx
      subst hjx
      exact e3.resolve_left hv
     ·exact hall j x (by omega) hjx
  obtain ⟨v, e1, e2, e3⟩ := key xs.length 0 (left - xs.length) (by omega) (by omega) (by omega) (fun j x hj => by omega)
  exact ⟨v, e1, e2, e3.imp id fun h => ⟨by omega, h⟩⟩
theorem Kr {α : Type} {xs : List α} {F : Int → Option (Int ⊕ Bool)} (hl : xs.length ≤ 1048576) (hF : ∀ (i : Nat) (x : α), xs[i]? = some x → F (i : Int) = some (.inl (BE ((i : Int) + 1)))) (hend : F (xs.length : Int) = some (.inr true)) : AG F (0 : Int) = some true :=
 Ez (F := F) xs.length (fun i => (i : Int)) (fun i hi => by rw [hF i _ (ae hi), AS (by omega)]) hend
theorem I0 {y n : Int} (h : -9223372036854775807 ≤ n ∧ n ≤ 9223372036854775807) : decide (y ≤ BE (n - 1)) = decide (y < n) := by rw [LL ⟨by omega, by omega⟩]; congr 1; apply propext; omega
theorem Zf {α : Type} {F : Int → Option (Int ⊕ Bool)} (xs : List α) (b : α → Bool) (h : ∀ (i : Nat) (x : α), xs[i]? = some x → F (i : Int) = some (bif b x then .inr true else .inl ((i + 1 : Nat) : Int))) (hend : F (xs.length : Int) = some (.inr false)) : AG F (0 : Int) = some (xs.any b) := by
 have key : ∀ k i : Nat, i + k = xs.length → AG F (i : Int) = some ((xs.drop i).any b) := by
  intro k
  induction k with
  | zero =>
   intro i hi
   have : i = xs.length := by omega
   subst this
   rw [Be, hend, nm]; rfl
  | succ k ih =>
   intro i hi
   have hlt : i < xs.length := by omega
   rw [Be, h i _ (ae hlt), List.drop_eq_getElem_cons hlt, List.any_cons]
   cases hb : b xs[i] with
   | true => simp
   | false => simp only [cond_false, aa, Bool.false_or]; exact ih (i + 1) (by omega)
 have := key xs.length 0 (by omega)
 simpa using this
def Nz (v : V) : Prop := ∀ m cs, v = .tl m cs → m = 0
theorem Nz.snap {b n : Nat} {cs : List V} : Nz (.snap b n cs) := fun _ _ h => by cases h
theorem Nz.nil : Nz (.tl 0 []) := fun _ _ h => by cases h; rfl
def DP {α : Type} (by_ : Nat) (xs ys : List α) : Option (List α) := if ys.length = 0 ∨ (xs.length + ys.length) * (by_ + 1) ≤ 70368744177664 then some (xs ++ ys) else none
theorem DC {α : Type} {by_ : Nat} {xs ys : List α} (h : (xs.length + ys.length) * (by_ + 1) ≤ 70368744177664) : DP by_ xs ys = some (xs ++ ys) := if_pos (.inr h)
theorem A4.Hn {H G : A6} {rs : List BK} {α : Type} [AL α] (h : A4 H G rs) (d : Nat) (xs : List α) : A4 H G (.own (.tl xs.length ((A8 0) xs)) d (AL.sz α) xs.length ((A8 0) xs) :: rs) where
 pre := h.pre
 len := h.len
 ok := fun r hr => by
  rcases bq.1 hr with rfl | hr
  ·exact ⟨EA xs, .inl rfl⟩
  ·exact h.ok r hr
 apart := cg.2 ⟨fun r _ x hx => by simp [BK.CO] at hx, h.apart⟩
theorem A4.swap {H G : A6} {rs : List BK} (h : A4 H G rs) {k : Nat} {r r' : BK} {x : Bz} (hk : rs[k]? = some r) (hr : r.CO = []) (hn : r'.CO = [G.length]) (ho : r'.ok H (G ++ [x])) : A4 H (G ++ [x]) (rs.set k r') where
 pre := fun b hb => by rw [aw (cw hb h.len)]; exact h.pre b hb
 len := by rw [an]; have := h.len; omega
 ok := fun r2 hr2 => by
  obtain ⟨j, hj, e⟩ := ej.1 hr2
  simp only [bp] at hj
  rw [en] at e
  split at e
  ·rw [← e]; exact ho
  ·subst e
   have h1 := h.ok _ (bg hj)
   exact BK.Eb h1 fun y hy => by rw [aw (BK.E4 h1 hy)]
 apart := by
  have hp := cz.1 h.apart
  rw [cz]
  intro i j hi hj hij x hx hx'
  simp only [bp] at hi hj
  simp only [en] at hx hx'
  split at hx
  ·rename_i e
   rw [if_neg (by omega)] at hx'
   rw [hn] at hx
   simp only [bh] at hx
   subst hx
   exact absurd (BK.E4 (h.ok _ (bg hj)) hx') (jl _)
  ·split at hx'
   ·rw [hn] at hx'
    simp only [bh] at hx'
    subst hx'
    exact absurd (BK.E4 (h.ok _ (bg hi)) hx) (jl _)
   ·exact hp i j hi hj hij x hx hx'
theorem A4.own {H G : A6} {rs : List BK} (h : A4 H G rs) {k d sz n : Nat} {v : V} {cs : List V} (hk : rs[k]? = some (.own v d sz n cs)) : cs.length = n * sz ∧ (v = .tl n cs ∨ ∃ b, v = .snap b n cs ∧ H.length ≤ b ∧ G[b]? = some (.C1 d n sz)) := h.ok _ (bj hk)
theorem A4.pick {H G : A6} {rs rs' : List BK} (h : A4 H G rs) (ix : List Nat) (hn : ix.Nodup) (he : rs'.map some = ix.map fun i => rs[i]?) : A4 H G rs' where
 pre := h.pre
 len := h.len
 ok := fun r hr => by
  have : some r ∈ rs'.map some := du.2 ⟨r, hr, rfl⟩
  rw [he] at this
  obtain ⟨i, _, hi⟩ := du.1 this
  exact h.ok r (bj hi)
 apart := by
  have hlen : rs'.length = ix.length := by have := congrArg List.length he; simpa using this
  have hget : ∀ i (hi : i < rs'.length), rs[ix[i]'(by omega)]? = some rs'[i] := by
   intro i hi
   have := congrArg (fun l => l[i]?) he
   simp only [dz, ae hi, ae (show i < ix.length by omega), aj] at this
   exact (av this).symm
  have hp := cz.1 h.apart
  rw [cz]
  intro i j hi hj hij x hx hx'
  obtain ⟨a1, a2⟩ := ak.1 (hget i hi)
  obtain ⟨b1, b2⟩ := ak.1 (hget j hj)
  rw [← a2] at hx
  rw [← b2] at hx'
  have hne : ix[i]'(by omega) ≠ ix[j]'(by omega) := cz.1 hn i j (by omega) (by omega) hij
  rcases bz (ix[i]'(by omega)) (ix[j]'(by omega)) with hlt | hge
  ·exact hp _ _ a1 b1 hlt x hx hx'
  ·exact hp _ _ b1 a1 (by omega) x hx' hx
section steps
variable {P : bm} {h : Bp} {fk n base : Nat} {lk : Lk} {c : Cx} {ops : Array ch} {s kk : Bool} {d : Nat} {ty : ao} {pos : String} {aft : Array Edge} {l : List (Bool × Bool × ch)} {Q : St → Prop} {T : Nat → V} {G G' H : A6} {rs : List BK} {op : Op}
variable {α : Type} [AL α]
theorem pk {H G : A6} {rs rs' : List BK} (h : A4 H G rs) (ix : List Nat) (hn : ix.Nodup := by decide) (he : rs'.map some = ix.map fun i => rs[i]? := by rfl) : A4 H G rs' := h.pick ix hn he
theorem rZ {t t2 : ao} {x y : au} {a b : Bool} (ht : P.underlying t = some .bool) (k : BU (B5 P h fk n base lk) ops l ⟨Cw T d (.bool (a == b)), G⟩ Q) (h1 : ev T x = some (.bool a) := by rfl) (h2 : ev T y = some (.bool b) := by rfl) (hd : cm d n = true := by rfl) :
  BU (B5 P h fk n base lk) ops ((s, kk, ⟨some d, .binOp .eql t x y t2, ty, pos, aft, none⟩) :: l) ⟨T, G⟩ Q := pB k h1 h2 (by simp only [Qe, ht]) hd
theorem Zu {t t2 : ao} {x y : au} {a b : Bool} (ht : P.underlying t = some .bool) (k : BU (B5 P h fk n base lk) ops l ⟨Cw T d (.bool (!(a == b))), G⟩ Q) (h1 : ev T x = some (.bool a) := by rfl) (h2 : ev T y = some (.bool b) := by rfl) (hd : cm d n = true := by rfl) :
  BU (B5 P h fk n base lk) ops ((s, kk, ⟨some d, .binOp .neq t x y t2, ty, pos, aft, none⟩) :: l) ⟨T, G⟩ Q := pB k h1 h2 (by simp only [Qe, ht]) hd
theorem NB {t : ao} {parts : Array (Nat × au)} {ps : List (Nat × V)} {z : List V} {pl : List (Nat × Nat)} (cs : List V) (hz : BJ P t = some z) (hp : FT P t = some pl) (k : BU (B5 P h fk n base lk) ops l ⟨Cw T d (.agg cs), G⟩ Q) (h1 : S5 T parts.toList = some ps := by rfl) (h2 : Dv (fun i => pl[i]?) z ps = some cs := by rfl) (hd : cm d n = true := by rfl) :
  BU (B5 P h fk n base lk) ops ((s, kk, ⟨some d, .build t parts, ty, pos, aft, none⟩) :: l) ⟨T, G⟩ Q := by
 refine pV ?_ hd k
 rw [Xt, h1]
 show (BJ P t).bind _ = _
 rw [hz]
 show (FT P t).bind _ = _
 rw [hp]
 show ((Dv (fun i => pl[i]?) z ps).map V.agg).map _ = _
 rw [h2]
 rfl
theorem cF {c : Cx} (hk : c.hints.H4 c.fn = false) (kd : fz) (x : Int) : Gc c H (.int kd x) = some (.int kd x, H) := by
 unfold Gc
 rw [hk]
 simp only [bd, if_false]
 split <;> rfl
theorem EJ {c : Cx} : CZ c H [] = some ([], H) := rfl
theorem Dh {c : Cx} {i : Nat} {v : V} {r : List (Nat × V)} (h1 : Gc c H v = some (v, H)) (h2 : CZ c H r = some (r, H)) : CZ c H ((i, v) :: r) = some ((i, v) :: r, H) := by
 simp only [CZ, h1, h2, aa, aj]
theorem Vi {t e : ao} {m : Nat} {parts : Array (Nat × au)} {ps : List (Nat × V)} {z : List V} (ys : List α) (he : B6 P t = some e) (hz : B8 P e = some (AL.sz α)) (hz0 : BJ P e = some z) (hem : CZ ((B5 P h fk n base lk).BQ s kk) G ps = some (ps, G)) (k : BU (B5 P h fk n base lk) ops l ⟨Cw T d (.tl ys.length ((A8 0) ys)), G⟩ Q)
  (hzl : z.length = AL.sz α := by rfl) (hm : fm (m * AL.sz α) 1048576 = true := by rfl) (hlen : m = ys.length := by rfl) (h1 : S5 T parts.toList = some ps := by rfl) (h2 : Dv (fun i => some (i * AL.sz α, AL.sz α)) (cq m z).flatten ps = some ((A8 0) ys) := by rfl) (hd : cm d n = true := by rfl) :
  BU (B5 P h fk n base lk) ops ((s, kk, ⟨some d, .buildSlice t m parts, ty, pos, aft, none⟩) :: l) ⟨T, G⟩ Q := by
 refine pV ?_ hd k
 unfold Hi Cb
 simp only []
 rw [h1]
 simp only [aa, hem]
 show (B6 P t).bind _ = _
 rw [he]
 show (B8 P e).bind _ = _
 rw [hz]
 show (BJ P e).bind _ = _
 rw [hz0]
 simp only [aa]
 rw [if_pos ⟨hzl, ff.1 AL.pos, ca hm⟩, h2, hlen]
 rfl
def Oa (G : A6) (v : V) (xs : List α) : Prop := Ct v = some xs.length ∧ Gb G (AL.sz α) v = some ((A8 0) xs)
theorem IS (lv : Nat) (xs : List α) : Oa G (.lit lv xs.length ((A8 0) xs)) xs := ⟨rfl, rfl⟩
theorem Ee (xs : List α) : Oa G (.tl xs.length ((A8 0) xs)) xs := ⟨rfl, rfl⟩
theorem XI {j dd sz : Nat} {v : V} {xs : List α} (hO : A4 H G rs) (hj : rs[j]? = some (.own v dd sz xs.length ((A8 0) xs))) : Oa G v xs := by
 rcases (hO.own hj).2 with rfl | ⟨b, rfl, _⟩
 ·exact ⟨rfl, rfl⟩
 ·exact ⟨rfl, rfl⟩
theorem mA {c : Cx} {st xt e : ao} {w : V} {ys : List α} {by_ m : Nat} {z cs : List V} (hy : Oa G w ys) (he : B6 c.P st = some e) (hz : B8 c.P e = some (AL.sz α)) (hby : CH c.P e = some by_) (hz0 : BJ c.P e = some z) (he' : (B6 c.P xt).isSome = true) (hzl : z.length = AL.sz α) :
  Dz c st xt G (.tl m cs) w = if ys.length = 0 then some (.tl m cs, G) else if cs.length = m * AL.sz α ∧ (m + ys.length) * (by_ + 1) ≤ 70368744177664 then some (.snap G.length (m + ys.length) (cs ++ (A8 0) ys), G ++ [.C1 c.d (m + ys.length) (AL.sz α)]) else none := by
 unfold Dz
 rw [he, aa, hz, aa, hby, aa, hz0, aa, if_pos ⟨he', ff.1 AL.pos, hzl⟩, hy.1, aa, hy.2, aa, if_pos ⟨EA ys, E9 ys⟩]
theorem cD {c : Cx} {st xt e : ao} {w : V} {ys : List α} {by_ m b : Nat} {z cs : List V} (hy : Oa G w ys) (he : B6 c.P st = some e) (hz : B8 c.P e = some (AL.sz α)) (hby : CH c.P e = some by_) (hz0 : BJ c.P e = some z) (he' : (B6 c.P xt).isSome = true) (hzl : z.length = AL.sz α) :
  Dz c st xt G (.snap b m cs) w = if ys.length = 0 then some (.snap b m cs, G) else match G[b]? with
    | some (.C1 l m' sz') => if cs.length = m * AL.sz α ∧ (m + ys.length) * (by_ + 1) ≤ 70368744177664 ∧ m' = m ∧ sz' = AL.sz α ∧ c.BV b = true then some (.snap b (m + ys.length) (cs ++ (A8 0) ys), G.set b (.C1 l (m + ys.length) (AL.sz α))) else none
    | _ => none := by
 unfold Dz
 rw [he, aa, hz, aa, hby, aa, hz0, aa, if_pos ⟨he', ff.1 AL.pos, hzl⟩, hy.1, aa, hy.2, aa, if_pos ⟨EA ys, E9 ys⟩]
 rfl
theorem Uf {st xt e e' : ao} {x y : au} {v w : V} {xs ys zs : List α} {by_ dd sz : Nat} {z : List V} (hO : A4 H G rs) (j : Nat) (happ : DP by_ xs ys = some zs) (hy : Oa G w ys) (he : B6 P st = some e) (hz : B8 P e = some (AL.sz α)) (hby : CH P e = some by_) (hz0 : BJ P e = some z) (he' : B6 P xt = some e') (hb : base = H.length)
  (k : ∀ v' G', (Nz v → Nz v') → A4 H G' (rs.set j (.own v' lk.length (AL.sz α) zs.length ((A8 0) zs))) → BU (B5 P h fk n base lk) ops l ⟨Cw T d v', G'⟩ Q)
  (h1 : ev T x = some v := by rfl) (h2 : ev T y = some w := by rfl) (hzl : z.length = AL.sz α := by rfl) (hj : rs[j]? = some (.own v dd sz xs.length ((A8 0) xs)) := by rfl) (hdd : dd = lk.length := by rfl) (hsz : sz = AL.sz α := by rfl) (hd : cm d n = true := by rfl) :
  BU (B5 P h fk n base lk) ops ((s, kk, ⟨some d, .call ⟨.builtin .append, #[x, y], #[st, xt]⟩, ty, pos, aft, none⟩) :: l) ⟨T, G⟩ Q := by
 subst hb hdd hsz
 obtain ⟨hl, hv⟩ := hO.own hj
 unfold DP at happ
 split at happ
 case isFalse => cases happ
 rename_i hroom
 simp only [ab] at happ
 subst happ
 have start : ∀ r : Option (V × A6), Dz ((B5 P h fk n H.length lk).BQ s kk) st xt G v w = r → Hi ((B5 P h fk n H.length lk).BQ s kk) (.call ⟨.builtin .append, #[x, y], #[st, xt]⟩) ⟨T, G⟩ = r := by
  intro r hr
  rw [QG]
  simp only [h1, h2, aa]
  exact hr
 have hx' : (B6 P xt).isSome = true := by rw [he']; rfl
 have hap1 := fun m cs => mA (c := (B5 P h fk n H.length lk).BQ s kk) (m := m) (cs := cs) hy he hz hby hz0 hx' hzl
 have hap2 := fun b m cs => cD (c := (B5 P h fk n H.length lk).BQ s kk) (b := b) (m := m) (cs := cs) hy he hz hby hz0 hx' hzl
 rcases jo ys.length with h0 | h0
 ·have hys : ys = [] := cp h0
  subst hys
  have hrs : rs.set j (.own v lk.length (AL.sz α) xs.length ((A8 0) xs)) = rs := by
   apply je
   intro i
   rw [km]
   split
   ·rename_i e1; subst e1
    obtain ⟨q1, q2⟩ := ak.1 hj
    rw [if_pos q1, hj]
   ·rfl
  have k2 := k v G id (by simp only [dh]; rw [hrs]; exact hO)
  refine pV (start _ ?_) hd k2
  rcases hv with rfl | ⟨b, rfl, _, _⟩
  ·rw [hap1]; exact if_pos rfl
  ·rw [hap2]; exact if_pos rfl
 ·have hroom := hroom.resolve_left (by omega)
  have hl2 : ((A8 0) xs ++ (A8 0) ys).length = (xs.length + ys.length) * AL.sz α := by rw [an, EA, EA, Nat.add_mul]
  have e1 : (xs ++ ys).length = xs.length + ys.length := an
  rw [e1, Tl] at k
  rcases hv with rfl | ⟨b, rfl, hbb, hg⟩
  ·refine pV (start _ ?_) hd (k (.snap G.length (xs.length + ys.length) ((A8 0) xs ++ (A8 0) ys)) (G ++ [.C1 lk.length (xs.length + ys.length) (AL.sz α)]) (fun _ => Nz.snap) (hO.swap hj rfl rfl ⟨hl2, .inr ⟨G.length, rfl, hO.len, G5 _ _⟩⟩))
   rw [hap1, if_neg (by omega), if_pos ⟨hl, hroom⟩]
   rfl
  ·have hlt : b < G.length := (ak.1 hg).1
   have hm : ((B5 P h fk n H.length lk).BQ s kk).BV b = true := by
    unfold Cx.BV
    simp only [df, decide_eq_true_eq]
    exact .inl hbb
   refine pV (start _ ?_) hd (k (.snap b (xs.length + ys.length) ((A8 0) xs ++ (A8 0) ys)) (G.set b (.C1 lk.length (xs.length + ys.length) (AL.sz α))) (fun _ => Nz.snap) (hO.set hj rfl rfl ⟨hl2, .inr ⟨b, rfl, hbb, by rw [Ai, if_pos ⟨rfl, hlt⟩]⟩⟩))
   rw [hap2, if_neg (by omega), hg]
   simp only []
   rw [if_pos ⟨hl, hroom, trivial, trivial, hm⟩]
theorem oE {x : au} {t : ao} {v : V} {xs : List α} (hb : Oa G v xs) (ht : IM P t = some false) (k : BU (B5 P h fk n base lk) ops l ⟨Cw T d (.int .i64 xs.length), G⟩ Q) (h1 : ev T x = some v := by rfl) (hd : cm d n = true := by rfl) :
  BU (B5 P h fk n base lk) ops ((s, kk, ⟨some d, .call ⟨.builtin .len, #[x], #[t]⟩, ty, pos, aft, none⟩) :: l) ⟨T, G⟩ Q := by
 refine Ae (b := false) (a := v) ht k h1 ?_ hd
 have := hb.1
 cases v <;> first | exact this | simp [Ct] at this
theorem sB {xs : List α} {i : Int} {x : α} {t e : ao} {y z : au} {kd : fz} {v : V} {dd sz : Nat} (hO : A4 H G rs) (j : Nat) (hc : AH xs i = some x) (he : B6 P t = some e) (hz : B8 P e = some (AL.sz α)) (k : ∀ lv, BU (B5 P h fk n base lk) ops l ⟨Cw T d (.lp lv ((A8 0) xs) (i.toNat * AL.sz α)), G⟩ Q)
  (h1 : ev T y = some v := by rfl) (h2 : ev T z = some (.int kd i) := by rfl) (hj : rs[j]? = some (.own v dd sz xs.length ((A8 0) xs)) := by rfl) (hd : cm d n = true := by rfl) :
  BU (B5 P h fk n base lk) ops ((s, kk, ⟨some d, .indexAddr t y z, ty, pos, aft, none⟩) :: l) ⟨T, G⟩ Q := by
 rcases (hO.own hj).2 with hv | ⟨b, hv, _⟩
 ·subst hv
  refine pV ?_ hd (k 0)
  rw [DM]
  show (B6 P t).bind _ = _
  rw [he, aa]
  show (B8 P e).bind _ = _
  simp only [hz, h1, h2, aa, asInt, Qn, Ct]
  rw [if_pos (EZ hc)]
  rfl
 ·subst hv
  refine pV (v := .lp lk.length ((A8 0) xs) (i.toNat * AL.sz α)) ?_ hd (k _)
  rw [DM]
  show (B6 P t).bind _ = _
  rw [he, aa]
  show (B8 P e).bind _ = _
  simp only [hz, h1, h2, aa, asInt, Qn, Ct]
  rw [if_pos (EZ hc)]
  rfl
end steps
class Ja (α : Type) where
 pv : α → V
 plain : ∀ a, Bb (pv a) = true
instance : Ja Int := ⟨fun x => .int .i64 x, fun _ => rfl⟩
instance : Ja Bool := ⟨fun x => .bool x, fun _ => rfl⟩
instance : Ja ByteArray := ⟨fun x => .str x, fun _ => rfl⟩
def Ob (kt : KT) (κ : Type) [Ja κ] [DecidableEq κ] : Prop := ∀ a b : κ, ET kt (Ja.pv a) (Ja.pv b) = some (decide (a = b))
theorem WX : Ob (.one .i) Int := fun a b => by
 show (if IntKind.i64 = IntKind.i64 then some (a == b) else none) = _
 rw [if_pos rfl]
 rfl
section
variable {κ ν : Type} [DecidableEq κ]
def Dm (k : κ) : List (κ × ν) → Nat → Option (Nat × ν)
 | [], _ => none
 | e :: m, i => if k = e.1 then some (i, e.2) else Dm k m (i + 1)
def K1 (k : κ) (m : List (κ × ν)) (z : ν) : ν := match Dm k m 0 with | some x => x.2 | none => z
def nZ (k : κ) (m : List (κ × ν)) : Bool := (Dm k m 0).isSome
def Qs (k : κ) (v : ν) (m : List (κ × ν)) : List (κ × ν) := match Dm k m 0 with | some x => m.set x.1 (k, v) | none => m ++ [(k, v)]
theorem RT {k : κ} : ∀ {m : List (κ × ν)} {i : Nat} {x : Nat × ν}, Dm k m i = some x → i ≤ x.1 ∧ m[x.1 - i]? = some (k, x.2)
 | [], i, x, h => by simp [Dm] at h
 | e :: m, i, x, h => by
  unfold Dm at h
  split at h
  ·rename_i hk
   simp only [ab] at h
   subst h
   exact ⟨al _, by simp [hk]⟩
  ·obtain ⟨h1, h2⟩ := RT h
   refine ⟨by omega, ?_⟩
   rw [show x.1 - i = (x.1 - (i + 1)) + 1 by omega]
   exact h2
end
section
variable {κ ν : Type} [Ja κ] [Ja ν]
def BP (m : List (κ × ν)) : List (V × V) := m.map fun e => (Ja.pv e.1, Ja.pv e.2)
theorem eJ (m : List (κ × ν)) (i : Nat) (k : κ) (v : ν) : (BP m).set i (Ja.pv k, Ja.pv v) = BP (m.set i (k, v)) := by
 unfold BP
 rw [List.map_set]
theorem ZW (m : List (κ × ν)) (k : κ) (v : ν) : BP m ++ [(Ja.pv k, Ja.pv v)] = BP (m ++ [(k, v)]) := by simp [BP]
end
section maps
variable {κ ν : Type} [Ja κ] [Ja ν] [DecidableEq κ]
theorem Jr {kt : KT} (hf : Ob kt κ) (k : κ) : ∀ (m : List (κ × ν)) (i : Nat), FK kt (Ja.pv k) (BP m) i = some ((Dm k m i).map fun x => (x.1, Ja.pv x.2))
 | [], i => rfl
 | e :: m, i => by
  show (ET kt (Ja.pv k) (Ja.pv e.1)).bind _ = _
  rw [hf k e.1, aa]
  unfold Dm
  by_cases h : k = e.1
  ·simp only [h, decide_true, if_true, aj]
  ·simp only [h, decide_false, bd, if_false]
   exact Jr hf k m (i + 1)
section steps
variable {P : bm} {h : Bp} {fk n base : Nat} {lk : Lk} {c : Cx} {ops : Array ch} {s kk : Bool} {d : Nat} {ty : ao} {pos : String} {aft : Array Edge} {l : List (Bool × Bool × ch)} {Q : St → Prop} {T : Nat → V} {G G' H : A6} {rs : List BK} {op : Op}
theorem s8 {t : ao} (κ ν : Type) [Ja κ] [Ja ν] (hO : A4 H G rs) (k : ∀ b G', A4 H G' (.AW b (.mp (BP ([] : List (κ × ν)))) :: rs) → BU (B5 P h fk n base lk) ops l ⟨Cw T d (.Ft b), G'⟩ Q) (hd : cm d n = true := by rfl) :
  BU (B5 P h fk n base lk) ops ((s, kk, ⟨some d, .makeMap t none, ty, pos, aft, none⟩) :: l) ⟨T, G⟩ Q :=
 pV (G' := G ++ [.mp []]) rfl hd (k _ _ (hO.alloc (.mp [])))
theorem eL {t e : ao} {kt : KT} {b : Nat} {m : List (κ × ν)} {k : κ} {z : ν} {ok : Bool} (hg : G[b]? = some (.mp (BP m))) (hm : Qr P t = some (kt, e)) (hf : Ob kt κ) (hz : Qb P e = some (Ja.pv z)) :
  JR P t G (.Ft b) (Ja.pv k) ok = some (if ok then .GS [Ja.pv (K1 k m z), .bool (nZ k m)] else Ja.pv (K1 k m z)) := by
 unfold JR
 simp only [hg, hm, aa]
 rw [if_pos ⟨Ja.plain k, by rw [hf k k]; simp⟩, Jr hf k m 0]
 unfold K1 nZ
 cases hx : Dm k m 0 with
 | none => simp only [iq, aa, hz, aj]; rfl
 | some x => simp only [aj, aa]; rfl
theorem s7 {t e : ao} {kt : KT} {x y : au} {b : Nat} {m : List (κ × ν)} (k : κ) (z : ν) (hg : G[b]? = some (.mp (BP m))) (hm : Qr P t = some (kt, e)) (hf : Ob kt κ) (hz : Qb P e = some (Ja.pv z)) (kk' : BU (B5 P h fk n base lk) ops l ⟨Cw T d (Ja.pv (K1 k m z)), G⟩ Q) (h1 : ev T x = some (.Ft b) := by rfl) (h2 : ev T y = some (Ja.pv k) := by rfl) (hd : cm d n = true := by rfl) :
  BU (B5 P h fk n base lk) ops ((s, kk, ⟨some d, .lookup t x y false, ty, pos, aft, none⟩) :: l) ⟨T, G⟩ Q := by
 refine pV ?_ hd kk'
 show ((ev T x).bind fun m => (ev T y).bind fun kv => (JR P t G m kv false).map fun v => (v, G)) = _
 rw [h1, h2]
 simp only [aa, eL hg hm hf hz]
 rfl
theorem eW {b : Nat} (hb : H.length ≤ b) : ((B5 P h fk n H.length lk).BQ s kk).BV b = true := by
 unfold Cx.BV
 simp only [df, decide_eq_true_eq]
 exact .inl hb
theorem sA {t e : ao} {kt : KT} {x y w : au} {b : Nat} {m : List (κ × ν)} (hO : A4 H G rs) (j : Nat) (k : κ) (v : ν) (hm : Qr P t = some (kt, e)) (hf : Ob kt κ) (hb : base = H.length)
  (kk' : ∀ G', A4 H G' (rs.set j (.AW b (.mp (BP (Qs k v m))))) → BU (B5 P h fk n base lk) ops l ⟨T, G'⟩ Q)
  (h1 : ev T x = some (.Ft b) := by rfl) (h2 : ev T y = some (Ja.pv k) := by rfl) (h3 : ev T w = some (Ja.pv v) := by rfl) (hj : rs[j]? = some (.AW b (.mp (BP m))) := by rfl) :
  BU (B5 P h fk n base lk) ops ((s, kk, ⟨none, .mapUpdate t x y w, ty, pos, aft, none⟩) :: l) ⟨T, G⟩ Q := by
 subst hb
 obtain ⟨hg, hbb⟩ := hO.get hj
 have hlt : b < G.length := (ak.1 hg).1
 refine a7 (v := Ck) ?_ (kk' _ (hO.set (x := .mp (BP (Qs k v m))) hj rfl rfl ⟨hbb, by rw [Ai, if_pos ⟨rfl, hlt⟩]⟩))
 show ((ev T x).bind fun m => (ev T y).bind fun kv => (ev T w).bind fun u => (W4 ((B5 P h fk n H.length lk).BQ s kk) t G m kv u).map fun H => (Ck, H)) = _
 rw [h1, h2, h3]
 have hmK : Qr ((B5 P h fk n H.length lk).BQ s kk).P t = some (kt, e) := hm
 simp only [aa, W4, hg, hmK]
 rw [if_pos ⟨Ja.plain k, Ja.plain v, by rw [hf k k]; simp, eW hbb⟩, Jr hf k m 0]
 unfold Qs
 cases hx : Dm k m 0 with
 | none => simp only [iq, aj, ZW]
 | some q => simp only [aj, eJ]
end steps
end maps
theorem A4.kill {H G : A6} {rs : List BK} (h : A4 H G rs) {k b : Nat} {r : BK} (hk : rs[k]? = some r) (hn : r.CO = [b]) (hw : r.ZU = true := by rfl) : A4 H (G.set b .dead) (rs.eraseIdx k) where
 pre := fun x hx => by
  rw [Ai, if_neg]
  ·exact h.pre x hx
  ·rintro ⟨rfl, _⟩
   have := BK.MC (h.ok r (bj hk)) hw (x := b) (by rw [hn]; simp)
   omega
 len := by rw [bp]; exact h.len
 ok := fun r2 hr2 => by
  obtain ⟨j, hj, e⟩ := ej.1 hr2
  rw [mh] at e
  obtain ⟨hk1, hk2⟩ := ak.1 hk
  have hp := cz.1 h.apart
  split at e
  ·rename_i hjk
   subst e
   have hj' : j < rs.length := by rw [kh] at hj; split at hj <;> omega
   refine BK.Eb (h.ok _ (bg hj')) fun y hy => ?_
   rw [Ai, if_neg]
   rintro ⟨rfl, _⟩
   exact hp j k hj' hk1 hjk b hy (by rw [hk2, hn]; simp)
  ·rename_i hjk
   subst e
   have hj' : j + 1 < rs.length := by rw [kh] at hj; split at hj <;> omega
   refine BK.Eb (h.ok _ (bg hj')) fun y hy => ?_
   rw [Ai, if_neg]
   rintro ⟨rfl, _⟩
   exact hp k (j + 1) hk1 hj' (by omega) b (by rw [hk2, hn]; simp) hy
 apart := h.apart.sublist (gu _ _)
def fY (n : Nat) (H : A6) (d : Nat) (rs : List BK) (v v' : V) (rs' : List BK) : Prop := ∀ G, A4 H G rs → ∀ k, ∃ G2, BL false H.length d (k + n) (G, []) v = some (v', (G2, [])) ∧ A4 H G2 rs'
def lV (n : Nat) (H : A6) (d : Nat) (rs : List BK) (vs vs' : List V) (rs' : List BK) : Prop := ∀ G, A4 H G rs → ∀ k, ∃ G2, BL.resL (BL false H.length d (k + n)) (G, []) vs = some (vs', (G2, [])) ∧ A4 H G2 rs'
section
variable {H : A6} {d : Nat} {rs rs1 rs' : List BK} {n : Nat}
theorem nU {v v' : V} {m : Nat} (hm : n ≤ m) (h : fY n H d rs v v' rs') : fY m H d rs v v' rs' := fun G hO k => by
 have := h G hO (k + (m - n))
 rwa [show k + (m - n) + n = k + m by omega] at this
theorem C8 (kd : fz) (x : Int) : fY 1 H d rs (.int kd x) (.int kd x) rs := fun G hO k => ⟨G, rfl, hO⟩
theorem HO {α : Type} [AL α] {xs : List α} {v : V} {dd sz : Nat} (hd : 0 < d) (j : Nat) (hj : rs[j]? = some (.own v dd sz xs.length ((A8 0) xs)) := by rfl) (hdd : dd = d := by rfl) : fY 2 H d rs v (.lit 0 xs.length ((A8 0) xs)) (rs.eraseIdx j) := fun G hO k => by
 subst hdd
 have hcl := fun X => Fa (th := false) (lo := H.length) (d := dd) (k := k) (X := X) ((A8 0) xs) (GL hd fh _ (FZ xs)) (E9 xs)
 rcases (hO.own hj).2 with rfl | ⟨b, rfl, hbb, hgb⟩
 ·refine ⟨G, ?_, hO.drop (gu _ _)⟩
  rw [BL]
  split
  ·rename_i h0
   have : xs = [] := cp h0
   subst this
   rfl
  ·rw [hcl]; rfl
 ·refine ⟨G.set b .dead, ?_, hO.kill hj rfl⟩
  rw [BL]
  simp only [hgb]
  rw [if_neg (by omega), hcl]
  rfl
theorem IG : lV n H d rs [] [] rs := fun G hO k => ⟨G, rfl, hO⟩
theorem DY {v v' : V} {vs vs' : List V} {m : Nat} (h1 : fY m H d rs v v' rs1) (h2 : lV n H d rs1 vs vs' rs') (hm : fm m n = true := by rfl) : lV n H d rs (v :: vs) (v' :: vs') rs' := fun G hO k => by
 obtain ⟨G1, e1, hO1⟩ := nU (ca hm) h1 G hO k
 obtain ⟨G2, e2, hO2⟩ := h2 G1 hO1 k
 exact ⟨G2, by simp only [BL.resL, e1, aa, e2, aj], hO2⟩
theorem EN {cs cs' : List V} (h : lV n H d rs cs cs' rs') : fY (n + 1) H d rs (.agg cs) (.agg cs') rs' := fun G hO k => by
 obtain ⟨G2, e, hO2⟩ := h G hO k
 exact ⟨G2, by rw [← gj, BL, e]; rfl, hO2⟩
theorem ZN {cs cs' : List V} (h : lV n H d rs cs cs' rs') : fY (n + 1) H d rs (.GS cs) (.GS cs') rs' := fun G hO k => by
 obtain ⟨G2, e, hO2⟩ := h G hO k
 exact ⟨G2, by rw [← gj, BL, e]; rfl, hO2⟩
theorem He {P : bm} {h : Bp} {k : Nat} {lr : List ed} {T : Nat → V} {G : A6} {vs : List V} {v v' : V} {x : X} (hO : A4 H G rs) (hz : fY n H d rs v v' rs') (h1 : BI P G T lr = some vs) (h2 : EI vs = v := by rfl) (hn : fm n Cq = true := by rfl) (hg : h.grow k = false := by rfl) (ht : h.QW k = false := by rfl) (hx : x = .normal ∨ x = .ret := by first | exact Or.inl rfl | exact Or.inr rfl) : pP P h k H.length d lr (v', H) x ⟨T, G⟩ := by
 obtain ⟨G2, e, hO2⟩ := hz G hO (Cq - n)
 rw [nh (ca hn)] at e
 exact rP hO hg hx h1 h2 (by rw [ht]; exact e) hO2.out
theorem Kc {P : bm} {T : Nat → V} {G : A6} {a : Nat} {lr : List ed} {vs : List V} (v : V) (h : BI P G T lr = some vs) (h1 : T a = v := by rfl) : BI P G T (.tmp a :: lr) = some (v :: vs) := by
 simp only [BI, h, aj, h1]
theorem DQ {P : bm} {T : Nat → V} {G : A6} : BI P G T [] = some [] := rfl
theorem FB {P : bm} {T : Nat → V} {G : A6} {t b off sz m a : Nat} {cs : List V} {lr : List ed} {vs : List V} (hO : A4 H G rs) (j : Nat) (cs' : List V) (ha : Cz P t = some true) (hz : B8 P t = some m) (h : BI P G T lr = some vs) (h1 : T a = .ptr b off := by rfl) (hj : rs[j]? = some (.AW b (.cells sz cs)) := by rfl) (h2 : fm (off + m) cs.length = true := by rfl) (h3 : (cs.drop off).take m = cs' := by rfl) : BI P G T (.cell a t :: lr) = some (.agg cs' :: vs) := by
 subst h3
 simp only [BI, h1, FL, (hO.get hj).1, BF, ha, hz, aa, if_pos (ca h2), aj, h]
end
section
variable {c : Cx} {H G : A6} {rs : List BK} {lv k : Nat} {v v' : V} {vs vs' : List V} {M1 M2 : List Nat}
theorem EB : An c [] G [] = some ([], [], G) := rfl
theorem B9 (h1 : Ax (c.d + 1) G Cq v = some (v', M1)) (h2 : An c [] G vs = some (vs', M2, G)) : An c [] G (v :: vs) = some (v' :: vs', M1 ++ M2, G) := by
 simp only [An, ob, H5, h1, aj, aa, oc, h2]
theorem LA : Ax.lendL (Ax lv G k) [] = some ([], []) := rfl
theorem CB (h1 : Ax lv G k v = some (v', M1)) (h2 : Ax.lendL (Ax lv G k) vs = some (vs', M2)) : Ax.lendL (Ax lv G k) (v :: vs) = some (v' :: vs', M1 ++ M2) := by
 simp only [Ax.lendL, h1, h2, aa, aj]
theorem L9 (h : Ax.lendL (Ax lv G k) vs = some (vs', M1)) : Ax lv G (k + 1) (.agg vs) = some (.agg vs', M1) := by
 rw [Ax, h]; rfl
theorem ZY {α : Type} [AL α] (xs : List α) (k : Nat) : Ax lv G (k + 2) (.tl xs.length ((A8 0) xs)) = some (.lit lv xs.length ((A8 0) xs), []) := by
 rw [Ax, Ni _ (FZ xs) (E9 xs)]; rfl
end
def TJ {α : Type} (xs : List α) (lo hi : Int) : Option (List α) := if 0 ≤ lo ∧ lo ≤ hi ∧ hi ≤ xs.length then some ((xs.drop lo.toNat).take (hi - lo).toNat) else none
theorem fD {α : Type} {xs ys : List α} {a b : Int} (h : TJ xs a b = some ys) : 0 ≤ a ∧ a ≤ b ∧ b ≤ xs.length := by
 unfold TJ at h
 split at h
 ·assumption
 ·cases h
theorem ZK {lm : Nat} {α : Type} [AL α] (xs : List α) : ∀ (l m : Nat), ((A8 lm xs).drop (l * AL.sz α)).take (m * AL.sz α) = A8 lm ((xs.drop l).take m) := by
 have hdrop : ∀ (xs : List α) (l : Nat), (A8 lm xs).drop (l * AL.sz α) = A8 lm (xs.drop l) := by
  intro xs
  induction xs with
  | nil => intro l; simp [A8]
  | cons x xs ih =>
   intro l
   cases l with
   | zero => simp
   | succ l =>
    rw [Cf, gm, iz, List.drop_succ_cons, ← ih l]
    have := AL.len (l := lm) x
    rw [← this, ll]
 have htake : ∀ (xs : List α) (m : Nat), (A8 lm xs).take (m * AL.sz α) = A8 lm (xs.take m) := by
  intro xs
  induction xs with
  | nil => intro m; simp [A8]
  | cons x xs ih =>
   intro m
   cases m with
   | zero => simp [A8]
   | succ m =>
    rw [Cf, gm, iz, List.take_succ_cons, Cf, ← ih m]
    have := AL.len (l := lm) x
    rw [← this, lj]
 intro l m
 rw [hdrop, htake]
section steps
variable {P : bm} {h : Bp} {fk n base : Nat} {lk : Lk} {c : Cx} {ops : Array ch} {s kk : Bool} {d : Nat} {ty : ao} {pos : String} {aft : Array Edge} {l : List (Bool × Bool × ch)} {Q : St → Prop} {T : Nat → V} {G G' H : A6} {rs : List BK} {op : Op}
variable {α : Type} [AL α]
theorem oB {x : au} {i : Nat} {vs : List V} (v : V) (k : BU (B5 P h fk n base lk) ops l ⟨Cw T d v, G⟩ Q) (h1 : ev T x = some (.GS vs) := by rfl) (h2 : vs[i]? = some v := by rfl) (hd : cm d n = true := by rfl) :
  BU (B5 P h fk n base lk) ops ((s, kk, ⟨some d, .extract x i, ty, pos, aft, none⟩) :: l) ⟨T, G⟩ Q := by
 refine pV ?_ hd k
 rw [U6]
 simp only [h1, aa, bG, h2, aj]
theorem lD {k : Sc} {ks : List Sc} {x y : V} {xs ys : List V} {b1 b2 : Bool} (h1 : FY k x y = some b1) (h2 : DD ks xs ys = some b2) : DD (k :: ks) (x :: xs) (y :: ys) = some (b1 && b2) := by
 simp only [DD, h1, aa, h2]
 cases b1 <;> rfl
theorem lE (kd : fz) (a b : Int) : FY .i (.int kd a) (.int kd b) = some (a == b) := if_pos rfl
theorem s5 {t t2 : ao} {x y : au} {xs ys : List V} {ks : List Sc} {b : Bool} (hf : JP P t = some ks) (he : DD ks xs ys = some b) (k : BU (B5 P h fk n base lk) ops l ⟨Cw T d (.bool b), G⟩ Q) (h1 : ev T x = some (.agg xs) := by rfl) (h2 : ev T y = some (.agg ys) := by rfl) (hd : cm d n = true := by rfl) :
  BU (B5 P h fk n base lk) ops ((s, kk, ⟨some d, .binOp .eql t x y t2, ty, pos, aft, none⟩) :: l) ⟨T, G⟩ Q := pB k h1 h2 (by simp only [Qe, hf, aa, he, aj]) hd
theorem oC {t t2 : ao} {x y : au} {xs ys : List V} {ks : List Sc} {b : Bool} (hf : JP P t = some ks) (he : DD ks xs ys = some b) (k : BU (B5 P h fk n base lk) ops l ⟨Cw T d (.bool !b), G⟩ Q) (h1 : ev T x = some (.agg xs) := by rfl) (h2 : ev T y = some (.agg ys) := by rfl) (hd : cm d n = true := by rfl) :
  BU (B5 P h fk n base lk) ops ((s, kk, ⟨some d, .binOp .neq t x y t2, ty, pos, aft, none⟩) :: l) ⟨T, G⟩ Q := pB k h1 h2 (by simp only [Qe, hf, aa, he, aj]) hd
theorem Ul {o : au} {m : Nat} {kd : fz} {i : Int} (h : ev T o = some (.int kd i)) (h0 : 0 ≤ i) : D2 T m (some o) = some i.toNat := by
 simp only [D2, h, if_pos h0]
theorem Y8 {lm : Nat} {t e : ao} {x : au} {lo hi : Option au} {xs ys : List α} {a b : Int} {lv : Nat} (hs : TJ xs a b = some ys) (he : B6 P t = some e) (hz : B8 P e = some (AL.sz α)) (h1 : ev T x = some (.lit lv xs.length (A8 lm xs))) (hl : D2 T 0 lo = some a.toNat) (hh : D2 T xs.length hi = some b.toNat) :
  Hi ((B5 P h fk n base lk).BQ s kk) (.slice t x lo hi none) ⟨T, G⟩ = some (.lit lv ys.length (A8 lm ys), G) := by
 unfold TJ at hs
 split at hs
 case isFalse => cases hs
 rename_i hc
 simp only [ab] at hs
 subst hs
 unfold Hi Cb
 simp only [h1, aa, Ct, hl, hh]
 show (B6 P t).bind _ = _
 rw [he]
 show (B8 P e).bind _ = _
 rw [hz]
 simp only [aa]
 rw [if_pos ⟨by omega, by omega⟩]
 simp only [aj, ZK]
 have : ((xs.drop a.toNat).take (b - a).toNat).length = b.toNat - a.toNat := by rw [dn, im]; omega
 rw [this, show b.toNat - a.toNat = (b - a).toNat by omega]
theorem oI {lm : Nat} {t e : ao} {x hi : au} {xs ys : List α} {b : Int} {lv : Nat} {k2 : fz} (hs : TJ xs 0 b = some ys) (he : B6 P t = some e) (hz : B8 P e = some (AL.sz α)) (k : BU (B5 P h fk n base lk) ops l ⟨Cw T d (.lit lv ys.length (A8 lm ys)), G⟩ Q) (h1 : ev T x = some (.lit lv xs.length (A8 lm xs)) := by rfl) (h3 : ev T hi = some (.int k2 b) := by rfl) (hd : cm d n = true := by rfl) :
  BU (B5 P h fk n base lk) ops ((s, kk, ⟨some d, .slice t x none (some hi) none, ty, pos, aft, none⟩) :: l) ⟨T, G⟩ Q := by
 have hc : 0 ≤ b := by have := fD hs; omega
 exact pV (Y8 hs he hz h1 rfl (Ul h3 hc)) hd k
end steps
section
variable {P : bm} {h : Bp} {fk n base : Nat} {lk : Lk} {c : Cx} {ops : Array ch} {s kk : Bool} {d : Nat} {ty : ao} {pos : String} {aft : Array Edge} {l : List (Bool × Bool × ch)} {Q : St → Prop} {T : Nat → V} {G G' H : A6} {rs : List BK} {op : Op} {α : Type} [AL α]
end
theorem I5 {H G : A6} {rs : List BK} (hO : A4 H G rs) {q : Nat} {b : Bz} (h : H[q]? = some b) : G[q]? = some b := by
 rw [hO.pre q (ak.1 h).1]; exact h
def G0 : Code → Option ao
 | .seq (.region _ r0 false) (.seq (.seq (.region _ r1 false) (.cond (.tmp 4) (.seq (.region _ r2 false) .ret) .skip)) (.seq (.region _ r3 false) .ret)) =>
  match r0.toList, r1.toList, r2.toList, r3.toList with
  | [a], [b1, b2], [c], [d1, d2, d3, d4] =>
   match a.dst, a.op, a.guard, b1.dst, b1.op, b1.guard, b2.dst, b2.op, b2.guard with
   | some 2, .assign (.const (.slice none 0 0)), none, some 3, .move (.tmp 0), none, some 4, .binOp .eql t (.tmp 3) (.const (.slice none 0 0)) _, none =>
    match c.dst, c.op, c.guard, d1.dst, d1.op, d1.guard, d2.dst, d2.op, d2.guard with
    | some 2, .assign (.const (.slice none 0 0)), none, some 5, .buildSlice t1 0 ps, none, some 6, .move (.tmp 0), none =>
     match d3.dst, d3.op, d3.guard, d4.dst, d4.op, d4.guard with
     | some 7, .call ⟨.builtin .append, as, ts⟩, none, some 2, .assign (.tmp 7), none =>
      match ps.toList, as.toList, ts.toList with
      | [], [.tmp 5, .tmp 6], [t2, t3] => if t1 = t ∧ t2 = t ∧ t3 = t then some t else none
      | _, _, _ => none
     | _, _, _, _, _, _ => none
    | _, _, _, _, _, _, _, _, _ => none
   | _, _, _, _, _, _, _, _, _ => none
  | _, _, _, _ => none
 | _ => none
theorem Uj {α : Type} {a : Array α} {l : List α} (h : a.toList = l) : a = l.toArray := by rw [← h]
theorem LU {d : Nat} : ∀ (v : V), clean d v = true → Bc d v = true
 | .int .., _ => rfl
 | .bool _, _ => rfl
 | .str _, _ => rfl
 | .IJ, _ => rfl
 | .FP, _ => rfl
 | .lit lv n cs, h => by
  simp only [clean, Bc, ar] at h ⊢
  exact ⟨h.1, go cs h.2⟩
 | .agg cs, h => by
  simp only [clean, Bc] at h ⊢
  exact go cs h
 | .GS cs, h => by
  simp only [clean, Bc] at h ⊢
  exact go cs h
 | .ptr .., h => by simp [clean] at h
 | .lp .., h => by simp [clean] at h
 | .tl .., h => by simp [clean] at h
 | .snap .., h => by simp [clean] at h
 | .sl .., h => by simp [clean] at h
 | .fn .., h => by simp [clean] at h
 | .Ft .., h => by simp [clean] at h
where go : ∀ (cs : List V), clean.cleanL d cs = true → Bc.cleanGL d cs = true
 | [], _ => rfl
 | c :: cs, h => by
  simp only [clean.cleanL, Bc.cleanGL, ar] at h ⊢
  exact ⟨LU c h.1, go cs h.2⟩
theorem Tn {α : Type} [AL α] {d : Nat} (hd : 0 < d) (xs : List α) : Bc.cleanGL d ((A8 0) xs) = true := LU.go _ (GL hd fh _ (FZ xs))
theorem Us (c : Cx) (n : Nat) (p q : Code) (S : St) : Ar c n (.seq (.seq p .ret) q) S = match Ar c n p S with
  | some (.normal, S') => some (.ret, S')
  | r => r := by
 simp only [Ar]
 cases Ar c n p S with
 | none => rfl
 | some r =>
  obtain ⟨x, S'⟩ := r
  cases x <;> rfl
section
variable {P : bm} {h : Bp} {k : eg} {fn : Func} {body : Code} {α : Type} [AL α]
theorem Kp {lm : Nat} (c : Cx) {t e : ao} {by_ n : Nat} (hcl : G0 body = some t) (hnt : 7 < c.ntmps) (he : B6 c.P t = some e) (hz : B8 c.P e = some (AL.sz α)) (hby : CH c.P e = some by_) {z : List V} (hz0 : BJ c.P e = some z) (hzl : z.length = AL.sz α) (xs : List α) (hsz : (0 + xs.length) * (by_ + 1) ≤ 70368744177664) {T : Nat → V} {G : A6} {l : Nat} (hT : T 0 = .lit l xs.length (A8 lm xs)) :
    Jk c n [.tmp 2] body ⟨T, G⟩ = if xs.length = 0 then some ([.tl 0 []], G) else some ([.snap G.length xs.length (A8 lm xs)], G ++ [.C1 c.d xs.length (AL.sz α)]) := by
  unfold G0 at hcl
  split at hcl
  case h_2 => cases hcl
  rename_i i0 r0 i1 r1 i2 r2 i3 r3
  split at hcl
  case h_2 => cases hcl
  rename_i a b1 b2 cc d1 d2 d3 d4 e0 e1 e2 e3
  split at hcl
  case h_2 => cases hcl
  rename_i t0 tt f1 f2 f3 f4 f5 f6 f7 f8 f9
  split at hcl
  case h_2 => cases hcl
  rename_i t1 ps g1 g2 g3 g4 g5 g6 g7 g8 g9
  split at hcl
  case h_2 => cases hcl
  rename_i as ts j1 j2 j3 j4 j5 j6
  split at hcl
  case h_2 => cases hcl
  rename_i t2 t3 m1 m2 m3
  split at hcl
  case isFalse => cases hcl
  rename_i hq
  obtain ⟨rfl, rfl, rfl⟩ := hq
  simp only [ab] at hcl
  subst hcl
  obtain rfl := Uj e0
  obtain rfl := Uj e1
  obtain rfl := Uj e2
  obtain rfl := Uj e3
  obtain rfl := Uj m1
  obtain rfl := Uj m2
  obtain rfl := Uj m3
  have hns : ∀ (N : MT), N = ⟨.region i0 [a].toArray false, i1, b1, b2, 3, 0, 4, t3, tt, .seq (.region i2 [cc].toArray false) .ret, .seq (.region i3 [d1, d2, d3, d4].toArray false) .ret⟩ → FO (.seq (.region i0 [a].toArray false) (.seq (.seq (.region i1 [b1, b2].toArray false) (.cond (.tmp 4) (.seq (.region i2 [cc].toArray false) .ret) .skip)) (.seq (.region i3 [d1, d2, d3, d4].toArray false) .ret))) = some N := by
    rintro N rfl
    simp only [FO, Vc, f4, f5, f6, f7, f8, f9, and_self, if_true]
  unfold Jk
  rw [hns _ rfl]
  have n2 : 2 < c.ntmps := by omega
  have n3 : 3 < c.ntmps := by omega
  have n4 : 4 < c.ntmps := by omega
  have n5 : 5 < c.ntmps := by omega
  have n6 : 6 < c.ntmps := by omega
  have hr : ∀ (T : Nat → V) (G : A6), Ar c n (.region i0 [a].toArray false) ⟨T, G⟩ = some (.normal, ⟨Cw T 2 (.tl 0 []), G⟩) := by
    intro T G
    have hl : bt [a].toArray.size = [0] := rfl
    have hg : [a].toArray[0]? = some a := rfl
    simp only [Ar, bd, if_false, hl, De, hg, Bx, D1, f3, aa, if_true, JS, f1, n2, Cb, f2, ev, Ea, Du, aj, aa]
    rfl
  have hA : ∀ (T : Nat → V) (G : A6), Ar c n (.region i2 [cc].toArray false) ⟨T, G⟩ = some (.normal, ⟨Cw T 2 (.tl 0 []), G⟩) := by
    intro T G
    have hl : bt [cc].toArray.size = [0] := rfl
    have hg : [cc].toArray[0]? = some cc := rfl
    simp only [Ar, bd, if_false, hl, De, hg, Bx, D1, g3, aa, if_true, JS, g1, n2, Cb, g2, ev, Ea, Du, aj, aa]
    rfl
  simp only [hr]
  have hT0 : (Cw T 2 (.tl 0 [])) 0 = .lit l xs.length (A8 lm xs) := by rw [OZ, if_neg (by omega)]; exact hT
  rw [if_pos ⟨n3, n4, by decide, by rw [he]; rfl⟩, hT0]
  have hap : Dz c t3 t3 G (.tl 0 []) (.lit l xs.length (A8 lm xs)) = if xs.length = 0 then some (.tl 0 [], G) else some (.snap G.length xs.length (A8 lm xs), G ++ [.C1 c.d xs.length (AL.sz α)]) := by
    unfold Dz
    rw [he, aa, hz, aa, hby, aa, hz0, aa, if_pos ⟨rfl, ff.1 AL.pos, hzl⟩]
    simp only [Ct, Gb, aa]
    rw [if_pos ⟨EA xs, E9 xs⟩]
    by_cases h0 : xs.length = 0
    · rw [if_pos h0, if_pos h0]
    · rw [if_neg h0, if_neg h0, if_pos ⟨by simp, hsz⟩]; simp only [gh, dr]
  have hB : ∀ (T : Nat → V), T 0 = .lit l xs.length (A8 lm xs) → L0 c.P [.tmp 2] (Ar c n (.seq (.region i3 [d1, d2, d3, d4].toArray false) .ret) ⟨T, G⟩) = if xs.length = 0 then some ([.tl 0 []], G) else some ([.snap G.length xs.length (A8 lm xs)], G ++ [.C1 c.d xs.length (AL.sz α)]) := by
    intro T hT
    have hl : bt [d1, d2, d3, d4].toArray.size = [0, 1, 2, 3] := rfl
    have q0 : [d1, d2, d3, d4].toArray[0]? = some d1 := rfl
    have q1 : [d1, d2, d3, d4].toArray[1]? = some d2 := rfl
    have q2 : [d1, d2, d3, d4].toArray[2]? = some d3 := rfl
    have q3 : [d1, d2, d3, d4].toArray[3]? = some d4 := rfl
    have o1 : Cb c d1 ⟨T, G⟩ = some (.tl 0 [], G) := by
      unfold Cb
      simp only [g5, S5, aa, CZ, he, hz, hz0]
      rw [if_pos ⟨hzl, ff.1 AL.pos, by omega⟩]
      simp only [List.replicate_zero, List.flatten_nil, Dv, aj]
    have o3 : Cb c d3 ⟨Cw (Cw T 5 (.tl 0 [])) 6 (.lit l xs.length (A8 lm xs)), G⟩ = if xs.length = 0 then some (.tl 0 [], G) else some (.snap G.length xs.length (A8 lm xs), G ++ [.C1 c.d xs.length (AL.sz α)]) := by
      unfold Cb
      simp only [j2, ev, aa]
      rw [show (Cw (Cw T 5 (.tl 0 [])) 6 (.lit l xs.length (A8 lm xs))) 5 = .tl 0 [] from by simp [Cw], show (Cw (Cw T 5 (.tl 0 [])) 6 (.lit l xs.length (A8 lm xs))) 6 = .lit l xs.length (A8 lm xs) from by simp [Cw]]
      exact hap
    simp only [Ar, bd, if_false, hl, De, q0, Bx, D1, g6, aa, if_true, JS, g4, n5]
    rw [o1]
    simp only [aj, aa, q1, g9, if_true, g7, n6]
    have hS1 : (({ ({ T := T, H := G } : St) with H := G } : St).set 5 (.tl 0 [])) = ⟨Cw T 5 (.tl 0 []), G⟩ := rfl
    rw [hS1]
    have o2 : Cb c d2 ⟨Cw T 5 (.tl 0 []), G⟩ = some (.lit l xs.length (A8 lm xs), G) := by
      unfold Cb
      simp only [g8, ev, aj]
      rw [show (Cw T 5 (.tl 0 [])) 0 = .lit l xs.length (A8 lm xs) from by rw [OZ, if_neg (by omega)]; exact hT]
    rw [o2]
    simp only [aj, aa, q2, j3, if_true, j1, hnt]
    have hS2 : (({ ({ T := Cw T 5 (.tl 0 []), H := G } : St) with H := G } : St).set 6 (.lit l xs.length (A8 lm xs))) = ⟨Cw (Cw T 5 (.tl 0 [])) 6 (.lit l xs.length (A8 lm xs)), G⟩ := rfl
    rw [hS2, o3]
    by_cases h0 : xs.length = 0
    · rw [if_pos h0, if_pos h0]
      simp only [aj, aa, q3, j6, if_true, j4, n2, Cb, j5, ev, aj, aa]
      simp [L0, BI, St.set]
    · rw [if_neg h0, if_neg h0]
      simp only [aj, aa, q3, j6, if_true, j4, n2, Cb, j5, ev, aj, aa]
      simp [L0, BI, St.set]
  have hBw : O4 c n [.tmp 2] ⟨.region i0 [a].toArray false, i1, b1, b2, 3, 0, 4, t3, tt, .seq (.region i2 [cc].toArray false) .ret, .seq (.region i3 [d1, d2, d3, d4].toArray false) .ret⟩ ⟨Cw T 2 (.tl 0 []), G⟩ false = if xs.length = 0 then some ([.tl 0 []], G) else some ([.snap G.length xs.length (A8 lm xs)], G ++ [.C1 c.d xs.length (AL.sz α)]) := by
    unfold O4
    simp only [bd, if_false]
    refine hB (Cw (Cw (Cw T 2 (.tl 0 [])) 3 _) 4 _) ?_
    rw [OZ, if_neg (by omega), OZ, if_neg (by omega)]
    exact hT0
  by_cases h0 : xs.length = 0
  · rw [if_pos h0] at hBw ⊢
    have hAw : O4 c n [.tmp 2] ⟨.region i0 [a].toArray false, i1, b1, b2, 3, 0, 4, t3, tt, .seq (.region i2 [cc].toArray false) .ret, .seq (.region i3 [d1, d2, d3, d4].toArray false) .ret⟩ ⟨Cw T 2 (.tl 0 []), G⟩ true = some ([.tl 0 []], G) := by
      unfold O4
      simp only [if_true]
      show L0 c.P _ (Ar c n (.seq (.seq (.region i2 [cc].toArray false) .ret) _) ⟨Cw (Cw (Cw T 2 (.tl 0 [])) 3 _) 4 _, G⟩) = _
      simp only [Us, hA]
      simp [L0, BI, Cw]
    rw [show Ct (.lit l xs.length (A8 lm xs)) = some 0 from by rw [h0]; rfl]
    simp only []
    rw [if_pos (hAw.trans hBw.symm)]
    exact hBw
  · rw [if_neg h0] at hBw ⊢
    obtain ⟨m, hm⟩ : ∃ m, xs.length = m + 1 := ⟨xs.length - 1, by omega⟩
    rw [show Ct (.lit l xs.length (A8 lm xs)) = some (m + 1) from by rw [← hm]; rfl]
    exact hBw
theorem XM {t e : ao} {by_ : Nat} (hfn : P.funcs[k]? = some fn) (hb : fn.body = some body) (hcl : G0 body = some t) (hnt : cm 7 fn.ntmps = true) (hres : fn.results = #[.tmp 2]) (hname : (fn.name == "runtime.NumGoroutine") = false) (hg : h.grow k = true)
    (he : B6 P t = some e) (hz : B8 P e = some (AL.sz α)) (hby : CH P e = some by_) {z : List V} (hz0 : BJ P e = some z) (hzl : z.length = AL.sz α) {xs zs : List α} (happ : DP by_ [] xs = some zs) (l : Nat) (G : A6) {lk : Lk} (hlk : 0 < lk.length) :
    Am P h k [.lit l xs.length ((A8 0) xs)] G lk = if xs.length = 0 then some (.tl 0 [], G) else some (.snap G.length xs.length ((A8 0) xs), G ++ [.C1 (lk.length - 1) xs.length (AL.sz α)]) := by
  have hnt := ca hnt
  unfold DP at happ
  split at happ
  case isFalse => cases happ
  rename_i hroom
  have hsz : (0 + xs.length) * (by_ + 1) ≤ 70368744177664 := by
    rcases hroom with h0 | h0
    · rw [h0]; simp
    · exact h0
  have hex := Kp (n := 0) { P := P, hints := h, fn := k, ntmps := fn.ntmps, base := G.length, lk := lk, Γ := Dw P h 0 } hcl (by show 7 < fn.ntmps; omega) he hz hby hz0 hzl xs hsz (T := JO [.lit l xs.length ((A8 0) xs)]) (G := G) (l := l) rfl
  have key : ∀ r, ((if xs.length = 0 then some (([.tl 0 []] : List V), G) else some ([.snap G.length xs.length ((A8 0) xs)], G ++ [.C1 lk.length xs.length (AL.sz α)])).bind fun r => Dd h k G.length lk.length (EI r.1) r.2) = some r → Am P h k [.lit l xs.length ((A8 0) xs)] G lk = some r := by
    intro r hr
    refine OV (n := 1) ?_
    unfold Dw
    simp only [hfn, hb]
    rw [if_pos ⟨by show 1 ≤ fn.ntmps; omega, hname⟩, hres]
    rw [hex]
    exact hr
  by_cases h0 : xs.length = 0
  · rw [if_pos h0] at key ⊢
    refine key _ ?_
    simp only [aa, EI, Dd, hg, if_true]
    rw [nm, er]
    simp [Bc, Bc.cleanGL]
  · rw [if_neg h0] at key ⊢
    refine key _ ?_
    simp only [aa, EI, Dd, hg, if_true]
    rw [List.drop_left, List.take_left]
    have hc2 : Bc lk.length (V.snap G.length xs.length ((A8 0) xs)) = true := by simp only [Bc]; exact Tn hlk xs
    simp only [hc2, gg, oe, ld, and_self, if_true, List.map_cons, List.map_nil]
    show some (V.snap G.length xs.length ((A8 0) xs), G ++ [Bz.C1 (min lk.length (lk.length - 1)) xs.length (AL.sz α)]) = _
    rw [Nat.min_eq_right (Nat.sub_le _ _)]
end
section
variable {P : bm} {h : Bp} {fk n base : Nat} {lk : Lk} {c : Cx} {ops : Array ch} {s kk : Bool} {d : Nat} {ty : ao} {pos : String} {aft : Array Edge} {l : List (Bool × Bool × ch)} {Q : St → Prop} {T : Nat → V} {G G' H : A6} {rs : List BK} {α : Type} [AL α]
theorem Zx {f : au} {args : Array au} {ats : Array ao} {g : eg} {fn : Func} {t e : ao} {by_ lv : Nat} {w : V} {M : List Nat} {z : List V} {xs zs : List α} (hO : A4 H G rs) (happ : DP by_ [] xs = some zs)
  (hfn : P.funcs[g]? = some fn) (hcl : fn.body.bind G0 = some t) (he : B6 P t = some e) (hz : B8 P e = some (AL.sz α)) (hby : CH P e = some by_) (hz0 : BJ P e = some z)
  (k : ∀ v' G', Nz v' → A4 H G' (.own v' lk.length (AL.sz α) zs.length ((A8 0) zs) :: rs) → BU (B5 P h fk n base lk) ops l ⟨Cw T d v', G'⟩ Q)
  (h1 : ev T f = some (.fn g []) := by rfl) (h2 : LO T args.toList = some [w] := by rfl)
  (h3 : An ((B5 P h fk n base lk).BQ s kk) (h.DS g) G [w] = some ([.lit lv xs.length ((A8 0) xs)], M, G) := by rfl) (hzl : z.length = AL.sz α := by rfl) (hnt : cm 7 fn.ntmps = true := by rfl) (hres : fn.results = #[.tmp 2] := by rfl) (hname : (fn.name == "runtime.NumGoroutine") = false := by rfl) (hg : h.grow g = true := by rfl) (hd : cm d n = true := by rfl) :
  BU (B5 P h fk n base lk) ops ((s, kk, ⟨some d, .call ⟨.value f, args, ats⟩, ty, pos, aft, none⟩) :: l) ⟨T, G⟩ Q := by
 obtain ⟨body, hb, hcl⟩ := af.1 hcl
 have hzs : zs = xs := by
  unfold DP at happ
  split at happ
  ·simpa using happ.symm
  ·cases happ
 subst hzs
 have hr := fun L => XM hfn hb hcl hnt hres hname hg he hz hby hz0 hzl happ lv G (lk := lk ++ [L]) (by simp)
 by_cases h0 : zs.length = 0
 ·have hx : zs = [] := cp h0
  subst hx
  exact AM (r := .tl 0 []) (G' := G) (fun L => by rw [hr L, if_pos h0]) (k _ _ Nz.nil (A4.Hn hO lk.length ([] : List α))) h1 h2 h3 hd
 ·refine AM (r := .snap G.length zs.length ((A8 0) zs)) (G' := G ++ [.C1 lk.length zs.length (AL.sz α)]) (fun L => ?_) (k _ _ Nz.snap (hO.push _ rfl ⟨EA zs, .inr ⟨G.length, rfl, hO.len, G5 _ _⟩⟩)) h1 h2 h3 hd
  rw [hr L, if_neg h0, an, cn, Nat.add_sub_cancel]
end
def eI (x : Nat) : List Nat → Bool
 | [] => false
 | y :: l => bif dk x y then true else eI x l
theorem Wa (x : Nat) : ∀ l : List Nat, eI x l = l.contains x
 | [] => rfl
 | y :: l => by
  rw [List.contains_cons, ← Wa x l]
  show (bif dk x y then true else eI x l) = _
  have : dk x y = (x == y) := by rw [Bool.eq_iff_iff, beq_iff_eq, Nat.beq_eq]
  rw [this]
  cases x == y <;> rfl
def Oh (tbl : List (List Nat)) : Nat → List Nat → List Nat → List Nat
 | 0, _, seen => seen.reverse
 | _, [], seen => seen.reverse
 | n + 1, f :: todo, seen => bif eI f seen then Oh tbl n todo seen else Oh tbl n (tbl.getD f [] ++ todo) (f :: seen)
section
variable {P : bm} {tbl : List (List Nat)}
theorem Za (hl : P.funcs.toList.map P.leadsTo = tbl) (g : Nat) : (P.funcs[g]?).elim [] P.leadsTo = tbl.getD g [] := by
 subst hl
 rw [List.getD_eq_getElem?_getD, dz, Array.getElem?_toList]
 cases P.funcs[g]? <;> rfl
theorem Ry (hl : P.funcs.toList.map P.leadsTo = tbl) : ∀ (n : Nat) (todo seen : List Nat), P.closureVia n todo seen = Oh tbl n todo seen
 | 0, _, _ => by simp [Program.closureVia, Oh]
 | n + 1, [], seen => by simp [Program.closureVia, Oh]
 | n + 1, f :: todo, seen => by
  unfold Program.closureVia Oh
  rw [Wa, Za hl, Ry hl n, Ry hl n]
  cases seen.contains f <;> rfl
theorem Uq (hl : P.funcs.toList.map P.leadsTo = tbl) {f : Nat} {L : List Nat} (hc : Oh tbl (1 + (tbl.map fun l => l.length + 1).sum) [f] [] = L) : P.closure f = L := by
 unfold Program.closure
 rw [Ry hl, ← hc]
 congr 2
 subst hl
 rw [List.map_map]
 rfl
theorem R3 {f : Nat} (hu : P.unfollowed f = true) : P.recurses f = true := by unfold Program.recurses; rw [hu, Bool.true_or]
end
theorem OR {α β : Type} {f : α → β} {xs : List α} {a s : Nat} {t u : List β} (h1 : ((xs.drop a).take s).map f = t) (h2 : (xs.drop (a + s)).map f = u) : (xs.drop a).map f = t ++ u := by
 rw [← h1, ← h2, ← eh, ← oa, mg]
def Bu (H0 H : A6) (S : List Nat) : Prop := H.length = H0.length ∧ ∀ x, x ∉ S → H[x]? = H0[x]?
theorem Bu.refl (H : A6) (S : List Nat) : Bu H H S := ⟨rfl, fun _ _ => rfl⟩
theorem Bu.set {H0 H : A6} {S : List Nat} (h : Bu H0 H S) {n : Nat} (hn : n < H.length → n ∈ S) (x : Bz) : Bu H0 (H.set n x) S :=
 ⟨by rw [bp]; exact h.1, fun y hy => by rw [Ai, if_neg (by rintro ⟨rfl, hl⟩; exact hy (hn hl))]; exact h.2 y hy⟩
def EE (lk : Lk) (n : Nat) : Prop := ∀ l ∈ lk, ∀ x ∈ l, x < n
theorem EE.push {lk : Lk} {n m : Nat} {L : List Nat} (h : EE lk n) (hn : n ≤ m) (hL : ∀ x ∈ L, x < m) : EE (lk ++ [L]) m := by
 intro l hl x hx
 rcases aq.1 hl with hl | hl
 ·exact cw (h l hl x hx) hn
 ·simp only [bh] at hl
  subst hl
  exact hL x hx
theorem EE.free {lk : Lk} {n b : Nat} {L : List Nat} (h : EE lk n) (hb : n ≤ b) (hL : b ∉ L) : AX (lk ++ [L]) b = true := by
 unfold AX
 rw [cj]
 intro l hl
 simp only [eb, ← np, mi]
 intro hx
 rcases aq.1 hl with hl | hl
 ·exact absurd (h l hl b hx) (dw.2 hb)
 ·simp only [bh] at hl
  subst hl
  exact hL hx
def lT (H : A6) (q : Nat) (o : V) (d sz n : Nat) (cells : List V) : Prop := H[q]? = some (.cells 1 [o]) ∧ cells.length = n * sz ∧ (o = .tl n cells ∨ ∃ b, o = .snap b n cells ∧ H[b]? = some (.C1 d n sz))
def iH (q : Nat) (o : V) : List Nat := q :: (match o with | .snap b _ _ => [b] | _ => [])
section steps
variable {P : bm} {h : Bp} {fk n base : Nat} {lk : Lk} {c : Cx} {ops : Array ch} {s kk : Bool} {d : Nat} {ty : ao} {pos : String} {aft : Array Edge} {l : List (Bool × Bool × ch)} {Q : St → Prop} {T : Nat → V} {G G' H H0 : A6} {rs : List BK} {op : Op} {S : List Nat}
variable {α : Type} [AL α]
theorem Wm {t : ao} {x : au} {b off sz : Nat} {cs : List V} (hO : A4 H G rs) (j : Nat) (v : V) (ha : Cz P t = some false) (k : BU (B5 P h fk n base lk) ops l ⟨Cw T d v, G⟩ Q) (h1 : ev T x = some (.ptr b off) := by rfl) (hj : rs[j]? = some (.Cs S b (.cells sz cs)) := by rfl) (h2 : cs[off]? = some v := by rfl) (hd : cm d n = true := by rfl) :
  BU (B5 P h fk n base lk) ops ((s, kk, ⟨some d, .load t x, ty, pos, aft, none⟩) :: l) ⟨T, G⟩ Q := by
 refine eZ v (hO.VD hj).1 ?_ k h1 hd
 unfold BF
 simp only [ha, h2]
theorem OU (hS : ∀ b ∈ S, AX lk b = true) {b : Nat} (hb : b < H.length → b ∈ S) : ((B5 P h fk n H.length lk).BQ s kk).BV b = true := by
 unfold Cx.BV
 simp only [df, decide_eq_true_eq]
 rcases bz b H.length with hl | hl
 ·exact .inr (hS b (hb hl))
 ·exact .inl hl
theorem A4.Mx {dd d1 sz m j : Nat} {v : V} {cs : List V} (hO : A4 H G rs) (hj : rs[j]? = some (.Mx S v dd d1 sz m cs)) : cs.length = m * sz ∧ (v = .tl m cs ∨ ∃ b l, v = .snap b m cs ∧ G[b]? = some (.C1 l m sz) ∧ ((b < H.length ∧ b ∈ S ∧ l = dd) ∨ (H.length ≤ b ∧ l = d1))) := hO.ok _ (bj hj)
end steps
section cells
variable {P : bm} {h : Bp} {fk n base : Nat} {lk : Lk} {ops : Array ch} {s kk : Bool} {d : Nat} {ty : ao} {pos : String} {aft : Array Edge} {l : List (Bool × Bool × ch)} {Q : St → Prop} {T : Nat → V} {G G' H : A6} {rs : List BK}
theorem CI {j dd sz m : Nat} {v : V} {cs : List V} (hO : A4 H G rs) (hj : rs[j]? = some (.own v dd sz m cs)) : v.cellsOf = [v] ∧ v.Bm = true := by
 rcases (hO.own hj).2 with rfl | ⟨b, rfl, _⟩ <;> exact ⟨rfl, rfl⟩
theorem DL : ([] : List V).all V.Bm = true := rfl
theorem Aa {v : V} {vs : List V} (h1 : v.Bm = true) (h2 : vs.all V.Bm = true) : (v :: vs).all V.Bm = true := by rw [gg, h1, h2]; rfl
theorem Ch {place : Nat → Option (Nat × Nat)} {cells ce r : List V} {i off sz : Nat} {v : V} {rest : List (Nat × V)} (hv : v.cellsOf = ce) (hc : ce.all V.Bm = true) (h : Dv place (Bo cells off ce) rest = some r) (hp : place i = some (off, sz) := by rfl) (hl : ce.length = sz := by rfl) (hf : fm (off + sz) cells.length = true := by rfl) :
  Dv place cells ((i, v) :: rest) = some r := by
 subst hv
 have hf := ca hf
 simp only [Dv, hp]
 rw [if_neg (by rw [hc, hl]; simp; omega)]
 exact h
theorem Bw {v : V} (h : v.Bm = true) : [v].all V.Bm = true := by rw [gg, h]; rfl
end cells
structure qE (H H1 : A6) (q : Nat) (o o' : V) (d sz n : Nat) (cells : List V) : Prop where
 box : lT H1 q o' d sz n cells
 len : H.length ≤ H1.length
 same : ∀ x, x < H.length → x ∉ iH q o → H1[x]? = H[x]?
 CO : ∀ b ∈ iH q o', b ∈ iH q o ∨ H.length ≤ b
def YL (P : bm) (h : Bp) (k base d : Nat) (rs : List ed) (Post : V → A6 → Prop) (x : X) (S : St) : Prop :=
 (x = .normal ∨ x = .ret) ∧ ∃ v H1, ((BI P S.H S.T rs).bind fun vs => Dd h k base d (EI vs) S.H) = some (v, H1) ∧ Post v H1
theorem B0 {P : bm} {h : Bp} {lk : Lk} {fn : Func} {body : Code} {k : eg} (hfn : P.funcs[k]? = some fn) (hb : fn.body = some body) {m : Nat} (hn : fn.ntmps = m) {args : List V} {H : A6} {rs : Array ed} (hrs : fn.results = rs) (hlen : fm args.length m = true) (hname : (fn.name == "runtime.NumGoroutine") = false) {Post : V → A6 → Prop}
  (hr : GZ (B5 P h k m H.length lk) body ⟨JO args, H⟩ (YL P h k H.length lk.length rs.toList Post)) (hns : FO body = none := by rfl) : ∃ v H1, Am P h k args H lk = some (v, H1) ∧ Post v H1 := by
 obtain ⟨x, S, h1, h2, v, H1, h3, hp⟩ := hr
 exact ⟨v, H1, Rd hfn hb hn hns (ca hlen) hname hrs ⟨x, S, h1, h2, h3⟩, hp⟩
theorem N2 {H G : A6} (hl : H.length ≤ G.length) (d b : Nat) : (G.take H.length ++ (G.drop H.length).map (ND d))[b]? = if b < H.length then G[b]? else (G[b]?).map (ND d) := by
 have hl' : (G.take H.length).length = H.length := by rw [dn]; omega
 by_cases h : b < H.length
 ·rw [if_pos h, aw (by omega), List.getElem?_take_of_lt h]
 ·rw [if_neg h, bu (by omega), hl', dz, List.getElem?_drop]
  congr 2
  omega
theorem Jw {c : Cx} {G : A6} : ∀ (vs vs' : List V) (M : List Nat), An c [] G vs = some (vs', M, G) → ∀ x ∈ M, x < G.length
 | [], vs', M, h => by
  simp only [An, ab, ah] at h
  obtain ⟨_, rfl, _⟩ := h
  intro x hx; cases hx
 | v :: vs, vs', M, h => by
  simp only [An, ob, H5, oc, af, ag, Prod.exists, ah] at h
  obtain ⟨v1, M1, H1, ⟨v2, M2, h1, rfl, rfl, rfl⟩, vs2, M3, H3, h2, rfl, rfl, rfl⟩ := h
  intro x hx
  rcases aq.1 hx with hx | hx
  ·exact Sy _ _ _ _ _ _ h1 x hx
  ·exact Jw vs vs2 M3 h2 x hx
theorem U0 {c : Cx} {g : eg} {M : List Nat} {G : A6} (hM : ∀ x ∈ M, x < G.length) (hb : c.base ≤ G.length) : ∀ x ∈ c.CF g M G, x < G.length := by
 intro x hx
 unfold Cx.CF at hx
 split at hx
 ·rcases aq.1 hx with hx | hx
  ·exact hM x hx
  ·exact cr.1 hx
 ·split at hx
  ·rcases aq.1 hx with hx | hx
   ·exact hM x hx
   ·exact cw (cr.1 hx) hb
  ·exact hM x hx
section calls
variable {P : bm} {h : Bp} {fk n base : Nat} {lk : Lk} {ops : Array ch} {s kk : Bool} {d : Nat} {ty : ao} {pos : String} {aft : Array Edge} {l : List (Bool × Bool × ch)} {Q : St → Prop} {T : Nat → V} {G G' H : A6} {rs : List BK}
theorem Vk {f : au} {args : Array au} {ats : Array ao} {g : eg} {caps vs vs' : List V} {M : List Nat} {r : V} (hO : A4 H G rs) (hlo : EE lk H.length) (hb : base = H.length) (hr : ∀ L, EE (lk ++ [L]) G.length → Am P h g vs' G (lk ++ [L]) = some (r, G')) (k : BU (B5 P h fk n base lk) ops l ⟨Cw T d r, G'⟩ Q) (h1 : ev T f = some (.fn g caps) := by rfl) (h2 : LO T args.toList = some vs := by rfl) (h3 : An ((B5 P h fk n base lk).BQ s kk) [] G (vs ++ caps) = some (vs', M, G) := by rfl) (hd : cm d n = true := by rfl) (hm : h.DS g = [] := by rfl) :
  BU (B5 P h fk n base lk) ops ((s, kk, ⟨some d, .call ⟨.value f, args, ats⟩, ty, pos, aft, none⟩) :: l) ⟨T, G⟩ Q := by
 refine pV ?_ hd k
 rw [Gi]
 simp only [h1, h2, aa, Qh]
 show (An ((B5 P h fk n base lk).BQ s kk) (h.DS g) G (vs ++ caps)).bind _ = _
 rw [hm, h3]
 exact hr _ (hlo.push hO.len (U0 (Jw _ _ _ h3) (by show base ≤ _; rw [hb]; exact hO.len)))
end calls
def NQ {α : Type} (tr : A6 → α → List V → List Nat → Prop) (G : A6) : List α → List V → List Nat → Prop
 | [], cs, F => cs = [] ∧ F = []
 | x :: xs, cs, F => ∃ c1 c2 F1 F2, cs = c1 ++ c2 ∧ F = F1 ++ F2 ∧ tr G x c1 F1 ∧ NQ tr G xs c2 F2
def FV (tr : A6 → List V → List Nat → Prop) (lo : Nat) (f : A6 × List Bz → V → Option (V × A6 × List Bz)) (cs : List V) (F : List Nat) (X : A6 × List Bz) : Prop :=
 ∃ cs' X1 L F', BL.resL f X cs = some (cs', X1, X.2 ++ L) ∧ (∀ b, b ∉ F → X1[b]? = X.1[b]?) ∧ F'.Nodup ∧ (∀ b ∈ F', lo + X.2.length ≤ b ∧ b < lo + X.2.length + L.length) ∧ ∀ A : A6, A.length = lo → tr (A ++ (X.2 ++ L)) cs' F'
class Aw (α : Type) [AL α] where
 tr : A6 → α → List V → List Nat → Prop
 dep : Nat
 len : ∀ {G x cs F}, tr G x cs F → cs.length = AL.sz α
 cell : ∀ {G x cs F}, tr G x cs F → cs.all V.Bm = true
 frame : ∀ {G G' x cs F}, tr G x cs F → (∀ b ∈ F, G'[b]? = G[b]?) → tr G' x cs F
 bound : ∀ {G x cs F}, tr G x cs F → ∀ b ∈ F, b < G.length
 Sx : ∀ {G x cs F}, tr G x cs F → ∀ lv k, ∃ M, Ax.lendL (Ax lv G (k + dep)) cs = some (AL.Ba lv x, M) ∧ ∀ b ∈ M, b ∈ F
 res : ∀ {G x cs F}, tr G x cs F → F.Nodup → ∀ lo d, (∀ b ∈ F, lo ≤ b) → ∀ k X, (∀ b ∈ F, X.1[b]? = G[b]?) → FV (fun G => tr G x) lo (BL true lo d (k + dep)) cs F X
theorem JA {f : V → Option (V × List Nat)} : ∀ {a b a' b' : List V} {M N : List Nat}, Ax.lendL f a = some (a', M) → Ax.lendL f b = some (b', N) → Ax.lendL f (a ++ b) = some (a' ++ b', M ++ N)
 | [], b, a', b', M, N, h1, h2 => by
  simp only [Ax.lendL, ab, ah] at h1
  obtain ⟨rfl, rfl⟩ := h1
  simpa using h2
 | x :: a, b, a', b', M, N, h1, h2 => by
  simp only [Ax.lendL, af, ag, Prod.exists, ah] at h1
  obtain ⟨x', M1, e1, a2, M2, e2, rfl, rfl⟩ := h1
  simp only [dt, Ax.lendL, e1, aa, JA e2 h2, aj, bf]
theorem KB {f : A6 × List Bz → V → Option (V × A6 × List Bz)} : ∀ {a b a' b' : List V} {X Y Z : A6 × List Bz}, BL.resL f X a = some (a', Y) → BL.resL f Y b = some (b', Z) → BL.resL f X (a ++ b) = some (a' ++ b', Z)
 | [], b, a', b', X, Y, Z, h1, h2 => by
  simp only [BL.resL, ab, ah] at h1
  obtain ⟨rfl, rfl⟩ := h1
  simpa using h2
 | x :: a, b, a', b', X, Y, Z, h1, h2 => by
  simp only [BL.resL, af, ag, Prod.exists, ah] at h1
  obtain ⟨x', X1, X2, e1, a2, X3, X4, e2, rfl, rfl⟩ := h1
  simp only [dt, BL.resL, e1, aa, KB e2 h2, aj]
theorem N6 {A B : List Nat} (h : (A ++ B).Nodup) : A.Nodup ∧ B.Nodup ∧ ∀ x ∈ A, x ∉ B := by
 rw [dc] at h
 exact ⟨h.1, h.2.1, fun x hx hx' => h.2.2 x hx x hx' rfl⟩
theorem FV.pair {t1 t2 : A6 → List V → List Nat → Prop} {lo : Nat} {f : A6 × List Bz → V → Option (V × A6 × List Bz)} {c1 c2 : List V} {F1 F2 : List Nat} {X : A6 × List Bz}
  (m1 : ∀ {G G' cs F}, t1 G cs F → (∀ b ∈ F, G'[b]? = G[b]?) → t1 G' cs F) (h1 : FV t1 lo f c1 F1 X) (h2 : ∀ Y : A6 × List Bz, (∀ b, b ∉ F1 → Y.1[b]? = X.1[b]?) → FV t2 lo f c2 F2 Y) :
  FV (fun G cs F => ∃ c1 c2 F1 F2, cs = c1 ++ c2 ∧ F = F1 ++ F2 ∧ t1 G c1 F1 ∧ t2 G c2 F2) lo f (c1 ++ c2) (F1 ++ F2) X := by
 obtain ⟨c1', X1, L1, F1', e1, s1, n1, b1, r1⟩ := h1
 obtain ⟨c2', X2, L2, F2', e2, s2, n2, b2, r2⟩ := h2 (X1, X.2 ++ L1) s1
 simp only [an] at b2
 refine ⟨c1' ++ c2', X2, L1 ++ L2, F1' ++ F2', by rw [← bf]; exact KB e1 e2, fun b hb => ?_, ?_, fun b hb => ?_, fun A hA => ⟨c1', c2', F1', F2', rfl, rfl, m1 (r1 A hA) fun b hb => ?_, by rw [← bf X.2]; exact r2 A hA⟩⟩
 ·rw [s2 b fun h => hb (db _ h)]
  exact s1 b fun h => hb (cd _ h)
 ·rw [dc]
  refine ⟨n1, n2, fun x hx y hy e => ?_⟩
  have := b1 x hx
  have := b2 y hy
  omega
 ·rw [an]
  rcases aq.1 hb with hb | hb
  ·have := b1 b hb; omega
  ·have := b2 b hb; omega
 ·rw [← bf X.2, ← bf A (X.2 ++ L1), aw]
  rw [an, an, hA]
  have := b1 b hb
  omega
section
variable {α : Type} [AL α] [Aw α] {G G' : A6}
theorem OX : ∀ {xs : List α} {cs F}, NQ Aw.tr G xs cs F → cs.length = xs.length * AL.sz α
 | [], cs, F, h => by obtain ⟨rfl, rfl⟩ := h; simp
 | x :: xs, cs, F, h => by
  obtain ⟨c1, c2, F1, F2, rfl, rfl, h1, h2⟩ := h
  rw [an, Aw.len h1, OX h2, gi, gm, iz]
theorem Fp : ∀ {xs : List α} {cs F}, NQ Aw.tr G xs cs F → (∀ b ∈ F, G'[b]? = G[b]?) → NQ Aw.tr G' xs cs F
 | [], cs, F, h, _ => h
 | x :: xs, cs, F, h, hf => by
  obtain ⟨c1, c2, F1, F2, rfl, rfl, h1, h2⟩ := h
  exact ⟨c1, c2, F1, F2, rfl, rfl, Aw.frame h1 fun b hb => hf b (cd _ hb), Fp h2 fun b hb => hf b (db _ hb)⟩
theorem Rm : ∀ {xs : List α} {cs F}, NQ Aw.tr G xs cs F → ∀ b ∈ F, b < G.length
 | [], cs, F, h => by obtain ⟨rfl, rfl⟩ := h; intro b hb; cases hb
 | x :: xs, cs, F, h => by
  obtain ⟨c1, c2, F1, F2, rfl, rfl, h1, h2⟩ := h
  intro b hb
  rcases aq.1 hb with hb | hb
  ·exact Aw.bound h1 b hb
  ·exact Rm h2 b hb
theorem Ua (lv k : Nat) : ∀ {xs : List α} {cs F}, NQ Aw.tr G xs cs F → ∃ M, Ax.lendL (Ax lv G (k + Aw.dep α)) cs = some (A8 lv xs, M) ∧ ∀ b ∈ M, b ∈ F
 | [], cs, F, h => by obtain ⟨rfl, rfl⟩ := h; exact ⟨[], rfl, fun b hb => hb⟩
 | x :: xs, cs, F, h => by
  obtain ⟨c1, c2, F1, F2, rfl, rfl, h1, h2⟩ := h
  obtain ⟨M1, e1, m1⟩ := Aw.Sx h1 lv k
  obtain ⟨M2, e2, m2⟩ := Ua lv k h2
  refine ⟨M1 ++ M2, JA e1 e2, fun b hb => ?_⟩
  rcases aq.1 hb with hb | hb
  ·exact cd _ (m1 b hb)
  ·exact db _ (m2 b hb)
theorem X8 (lo d k : Nat) : ∀ {xs : List α} {cs F}, NQ Aw.tr G xs cs F → F.Nodup → (∀ b ∈ F, lo ≤ b) → ∀ X, (∀ b ∈ F, X.1[b]? = G[b]?) → FV (fun G => NQ Aw.tr G xs) lo (BL true lo d (k + Aw.dep α)) cs F X
 | [], cs, F, h, _, _, X, _ => by
  obtain ⟨rfl, rfl⟩ := h
  exact ⟨[], X.1, [], [], by rw [dh]; rfl, fun _ _ => rfl, .nil, fun b hb => (by cases hb), fun _ _ => ⟨rfl, rfl⟩⟩
 | x :: xs, cs, F, h, hn, hF, X, hX => by
  obtain ⟨c1, c2, F1, F2, rfl, rfl, h1, h2⟩ := h
  obtain ⟨n1, n2, n3⟩ := N6 hn
  refine FV.pair (fun h => Aw.frame h) (Aw.res h1 n1 lo d (fun b hb => hF b (cd _ hb)) k X fun b hb => hX b (cd _ hb)) fun Y hY => ?_
  exact X8 lo d k h2 n2 (fun b hb => hF b (db _ hb)) Y fun b hb => by rw [hY b fun h => n3 b h hb]; exact hX b (db _ hb)
theorem bF : ∀ {xs : List α} {j : Nat} {x : α} {cs F}, NQ Aw.tr G xs cs F → xs[j]? = some x → ∃ c1 c2 c3 F1 F2 F3, cs = c1 ++ (c2 ++ c3) ∧ F = F1 ++ (F2 ++ F3) ∧ c1.length = j * AL.sz α ∧ Aw.tr G x c2 F2 ∧
  ∀ G' y c F', (∀ b ∈ F1 ++ F3, G'[b]? = G[b]?) → Aw.tr G' y c F' → NQ Aw.tr G' (xs.set j y) (c1 ++ (c ++ c3)) (F1 ++ (F' ++ F3))
 | [], j, x, cs, F, h, hx => by simp at hx
 | z :: xs, 0, x, cs, F, h, hx => by
  simp only [fb, ab] at hx
  subst hx
  obtain ⟨c1, c2, F1, F2, rfl, rfl, h1, h2⟩ := h
  exact ⟨[], c1, c2, [], F1, F2, rfl, rfl, by simp, h1, fun G' y c F' hG hy => ⟨c, c2, F', F2, rfl, rfl, hy, Fp h2 hG⟩⟩
 | z :: xs, j + 1, x, cs, F, h, hx => by
  simp only [mb] at hx
  obtain ⟨c1, c2, F1, F2, rfl, rfl, h1, h2⟩ := h
  obtain ⟨d1, d2, d3, E1, E2, E3, rfl, rfl, hl, h3, h4⟩ := bF h2 hx
  refine ⟨c1 ++ d1, d2, d3, F1 ++ E1, E2, E3, by rw [bf], by rw [bf], by rw [an, Aw.len h1, hl, gm, iz], h3, fun G' y c F' hG hy => ?_⟩
  refine ⟨c1, d1 ++ (c ++ d3), F1, E1 ++ (F' ++ E3), by rw [bf], by rw [bf], Aw.frame h1 fun b hb => hG b (by simp [hb]), h4 G' y c F' (fun b hb => hG b ?_) hy⟩
  rw [bf]; exact db _ hb
end
instance : Aw Int where
 tr := fun _ x cs F => cs = [.int .i64 x] ∧ F = []
 dep := 1
 len := fun h => by obtain ⟨rfl, rfl⟩ := h; rfl
 cell := fun h => by obtain ⟨rfl, rfl⟩ := h; rfl
 frame := fun h _ => h
 bound := fun h => by obtain ⟨rfl, rfl⟩ := h; intro b hb; cases hb
 Sx := fun h lv k => by obtain ⟨rfl, rfl⟩ := h; exact ⟨[], rfl, fun b hb => hb⟩
 res := fun h _ lo d _ k X _ => by obtain ⟨rfl, rfl⟩ := h; exact ⟨_, X.1, [], [], by rw [dh]; rfl, fun _ _ => rfl, .nil, fun b hb => (by cases hb), fun _ _ => ⟨rfl, rfl⟩⟩
instance : Aw Bool where
 tr := fun _ x cs F => cs = [.bool x] ∧ F = []
 dep := 1
 len := fun h => by obtain ⟨rfl, rfl⟩ := h; rfl
 cell := fun h => by obtain ⟨rfl, rfl⟩ := h; rfl
 frame := fun h _ => h
 bound := fun h => by obtain ⟨rfl, rfl⟩ := h; intro b hb; cases hb
 Sx := fun h lv k => by obtain ⟨rfl, rfl⟩ := h; exact ⟨[], rfl, fun b hb => hb⟩
 res := fun h _ lo d _ k X _ => by obtain ⟨rfl, rfl⟩ := h; exact ⟨_, X.1, [], [], by rw [dh]; rfl, fun _ _ => rfl, .nil, fun b hb => (by cases hb), fun _ _ => ⟨rfl, rfl⟩⟩
instance : Aw ByteArray where
 tr := fun _ x cs F => cs = [.str x] ∧ F = []
 dep := 1
 len := fun h => by obtain ⟨rfl, rfl⟩ := h; rfl
 cell := fun h => by obtain ⟨rfl, rfl⟩ := h; rfl
 frame := fun h _ => h
 bound := fun h => by obtain ⟨rfl, rfl⟩ := h; intro b hb; cases hb
 Sx := fun h lv k => by obtain ⟨rfl, rfl⟩ := h; exact ⟨[], rfl, fun b hb => hb⟩
 res := fun h _ lo d _ k X _ => by obtain ⟨rfl, rfl⟩ := h; exact ⟨_, X.1, [], [], by rw [dh]; rfl, fun _ _ => rfl, .nil, fun b hb => (by cases hb), fun _ _ => ⟨rfl, rfl⟩⟩
instance {α : Type} [AL α] [Aw α] : Aw (List α) where
 tr := fun G xs cs F => (xs = [] ∧ cs = [.tl 0 []] ∧ F = []) ∨ ∃ b cells F', cs = [.sl b 0 xs.length] ∧ G[b]? = some (.cells (AL.sz α) cells) ∧ NQ Aw.tr G xs cells F' ∧ F = b :: F'
 dep := Aw.dep α + 1
 len := fun h => by
  rcases h with ⟨rfl, rfl, rfl⟩ | ⟨b, cells, F', rfl, _⟩ <;> rfl
 cell := fun h => by
  rcases h with ⟨rfl, rfl, rfl⟩ | ⟨b, cells, F', rfl, _⟩ <;> rfl
 frame := fun h hf => by
  rcases h with ⟨rfl, rfl, rfl⟩ | ⟨b, cells, F', rfl, h1, h2, rfl⟩
  ·exact .inl ⟨rfl, rfl, rfl⟩
  ·exact .inr ⟨b, cells, F', rfl, by rw [hf b (ck ..)]; exact h1, Fp h2 fun c hc => hf c (bw _ hc), rfl⟩
 bound := fun h => by
  rcases h with ⟨rfl, rfl, rfl⟩ | ⟨b, cells, F', rfl, h1, h2, rfl⟩
  ·intro b hb; cases hb
  ·intro c hc
   rcases bq.1 hc with rfl | hc
   ·exact (ak.1 h1).1
   ·exact Rm h2 c hc
 Sx := fun h lv k => by
  rcases h with ⟨rfl, rfl, rfl⟩ | ⟨b, cells, F', rfl, h1, h2, rfl⟩
  ·exact ⟨[], rfl, fun b hb => hb⟩
  ·obtain ⟨M, e, m⟩ := Ua lv k h2
   refine ⟨b :: M, ?_, fun c hc => ?_⟩
   ·have hl := OX h2
    have e0 : ¬ cells.length < 0 + cells.length := by omega
    have e1 : (nq 0 cells).take cells.length = cells := by rw [ia]; exact fy (al _)
    simp only [Ax.lendL, ← gj, Ax, h1]
    have e' : Ax.lendL (Ax lv _ (k.add (Aw.dep α))) cells = _ := e
    rw [← hl, if_neg e0, e1, e']
    simp only [aj, aa, dh]
    rfl
   ·rcases bq.1 hc with rfl | hc
    ·exact ck ..
    ·exact bw _ (m c hc)
 res := fun {G x cs F} h hn lo d hF k X hX => by
  rcases h with ⟨rfl, rfl, rfl⟩ | ⟨b, cells, F', rfl, h1, h2, rfl⟩
  ·exact ⟨[.tl 0 []], X.1, [], [], by rw [dh, ← gj]; rfl, fun _ _ => rfl, .nil, fun b hb => (by cases hb), fun _ _ => .inl ⟨rfl, rfl, rfl⟩⟩
  ·have hl := OX h2
   have hb := hF b (ck ..)
   rw [dp] at hn
   have hXb : X.1[b]? = some (.cells (AL.sz α) cells) := by rw [hX b (ck ..)]; exact h1
   obtain ⟨c', X1, L, E, e1, s1, n1, b1, r1⟩ := X8 lo d k h2 hn.2 (fun c hc => hF c (bw _ hc)) (X.1.set b .dead, X.2) fun c hc => by
    simp only [Ai]
    rw [if_neg (by rintro ⟨rfl, _⟩; exact hn.1 hc)]
    exact hX c (bw _ hc)
   have e0 : ¬ cells.length < 0 + cells.length := by omega
   have e2 : (nq 0 cells).take cells.length = cells := by rw [ia]; exact fy (al _)
   refine ⟨[.sl (lo + (X.2 ++ L).length) 0 x.length], X1, L ++ [.cells (AL.sz α) c'], (lo + (X.2 ++ L).length) :: E, ?_, fun c hc => ?_, ?_, fun c hc => ?_, fun A hA => .inr ⟨_, c', E, rfl, ?_, ?_, rfl⟩⟩
   ·simp only [BL.resL, ← gj, BL, if_neg (dw.2 hb), hXb]
    have e' : BL.resL (BL true lo d (k.add (Aw.dep α))) (X.1.set b .dead, X.2) cells = _ := e1
    rw [← hl, if_neg e0, e2, e']
    simp only [aa, if_true]
    rw [if_pos ⟨trivial, trivial⟩]
    simp only [aa, aj, bf]
   ·rw [s1 c fun h => hc (bw _ h)]
    simp only [Ai]
    rw [if_neg (by rintro ⟨rfl, _⟩; exact hc (ck ..))]
   ·rw [dp]
    refine ⟨fun h => ?_, n1⟩
    have := b1 _ h
    rw [an] at this
    simp only at this
    omega
   ·rw [an, cn]
    rcases bq.1 hc with rfl | hc
    ·rw [an]; omega
    ·have := b1 c hc; simp only at this; omega
   ·rw [← bf X.2, ← bf A, bu (by rw [an, hA]; exact al _), show lo + (X.2 ++ L).length - (A ++ (X.2 ++ L)).length = 0 by rw [an (as := A), hA]; omega]; rfl
   ·refine Fp (r1 A hA) fun c hc => ?_
    rw [← bf X.2, ← bf A, aw]
    rw [an, an, hA]
    have := b1 c hc
    simp only at this
    omega
instance {α β : Type} [AL α] [AL β] : AL (α × β) := ⟨AL.sz α + AL.sz β, Nat.add_pos_left AL.pos _, fun l x => AL.Ba l x.1 ++ AL.Ba l x.2, fun x => by rw [an, AL.len, AL.len], fun x h => by rw [C2, AL.Fx _ h, AL.Fx _ h]; rfl, fun x => by rw [dv, AL.cell, AL.cell]; rfl⟩
theorem M5 {lv : Nat} {α : Type} [AL α] [Aw α] {G : A6} {x : α} {cs F} (h : Aw.tr G x cs F) {n : Nat} (hn : Aw.dep α ≤ n) (k : Nat) : ∃ M, Ax.lendL (Ax lv G (k + n)) cs = some (AL.Ba lv x, M) ∧ ∀ b ∈ M, b ∈ F := by
 have := Aw.Sx h lv (k + (n - Aw.dep α))
 rwa [show k + (n - Aw.dep α) + Aw.dep α = k + n by omega] at this
theorem RP {α : Type} [AL α] [Aw α] {G : A6} {x : α} {cs F} (h : Aw.tr G x cs F) (hn : F.Nodup) (lo d : Nat) (hF : ∀ b ∈ F, lo ≤ b) {n : Nat} (hm : Aw.dep α ≤ n) (k : Nat) (X : A6 × List Bz) (hX : ∀ b ∈ F, X.1[b]? = G[b]?) : FV (fun G => Aw.tr G x) lo (BL true lo d (k + n)) cs F X := by
 have := Aw.res h hn lo d hF (k + (n - Aw.dep α)) X hX
 rwa [show k + (n - Aw.dep α) + Aw.dep α = k + n by omega] at this
instance {α β : Type} [AL α] [Aw α] [AL β] [Aw β] : Aw (α × β) where
 tr := fun G x cs F => ∃ c1 c2 F1 F2, cs = c1 ++ c2 ∧ F = F1 ++ F2 ∧ Aw.tr G x.1 c1 F1 ∧ Aw.tr G x.2 c2 F2
 dep := max (Aw.dep α) (Aw.dep β)
 len := fun h => by obtain ⟨c1, c2, F1, F2, rfl, rfl, h1, h2⟩ := h; rw [an, Aw.len h1, Aw.len h2]; rfl
 cell := fun h => by obtain ⟨c1, c2, F1, F2, rfl, rfl, h1, h2⟩ := h; rw [dv, Aw.cell h1, Aw.cell h2]; rfl
 frame := fun h hf => by
  obtain ⟨c1, c2, F1, F2, rfl, rfl, h1, h2⟩ := h
  exact ⟨c1, c2, F1, F2, rfl, rfl, Aw.frame h1 fun b hb => hf b (cd _ hb), Aw.frame h2 fun b hb => hf b (db _ hb)⟩
 bound := fun h b hb => by
  obtain ⟨c1, c2, F1, F2, rfl, rfl, h1, h2⟩ := h
  rcases aq.1 hb with hb | hb
  ·exact Aw.bound h1 b hb
  ·exact Aw.bound h2 b hb
 Sx := fun h lv k => by
  obtain ⟨c1, c2, F1, F2, rfl, rfl, h1, h2⟩ := h
  obtain ⟨M1, e1, m1⟩ := M5 h1 (ie _ (Aw.dep β)) k
  obtain ⟨M2, e2, m2⟩ := M5 h2 (gp (Aw.dep α) _) k
  refine ⟨M1 ++ M2, JA e1 e2, fun b hb => ?_⟩
  rcases aq.1 hb with hb | hb
  ·exact cd _ (m1 b hb)
  ·exact db _ (m2 b hb)
 res := fun h hn lo d hF k X hX => by
  obtain ⟨c1, c2, F1, F2, rfl, rfl, h1, h2⟩ := h
  obtain ⟨n1, n2, n3⟩ := N6 hn
  refine FV.pair (fun h => Aw.frame h) (RP h1 n1 lo d (fun b hb => hF b (cd _ hb)) (ie _ _) k X fun b hb => hX b (cd _ hb)) fun Y hY => ?_
  exact RP h2 n2 lo d (fun b hb => hF b (db _ hb)) (gp _ _) k Y fun b hb => by rw [hY b fun h => n3 b h hb]; exact hX b (db _ hb)
abbrev Aw.via {α β : Type} [AL α] [AL β] [Aw β] (f : α → β) (hz : AL.sz α = AL.sz β) (he : ∀ l x, AL.Ba l x = AL.Ba l (f x)) : Aw α where
 tr := fun G x cs F => Aw.tr G (f x) cs F
 dep := Aw.dep β
 len := fun h => by rw [hz]; exact Aw.len h
 cell := fun h => Aw.cell h
 frame := fun h hf => Aw.frame h hf
 bound := fun h => Aw.bound h
 Sx := fun h lv k => by rw [he]; exact Aw.Sx h lv k
 res := fun h hn lo d hF k X hX => Aw.res h hn lo d hF k X hX
structure Br (α β : Type) [AL α] [Aw α] [AL β] [Aw β] (get : α → β) (set : α → β → α) (off : Nat) : Prop where
 part : ∀ {G x cs F}, Aw.tr G x cs F → ∃ c1 c2 c3 F1 F2 F3, cs = c1 ++ (c2 ++ c3) ∧ F = F1 ++ (F2 ++ F3) ∧ c1.length = off ∧ Aw.tr G (get x) c2 F2 ∧
  ∀ G' y c F', (∀ b ∈ F1 ++ F3, G'[b]? = G[b]?) → Aw.tr G' y c F' → Aw.tr G' (set x y) (c1 ++ (c ++ c3)) (F1 ++ (F' ++ F3))
section
variable {α β γ : Type} [AL α] [Aw α] [AL β] [Aw β] [AL γ] [Aw γ]
theorem Br.all : Br α α id (fun _ y => y) 0 := ⟨fun {G x cs F} h => ⟨[], cs, [], [], F, [], by simp, by simp, rfl, h, fun G' y c F' _ hy => by simpa using hy⟩⟩
theorem Br.fst : Br (α × β) α Prod.fst (fun x y => (y, x.2)) 0 := ⟨fun {G x cs F} h => by
 obtain ⟨c1, c2, F1, F2, rfl, rfl, h1, h2⟩ := h
 exact ⟨[], c1, c2, [], F1, F2, rfl, rfl, rfl, h1, fun G' y c F' hG hy => ⟨c, c2, F', F2, rfl, rfl, hy, Aw.frame h2 hG⟩⟩⟩
theorem Br.snd : Br (α × β) β Prod.snd (fun x y => (x.1, y)) (AL.sz α) := ⟨fun {G x cs F} h => by
 obtain ⟨c1, c2, F1, F2, rfl, rfl, h1, h2⟩ := h
 exact ⟨c1, c2, [], F1, F2, [], by simp, by simp, Aw.len h1, h2, fun G' y c F' hG hy => ⟨c1, c, F1, F', by simp, by simp, Aw.frame h1 fun b hb => hG b (by simpa using hb), hy⟩⟩⟩
theorem Br.comp {g1 : α → β} {s1 : α → β → α} {o1 : Nat} {g2 : β → γ} {s2 : β → γ → β} {o2 : Nat} (h1 : Br α β g1 s1 o1) (h2 : Br β γ g2 s2 o2) : Br α γ (fun x => g2 (g1 x)) (fun x y => s1 x (s2 (g1 x) y)) (o1 + o2) := ⟨fun {G x cs F} h => by
 obtain ⟨c1, c2, c3, F1, F2, F3, rfl, rfl, l1, t1, b1⟩ := h1.part h
 obtain ⟨d1, d2, d3, E1, E2, E3, rfl, rfl, l2, t2, b2⟩ := h2.part t1
 refine ⟨c1 ++ d1, d2, d3 ++ c3, F1 ++ E1, E2, E3 ++ F3, by simp, by simp, by rw [an, l1, l2], t2, fun G' y c F' hG hy => ?_⟩
 have := b1 G' (s2 (g1 x) y) (d1 ++ (c ++ d3)) (E1 ++ (F' ++ E3)) (fun b hb => hG b (by rcases aq.1 hb with h | h <;> simp [h])) (b2 G' y c F' (fun b hb => hG b (by rcases aq.1 hb with h | h <;> simp [h])) hy)
 simpa using this⟩
end
section
variable {α β γ : Type} [AL α] [AL β] [Aw β] [AL γ] [Aw γ]
theorem Br.via {f : α → β} {hz : AL.sz α = AL.sz β} {he : ∀ l x, AL.Ba l x = AL.Ba l (f x)} {g : β → γ} {s : β → γ → β} {o : Nat} {set : α → γ → α} (h : Br β γ g s o) (hs : ∀ x y, f (set x y) = s (f x) y) :
  @Br α γ _ (Aw.via f hz he) _ _ (fun x => g (f x)) set o :=
 @Br.mk α γ _ (Aw.via f hz he) _ _ _ _ _ fun {G x cs F} h1 => by
  obtain ⟨c1, c2, c3, F1, F2, F3, e1, e2, l1, t1, b1⟩ := h.part (x := f x) h1
  refine ⟨c1, c2, c3, F1, F2, F3, e1, e2, l1, t1, fun G' y c F' hG hy => ?_⟩
  show Aw.tr G' (f (set x y)) _ _
  rw [hs]
  exact b1 G' y c F' hG hy
end
def CR {α : Type} [AL α] [Aw α] (G : A6) (x : α) (cs : List V) (F : List Nat) : Prop := ∃ F', F'.Nodup ∧ (∀ b ∈ F', b ∈ F) ∧ Aw.tr G x cs F'
abbrev AI {α : Type} [AL α] [Aw α] (S F : List Nat) (x : α) (cs : List V) : BK := .tree S F fun G => CR G x cs F
section
variable {α β γ : Type} [AL α] [Aw α] [AL β] [Aw β] [AL γ] [Aw γ] {G G' H : A6} {rs : List BK} {S F : List Nat} {x : α} {cs : List V} {v : V} {xs : List α}
theorem CR.mono (h : CR G x cs F) (hg : ∀ b ∈ F, G'[b]? = G[b]?) : CR G' x cs F := by
 obtain ⟨F', h1, h2, h3⟩ := h
 exact ⟨F', h1, h2, Aw.frame h3 fun b hb => hg b (h2 b hb)⟩
theorem CR.wide {F2 : List Nat} (h : CR G x cs F) (hf : ∀ b ∈ F, b ∈ F2) : CR G x cs F2 := by
 obtain ⟨F', h1, h2, h3⟩ := h
 exact ⟨F', h1, fun b hb => hf b (h2 b hb), h3⟩
theorem CR.cells (h : CR G x cs F) : cs.length = AL.sz α ∧ cs.all V.Bm = true := by
 obtain ⟨F', h1, h2, h3⟩ := h
 exact ⟨Aw.len h3, Aw.cell h3⟩
theorem IB (h : CR G x cs F) (hS : ∀ b ∈ F, b < G.length ∧ (b < H.length → b ∈ S)) : (AI S F x cs).ok H G := ⟨hS, fun G' hg => h.mono hg⟩
theorem A4.tree {j : Nat} (hO : A4 H G rs) {p : A6 → Prop} (hj : rs[j]? = some (.tree S F p)) : p G ∧ ∀ b ∈ F, b < G.length ∧ (b < H.length → b ∈ S) := by
 have h := hO.ok _ (bj hj)
 exact ⟨h.2 G fun _ _ => rfl, h.1⟩
theorem A4.YU {j : Nat} (hO : A4 H G rs) {p p' : A6 → Prop} (hj : rs[j]? = some (.tree S F p)) (hl : G'.length = G.length) (hs : ∀ b, b ∉ F → G'[b]? = G[b]?) (hp : ∀ G2, (∀ b ∈ F, G2[b]? = G'[b]?) → p' G2) :
  A4 (G'.take H.length) G' (rs.set j (.tree S F p')) := by
 have ht : (G'.take H.length).length = H.length := by rw [dn, hl]; have := hO.len; omega
 obtain ⟨hj1, hj2⟩ := ak.1 hj
 refine ⟨fun b hb => ?_, by rw [ht, hl]; exact hO.len, fun r hr => ?_, JE hO.apart hj fun y hy => hy⟩
 ·rw [di, if_pos (by omega)]
 ·obtain ⟨i, hi, e⟩ := ej.1 hr
  rw [bp] at hi
  rw [en] at e
  split at e
  ·subst e
   refine ⟨fun b hb => ?_, hp⟩
   rw [hl, ht]
   exact (hO.tree hj).2 b hb
  ·rename_i hij
   subst e
   refine BK.Vd ht (BK.Eb (hO.ok _ (bg hi)) fun y hy => hs y fun hyF => ?_)
   have hp := cz.1 hO.apart
   rcases bz i j with h | h
   ·exact hp i j hi hj1 h y hy (by rw [hj2]; exact hyF)
   ·exact hp j i hj1 hi (by omega) y (by rw [hj2]; exact hyF) hy
theorem UY {j : Nat} (hO : A4 H G rs) {p : A6 → Prop} (hj : rs[j]? = some (.tree [] F p)) (hs : ∀ b, b ∉ F → G'[b]? = G[b]?) : G'.take H.length = H := by
 apply je
 intro b
 rw [di]
 split
 ·rename_i hb
  rw [hs b fun h => by cases ((hO.tree hj).2 b h).2 hb]
  exact hO.pre b hb
 ·rename_i hb; rw [ba (by omega)]
theorem A4.mC {j : Nat} (hO : A4 H G rs) {p p' : A6 → Prop} (hj : rs[j]? = some (.tree [] F p)) (hl : G'.length = G.length) (hs : ∀ b, b ∉ F → G'[b]? = G[b]?) (hp : ∀ G2, (∀ b ∈ F, G2[b]? = G'[b]?) → p' G2) :
  A4 H G' (rs.set j (.tree [] F p')) := by
 have h := hO.YU hj hl hs hp
 rwa [UY hO hj hs] at h
theorem Bu.YU {H0 : A6} {j : Nat} (hFr : Bu H0 H S) (hO : A4 H G rs) {p : A6 → Prop} (hj : rs[j]? = some (.tree S F p)) (hl : G'.length = G.length) (hs : ∀ b, b ∉ F → G'[b]? = G[b]?) : Bu H0 (G'.take H.length) S := by
 have ht : (G'.take H.length).length = H.length := by rw [dn, hl]; have := hO.len; omega
 refine ⟨by rw [ht]; exact hFr.1, fun b hb => ?_⟩
 rw [di]
 split
 ·rename_i hlt
  rw [hs b fun h => hb (((hO.tree hj).2 b h).2 hlt), hO.pre b hlt]
  exact hFr.2 b hb
 ·rename_i hge
  rw [← hFr.2 b hb, ba (by omega)]
theorem OY {i : Int} (h : CR G xs [v] F) (hx : AH xs i = some x) : ∃ b cells F', v = .sl b 0 xs.length ∧ b ∈ F ∧ G[b]? = some (.cells (AL.sz α) cells) ∧ NQ Aw.tr G xs cells F' ∧ (b :: F').Nodup ∧ ∀ c ∈ F', c ∈ F := by
 obtain ⟨F', h1, h2, h3⟩ := h
 rcases h3 with ⟨rfl, _, _⟩ | ⟨b, cells, F2, e, hb, ht, rfl⟩
 ·have := EZ hx; simp at this; omega
 ·simp only [ep, and_true] at e
  exact ⟨b, cells, F2, e, h2 b (ck ..), hb, ht, h1, fun c hc => h2 c (bw _ hc)⟩
theorem X6 {get : α → β} {set : α → β → α} {off : Nat} (L : Br α β get set off) {i : Int} {F} (h : NQ Aw.tr G xs cs F) (hx : AH xs i = some x) : ∃ c1 c2 c3 F1 F2 F3, cs = c1 ++ (c2 ++ c3) ∧ F = F1 ++ (F2 ++ F3) ∧ c1.length = i.toNat * AL.sz α + off ∧ Aw.tr G (get x) c2 F2 ∧
  ∀ G' y c F', (∀ b ∈ F1 ++ F3, G'[b]? = G[b]?) → Aw.tr G' y c F' → NQ Aw.tr G' (xs.set i.toNat (set x y)) (c1 ++ (c ++ c3)) (F1 ++ (F' ++ F3)) := by
 obtain ⟨c1, c2, c3, F1, F2, F3, rfl, rfl, l1, t1, b1⟩ := bF h (IY hx)
 obtain ⟨d1, d2, d3, E1, E2, E3, rfl, rfl, l2, t2, b2⟩ := L.part t1
 refine ⟨c1 ++ d1, d2, d3 ++ c3, F1 ++ E1, E2, E3 ++ F3, by simp, by simp, by rw [an, l1, l2], t2, fun G' y c F' hG hy => ?_⟩
 have := b1 G' (set x y) (d1 ++ (c ++ d3)) (E1 ++ (F' ++ E3)) (fun b hb => hG b (by rcases aq.1 hb with h | h <;> simp [h])) (b2 G' y c F' (fun b hb => hG b (by rcases aq.1 hb with h | h <;> simp [h])) hy)
 simpa using this
theorem Vx {c1 c2 c3 c : List V} (hl : c.length = c2.length) : Bo (c1 ++ (c2 ++ c3)) c1.length c = c1 ++ (c ++ c3) := by
 unfold Bo
 rw [lg rfl, hl, lb, fw (by omega), dr, ic, ny rfl, bf]
theorem Io {get : α → β} {set : α → β → α} {off b : Nat} (L : Br α β get set off) {i : Int} {y : β} {w : List V} {F2 : List Nat} (h : CR G xs [v] F) (hx : AH xs i = some x) (hv : v = .sl b 0 xs.length) (hy : CR G y w F2) (hd : ∀ c ∈ F2, c ∉ F) :
  ∃ cells, b ∈ F ∧ G[b]? = some (.cells (AL.sz α) cells) ∧ i.toNat * AL.sz α + off + w.length ≤ cells.length ∧ w.all V.Bm = true ∧
   CR (G.set b (.cells (AL.sz α) (Bo cells (i.toNat * AL.sz α + off) w))) (xs.set i.toNat (set x y)) [v] (F ++ F2) := by
 obtain ⟨b', cells, F', rfl, hb, hg, ht, hn, hF⟩ := OY h hx
 cases hv
 obtain ⟨E, hE, hE2, hyt⟩ := hy
 obtain ⟨c1, c2, c3, F1, Fm, F3, rfl, rfl, l1, t1, b1⟩ := X6 L ht hx
 have hl : w.length = c2.length := by rw [Aw.len hyt, Aw.len t1]
 have hblt := (ak.1 hg).1
 rw [dp] at hn
 obtain ⟨n1, n2⟩ := hn
 have nn := dc.1 n2
 have nn2 := dc.1 nn.2.1
 refine ⟨_, hb, hg, by simp only [an]; omega, Aw.cell hyt, b :: (F1 ++ (E ++ F3)), ?_, fun c hc => ?_, .inr ⟨b, _, _, by rw [bp], by rw [Ai, if_pos ⟨rfl, hblt⟩], ?_, rfl⟩⟩
 ·rw [dp]
  refine ⟨fun hm => ?_, ?_⟩
  ·simp only [aq] at hm n1
   rcases hm with hm | hm | hm
   ·exact n1 (.inl hm)
   ·exact hd b (hE2 b hm) hb
   ·exact n1 (.inr (.inr hm))
  ·rw [dc, dc]
   refine ⟨nn.1, ⟨hE, nn2.2.1, fun p hp q hq e => ?_⟩, fun p hp q hq e => ?_⟩
   ·subst e; exact hd p (hE2 p hp) (hF p (by simp [hq]))
   ·subst e
    rcases aq.1 hq with hq | hq
    ·exact hd p (hE2 p hq) (hF p (by simp [hp]))
    ·exact nn.2.2 p hp p (by simp [hq]) rfl
 ·rcases bq.1 hc with rfl | hc
  ·simp [hb]
  ·simp only [aq] at hc ⊢
   rcases hc with hc | hc | hc
   ·exact .inl (hF c (by simp [hc]))
   ·exact .inr (hE2 c hc)
   ·exact .inl (hF c (by simp [hc]))
 ·rw [← l1, Vx hl]
  refine b1 _ y w E (fun c hc => ?_) (Aw.frame hyt fun c hc => ?_)
  ·rw [Ai, if_neg]
   rintro ⟨rfl, _⟩
   exact n1 (by rcases aq.1 hc with h | h <;> simp [h])
  ·rw [Ai, if_neg]
   rintro ⟨rfl, _⟩
   exact hd b (hE2 b hc) hb
structure Ue (G : A6) (R : A6 → β → Prop) (F : List Nat) (cs : List V) (Fs : List Nat) (y : β) : Prop where
 tr : CR G y cs Fs
 sub : ∀ b ∈ Fs, b ∈ F
 fr : ∀ G G' y, R G y → (∀ b ∈ F, G'[b]? = G[b]?) → R G' y
 back : ∀ G' y', (∀ b, b ∉ Fs → G'[b]? = G[b]?) → CR G' y' cs Fs → R G' y'
theorem QS {get : α → β} {set : α → β → α} {off : Nat} (L : Br α β get set off) (h : CR G x cs F) : ∃ c1 c2 c3 Fs, cs = c1 ++ (c2 ++ c3) ∧ c1.length = off ∧ c2.length = AL.sz β ∧ Ue G (fun G' y => CR G' (set x y) cs F) F c2 Fs (get x) := by
 obtain ⟨F', n, hF, ht⟩ := h
 obtain ⟨c1, c2, c3, F1, F2, F3, rfl, rfl, l1, t1, b1⟩ := L.part ht
 have nn := dc.1 n
 have nn2 := dc.1 nn.2.1
 refine ⟨c1, c2, c3, F2, rfl, l1, Aw.len t1, ⟨F2, nn2.1, fun _ h => h, t1⟩, fun b hb => hF b (by simp [hb]), fun G G' y hR hg => hR.mono hg, fun G' y' hs hy => ?_⟩
 obtain ⟨E, e1, e2, e3⟩ := hy
 refine ⟨F1 ++ (E ++ F3), ?_, fun b hb => ?_, b1 G' y' c2 E (fun b hb => hs b fun h => ?_) e3⟩
 ·rw [dc, dc]
  refine ⟨nn.1, ⟨e1, nn2.2.1, fun p hp q hq => nn2.2.2 p (e2 p hp) q hq⟩, fun p hp q hq => nn.2.2 p hp q ?_⟩
  rcases aq.1 hq with h | h
  ·simp [e2 q h]
  ·simp [h]
 ·simp only [aq] at hb
  rcases hb with h | h | h
  ·exact hF b (by simp [h])
  ·exact hF b (by simp [e2 b h])
  ·exact hF b (by simp [h])
 ·rcases aq.1 hb with h' | h'
  ·exact nn.2.2 b h' b (by simp [h]) rfl
  ·exact nn2.2.2 b h b h' rfl
theorem QR {get : α → β} {set : α → β → α} {off b : Nat} (L : Br α β get set off) {i : Int} (h : CR G xs [v] F) (hx : AH xs i = some x) (hv : v = .sl b 0 xs.length) :
  ∃ cells c1 c2 c3 Fs, G[b]? = some (.cells (AL.sz α) cells) ∧ cells = c1 ++ (c2 ++ c3) ∧ c1.length = i.toNat * AL.sz α + off ∧ c2.length = AL.sz β ∧ Ue G (fun G' y => CR G' (xs.set i.toNat (set x y)) [v] F) F c2 Fs (get x) := by
 obtain ⟨b', cells, F', rfl, hb, hg, ht, hn, hF⟩ := OY h hx
 cases hv
 obtain ⟨c1, c2, c3, F1, F2, F3, rfl, rfl, l1, t1, b1⟩ := X6 L ht hx
 rw [dp] at hn
 obtain ⟨n1, n⟩ := hn
 have nn := dc.1 n
 have nn2 := dc.1 nn.2.1
 refine ⟨_, c1, c2, c3, F2, hg, rfl, l1, Aw.len t1, ⟨F2, nn2.1, fun _ h => h, t1⟩, fun c hc => hF c (by simp [hc]), fun G G' y hR hg => hR.mono hg, fun G' y' hs hy => ?_⟩
 obtain ⟨E, e1, e2, e3⟩ := hy
 refine ⟨b :: (F1 ++ (E ++ F3)), ?_, fun c hc => ?_, .inr ⟨b, _, _, by rw [bp], ?_, b1 G' y' c2 E (fun c hc => hs c fun h => ?_) e3, rfl⟩⟩
 ·rw [dp, dc, dc]
  refine ⟨fun hm => n1 ?_, nn.1, ⟨e1, nn2.2.1, fun p hp q hq => nn2.2.2 p (e2 p hp) q hq⟩, fun p hp q hq => nn.2.2 p hp q ?_⟩
  ·simp only [aq] at hm ⊢
   rcases hm with h | h | h
   ·exact .inl h
   ·exact .inr (.inl (e2 b h))
   ·exact .inr (.inr h)
  ·rcases aq.1 hq with h | h
   ·simp [e2 q h]
   ·simp [h]
 ·rcases bq.1 hc with rfl | hc
  ·exact hb
  ·simp only [aq] at hc
   rcases hc with h | h | h
   ·exact hF c (by simp [h])
   ·exact hF c (by simp [e2 c h])
   ·exact hF c (by simp [h])
 ·rw [hs b fun h => n1 (by simp [h])]; exact hg
 ·rcases aq.1 hc with h' | h'
  ·exact nn.2.2 c h' c (by simp [h]) rfl
  ·exact nn2.2.2 c h c h' rfl
theorem Zc (h : CR G xs [v] F) : Ct v = some xs.length := by
 obtain ⟨F', _, _, ⟨rfl, e, _⟩ | ⟨b, cells, F2, e, _⟩⟩ := h
 ·cases e; rfl
 ·cases e; rfl
theorem Xj {f : V → Option (V × List Nat)} {v v' : V} {M : List Nat} (h : Ax.lendL f [v] = some ([v'], M)) : f v = some (v', M) := by
 simp only [Ax.lendL, af, ag, Prod.exists, ah, ab] at h
 obtain ⟨a, M1, h1, b, M2, ⟨rfl, rfl⟩, h3, rfl⟩ := h
 simp only [ep, and_true] at h3
 subst h3
 rw [h1, dh]
theorem Nh {j : Nat} (hO : A4 H G rs) (hj : rs[j]? = some (AI S F xs [v])) (lv n : Nat) (hn : fm (Aw.dep (List α)) n = true := by rfl) : ∃ M, Ax lv G n v = some (.lit lv xs.length (A8 lv xs), M) := by
 obtain ⟨F', _, _, h⟩ := (hO.tree hj).1
 obtain ⟨M, h1, _⟩ := M5 (lv := lv) h (ca hn) 0
 rw [gh] at h1
 exact ⟨M, Xj h1⟩
theorem N1 {j : Nat} (hO : A4 H G rs) (hj : rs[j]? = some (AI S F x cs)) (lv n : Nat) (hn : fm (Aw.dep α) n = true := by rfl) : ∃ M, Ax lv G (n + 1) (.agg cs) = some (.agg (AL.Ba lv x), M) := by
 obtain ⟨F', _, _, h⟩ := (hO.tree hj).1
 obtain ⟨M, h1, _⟩ := M5 (lv := lv) h (ca hn) 0
 rw [gh] at h1
 exact ⟨M, by rw [Ax, h1]; rfl⟩
end
section steps
variable {P : bm} {h : Bp} {fk n base : Nat} {lk : Lk} {c : Cx} {ops : Array ch} {s kk : Bool} {d : Nat} {ty : ao} {pos : String} {aft : Array Edge} {l : List (Bool × Bool × ch)} {Q : St → Prop} {T : Nat → V} {G G' H H0 : A6} {rs : List BK} {op : Op} {S F : List Nat}
variable {α β : Type} [AL α] [Aw α] [AL β] [Aw β]
theorem HZ {xs : List α} {i : Int} {x : α} {t e : ao} {y z : au} {kd : fz} {v : V} (hO : A4 H G rs) (j : Nat) (hc : AH xs i = some x) (he : B6 P t = some e) (hz : B8 P e = some (AL.sz α)) (k : ∀ b, v = .sl b 0 xs.length → BU (B5 P h fk n base lk) ops l ⟨Cw T d (.ptr b (i.toNat * AL.sz α)), G⟩ Q)
  (h1 : ev T y = some v := by rfl) (h2 : ev T z = some (.int kd i) := by rfl) (hj : rs[j]? = some (AI S F xs [v]) := by rfl) (hd : cm d n = true := by rfl) :
  BU (B5 P h fk n base lk) ops ((s, kk, ⟨some d, .indexAddr t y z, ty, pos, aft, none⟩) :: l) ⟨T, G⟩ Q := by
 obtain ⟨b, cells, F', rfl, _⟩ := OY (hO.tree hj).1 hc
 refine pV ?_ hd (k b rfl)
 rw [DM]
 show (B6 P t).bind _ = _
 rw [he, aa]
 show (B8 P e).bind _ = _
 simp only [hz, h1, h2, aa, asInt, Qn, Ct]
 rw [if_pos (EZ hc)]
 simp
theorem K9 {xs : List α} {x : au} {t : ao} {v : V} (hO : A4 H G rs) (j : Nat) (ht : IM P t = some false) (k : BU (B5 P h fk n base lk) ops l ⟨Cw T d (.int .i64 xs.length), G⟩ Q) (h1 : ev T x = some v := by rfl) (hj : rs[j]? = some (AI S F xs [v]) := by rfl) (hd : cm d n = true := by rfl) :
  BU (B5 P h fk n base lk) ops ((s, kk, ⟨some d, .call ⟨.builtin .len, #[x], #[t]⟩, ty, pos, aft, none⟩) :: l) ⟨T, G⟩ Q := by
 refine Ae (b := false) (a := v) ht k h1 ?_ hd
 have := Zc (hO.tree hj).1
 cases v <;> first | exact this | simp [Ct] at this
theorem Fl {sz m off b : Nat} {t : ao} {y z : au} {w : V} (hz : B8 P t = some m) {cells : List V} (hm : ((B5 P h fk n base lk).BQ s kk).BV b = true)
  (hgv : (if b < base then (if h.grow fk then if Bc 1 w then some (w, G) else none else BC base Cq G w) else some (w, G)) = some (w, G)) (hg : G[b]? = some (.cells sz cells)) (hf : off + w.cellsOf.length ≤ cells.length) (hl : w.cellsOf.length = m) (hc : w.cellsOf.all V.Bm = true)
  (h1 : ev T y = some (.ptr b off)) (h2 : ev T z = some w) : Hi ((B5 P h fk n base lk).BQ s kk) (.store t y z) ⟨T, G⟩ = some (Ck, G.set b (.cells sz (Bo cells off w.cellsOf))) := by
 rw [N9]
 simp only [h1, h2, aa, G7]
 rw [if_pos hm]
 have e : (if b < ((B5 P h fk n base lk).BQ s kk).base then (if ((B5 P h fk n base lk).BQ s kk).hints.grow ((B5 P h fk n base lk).BQ s kk).fn then if Bc 1 w then some (w, G) else none else BC ((B5 P h fk n base lk).BQ s kk).base Cq G w) else some (w, G)) = some (w, G) := hgv
 rw [e]
 simp only [aa, hg]
 rw [if_pos ⟨by rw [hl]; exact hz, hf, hc⟩]
 rfl
theorem bY {get : α → β} {set : α → β → α} {off b : Nat} (L : Br α β get set off) {xs : List α} {i : Int} {x : α} {t : ao} {y z : au} {v w : V} {y' : β} (hO : A4 H G rs) (j : Nat) (hv : v = .sl b 0 xs.length) (hc : AH xs i = some x) (hz : B8 P t = some (AL.sz β)) (hw : ∀ G, Aw.tr G y' [w] [])
  (hFr : Bu H0 H S) (hS : ∀ b ∈ S, AX lk b = true) (hb : base = H0.length) (k : ∀ H' G', Bu H0 H' S → A4 H' G' (rs.set j (AI S F (xs.set i.toNat (set x y')) [v])) → BU (B5 P h fk n base lk) ops l ⟨T, G'⟩ Q)
  (h1 : ev T y = some (.ptr b (i.toNat * AL.sz α + off)) := by rfl) (h2 : ev T z = some w := by rfl) (hg : h.grow fk = false := by rfl) (hgv : BC base Cq G w = some (w, G) := by rfl) (h3 : w.cellsOf = [w] := by rfl) (hj : rs[j]? = some (AI S F xs [v]) := by rfl) :
  BU (B5 P h fk n base lk) ops ((s, kk, ⟨none, .store t y z, ty, pos, aft, none⟩) :: l) ⟨T, G⟩ Q := by
 obtain ⟨ht, hbd⟩ := hO.tree hj
 obtain ⟨cells, hbF, hgb, hfit, hcell, hput⟩ := Io (F2 := []) L ht hc hv ⟨[], .nil, fun _ h => h, hw G⟩ (fun _ h => by cases h)
 have hlt := (ak.1 hgb).1
 have hlw : [w].length = AL.sz β := Aw.len (hw G)
 rw [dh] at hput
 have hs : ∀ c, c ∉ F → (G.set b (.cells (AL.sz α) (Bo cells (i.toNat * AL.sz α + off) [w])))[c]? = G[c]? := fun c hc => by
  rw [Ai, if_neg]
  rintro ⟨rfl, _⟩; exact hc hbF
 refine a7 (Fl hz ?_ ?_ hgb (by rw [h3]; exact hfit) (by rw [h3]; exact hlw) (by rw [h3]; exact hcell) h1 h2) (k _ _ (hFr.YU hO hj (bp ..) hs) ?_)
 ·have hbb : base = H.length := hb.trans hFr.1.symm
  subst hbb
  exact OU hS (hbd b hbF).2
 ·rw [hg, hgv]; simp
 ·rw [h3]
  exact hO.YU hj (bp ..) hs fun G2 h2 => hput.mono h2
theorem ME {get : α → β} {set : α → β → α} {off b : Nat} (L : Br α β get set off) {xs : List α} {i : Int} {x : α} {t : ao} {y z : au} {v w : V} {y' : β} (hO : A4 H G rs) (j : Nat) (hv : v = .sl b 0 xs.length) (hc : AH xs i = some x) (hz : B8 P t = some (AL.sz β)) (hw : ∀ G, Aw.tr G y' [w] [])
  (hb : base = H.length) (k : ∀ G', A4 H G' (rs.set j (AI [] F (xs.set i.toNat (set x y')) [v])) → BU (B5 P h fk n base lk) ops l ⟨T, G'⟩ Q)
  (h1 : ev T y = some (.ptr b (i.toNat * AL.sz α + off)) := by rfl) (h2 : ev T z = some w := by rfl) (h3 : w.cellsOf = [w] := by rfl) (hj : rs[j]? = some (AI [] F xs [v]) := by rfl) :
  BU (B5 P h fk n base lk) ops ((s, kk, ⟨none, .store t y z, ty, pos, aft, none⟩) :: l) ⟨T, G⟩ Q := by
 obtain ⟨ht, hbd⟩ := hO.tree hj
 obtain ⟨cells, hbF, hgb, hfit, hcell, hput⟩ := Io (F2 := []) L ht hc hv ⟨[], .nil, fun _ h => h, hw G⟩ (fun _ h => by cases h)
 have hlw : [w].length = AL.sz β := Aw.len (hw G)
 rw [dh] at hput
 have hs : ∀ c, c ∉ F → (G.set b (.cells (AL.sz α) (Bo cells (i.toNat * AL.sz α + off) [w])))[c]? = G[c]? := fun c hc => by
  rw [Ai, if_neg]
  rintro ⟨rfl, _⟩; exact hc hbF
 have hbb : ¬ b < base := fun h => by rw [hb] at h; cases (hbd b hbF).2 h
 refine a7 (Fl hz ?_ (if_neg hbb) hgb (by rw [h3]; exact hfit) (by rw [h3]; exact hlw) (by rw [h3]; exact hcell) h1 h2) (k _ ?_)
 ·unfold Cx.BV
  simp only [df, decide_eq_true_eq]
  exact .inl (dw.1 hbb)
 ·rw [h3]
  exact hO.mC hj (bp ..) hs fun G2 h2 => hput.mono h2
theorem Zz {b : Nat} {xs : List α} {i : Int} {x y' : α} {t : ao} {y z : au} {v w : V} {F2 : List Nat} {cs : List V} (hO : A4 H G (AI [] F2 y' cs :: rs)) (j : Nat) (hv : v = .sl b 0 xs.length) (hc : AH xs i = some x) (hz : B8 P t = some (AL.sz α))
  (hb : base = H.length) (k : ∀ G', A4 H G' (rs.set j (AI [] (F ++ F2) (xs.set i.toNat y') [v])) → BU (B5 P h fk n base lk) ops l ⟨T, G'⟩ Q)
  (h1 : ev T y = some (.ptr b (i.toNat * AL.sz α)) := by rfl) (h2 : ev T z = some w := by rfl) (h3 : w.cellsOf = cs := by rfl) (hj : rs[j]? = some (AI [] F xs [v]) := by rfl) :
  BU (B5 P h fk n base lk) ops ((s, kk, ⟨none, .store t y z, ty, pos, aft, none⟩) :: l) ⟨T, G⟩ Q := by
 have hj' : (AI [] F2 y' cs :: rs)[j + 1]? = some (AI [] F xs [v]) := hj
 obtain ⟨ht, hbd⟩ := hO.tree hj'
 obtain ⟨ht2, hbd2⟩ := hO.tree (j := 0) (F := F2) (S := []) rfl
 obtain ⟨hj1, hj2⟩ := ak.1 hj
 have hap : ∀ c ∈ F2, c ∉ F := fun c hc hc' => (cg.1 hO.apart).1 _ (bj hj) c hc hc'
 obtain ⟨cells, hbF, hgb, hfit, hcell, hput⟩ := Io Br.all ht hc hv ht2 hap
 obtain ⟨hlw, _⟩ := ht2.cells
 have hbb : ¬ b < base := fun h => by rw [hb] at h; cases (hbd b hbF).2 h
 have hs : ∀ c, c ∉ F → (G.set b (.cells (AL.sz α) (Bo cells (i.toNat * AL.sz α + 0) cs)))[c]? = G[c]? := fun c hc => by
  rw [Ai, if_neg]
  rintro ⟨rfl, _⟩; exact hc hbF
 subst h3
 refine a7 (Fl hz ?_ (if_neg hbb) hgb (by simpa using hfit) hlw hcell h1 h2) (k _ ?_)
 ·unfold Cx.BV
  simp only [df, decide_eq_true_eq]
  exact .inl (dw.1 hbb)
 ·obtain ⟨hO1, hO2, hO3, hO4⟩ := hO
  have hlt := (ak.1 hgb).1
  have hp := cz.1 (cg.1 hO4).2
  refine ⟨fun c hc => ?_, by rw [bp]; exact hO2, fun r hr => ?_, ?_⟩
  ·rw [Ai, if_neg]
   ·exact hO1 c hc
   ·rintro ⟨rfl, _⟩; exact hbb (by rw [hb]; exact hc)
  ·obtain ⟨q, hq, e⟩ := ej.1 hr
   rw [bp] at hq
   rw [en] at e
   split at e
   ·subst e
    refine IB hput fun c hc => ?_
    rw [bp]
    rcases aq.1 hc with hc | hc
    ·exact hbd c hc
    ·exact hbd2 c hc
   ·rename_i hjq
    subst e
    refine BK.Eb (hO3 _ (bw _ (bg hq))) fun c hc => hs c fun hcF => ?_
    rcases bz q j with h | h
    ·exact hp q j hq hj1 h c hc (by rw [hj2]; exact hcF)
    ·exact hp j q hj1 hq (by omega) c (by rw [hj2]; exact hcF) hc
  ·rw [cz]
   have key : ∀ q (hq : q < rs.length), q ≠ j → ∀ c ∈ F ++ F2, c ∉ rs[q].CO := fun q hq hqj c hc hc' => by
    rcases aq.1 hc with hc | hc
    ·rcases bz q j with h | h
     ·exact hp q j hq hj1 h c hc' (by rw [hj2]; exact hc)
     ·exact hp j q hj1 hq (by omega) c (by rw [hj2]; exact hc) hc'
    ·exact (cg.1 hO4).1 _ (bg hq) c hc hc'
   intro p q hp' hq' hpq c hc hc'
   rw [bp] at hp' hq'
   rw [en] at hc hc'
   split at hc
   ·rename_i e; subst e
    rw [if_neg (by omega)] at hc'
    exact key q hq' (by omega) c hc hc'
   ·split at hc'
    ·rename_i e; subst e
     exact key p hp' (by omega) c hc' hc
    ·exact hp p q hp' hq' hpq c hc hc'
theorem Vl {γ : Type} [AL γ] [Aw γ] {get : α → List γ} {set : α → List γ → α} {off b : Nat} (L : Br α (List γ) get set off) {xs : List α} {i : Int} {x : α} {t : ao} {y : au} {v : V} (hO : A4 H G rs) (j : Nat) (hv : v = .sl b 0 xs.length) (hc : AH xs i = some x) (ha : Cz P t = some false)
  (k : ∀ u Fs, Ue G (fun G' y => CR G' (xs.set i.toNat (set x y)) [v] F) F [u] Fs (get x) → BU (B5 P h fk n base lk) ops l ⟨Cw T d u, G⟩ Q) (h1 : ev T y = some (.ptr b (i.toNat * AL.sz α + off)) := by rfl) (hj : rs[j]? = some (AI S F xs [v]) := by rfl) (hd : cm d n = true := by rfl) :
  BU (B5 P h fk n base lk) ops ((s, kk, ⟨some d, .load t y, ty, pos, aft, none⟩) :: l) ⟨T, G⟩ Q := by
 obtain ⟨cells, c1, c2, c3, Fs, hg, rfl, hl, hl2, hs⟩ := QR L (hO.tree hj).1 hc hv
 obtain ⟨u, rfl⟩ := gl.1 (show c2.length = 1 from hl2)
 refine eZ u hg ?_ (k u Fs hs) h1 hd
 unfold BF
 rw [ha]
 show (c1 ++ ([u] ++ c3))[i.toNat * AL.sz α + off]? = some u
 rw [← hl, bu (al _), fo]; rfl
theorem Xu {γ : Type} [AL γ] [Aw γ] {get : α → List γ} {set : α → List γ → α} {off b m : Nat} (L : Br α (List γ) get set off) {x : α} {cs : List V} {t : ao} {y : au} (hO : A4 H G rs) (jb j : Nat) (ha : Cz P t = some false)
  (k : ∀ u Fs, Ue G (fun G' y => CR G' (set x y) cs F) F [u] Fs (get x) → BU (B5 P h fk n base lk) ops l ⟨Cw T d u, G⟩ Q) (h1 : ev T y = some (.ptr b off) := by rfl) (hjb : rs[jb]? = some (.AW b (.cells m cs)) := by rfl) (hj : rs[j]? = some (AI S F x cs) := by rfl) (hd : cm d n = true := by rfl) :
  BU (B5 P h fk n base lk) ops ((s, kk, ⟨some d, .load t y, ty, pos, aft, none⟩) :: l) ⟨T, G⟩ Q := by
 obtain ⟨c1, c2, c3, Fs, rfl, hl, hl2, hs⟩ := QS L (hO.tree hj).1
 obtain ⟨u, rfl⟩ := gl.1 (show c2.length = 1 from hl2)
 refine eZ u (hO.get hjb).1 ?_ (k u Fs hs) h1 hd
 unfold BF
 rw [ha]
 show (c1 ++ ([u] ++ c3))[off]? = some u
 rw [← hl, bu (al _), fo]; rfl
theorem qX {get : α → β} {set : α → β → α} {off b m : Nat} (L : Br α β get set off) {x : α} {cs : List V} {t : ao} {y : au} (hO : A4 H G rs) (jb j : Nat) (ha : Cz P t = some true) (hz : B8 P t = some (AL.sz β))
  (k : ∀ cs2 Fs, Ue G (fun G' y => CR G' (set x y) cs F) F cs2 Fs (get x) → BU (B5 P h fk n base lk) ops l ⟨Cw T d (.agg cs2), G⟩ Q) (h1 : ev T y = some (.ptr b off) := by rfl) (hjb : rs[jb]? = some (.AW b (.cells m cs)) := by rfl) (hj : rs[j]? = some (AI S F x cs) := by rfl) (hd : cm d n = true := by rfl) :
  BU (B5 P h fk n base lk) ops ((s, kk, ⟨some d, .load t y, ty, pos, aft, none⟩) :: l) ⟨T, G⟩ Q := by
 obtain ⟨c1, c2, c3, Fs, rfl, hl, hl2, hs⟩ := QS L (hO.tree hj).1
 refine eZ (.agg c2) (hO.get hjb).1 ?_ (k c2 Fs hs) h1 hd
 unfold BF
 simp only [ha, hz, aa]
 rw [if_pos (by simp only [an]; omega), ← hl, ny rfl, ← hl2, lg rfl]
theorem Zv {x : α} {cs : List V} {t : ao} {y : au} (hO : A4 H G rs) (j : Nat) (hz : B8 P t = some (AL.sz α)) (k : ∀ b G', A4 H G' (.AW b (.cells (AL.sz α) cs) :: rs) → BU (B5 P h fk n base lk) ops l ⟨Cw T d (.ptr b 0), G'⟩ Q) (h1 : ev T y = some (.agg cs) := by rfl) (hj : rs[j]? = some (AI S F x cs) := by rfl) (hd : cm d n = true := by rfl) :
  BU (B5 P h fk n base lk) ops ((s, kk, ⟨some d, .box t y, ty, pos, aft, none⟩) :: l) ⟨T, G⟩ Q := by
 obtain ⟨e1, e2⟩ := (hO.tree hj).1.cells
 refine pV ?_ hd (k _ _ (hO.alloc (.cells (AL.sz α) cs)))
 rw [Wh]
 show (B8 P t).bind _ = _
 simp only [hz, h1, aa, V.cellsOf, e2, if_true]
structure U8 where
 n : Int
instance : AL U8 := ⟨1, fh, fun _ x => [.int .u8 x.n], fun _ => rfl, fun _ _ => rfl, fun _ => rfl⟩
end steps
section
variable {P : bm} {h : Bp} {fk n base : Nat} {lk : Lk} {c : Cx} {ops : Array ch} {s kk : Bool} {d : Nat} {ty : ao} {pos : String} {aft : Array Edge} {l : List (Bool × Bool × ch)} {Q : St → Prop} {T : Nat → V} {G G' H H0 : A6} {rs : List BK} {op : Op} {S F : List Nat}
variable {α β : Type} [AL α] [Aw α] [AL β] [Aw β]
theorem JM {lk : Lk} {b : Nat} (h : AX lk b = true) : AX (lk ++ [[]]) b = true := by
 unfold AX at h ⊢
 rw [dv, h]; rfl
theorem EE.gP {lk : Lk} {n b : Nat} (h : EE lk n) (hb : n ≤ b) : AX lk b = true := by
 unfold AX
 rw [cj]
 intro l hl
 simp only [eb, ← np, mi]
 intro hx
 exact absurd (h l hl b hx) (dw.2 hb)
theorem TR {f : au} {args : Array au} {ats : Array ao} {g : eg} {caps vs vs' : List V} {r : V} (hr : Am P h g vs' G (lk ++ [[]]) = some (r, G')) (h1 : ev T f = some (.fn g caps)) (h2 : LO T args.toList = some vs)
  (h3 : An ((B5 P h fk n base lk).BQ s false) (h.DS g) G (vs ++ caps) = some (vs', [], G)) (hg : h.grow g = false) : Hi ((B5 P h fk n base lk).BQ s false) (.call ⟨.value f, args, ats⟩) ⟨T, G⟩ = some (r, G') := by
 rw [Gi]
 simp only [h1, h2, aa, Qh]
 show (An ((B5 P h fk n base lk).BQ s false) (h.DS g) G (vs ++ caps)).bind _ = _
 rw [h3]
 have e : ((B5 P h fk n base lk).BQ s false).CF g [] G = [] := by
  unfold Cx.CF
  have e1 : ((B5 P h fk n base lk).BQ s false).calm = false := rfl
  have e2 : ((B5 P h fk n base lk).BQ s false).hints.grow g = false := hg
  rw [e1, e2]; rfl
 simp only [aa, e]
 exact hr
theorem Wl {f : au} {args : Array au} {ats : Array ao} {g : eg} {vs vs' cs : List V} {r : V} {R : A6 → β → Prop} {Fs : List Nat} {y y' : β} {p : A6 → Prop} (hO : A4 H G rs) (j : Nat) (hsub : Ue G R F cs Fs y) (hF : ∀ b ∈ F, b ∈ S) (hFr : Bu H0 H S) (hS : ∀ b ∈ S, AX lk b = true)
  (hr : (∀ b ∈ Fs, b < G.length) → (∀ b ∈ Fs, AX (lk ++ [[]]) b = true) → CR G y cs Fs → ∃ v H1, Am P h g vs' G (lk ++ [[]]) = some (v, H1) ∧ v = r ∧ CR H1 y' cs Fs ∧ H1.length = G.length ∧ ∀ b, b ∉ Fs → H1[b]? = G[b]?)
  (k : ∀ H' G', Bu H0 H' S → A4 H' G' (rs.set j (.tree S F fun G => R G y')) → BU (B5 P h fk n base lk) ops l ⟨Cw T d r, G'⟩ Q)
  (hj : rs[j]? = some (.tree S F p) := by rfl) (h1 : ev T f = some (.fn g []) := by rfl) (h2 : LO T args.toList = some vs := by rfl) (h3 : An ((B5 P h fk n base lk).BQ s false) (h.DS g) G (vs ++ []) = some (vs', [], G) := by rfl) (hg : h.grow g = false := by rfl) (hd : cm d n = true := by rfl) :
  BU (B5 P h fk n base lk) ops ((s, false, ⟨some d, .call ⟨.value f, args, ats⟩, ty, pos, aft, none⟩) :: l) ⟨T, G⟩ Q := by
 obtain ⟨v, H1, hv, rfl, ht, hl, hs⟩ := hr (fun b hb => ((hO.tree hj).2 b (hsub.sub b hb)).1) (fun b hb => JM (hS b (hF b (hsub.sub b hb)))) hsub.tr
 have hs' : ∀ b, b ∉ F → H1[b]? = G[b]? := fun b hb => hs b fun h => hb (hsub.sub b h)
 exact pV (TR hv h1 h2 h3 hg) hd (k _ _ (hFr.YU hO hj hl hs') (hO.YU hj hl hs' fun G2 h2 => hsub.fr _ _ _ (hsub.back H1 y' hs ht) h2))
theorem kD {f : au} {args : Array au} {ats : Array ao} {g : eg} {vs vs' cs : List V} {r : V} {R : A6 → β → Prop} {Fs : List Nat} {y y' : β} {p : A6 → Prop} (hO : A4 H G rs) (j : Nat) (hsub : Ue G R F cs Fs y) (hlo : EE lk H.length)
  (hr : (∀ b ∈ Fs, b < G.length) → (∀ b ∈ Fs, AX (lk ++ [[]]) b = true) → CR G y cs Fs → ∃ v H1, Am P h g vs' G (lk ++ [[]]) = some (v, H1) ∧ v = r ∧ CR H1 y' cs Fs ∧ H1.length = G.length ∧ ∀ b, b ∉ Fs → H1[b]? = G[b]?)
  (k : ∀ G', A4 H G' (rs.set j (.tree [] F fun G => R G y')) → BU (B5 P h fk n base lk) ops l ⟨Cw T d r, G'⟩ Q)
  (hj : rs[j]? = some (.tree [] F p) := by rfl) (h1 : ev T f = some (.fn g []) := by rfl) (h2 : LO T args.toList = some vs := by rfl) (h3 : An ((B5 P h fk n base lk).BQ s false) (h.DS g) G (vs ++ []) = some (vs', [], G) := by rfl) (hg : h.grow g = false := by rfl) (hd : cm d n = true := by rfl) :
  BU (B5 P h fk n base lk) ops ((s, false, ⟨some d, .call ⟨.value f, args, ats⟩, ty, pos, aft, none⟩) :: l) ⟨T, G⟩ Q := by
 have hun : ∀ b ∈ F, AX lk b = true := fun b hb => hlo.gP (dw.1 fun h => by cases ((hO.tree hj).2 b hb).2 h)
 obtain ⟨v, H1, hv, rfl, ht, hl, hs⟩ := hr (fun b hb => ((hO.tree hj).2 b (hsub.sub b hb)).1) (fun b hb => JM (hun b (hsub.sub b hb))) hsub.tr
 have hs' : ∀ b, b ∉ F → H1[b]? = G[b]? := fun b hb => hs b fun h => hb (hsub.sub b h)
 exact pV (TR hv h1 h2 h3 hg) hd (k _ (hO.mC hj hl hs' fun G2 h2 => hsub.fr _ _ _ (hsub.back H1 y' hs ht) h2))
theorem Ue.all {j : Nat} {x : α} {cs : List V} (hO : A4 H G rs) (hj : rs[j]? = some (AI S F x cs)) : Ue G (fun G' y => CR G' y cs F) F cs F x :=
 ⟨(hO.tree hj).1, fun _ h => h, fun _ _ _ hR hg => hR.mono hg, fun _ _ _ h => h⟩
theorem Dx {x : α} {cs : List V} (h : CR H x cs F) (hF : ∀ b ∈ F, b < H.length) : A4 H H [AI F F x cs] where
 pre := fun _ _ => rfl
 len := al _
 ok := fun r hr => by
  simp only [bh] at hr
  subst hr
  exact IB h fun b hb => ⟨hF b hb, fun _ => hb⟩
 apart := List.pairwise_singleton ..
theorem Qg {x : α} {cs : List V} {k d : Nat} {lr : List ed} {vs : List V} {v : V} {xx : X} (hO : A4 H G rs) (j : Nat) (hFr : Bu H0 H F) (hF : ∀ b ∈ F, b < H0.length) (hj : rs[j]? = some (AI F F x cs) := by rfl) (h1 : BI P G T lr = some vs := by rfl) (h2 : EI vs = v := by rfl)
  (h3 : BL (h.QW k) H0.length d Cq (G, []) v = some (v, (G, [])) := by rfl) (hg : h.grow k = false := by rfl) (hx : xx = .normal ∨ xx = .ret := by first | exact Or.inl rfl | exact Or.inr rfl) :
  YL P h k H0.length d lr (fun v1 H1 => v1 = v ∧ CR H1 x cs F ∧ H1.length = H0.length ∧ ∀ b, b ∉ F → H1[b]? = H0[b]?) xx ⟨T, G⟩ := by
 have hl : H0.length ≤ G.length := by rw [← hFr.1]; exact hO.len
 refine ⟨hx, v, G.take H0.length, ?_, rfl, (hO.tree hj).1.mono fun b hb => ?_, by rw [dn]; omega, fun b hb => ?_⟩
 ·simp only [h1, aa, h2, Dd, hg, bd, if_false, h3, aj, dh]
 ·rw [di, if_pos (hF b hb)]
 ·rw [di]
  split
  ·rename_i hlt
   rw [hO.pre b (by rw [hFr.1]; exact hlt)]
   exact hFr.2 b hb
  ·rename_i hge
   rw [ba (by omega)]
def NT {α : Type} [AL α] [Aw α] (n : Nat) (H : A6) (d : Nat) (rs : List BK) (cs : List V) (x : α) (rs' : List BK) : Prop := ∀ X : A6 × List Bz, A4 H X.1 rs → ∀ k, ∃ cs' X1 L F', BL.resL (BL true H.length d (k + n)) X cs = some (cs', X1, X.2 ++ L) ∧ A4 H X1 rs' ∧ F'.Nodup ∧
 (∀ b ∈ F', H.length + X.2.length ≤ b ∧ b < H.length + X.2.length + L.length) ∧ ∀ A : A6, A.length = H.length → Aw.tr (A ++ (X.2 ++ L)) x cs' F'
variable {rs1 rs2 : List BK} {dd : Nat}
theorem FJ (x : Int) : NT 1 H dd rs [.int .i64 x] x rs := fun X hO k => ⟨_, X.1, [], [], by rw [dh]; rfl, hO, .nil, fun b hb => (by cases hb), fun _ _ => ⟨rfl, rfl⟩⟩
theorem FD (x : Bool) : NT 1 H dd rs [.bool x] x rs := fun X hO k => ⟨_, X.1, [], [], by rw [dh]; rfl, hO, .nil, fun b hb => (by cases hb), fun _ _ => ⟨rfl, rfl⟩⟩
theorem NP (α : Type) [AL α] [Aw α] : NT 1 H dd rs [.tl 0 []] ([] : List α) rs := fun X hO k => ⟨[.tl 0 []], X.1, [], [], by rw [dh]; rfl, hO, .nil, fun b hb => (by cases hb), fun _ _ => .inl ⟨rfl, rfl, rfl⟩⟩
theorem iA {n m : Nat} (hm : n ≤ m) {cs : List V} {x : α} (h : NT n H dd rs cs x rs1) : NT m H dd rs cs x rs1 := fun X hO k => by
 have := h X hO (k + (m - n))
 rwa [show k + (m - n) + n = k + m by omega] at this
theorem As {n m : Nat} {c1 c2 : List V} {x : α} {y : β} (h1 : NT n H dd rs c1 x rs1) (h2 : NT m H dd rs1 c2 y rs2) : NT (max n m) H dd rs (c1 ++ c2) (x, y) rs2 := fun X hO k => by
 obtain ⟨c1', X1, L1, F1, e1, o1, n1, b1, r1⟩ := iA (ie n m) h1 X hO k
 obtain ⟨c2', X2, L2, F2, e2, o2, n2, b2, r2⟩ := iA (gp n m) h2 (X1, X.2 ++ L1) o1 k
 simp only [an] at b2
 refine ⟨c1' ++ c2', X2, L1 ++ L2, F1 ++ F2, by rw [← bf]; exact KB e1 e2, o2, ?_, fun b hb => ?_, fun A hA => ⟨c1', c2', F1, F2, rfl, rfl, Aw.frame (r1 A hA) fun b hb => ?_, by rw [← bf X.2]; exact r2 A hA⟩⟩
 ·rw [dc]
  refine ⟨n1, n2, fun x hx y hy e => ?_⟩
  have := b1 x hx
  have := b2 y hy
  omega
 ·rw [an]
  rcases aq.1 hb with hb | hb
  ·have := b1 b hb; omega
  ·have := b2 b hb; omega
 ·rw [← bf X.2, ← bf A (X.2 ++ L1), aw]
  rw [an, an, hA]
  have := b1 b hb
  omega
theorem TU {j : Nat} (hO : A4 H G rs) {p : A6 → Prop} (hj : rs[j]? = some (.tree [] F p)) (hl : H.length ≤ G'.length) (hs : ∀ b, b ∉ F → G'[b]? = G[b]?) : A4 H G' (rs.eraseIdx j) where
 pre := fun b hb => by rw [hs b fun h => by cases ((hO.tree hj).2 b h).2 hb]; exact hO.pre b hb
 len := hl
 ok := fun r hr => by
  obtain ⟨i, hi, e⟩ := ej.1 hr
  rw [mh] at e
  obtain ⟨hj1, hj2⟩ := ak.1 hj
  have hp := cz.1 hO.apart
  have hi2 : i < rs.length - 1 := by rw [kh] at hi; split at hi <;> omega
  split at e
  ·rename_i h
   subst e
   exact BK.Eb (hO.ok _ (bg (by omega))) fun y hy => hs y fun hyF => hp i j (by omega) hj1 h y hy (by rw [hj2]; exact hyF)
  ·rename_i h
   subst e
   exact BK.Eb (hO.ok _ (bg (by omega))) fun y hy => hs y fun hyF => hp j (i + 1) hj1 (by omega) (by omega) y (by rw [hj2]; exact hyF) hy
 apart := hO.apart.sublist (gu _ _)
theorem BW {x : α} {cs : List V} (j : Nat) (hj : rs[j]? = some (AI [] F x cs) := by rfl) : NT (Aw.dep α) H dd rs cs x (rs.eraseIdx j) := fun X hO k => by
 obtain ⟨⟨F', n, hF, ht⟩, hbd⟩ := hO.tree hj
 obtain ⟨cs', X1, L, F2, e, s1, n1, b1, r1⟩ := Aw.res ht n H.length dd (fun b hb => dw.1 fun h => by cases (hbd b (hF b hb)).2 h) k X fun _ _ => rfl
 refine ⟨cs', X1, L, F2, e, ?_, n1, b1, r1⟩
 have hs : ∀ b, b ∉ F → X1[b]? = X.1[b]? := fun b hb => s1 b fun h => hb (hF b h)
 refine TU hO hj ?_ hs
 rcases jo H.length with h0 | h0
 ·omega
 ·have h1 : X1[H.length - 1]? = X.1[H.length - 1]? := hs _ fun h => by cases (hbd _ h).2 (by omega)
  have h2 : H.length - 1 < X.1.length := by have := hO.len; omega
  rw [ae h2] at h1
  have := (ak.1 h1).1
  omega
class D6 (α : Type) [AL α] [Aw α] : Prop where
 fl : ∀ G (x : α), Aw.tr G x (AL.Ba 0 x) []
 k9 : ∀ l (x : α), AL.Ba l x = AL.Ba 0 x
 pos : 0 < Aw.dep α
instance : D6 Int := ⟨fun _ _ => ⟨rfl, rfl⟩, fun _ _ => rfl, fh⟩
instance : D6 Bool := ⟨fun _ _ => ⟨rfl, rfl⟩, fun _ _ => rfl, fh⟩
instance : D6 ByteArray := ⟨fun _ _ => ⟨rfl, rfl⟩, fun _ _ => rfl, fh⟩
instance [D6 α] [D6 β] : D6 (α × β) := ⟨fun G x => ⟨_, _, [], [], rfl, rfl, D6.fl G x.1, D6.fl G x.2⟩, fun l x => by show AL.Ba l x.1 ++ AL.Ba l x.2 = AL.Ba 0 x.1 ++ AL.Ba 0 x.2; rw [D6.k9 l x.1, D6.k9 l x.2], cw (D6.pos (α := α)) (ie _ _)⟩
theorem Hw [D6 α] (l : Nat) : ∀ (xs : List α), A8 l xs = (A8 0) xs
 | [] => rfl
 | x :: xs => by rw [Cf, Cf, D6.k9, Hw l xs]
theorem G3 [D6 α] {xs : List α} {v : V} {j : Nat} (hO : A4 H G rs) (hj : rs[j]? = some (AI S F xs [v])) (lv n : Nat) (hn : fm (Aw.dep (List α)) n = true := by rfl) : ∃ M, Ax lv G n v = some (.lit lv xs.length ((A8 0) xs), M) := by
 have := Nh hO hj lv n hn
 rwa [Hw] at this
theorem Lt [D6 α] : ∀ (xs : List α), NQ Aw.tr G xs ((A8 0) xs) []
 | [] => ⟨rfl, rfl⟩
 | x :: xs => ⟨_, _, [], [], rfl, rfl, D6.fl G x, Lt xs⟩
theorem bD [D6 α] {xs : List α} {v : V} {X : A6 × List Bz} {X1 : A6} {k : Nat} (hO : A4 H X1 rs1) (h : BL true H.length dd k X v = some (.sl (H.length + X.2.length) 0 xs.length, X1, X.2 ++ [.cells (AL.sz α) ((A8 0) xs)])) :
  ∃ cs' X1 L F', BL.resL (BL true H.length dd k) X [v] = some (cs', X1, X.2 ++ L) ∧ A4 H X1 rs1 ∧ F'.Nodup ∧ (∀ b ∈ F', H.length + X.2.length ≤ b ∧ b < H.length + X.2.length + L.length) ∧ ∀ A : A6, A.length = H.length → Aw.tr (A ++ (X.2 ++ L)) xs cs' F' := by
 refine ⟨[.sl (H.length + X.2.length) 0 xs.length], X1, [.cells (AL.sz α) ((A8 0) xs)], [H.length + X.2.length], by simp only [BL.resL, h, aa, aj], hO, by simp, fun c hc => ?_, fun A hA => .inr ⟨_, _, [], rfl, ?_, Lt xs, rfl⟩⟩
 ·simp only [bh] at hc
  subst hc
  exact ⟨al _, by simp⟩
 ·rw [← bf, bu (by rw [an, hA]; exact al _), an, hA, fo]; rfl
theorem bE [D6 α] {xs : List α} {v : V} {d1 sz : Nat} (hz : Nz v) (hd : 0 < dd) (j : Nat) (hj : rs[j]? = some (.own v d1 sz xs.length ((A8 0) xs)) := by rfl) (hdd : d1 = dd := by rfl) (hsz : sz = AL.sz α := by rfl) : NT 2 H dd rs [v] xs (rs.eraseIdx j) := fun X hO k => by
 subst hdd hsz
 obtain ⟨hl, rfl | ⟨b, rfl, hbb, hgb⟩⟩ := hO.own hj
 ·have h0 := hz _ _ rfl
  have : xs = [] := cp h0
  subst this
  exact ⟨[.tl 0 []], X.1, [], [], by rw [dh]; rfl, hO.drop (gu _ _), .nil, fun b hb => (by cases hb), fun _ _ => .inl ⟨rfl, rfl, rfl⟩⟩
 ·refine bD (hO.kill hj rfl) ?_
  have hcl := Fa (th := true) (lo := H.length) (d := d1) (k := k) (X := (X.1.set b .dead, X.2)) ((A8 0) xs) (GL hd fh _ (FZ xs)) (E9 xs)
  rw [BL]
  simp only [hgb]
  rw [if_neg (by omega), hcl]
  simp only [aa, if_true]
  rw [if_pos hl]
theorem MN [D6 α] {xs : List α} {b sz m : Nat} (hl : xs.length = m) (hd : 0 < dd) (j : Nat) (hsz : sz = AL.sz α := by rfl) (hj : rs[j]? = some (.AW b (.cells sz ((A8 0) xs))) := by rfl) : NT 2 H dd rs [.sl b 0 m] xs (rs.eraseIdx j) := fun X hO k => by
 subst hl hsz
 obtain ⟨hgb, hbb⟩ := hO.get hj
 refine bD (hO.kill hj rfl) ?_
 have hcl := Fa (th := true) (lo := H.length) (d := dd) (k := k) (X := (X.1.set b .dead, X.2)) ((A8 0) xs) (GL hd fh _ (FZ xs)) (E9 xs)
 have e0 : ¬ (((A8 0) xs).length < 0 + xs.length * AL.sz α) := by rw [EA]; omega
 have e1 : (nq 0 ((A8 0) xs)).take (xs.length * AL.sz α) = (A8 0) xs := by rw [ia]; exact fy (by rw [EA]; exact al _)
 rw [BL, if_neg (by omega)]
 simp only [hgb]
 rw [if_neg e0, e1, hcl]
 simp only [aa, if_true]
 rw [if_pos ⟨trivial, by rw [EA]⟩]
def IC {α : Type} [AL α] [Aw α] (H : A6) (xs : List α) (v : V) (H1 : A6) : Prop := ∃ L F, H1 = H ++ L ∧ F.Nodup ∧ (∀ b ∈ F, H.length ≤ b) ∧ Aw.tr H1 xs [v] F
def GH {α : Type} [AL α] [Aw α] (H : A6) (x : α) (v : V) (H1 : A6) : Prop := ∃ cs L F, v = .agg cs ∧ H1 = H ++ L ∧ F.Nodup ∧ (∀ b ∈ F, H.length ≤ b) ∧ Aw.tr H1 x cs F
theorem L4 {xs : List α} {n k : Nat} {lr : List ed} {vs : List V} {v : V} {xx : X} (hO : A4 H G rs) (hz : NT n H dd rs [v] xs rs1) (h1 : BI P G T lr = some vs) (h2 : EI vs = v := by rfl) (hn : fm n Cq = true := by rfl) (hg : h.grow k = false := by rfl) (ht : h.QW k = true := by rfl) (hx : xx = .normal ∨ xx = .ret := by first | exact Or.inl rfl | exact Or.inr rfl) :
  YL P h k H.length dd lr (IC H xs) xx ⟨T, G⟩ := by
 obtain ⟨cs', X1, L, F', e, o, n1, b1, r1⟩ := hz (G, []) hO (Cq - n)
 rw [nh (ca hn)] at e
 have hr := r1 H rfl
 obtain ⟨v', rfl⟩ := gl.1 (show cs'.length = 1 from Aw.len hr)
 have e' : BL true H.length dd Cq (G, []) v = some (v', X1, L) := by
  simp only [BL.resL, af, ag, Prod.exists, ah, ab] at e
  obtain ⟨a, H2, L2, q1, w, H3, L3, ⟨rfl, rfl, rfl⟩, q3, rfl, q4⟩ := e
  simp only [ep, and_true] at q3
  simp only [dr] at q4
  subst q3 q4
  exact q1
 refine ⟨hx, v', H ++ L, ?_, L, F', rfl, n1, fun b hb => (b1 b hb).1, by simpa using hr⟩
 simp only [h1, aa, h2, Dd, hg, bd, if_false, ht, e', aj, o.out]
theorem FG {x : α} {cs : List V} {n k : Nat} {lr : List ed} {vs : List V} {xx : X} (hO : A4 H G rs) (hz : NT n H dd rs cs x rs1) (h1 : BI P G T lr = some vs) (h2 : EI vs = .agg cs := by rfl) (hn : fm (n + 1) Cq = true := by rfl) (hg : h.grow k = false := by rfl) (ht : h.QW k = true := by rfl) (hx : xx = .normal ∨ xx = .ret := by first | exact Or.inl rfl | exact Or.inr rfl) :
  YL P h k H.length dd lr (GH H x) xx ⟨T, G⟩ := by
 have hn' := ca hn
 obtain ⟨cs', X1, L, F', e, o, n1, b1, r1⟩ := hz (G, []) hO (Cq - 1 - n)
 rw [show Cq - 1 - n + n = Cq - 1 by omega] at e
 have hr := r1 H rfl
 have e' : BL true H.length dd Cq (G, []) (.agg cs) = some (.agg cs', X1, L) := by
  show (BL.resL (BL true H.length dd (Cq - 1)) (G, []) cs).map _ = _
  rw [e]; rfl
 refine ⟨hx, .agg cs', H ++ L, ?_, cs', L, F', rfl, rfl, n1, fun b hb => (b1 b hb).1, by simpa using hr⟩
 simp only [h1, aa, h2, Dd, hg, bd, if_false, ht, e', aj, o.out]
theorem A4.fresh {x : α} {cs : List V} {L : List Bz} (hO : A4 H G rs) (hn : F.Nodup) (hb : ∀ b ∈ F, G.length ≤ b) (ht : Aw.tr (G ++ L) x cs F) : A4 H (G ++ L) (AI [] F x cs :: rs) where
 pre := fun b hb => by rw [aw (cw hb hO.len)]; exact hO.pre b hb
 len := by rw [an]; have := hO.len; omega
 ok := fun r hr => by
  rcases bq.1 hr with rfl | hr
  ·refine IB ⟨F, hn, fun _ h => h, ht⟩ fun b h => ⟨Aw.bound ht b h, fun hlt => ?_⟩
   have := hb b h
   have := hO.len
   omega
  ·have h1 := hO.ok r hr
   exact BK.Eb h1 fun x hx => by rw [aw (BK.E4 h1 hx)]
 apart := cg.2 ⟨fun r hr x hx hx' => by
  have := BK.E4 (hO.ok r hr) hx'
  have := hb x hx
  omega, hO.apart⟩
theorem Wj {f : au} {args : Array au} {ats : Array ao} {g : eg} {caps vs vs' : List V} {M : List Nat} {xs : List α} (hO : A4 H G rs) (hr : ∀ L, ∃ v H1, Am P h g vs' G (lk ++ [L]) = some (v, H1) ∧ IC G xs v H1)
  (k : ∀ v F G', A4 H G' (AI [] F xs [v] :: rs) → BU (B5 P h fk n base lk) ops l ⟨Cw T d v, G'⟩ Q) (h1 : ev T f = some (.fn g caps) := by rfl) (h2 : LO T args.toList = some vs := by rfl)
  (h3 : An ((B5 P h fk n base lk).BQ s kk) (h.DS g) G (vs ++ caps) = some (vs', M, G) := by rfl) (hd : cm d n = true := by rfl) :
  BU (B5 P h fk n base lk) ops ((s, kk, ⟨some d, .call ⟨.value f, args, ats⟩, ty, pos, aft, none⟩) :: l) ⟨T, G⟩ Q := by
 obtain ⟨v, H1, e, L, F, rfl, hn, hb, ht⟩ := hr (((B5 P h fk n base lk).BQ s kk).CF g M G)
 refine pV ?_ hd (k v F _ (hO.fresh hn hb ht))
 rw [Gi]
 simp only [h1, h2, aa, Qh]
 show (An ((B5 P h fk n base lk).BQ s kk) (h.DS g) G (vs ++ caps)).bind _ = _
 rw [h3]
 exact e
theorem K8 {f : au} {args : Array au} {ats : Array ao} {g : eg} {caps vs vs' : List V} {M : List Nat} {x : α} (hO : A4 H G rs) (hr : ∀ L, ∃ v H1, Am P h g vs' G (lk ++ [L]) = some (v, H1) ∧ GH G x v H1)
  (k : ∀ cs F G', A4 H G' (AI [] F x cs :: rs) → BU (B5 P h fk n base lk) ops l ⟨Cw T d (.agg cs), G'⟩ Q) (h1 : ev T f = some (.fn g caps) := by rfl) (h2 : LO T args.toList = some vs := by rfl)
  (h3 : An ((B5 P h fk n base lk).BQ s kk) (h.DS g) G (vs ++ caps) = some (vs', M, G) := by rfl) (hd : cm d n = true := by rfl) :
  BU (B5 P h fk n base lk) ops ((s, kk, ⟨some d, .call ⟨.value f, args, ats⟩, ty, pos, aft, none⟩) :: l) ⟨T, G⟩ Q := by
 obtain ⟨v, H1, e, cs, L, F, rfl, rfl, hn, hb, ht⟩ := hr (((B5 P h fk n base lk).BQ s kk).CF g M G)
 refine pV ?_ hd (k cs F _ (hO.fresh hn hb ht))
 rw [Gi]
 simp only [h1, h2, aa, Qh]
 show (An ((B5 P h fk n base lk).BQ s kk) (h.DS g) G (vs ++ caps)).bind _ = _
 rw [h3]
 exact e
theorem X7 {z : α} {c : List V} (hz : ∀ G, Aw.tr G z c []) : ∀ m, NQ Aw.tr G (cq m z) (cq m c).flatten []
 | 0 => ⟨rfl, rfl⟩
 | m + 1 => ⟨c, _, [], [], rfl, rfl, hz G, X7 hz m⟩
theorem kE {a : Int} {m by_ : Nat} {t e : ao} {y z' : au} (hO : A4 H G rs) (hm : Gv by_ a = some m) (zv : α) (he : B6 P t = some e) (hz : B8 P e = some (AL.sz α)) (hb : CH P e = some by_) {z : List V} (hzero : BJ P e = some z) (h0 : ∀ G, Aw.tr G zv (z.map (I3 (h.H4 fk))) [])
  (k : ∀ b G', A4 H G' (AI [] [b] (cq m zv) [.sl b 0 m] :: rs) → BU (B5 P h fk n base lk) ops l ⟨Cw T d (.sl b 0 m), G'⟩ Q)
  (h1 : ev T y = some (.int .i64 a) := by rfl) (h2 : ev T z' = some (.int .i64 a) := by rfl) (hd : cm d n = true := by rfl) :
  BU (B5 P h fk n base lk) ops ((s, kk, ⟨some d, .makeSlice t y z', ty, pos, aft, none⟩) :: l) ⟨T, G⟩ Q := by
 unfold Gv at hm
 split at hm
 case isFalse => cases hm
 rename_i hc
 simp only [ab] at hm
 subst hm
 refine pV ?_ hd (k G.length (G ++ [.cells (AL.sz α) (cq a.toNat (z.map (I3 (h.H4 fk)))).flatten]) (hO.fresh (by simp) (fun b hb => by simp only [bh] at hb; omega) (.inr ⟨G.length, (cq a.toNat (z.map (I3 (h.H4 fk)))).flatten, [], by rw [ga], G5 _ _, X7 h0 _, rfl⟩)))
 rw [Kh]
 simp only [h1, h2, aa, Jz]
 show (B6 P t).bind _ = _
 rw [he, aa]
 show (B8 P e).bind _ = _
 rw [hz, aa]
 show (CH P e).bind _ = _
 rw [hb, aa]
 show (BJ P e).bind _ = _
 rw [hzero, aa, if_pos ⟨trivial, hc.1, hc.2, by rw [← ee (f := I3 (h.H4 fk))]; exact Aw.len (h0 []), ff.1 (AL.pos)⟩]
 rfl
end
def B4 {α : Type} (c : α → Nat) : List α → Nat
 | [] => 0
 | x :: xs => c x + B4 c xs
def BM {α : Type} (f : α → Int → α) (c : α → Nat) : List α → Int → List α
 | [], _ => []
 | x :: xs, k => f x k :: BM f c xs (k + c x)
def lP : Int → Int → Int := fun _ k => k
def YJ : Bool → Int → Bool := fun _ k => (Int.tmod k 3 == 0)
theorem WC {α : Type} {c : α → Nat} {m : Nat} : ∀ {xs : List α}, (∀ x ∈ xs, c x ≤ m) → B4 c xs ≤ m * xs.length
 | [], _ => dq _
 | x :: xs, h => by
  have h1 := h x (ck ..)
  have h2 := WC (xs := xs) fun y hy => h y (bw _ hy)
  rw [B4, gi, Nat.mul_succ]; omega
theorem I1 {α : Type} (f : α → Int → α) (c : α → Nat) : ∀ (xs : List α) (k : Int), (BM f c xs k).length = xs.length
 | [], _ => rfl
 | x :: xs, k => by rw [BM, gi, I1 f c xs, gi]
theorem Fj {α σ : Type} {F : σ → Option (σ ⊕ (List α × Int))} (st : List α → Int → Int → σ) (f : α → Int → α) (c : α → Nat) (p : α → Prop) (n : Nat)
  (hstep : ∀ (pre : List α) x post (k : Int), p x → 0 ≤ k → k + c x ≤ 4611686018427387904 → (pre ++ x :: post).length = n → F (st (pre ++ x :: post) k (pre.length : Int)) = some (.inl (st (pre ++ f x k :: post) (k + c x) ((pre.length + 1 : Nat) : Int))))
  (hend : ∀ (xs : List α) (k : Int), xs.length = n → F (st xs k (n : Int)) = some (.inr (xs, k))) :
  ∀ (xs pre : List α) (k : Int), (∀ x ∈ xs, p x) → 0 ≤ k → k + B4 c xs ≤ 4611686018427387904 → (pre ++ xs).length = n → AG F (st (pre ++ xs) k (pre.length : Int)) = some (pre ++ BM f c xs k, k + B4 c xs)
 | [], pre, k, hp, h0, hb, hn => by
  rw [Be]
  have e : pre.length = n := by simpa using hn
  rw [e, hend _ _ hn]
  simp [BM, B4]
 | x :: xs, pre, k, hp, h0, hb, hn => by
  rw [B4] at hb
  rw [Be, hstep pre x xs k (hp x (ck ..)) h0 (by omega) hn]
  have e : pre ++ f x k :: xs = (pre ++ [f x k]) ++ xs := by simp
  have := Fj st f c p n hstep hend xs (pre ++ [f x k]) (k + c x) (fun y hy => hp y (bw _ hy)) (by omega) (by omega) (by rw [← e]; simpa using hn)
  rw [an, cn, ← e] at this
  simp only [aa]
  rw [this, BM, B4]
  simp only [bf, dt, dr, ab, ah, true_and]
  omega
theorem KP {α σ : Type} {F : σ → Option (σ ⊕ Int)} (st : Int → Int → σ) (f : α → Int → α) (c : α → Nat) (p : α → Prop) (ys : List α)
  (hstep : ∀ (i : Nat) x (k : Int), p x → 0 ≤ k → k + c x ≤ 4611686018427387904 → ys[i]? = some (f x k) → F (st k (i : Int)) = some (.inl (st (k + c x) ((i + 1 : Nat) : Int))))
  (hend : ∀ k : Int, F (st k (ys.length : Int)) = some (.inr k)) :
  ∀ (xs pre : List α) (k : Int), ys = pre ++ BM f c xs k → (∀ x ∈ xs, p x) → 0 ≤ k → k + B4 c xs ≤ 4611686018427387904 → AG F (st k (pre.length : Int)) = some (k + B4 c xs)
 | [], pre, k, hy, hp, h0, hb => by
  rw [Be]
  have e : pre.length = ys.length := by rw [hy]; simp [BM]
  rw [e, hend]
  simp [B4]
 | x :: xs, pre, k, hy, hp, h0, hb => by
  rw [B4] at hb
  rw [Be, hstep pre.length x k (hp x (ck ..)) h0 (by omega) (by rw [hy, BM, bu (al _), fo]; rfl)]
  have := KP st f c p ys hstep hend xs (pre ++ [f x k]) (k + c x) (by rw [hy, BM]; simp) (fun y hy => hp y (bw _ hy)) (by omega) (by omega)
  rw [an, cn] at this
  simp only [aa]
  rw [this, B4]
  simp only [ab]
  omega
theorem bX {a : Int} (h : 0 ≤ a) : decide (a < 0) = false := by rw [decide_eq_false_iff_not]; omega
theorem LC {α : Type} (pre : List α) (x : α) (post : List α) : decide ((pre.length : Int) < ((pre ++ x :: post).length : Int)) = true := by rw [decide_eq_true_eq, an, gi]; omega
theorem J9 {α : Type} {pre post : List α} {x : α} {n : Nat} (h : (pre ++ x :: post).length = n) : pre.length < n := by rw [← h, an, gi]; omega
theorem Ew {α : Type} {c : α → Nat} {p : α → Prop} {m : Nat} (hc : ∀ x, p x → c x ≤ m) {xs : List α} (hl : xs.length ≤ 1048576) (hp : ∀ x ∈ xs, p x) : B4 c xs ≤ m * 1048576 :=
 cu (WC fun x hx => hc x (hp x hx)) (Nat.mul_le_mul_left _ hl)
theorem HP {α : Type} (pre : List α) (x : α) (post : List α) : AH (pre ++ x :: post) (pre.length : Int) = some x := by
 rw [AE, bu (al _), fo]; rfl
theorem JI {α : Type} (pre : List α) (x y : α) (post : List α) : (pre ++ x :: post).set ((pre.length : Nat) : Int).toNat y = pre ++ y :: post := by
 rw [Int.toNat_natCast, ke _ _ (al _), fo]; rfl
theorem IQ {k : Int} (h0 : 0 ≤ k) (h : k ≤ 4611686018427387904) : BE (k + 1) = k + 1 := LL ⟨by omega, by omega⟩
def Ds (lo d n : Nat) (tr : A6 → List V → List Nat → Prop) (G : A6) (cs : List V) (F : List Nat) : Prop :=
 ∃ F', F'.Nodup ∧ (∀ b ∈ F', b ∈ F) ∧ ∀ X : A6 × List Bz, (∀ b ∈ F', X.1[b]? = G[b]?) → ∀ k, FV tr lo (BL true lo d (k + n)) cs F' X
section
variable {α β : Type} [AL α] [Aw α] [AL β] [Aw β] {lo d n : Nat} {tr : A6 → List V → List Nat → Prop} {G G' H : A6} {cs : List V} {F F2 : List Nat} {xs : List α} {x : α} {v : V} {rs : List BK}
theorem Ds.mono (h : Ds lo d n tr G cs F) (hg : ∀ b ∈ F, G'[b]? = G[b]?) : Ds lo d n tr G' cs F := by
 obtain ⟨F', h1, h2, h3⟩ := h
 exact ⟨F', h1, h2, fun X hX k => h3 X (fun b hb => by rw [hX b hb, hg b (h2 b hb)]) k⟩
theorem Ds.wide (h : Ds lo d n tr G cs F) (hf : ∀ b ∈ F, b ∈ F2) : Ds lo d n tr G cs F2 := by
 obtain ⟨F', h1, h2, h3⟩ := h
 exact ⟨F', h1, fun b hb => hf b (h2 b hb), h3⟩
theorem FV.rO {t1 t2 : A6 → List V → List Nat → Prop} {f : A6 × List Bz → V → Option (V × A6 × List Bz)} {X : A6 × List Bz} (h : FV t1 lo f cs F X) (ht : ∀ G c F, t1 G c F → t2 G c F) : FV t2 lo f cs F X := by
 obtain ⟨c, X1, L, F', e, s1, n1, b1, r1⟩ := h
 exact ⟨c, X1, L, F', e, s1, n1, b1, fun A hA => ht _ _ _ (r1 A hA)⟩
theorem Ds.nil : Ds lo d n (fun G => NQ Aw.tr G ([] : List α)) G [] [] :=
 ⟨[], .nil, fun _ h => h, fun X _ k => ⟨[], X.1, [], [], by rw [dh]; rfl, fun _ _ => rfl, .nil, fun b hb => (by cases hb), fun _ _ => ⟨rfl, rfl⟩⟩⟩
theorem QX : ∀ {xs : List α} {c1 c2 F1 F2}, NQ Aw.tr G xs c1 F1 → Aw.tr G x c2 F2 → NQ Aw.tr G (xs ++ [x]) (c1 ++ c2) (F1 ++ F2)
 | [], c1, c2, F1, F2, h1, h2 => by
  obtain ⟨rfl, rfl⟩ := h1
  exact ⟨c2, [], F2, [], by simp, by simp, h2, rfl, rfl⟩
 | y :: xs, c1, c2, F1, F2, h1, h2 => by
  obtain ⟨a, b, A, B, rfl, rfl, q1, q2⟩ := h1
  exact ⟨a, b ++ c2, A, B ++ F2, by simp, by simp, q1, QX q2 h2⟩
theorem Ds.snoc {c1 c2 : List V} {F1 F2 : List Nat} (h1 : Ds lo d n (fun G => NQ Aw.tr G xs) G c1 F1) (h2 : Ds lo d n (fun G => Aw.tr G x) G c2 F2) (hd : ∀ b ∈ F2, b ∉ F1) : Ds lo d n (fun G => NQ Aw.tr G (xs ++ [x])) G (c1 ++ c2) (F1 ++ F2) := by
 obtain ⟨A, a1, a2, a3⟩ := h1
 obtain ⟨B, b1, b2, b3⟩ := h2
 refine ⟨A ++ B, ?_, fun b hb => ?_, fun X hX k => ?_⟩
 ·rw [dc]
  exact ⟨a1, b1, fun p hp q hq e => by subst e; exact hd p (b2 p hq) (a2 p hp)⟩
 ·rcases aq.1 hb with h | h
  ·exact cd _ (a2 b h)
  ·exact db _ (b2 b h)
 ·refine (FV.pair (t1 := fun G => NQ Aw.tr G xs) (fun h hg => Fp h hg) (a3 X (fun b hb => hX b (cd _ hb)) k) fun Y hY => b3 Y (fun b hb => ?_) k).rO ?_
  ·rw [hY b fun h => hd b (b2 b hb) (a2 b h)]
   exact hX b (db _ hb)
  ·rintro G c F ⟨c1, c2, F1, F2, rfl, rfl, q1, q2⟩
   exact QX q1 q2
theorem CR.prom (h : CR G x cs F) (hF : ∀ b ∈ F, lo ≤ b) : Ds lo d (Aw.dep α) (fun G => Aw.tr G x) G cs F := by
 obtain ⟨F', h1, h2, h3⟩ := h
 exact ⟨F', h1, h2, fun X hX k => Aw.res h3 h1 lo d (fun b hb => hF b (h2 b hb)) k X hX⟩
theorem A4.prom {cs : List V} (hO : A4 H G (AI [] F x cs :: rs)) (d : Nat) : A4 H G (.tree [] F (fun G => Ds H.length d (Aw.dep α) (fun G => Aw.tr G x) G cs F) :: rs) ∧ cs.length = AL.sz α ∧ cs.all V.Bm = true := by
 obtain ⟨h, hb⟩ := hO.tree (j := 0) (F := F) (S := []) rfl
 refine ⟨⟨hO.pre, hO.len, fun r hr => ?_, cg.2 (cg.1 hO.apart)⟩, h.cells⟩
 rcases bq.1 hr with rfl | hr
 ·exact ⟨hb, fun G' hg => (h.prom fun b hb' => dw.1 fun hlt => by cases (hb b hb').2 hlt).mono hg⟩
 ·exact hO.ok r (bw _ hr)
theorem a9 [D6 β] {ys : List β} {b : Nat} {u : V} (hu : ∀ X : A6 × List Bz, X.1[b]? = G[b]? → ∀ k, BL true lo d (k + 2) X u = some (.sl (lo + X.2.length) 0 ys.length, X.1.set b .dead, X.2 ++ [.cells (AL.sz β) ((A8 0) ys)])) (n : Nat) (hn : 2 ≤ n) :
  Ds lo d n (fun G => Aw.tr G ys) G [u] [b] := by
 refine ⟨[b], by simp, fun _ h => h, fun X hX k => ⟨[.sl (lo + X.2.length) 0 ys.length], X.1.set b .dead, [.cells (AL.sz β) ((A8 0) ys)], [lo + X.2.length], ?_, fun c hc => ?_, by simp, fun c hc => ?_, fun A hA => .inr ⟨_, _, [], rfl, ?_, Lt ys, rfl⟩⟩⟩
 ·have := hu X (hX b (by simp)) (k + (n - 2))
  rw [show k + (n - 2) + 2 = k + n by omega] at this
  simp only [BL.resL, this, aa, aj]
 ·rw [Ai, if_neg]
  rintro ⟨rfl, _⟩; exact hc (by simp)
 ·simp only [bh] at hc
  subst hc
  exact ⟨al _, by simp⟩
 ·rw [← bf, bu (by rw [an, hA]; exact al _), an, hA, fo]; rfl
theorem A4.oJ [D6 β] {ys : List β} {d sz : Nat} {u : V} (hO : A4 H G (.own u d sz ys.length ((A8 0) ys) :: rs)) (hz : Nz u) (hd : 0 < d) (hsz : sz = AL.sz β := by rfl) :
  ∃ F, A4 H G (.tree [] F (fun G => Ds H.length d (Aw.dep (List β)) (fun G => Aw.tr G ys) G [u] F) :: rs) ∧ [u].length = AL.sz (List β) ∧ [u].all V.Bm = true := by
 subst hsz
 have h2 : 2 ≤ Aw.dep (List β) := by
  show 2 ≤ Aw.dep β + 1
  have : 0 < Aw.dep β := D6.pos (α := β)
  omega
 have mk : ∀ F, (BK.own u d (AL.sz β) ys.length ((A8 0) ys)).CO = F → (∀ G', (∀ b ∈ F, G'[b]? = G[b]?) → Ds H.length d (Aw.dep (List β)) (fun G => Aw.tr G ys) G' [u] F) → A4 H G (.tree [] F (fun G => Ds H.length d (Aw.dep (List β)) (fun G => Aw.tr G ys) G [u] F) :: rs) := fun F hF hp => by
  refine ⟨hO.pre, hO.len, fun r hr => ?_, ?_⟩
  ·rcases bq.1 hr with rfl | hr
   ·refine ⟨fun b hb => ?_, hp⟩
    have h0 := hO.ok _ (ck ..)
    refine ⟨BK.E4 h0 (by rw [hF]; exact hb), fun hlt => ?_⟩
    have := BK.MC h0 rfl (x := b) (by rw [hF]; exact hb)
    omega
   ·exact hO.ok r (bw _ hr)
  ·have := cg.1 hO.apart
   exact cg.2 ⟨fun r hr x hx => this.1 r hr x (by rw [hF]; exact hx), this.2⟩
 obtain ⟨hl, rfl | ⟨b, rfl, hbb, hgb⟩⟩ := hO.own (k := 0) rfl
 ·have h0 := hz _ _ rfl
  have : ys = [] := cp h0
  subst this
  refine ⟨[], mk [] rfl fun G' _ => ?_, rfl, rfl⟩
  exact ⟨[], .nil, fun _ h => h, fun X _ k => ⟨[.tl 0 []], X.1, [], [], by rw [dh, show k + Aw.dep (List β) = (k + (Aw.dep (List β) - 1)) + 1 by omega]; rfl, fun _ _ => rfl, .nil, fun b hb => (by cases hb), fun _ _ => .inl ⟨rfl, rfl, rfl⟩⟩⟩
 ·refine ⟨[b], mk [b] rfl fun G' hg => a9 (fun X hX k => ?_) _ h2, rfl, rfl⟩
  rw [hg b (by simp), hgb] at hX
  have hcl := Fa (th := true) (lo := H.length) (d := d) (k := k) (X := (X.1.set b .dead, X.2)) ((A8 0) ys) (GL hd fh _ (FZ ys)) (E9 ys)
  rw [BL]
  simp only [hX]
  rw [if_neg (by omega), hcl]
  simp only [aa, if_true]
  rw [if_pos hl]
def XC (lo d : Nat) (G : A6) (xs : List α) (v : V) (F : List Nat) : Prop := (v = .tl 0 [] ∧ xs = []) ∨ ∃ b cells F2, v = .snap b xs.length cells ∧ b ∈ F ∧ (∀ c ∈ F2, c ∈ F) ∧ b ∉ F2 ∧ G[b]? = some (.C1 d xs.length (AL.sz α)) ∧ cells.length = xs.length * AL.sz α ∧
 cells.all V.Bm = true ∧ Ds lo d (Aw.dep α) (fun G => NQ Aw.tr G xs) G cells F2
abbrev Ap (H : A6) (d : Nat) (F : List Nat) (xs : List α) (v : V) : BK := .tree [] F fun G => XC H.length d G xs v F
theorem XC.mono (h : XC lo d G xs v F) (hg : ∀ b ∈ F, G'[b]? = G[b]?) : XC lo d G' xs v F := by
 rcases h with h | ⟨b, cells, F2, h1, h2, h3, h4, h5, h6, h7, h8⟩
 ·exact .inl h
 ·exact .inr ⟨b, cells, F2, h1, h2, h3, h4, by rw [hg b h2]; exact h5, h6, h7, h8.mono fun c hc => hg c (h3 c hc)⟩
theorem A4.lZ (hO : A4 H G rs) (α : Type) [AL α] [Aw α] (d : Nat) : A4 H G (Ap H d [] ([] : List α) (.tl 0 []) :: rs) where
 pre := hO.pre
 len := hO.len
 ok := fun r hr => by
  rcases bq.1 hr with rfl | hr
  ·exact ⟨fun b hb => (by cases hb), fun _ _ => .inl ⟨rfl, rfl⟩⟩
  ·exact hO.ok r hr
 apart := cg.2 ⟨fun r hr x hx => (by cases hx), hO.apart⟩
theorem A4.YO {j : Nat} {p p' q : A6 → Prop} (hO : A4 H G (.tree [] F2 q :: rs)) (hj : rs[j]? = some (.tree [] F p)) (N : List Nat) (hN : ∀ b ∈ N, G.length ≤ b ∧ b < G'.length) (hl : G.length ≤ G'.length) (hs : ∀ b, b < G.length → b ∉ F → G'[b]? = G[b]?) (hp : ∀ G2, (∀ b ∈ N ++ (F ++ F2), G2[b]? = G'[b]?) → p' G2) :
  A4 H G' (rs.set j (.tree [] (N ++ (F ++ F2)) p')) := by
 have hj' : (BK.tree [] F2 q :: rs)[j + 1]? = some (.tree [] F p) := hj
 obtain ⟨_, hbd⟩ := hO.tree hj'
 obtain ⟨_, hbd2⟩ := hO.tree (j := 0) (F := F2) (S := []) rfl
 obtain ⟨hj1, hj2⟩ := ak.1 hj
 obtain ⟨hO1, hO2, hO3, hO4⟩ := hO
 have hp2 := cz.1 (cg.1 hO4).2
 have key : ∀ i (hi : i < rs.length), i ≠ j → ∀ c ∈ N ++ (F ++ F2), c ∉ rs[i].CO := fun i hi hij c hc hc' => by
  have hlt := BK.E4 (hO3 _ (bw _ (bg hi))) hc'
  rcases aq.1 hc with hc | hc
  ·have := (hN c hc).1; omega
  ·rcases aq.1 hc with hc | hc
   ·rcases bz i j with h | h
    ·exact hp2 i j hi hj1 h c hc' (by rw [hj2]; exact hc)
    ·exact hp2 j i hj1 hi (by omega) c (by rw [hj2]; exact hc) hc'
   ·exact (cg.1 hO4).1 _ (bg hi) c hc hc'
 refine ⟨fun c hc => ?_, cu hO2 hl, fun r hr => ?_, ?_⟩
 ·rw [hs c (cw hc hO2) fun h => by cases (hbd c h).2 hc]
  exact hO1 c hc
 ·obtain ⟨i, hi, e⟩ := ej.1 hr
  rw [bp] at hi
  rw [en] at e
  split at e
  ·subst e
   refine ⟨fun c hc => ?_, hp⟩
   rcases aq.1 hc with hc | hc
   ·exact ⟨(hN c hc).2, fun h => by have := (hN c hc).1; omega⟩
   ·rcases aq.1 hc with hc | hc
    ·exact ⟨cw (hbd c hc).1 hl, (hbd c hc).2⟩
    ·exact ⟨cw (hbd2 c hc).1 hl, (hbd2 c hc).2⟩
  ·rename_i hij
   subst e
   have hok := hO3 _ (bw (BK.tree [] F2 q) (bg hi))
   exact BK.Eb hok fun c hc => hs c (BK.E4 hok hc) fun hcF => key i hi (by omega) c (by simp [hcF]) hc
 ·rw [cz]
  intro a b ha hb hab c hc hc'
  rw [bp] at ha hb
  rw [en] at hc hc'
  split at hc
  ·rename_i e; subst e
   rw [if_neg (by omega)] at hc'
   exact key b hb (by omega) c hc hc'
  ·split at hc'
   ·rename_i e; subst e
    exact key a ha (by omega) c hc' hc
   ·exact hp2 a b ha hb hab c hc hc'
theorem pK {dd : Nat} (hd : 0 < dd) (j : Nat) (hj : rs[j]? = some (Ap H dd F xs v) := by rfl) : NT (Aw.dep α + 1) H dd rs [v] xs (rs.eraseIdx j) := fun X hO k => by
 obtain ⟨h, hbd⟩ := hO.tree hj
 rcases h with ⟨rfl, rfl⟩ | ⟨b, cells, F2, rfl, hb, hF2, hb2, hg, hl, hc, F3, n3, s3, hp⟩
 ·exact ⟨[.tl 0 []], X.1, [], [], by rw [dh]; rfl, hO.drop (gu _ _), .nil, fun b hb => (by cases hb), fun _ _ => .inl ⟨rfl, rfl, rfl⟩⟩
 ·have hlo := dw.1 fun h => by cases (hbd b hb).2 h
  obtain ⟨c', X1, L, E, e1, s1, n1, b1, r1⟩ := hp (X.1.set b .dead, X.2) (fun c hc => by
   simp only [Ai]
   rw [if_neg (by rintro ⟨rfl, _⟩; exact hb2 (s3 b hc))]) k
  have hs : ∀ c, c ∉ F → X1[c]? = X.1[c]? := fun c hc => by
   rw [s1 c fun h => hc (hF2 c (s3 c h))]
   simp only [Ai]
   rw [if_neg (by rintro ⟨rfl, _⟩; exact hc hb)]
  refine ⟨[.sl (H.length + (X.2 ++ L).length) 0 xs.length], X1, L ++ [.cells (AL.sz α) c'], (H.length + (X.2 ++ L).length) :: E, ?_, ?_, ?_, fun c hc => ?_, fun A hA => .inr ⟨_, c', E, rfl, ?_, ?_, rfl⟩⟩
  ·simp only [BL.resL, ← gj, BL, hg]
   have e' : BL.resL (BL true H.length dd (k.add (Aw.dep α))) (X.1.set b .dead, X.2) cells = _ := e1
   rw [if_neg (by omega), e']
   simp only [aa, if_true]
   rw [if_pos hl]
   simp only [aa, aj, bf]
  ·refine TU hO hj ?_ hs
   rcases jo H.length with h0 | h0
   ·omega
   ·have h1 : X1[H.length - 1]? = X.1[H.length - 1]? := hs _ fun h => by cases (hbd _ h).2 (by omega)
    have h2 : H.length - 1 < X.1.length := by have := hO.len; omega
    rw [ae h2] at h1
    have := (ak.1 h1).1
    omega
  ·rw [dp]
   refine ⟨fun h => ?_, n1⟩
   have := b1 _ h
   rw [an] at this
   simp only at this
   omega
  ·rw [an, cn]
   rcases bq.1 hc with rfl | hc
   ·rw [an]; omega
   ·have := b1 c hc; simp only at this; omega
  ·rw [← bf X.2, ← bf A, bu (by rw [an, hA]; exact al _), show H.length + (X.2 ++ L).length - (A ++ (X.2 ++ L)).length = 0 by rw [an (as := A), hA]; omega]; rfl
  ·refine Fp (r1 A hA) fun c hc => ?_
   rw [← bf X.2, ← bf A, aw]
   rw [an, an, hA]
   have := b1 c hc
   simp only at this
   omega
theorem TP {j : Nat} {dd : Nat} (hO : A4 H G rs) (hj : rs[j]? = some (Ap H dd F xs v)) : v.cellsOf = [v] ∧ v.Bm = true := by
 rcases (hO.tree hj).1 with ⟨rfl, _⟩ | ⟨b, cells, F2, rfl, _⟩ <;> exact ⟨rfl, rfl⟩
theorem AN {j : Nat} (hO : A4 H G rs) {S : List Nat} (hj : rs[j]? = some (AI S F x [v])) : v.cellsOf = [v] ∧ v.Bm = true := by
 have h := (hO.tree hj).1.cells.2
 simp only [gg, oe, ld] at h
 refine ⟨?_, h⟩
 cases v <;> first | rfl | cases h
theorem MP {j : Nat} (hO : A4 H G rs) {S : List Nat} (hj : rs[j]? = some (AI S F x cs)) : cs.length = AL.sz α ∧ cs.all V.Bm = true := (hO.tree hj).1.cells
end
section steps
variable {P : bm} {h : Bp} {fk n base : Nat} {lk : Lk} {c : Cx} {ops : Array ch} {s kk : Bool} {d : Nat} {ty : ao} {pos : String} {aft : Array Edge} {l : List (Bool × Bool × ch)} {Q : St → Prop} {T : Nat → V} {G G' H H0 : A6} {rs : List BK} {op : Op} {F F2 : List Nat}
variable {α : Type} [AL α] [Aw α]
theorem qW {t e : ao} {x : au} {v : V} {ce z : List V} {sz : Nat} (he : B6 P t = some e) (hz : B8 P e = some sz) (hz0 : BJ P e = some z) (hv : v.cellsOf = ce) (hce : ce.length = sz) (hcc : ce.all V.Bm = true) (k : BU (B5 P h fk n base lk) ops l ⟨Cw T d (.tl 1 ce), G⟩ Q)
  (hzl : z.length = sz := by rfl) (hsz : 0 < sz := by decide) (hm : fm (1 * sz) 1048576 = true := by rfl) (hkp : h.H4 fk = true := by rfl) (h1 : ev T x = some v := by rfl) (hd : cm d n = true := by rfl) :
  BU (B5 P h fk n base lk) ops ((s, kk, ⟨some d, .buildSlice t 1 #[(0, x)], ty, pos, aft, none⟩) :: l) ⟨T, G⟩ Q := by
 refine pV ?_ hd k
 unfold Hi Cb
 simp only []
 show (S5 T [(0, x)]).bind _ = _
 simp only [S5, h1, aa, aj]
 have e1 : CZ ((B5 P h fk n base lk).BQ s kk) G [(0, v)] = some ([(0, v)], G) := by
  simp only [CZ, Gc]
  rw [show ((B5 P h fk n base lk).BQ s kk).hints.H4 ((B5 P h fk n base lk).BQ s kk).fn = true from hkp]
  rfl
 rw [e1]
 simp only [aa]
 show (B6 P t).bind _ = _
 rw [he]
 show (B8 P e).bind _ = _
 rw [hz]
 show (BJ P e).bind _ = _
 rw [hz0]
 simp only [aa]
 rw [if_pos ⟨hzl, by omega, ca hm⟩]
 have e2 : (cq 1 z).flatten = z := by simp
 have e3 : Bo z (0 * sz) ce = ce := by
  unfold Bo
  rw [nw, kr, gh, fw (by omega)]; simp
 simp only [e2, Dv, hv]
 rw [if_neg (by rw [hcc]; simp; omega), e3]
 rfl
theorem qV {xs zs : List α} {x : α} {ce z : List V} {v : V} {st xt e e' : ao} {a y : au} {by_ : Nat} (hO : A4 H G (.tree [] F2 (fun G => Ds H.length lk.length (Aw.dep α) (fun G => Aw.tr G x) G ce F2) :: rs)) (j : Nat) (happ : DP by_ xs [x] = some zs) (hce : ce.length = AL.sz α) (hcc : ce.all V.Bm = true)
  (he : B6 P st = some e) (hz : B8 P e = some (AL.sz α)) (hby : CH P e = some by_) (hz0 : BJ P e = some z) (he' : B6 P xt = some e') (hb : base = H.length)
  (k : ∀ v' F' G', A4 H G' (rs.set j (Ap H lk.length F' zs v')) → BU (B5 P h fk n base lk) ops l ⟨Cw T d v', G'⟩ Q)
  (h1 : ev T a = some v := by rfl) (h2 : ev T y = some (.tl 1 ce) := by rfl) (hzl : z.length = AL.sz α := by rfl) (hj : rs[j]? = some (Ap H lk.length F xs v) := by rfl) (hd : cm d n = true := by rfl) :
  BU (B5 P h fk n base lk) ops ((s, kk, ⟨some d, .call ⟨.builtin .append, #[a, y], #[st, xt]⟩, ty, pos, aft, none⟩) :: l) ⟨T, G⟩ Q := by
 subst hb
 have hj' : (BK.tree [] F2 (fun G => Ds H.length lk.length (Aw.dep α) (fun G => Aw.tr G x) G ce F2) :: rs)[j + 1]? = some (Ap H lk.length F xs v) := hj
 obtain ⟨hap, hbd⟩ := hO.tree hj'
 obtain ⟨hpr, hbd2⟩ := hO.tree (j := 0) (F := F2) (S := []) rfl
 have hdis : ∀ c ∈ F2, c ∉ F := fun c hc hc' => (cg.1 hO.apart).1 _ (bj hj) c hc hc'
 unfold DP at happ
 split at happ
 case isFalse => cases happ
 rename_i hroom
 simp only [ab] at happ
 subst happ
 have hroom : (xs.length + 1) * (by_ + 1) ≤ 70368744177664 := hroom.resolve_left (by simp)
 have start : ∀ r : Option (V × A6), Dz ((B5 P h fk n H.length lk).BQ s kk) st xt G v (.tl 1 ce) = r → Hi ((B5 P h fk n H.length lk).BQ s kk) (.call ⟨.builtin .append, #[a, y], #[st, xt]⟩) ⟨T, G⟩ = r := by
  intro r hr
  rw [QG]
  simp only [h1, h2, aa]
  exact hr
 have hx' : (B6 P xt).isSome = true := by rw [he']; rfl
 have e0 : ∀ r : Option (V × A6), (match (generalizing := false) v with
   | .tl m cs => if (1:Nat) = 0 then some (v, G) else if cs.length = m * AL.sz α ∧ (m + 1) * (by_ + 1) ≤ 70368744177664 then some (V.snap G.length (m + 1) (cs ++ ce), G ++ [Bz.C1 lk.length (m + 1) (AL.sz α)]) else none
   | .snap b m cs => if (1:Nat) = 0 then some (v, G) else match (generalizing := false) G[b]? with
    | some (.C1 l m' sz') => if cs.length = m * AL.sz α ∧ (m + 1) * (by_ + 1) ≤ 70368744177664 ∧ m' = m ∧ sz' = AL.sz α ∧ ((B5 P h fk n H.length lk).BQ s kk).BV b = true then some (V.snap b (m + 1) (cs ++ ce), G.set b (.C1 l (m + 1) (AL.sz α))) else none
    | _ => none
   | _ => none) = r → Dz ((B5 P h fk n H.length lk).BQ s kk) st xt G v (.tl 1 ce) = r := by
  intro r hr
  unfold Dz
  show (B6 P st).bind _ = _
  rw [he, aa]
  show (B8 P e).bind _ = _
  rw [hz, aa]
  show (CH P e).bind _ = _
  rw [hby, aa]
  show (BJ P e).bind _ = _
  rw [hz0, aa]
  rw [if_pos ⟨hx', ff.1 AL.pos, hzl⟩]
  simp only [Ct, Gb, aa]
  rw [if_pos ⟨by rw [hce, Nat.one_mul], hcc⟩]
  exact hr
 have e1 : (xs ++ [x]).length = xs.length + 1 := by simp
 rcases hap with ⟨rfl, rfl⟩ | ⟨b, cells, F3, rfl, hbF, hF3, hb3, hg, hl, hc, hp⟩
 ·refine pV (start _ (e0 _ ?_)) hd (k (.snap G.length 1 ce) _ (G ++ [.C1 lk.length 1 (AL.sz α)]) (hO.YO hj [G.length] (fun c hc => ?_) (by simp) (fun c hc _ => by rw [aw hc]) fun G2 h2 => ?_))
  ·simp only []
   rw [if_neg (by simp), if_pos ⟨by simp, by simpa using hroom⟩]; simp
  ·simp only [bh] at hc; subst hc; simp
  ·refine XC.mono (G := G ++ [.C1 lk.length 1 (AL.sz α)]) (.inr ⟨G.length, ce, F2, rfl, by simp, fun c hc => by simp [hc], fun hc => by have := (hbd2 _ hc).1; omega, G5 _ _, by simp [hce], hcc, ?_⟩) h2
   have := (Ds.snoc (xs := ([] : List α)) (G := G) (F1 := []) Ds.nil hpr fun _ _ h => by cases h)
   exact this.mono fun c hc => by rw [aw (hbd2 c hc).1]
 ·have hlt := (ak.1 hg).1
  have hbb := dw.1 fun h => by cases (hbd b hbF).2 h
  have hm : ((B5 P h fk n H.length lk).BQ s kk).BV b = true := by
   unfold Cx.BV
   simp only [df, decide_eq_true_eq]
   exact .inl hbb
  refine pV (start _ (e0 _ ?_)) hd (k (.snap b (xs.length + 1) (cells ++ ce)) _ (G.set b (.C1 lk.length (xs.length + 1) (AL.sz α))) (hO.YO hj [] (fun c hc => by cases hc) (by rw [bp]; exact al _) (fun c _ hc => ?_) fun G2 h2 => ?_))
  ·simp only []
   rw [if_neg (by simp), hg]
   simp only []
   rw [if_pos ⟨hl, hroom, trivial, trivial, hm⟩]
  ·rw [Ai, if_neg]
   rintro ⟨rfl, _⟩; exact hc hbF
  ·refine XC.mono (G := G.set b (.C1 lk.length (xs.length + 1) (AL.sz α))) (.inr ⟨b, cells ++ ce, F3 ++ F2, by rw [e1], by simp [hbF], fun c hc => ?_, fun hc => ?_, by rw [Ai, if_pos ⟨rfl, hlt⟩, e1], by rw [an, hl, hce, e1, gm], by rw [dv, hc, hcc]; rfl, ?_⟩) h2
   ·rcases aq.1 hc with h | h
    ·simp [hF3 c h]
    ·simp [h]
   ·rcases aq.1 hc with h | h
    ·exact hb3 h
    ·exact hdis b h hbF
   ·refine (Ds.snoc hp hpr fun c hc hc' => hdis c hc (hF3 c hc')).mono fun c hc => ?_
    rw [Ai, if_neg]
    rintro ⟨rfl, _⟩
    rcases aq.1 hc with h | h
    ·exact hb3 h
    ·exact hdis _ h hbF
end steps
section steps
variable {P : bm} {h : Bp} {fk n base : Nat} {lk : Lk} {c : Cx} {ops : Array ch} {s kk : Bool} {d : Nat} {ty : ao} {pos : String} {aft : Array Edge} {l : List (Bool × Bool × ch)} {Q : St → Prop} {T : Nat → V} {G G' H H0 : A6} {rs rs' rs1 : List BK} {op : Op} {S F F2 : List Nat}
variable {α : Type} [AL α]
theorem Xv [Aw α] {x : α} {cs Ve : List V} {t : ao} {y z : au} {b sz : Nat} (hO : A4 H G rs) (jb j : Nat) (hz : B8 P t = some (AL.sz α)) (hb : base = H.length) (k : ∀ G', A4 H G' (rs.set jb (.AW b (.cells sz cs))) → BU (B5 P h fk n base lk) ops l ⟨T, G'⟩ Q)
  (h1 : ev T y = some (.ptr b 0) := by rfl) (h2 : ev T z = some (.agg cs) := by rfl) (hjb : rs[jb]? = some (.AW b (.cells sz Ve)) := by rfl) (hj : rs[j]? = some (AI S F x cs) := by rfl) (hold : Ve.length = AL.sz α := by rfl) :
  BU (B5 P h fk n base lk) ops ((s, kk, ⟨none, .store t y z, ty, pos, aft, none⟩) :: l) ⟨T, G⟩ Q := by
 subst hb
 obtain ⟨e1, e2⟩ := MP hO hj
 obtain ⟨hg, hbb⟩ := hO.get hjb
 have hlt : b < G.length := (ak.1 hg).1
 have e3 : Bo Ve 0 cs = cs := by
  unfold Bo
  rw [kr, gh, fw (by omega)]; simp
 have hst := Fl (P := P) (h := h) (fk := fk) (n := n) (lk := lk) (s := s) (kk := kk) (base := H.length) (T := T) (G := G) (off := 0) (sz := sz) (y := y) (z := z) (w := .agg cs) hz (cells := Ve) (b := b) (by unfold Cx.BV; simp only [df, decide_eq_true_eq]; exact .inl hbb) (if_neg (dw.2 hbb)) hg (by show 0 + cs.length ≤ _; omega) e1 e2 h1 h2
 refine a7 hst (k _ ?_)
 show A4 H (G.set b (.cells sz (Bo Ve 0 cs))) _
 rw [e3]
 exact hO.set hjb rfl rfl ⟨hbb, by rw [Ai, if_pos ⟨rfl, hlt⟩]⟩
theorem LF [Aw α] {x : α} {cs : List V} {t : ao} {y : au} {b sz : Nat} (hO : A4 H G rs) (jb j : Nat) (ha : Cz P t = some true) (hz : B8 P t = some (AL.sz α)) (k : BU (B5 P h fk n base lk) ops l ⟨Cw T d (.agg cs), G⟩ Q)
  (h1 : ev T y = some (.ptr b 0) := by rfl) (hjb : rs[jb]? = some (.AW b (.cells sz cs)) := by rfl) (hj : rs[j]? = some (AI S F x cs) := by rfl) (hd : cm d n = true := by rfl) :
  BU (B5 P h fk n base lk) ops ((s, kk, ⟨some d, .load t y, ty, pos, aft, none⟩) :: l) ⟨T, G⟩ Q := by
 obtain ⟨e1, e2⟩ := MP hO hj
 refine eZ (.agg cs) (hO.get hjb).1 ?_ k h1 hd
 unfold BF
 simp only [ha, hz, aa]
 rw [if_pos (by omega), ia, ← e1, er]
end steps
section
variable {α β : Type} [AL α] [Aw α] [AL β] [Aw β] {lo d n m : Nat} {tr : A6 → List V → List Nat → Prop} {G G' H : A6} {cs c1 c2 : List V} {F F1 F2 : List Nat} {x : α} {y : β} {v : V} {rs : List BK}
theorem Ds.up (hm : fm n m = true) (h : Ds lo d n tr G cs F) : Ds lo d m tr G cs F := by
 have hm := ca hm
 obtain ⟨F', h1, h2, h3⟩ := h
 refine ⟨F', h1, h2, fun X hX k => ?_⟩
 have := h3 X hX (k + (m - n))
 rwa [show k + (m - n) + n = k + m by omega] at this
theorem Wp [D6 α] (x : α) : Ds lo d (Aw.dep α) (fun G => Aw.tr G x) G (AL.Ba 0 x) [] :=
 CR.prom ⟨[], .nil, fun _ h => h, D6.fl G x⟩ fun b hb => (by cases hb)
theorem Ds.pair (h1 : Ds lo d n (fun G => Aw.tr G x) G c1 F1) (h2 : Ds lo d n (fun G => Aw.tr G y) G c2 F2) (hd : ∀ b ∈ F2, b ∉ F1) : Ds lo d n (fun G => Aw.tr G (x, y)) G (c1 ++ c2) (F1 ++ F2) := by
 obtain ⟨A, a1, a2, a3⟩ := h1
 obtain ⟨B, b1, b2, b3⟩ := h2
 refine ⟨A ++ B, ?_, fun b hb => ?_, fun X hX k => ?_⟩
 ·rw [dc]
  exact ⟨a1, b1, fun p hp q hq e => by subst e; exact hd p (b2 p hq) (a2 p hp)⟩
 ·rcases aq.1 hb with h | h
  ·exact cd _ (a2 b h)
  ·exact db _ (b2 b h)
 ·refine FV.pair (t1 := fun G => Aw.tr G x) (t2 := fun G => Aw.tr G y) (fun h hg => Aw.frame h hg) (a3 X (fun b hb => hX b (cd _ hb)) k) fun Y hY => b3 Y (fun b hb => ?_) k
  rw [hY b fun h => hd b (b2 b hb) (a2 b h)]
  exact hX b (db _ hb)
theorem Ds.Nm [D6 α] (x : α) (hn : fm (Aw.dep α) n = true) (h2 : Ds lo d n (fun G => Aw.tr G y) G c2 F2) : Ds lo d n (fun G => Aw.tr G (x, y)) G (AL.Ba 0 x ++ c2) F2 :=
 ((Wp x).up hn).pair h2 fun _ _ h => by cases h
theorem Ds.U9 [D6 β] (y : β) (hn : fm (Aw.dep β) n = true) (h1 : Ds lo d n (fun G => Aw.tr G x) G c1 F1) : Ds lo d n (fun G => Aw.tr G (x, y)) G (c1 ++ AL.Ba 0 y) F1 :=
 (h1.pair ((Wp y).up hn) fun _ h => by cases h).wide fun b hb => by simpa using hb
theorem A4.treeMap {p p' : A6 → Prop} (hO : A4 H G (.tree [] F p :: rs)) (h : ∀ G, p G → p' G) : A4 H G (.tree [] F p' :: rs) where
 pre := hO.pre
 len := hO.len
 ok := fun r hr => by
  rcases bq.1 hr with rfl | hr
  ·have := hO.ok _ (ck ..)
   exact ⟨this.1, fun G' hg => h G' (this.2 G' hg)⟩
  ·exact hO.ok r (bw _ hr)
 apart := cg.2 (cg.1 hO.apart)
theorem oQ {P : bm} {T : Nat → V} {S : List Nat} {t b sz a : Nat} {lr : List ed} {vs : List V} (hO : A4 H G rs) (jb j : Nat) (ha : Cz P t = some true) (hz : B8 P t = some (AL.sz α)) (h : BI P G T lr = some vs) (h1 : T a = .ptr b 0 := by rfl) (hjb : rs[jb]? = some (.AW b (.cells sz cs)) := by rfl) (hj : rs[j]? = some (AI S F x cs) := by rfl) :
  BI P G T (.cell a t :: lr) = some (.agg cs :: vs) := by
 obtain ⟨e1, e2⟩ := MP hO hj
 simp only [BI, h1, FL, (hO.get hjb).1, BF, ha, hz, aa]
 rw [if_pos (by omega), ia, ← e1, er]
 simp only [aa, h, aj]
end
section
variable {α : Type} [AL α] {H : A6}
theorem Di {c : Cx} (kd : fz) (x : Int) : Gc c H (.int kd x) = some (.int kd x, H) := by
 cases h : c.hints.H4 c.fn with
 | false => exact cF h kd x
 | true => unfold Gc; rw [h]; rfl
end
section calls
variable {P : bm} {h : Bp} {fk n base : Nat} {lk : Lk} {ops : Array ch} {s kk : Bool} {d : Nat} {ty : ao} {pos : String} {aft : Array Edge} {l : List (Bool × Bool × ch)} {Q : St → Prop} {T : Nat → V} {G G' H : A6} {rs : List BK}
variable {α : Type} [AL α] [Aw α]
theorem Wk {f : au} {args : Array au} {ats : Array ao} {g : eg} {caps vs vs' : List V} {M : List Nat} {x : α} (hO : A4 H G rs) (hlo : EE lk H.length) (hb : base = H.length) (hr : ∀ L, EE (lk ++ [L]) G.length → ∃ v H1, Am P h g vs' G (lk ++ [L]) = some (v, H1) ∧ GH G x v H1)
  (k : ∀ cs F G', A4 H G' (AI [] F x cs :: rs) → BU (B5 P h fk n base lk) ops l ⟨Cw T d (.agg cs), G'⟩ Q) (h1 : ev T f = some (.fn g caps) := by rfl) (h2 : LO T args.toList = some vs := by rfl)
  (h3 : An ((B5 P h fk n base lk).BQ s kk) [] G (vs ++ caps) = some (vs', M, G) := by rfl) (hd : cm d n = true := by rfl) (hm : h.DS g = [] := by rfl) :
  BU (B5 P h fk n base lk) ops ((s, kk, ⟨some d, .call ⟨.value f, args, ats⟩, ty, pos, aft, none⟩) :: l) ⟨T, G⟩ Q := by
 obtain ⟨v, H1, e, cs, L, F, rfl, rfl, hn, hb', ht⟩ := hr (((B5 P h fk n base lk).BQ s kk).CF g M G) (hlo.push hO.len (U0 (Jw _ _ _ h3) (by show base ≤ _; rw [hb]; exact hO.len)))
 refine pV ?_ hd (k cs F _ (hO.fresh hn hb' ht))
 rw [Gi]
 simp only [h1, h2, aa, Qh]
 show (An ((B5 P h fk n base lk).BQ s kk) (h.DS g) G (vs ++ caps)).bind _ = _
 rw [hm, h3]
 exact e
end calls
section
variable {α : Type} [AL α] {G G' H : A6} {F : List Nat} {xs : List α} {v : V} {rs : List BK}
def iB (lo d : Nat) (G : A6) (xs : List α) (v : V) (F : List Nat) : Prop := (v = .tl xs.length ((A8 0) xs)) ∨ (∃ b, v = .snap b xs.length ((A8 0) xs) ∧ b ∈ F ∧ G[b]? = some (.C1 d xs.length (AL.sz α))) ∨ ∃ b, v = .sl b 0 xs.length ∧ b ∈ F ∧ G[b]? = some (.cells (AL.sz α) ((A8 0) xs))
theorem iB.mono {lo d : Nat} (h : iB lo d G xs v F) (hg : ∀ b ∈ F, G'[b]? = G[b]?) : iB lo d G' xs v F := by
 rcases h with h | ⟨b, h1, h2, h3⟩ | ⟨b, h1, h2, h3⟩
 ·exact .inl h
 ·exact .inr (.inl ⟨b, h1, h2, by rw [hg b h2]; exact h3⟩)
 ·exact .inr (.inr ⟨b, h1, h2, by rw [hg b h2]; exact h3⟩)
end
section steps
variable {P : bm} {h : Bp} {fk n base : Nat} {lk : Lk} {c : Cx} {ops : Array ch} {s kk : Bool} {d : Nat} {ty : ao} {pos : String} {aft : Array Edge} {l : List (Bool × Bool × ch)} {Q : St → Prop} {T : Nat → V} {G G' H H0 : A6} {rs : List BK} {op : Op} {S F : List Nat}
variable {α : Type} [AL α]
end steps
class Hd (α : Type) [AL α] [Aw α] : Prop where
 inv : ∀ {G : A6} {x : α} {cs F}, Aw.tr G x cs F → cs = AL.Ba 0 x ∧ F = []
instance : Hd Int := ⟨fun h => h⟩
instance : Hd Bool := ⟨fun h => h⟩
instance : Hd ByteArray := ⟨fun h => h⟩
instance {α β : Type} [AL α] [Aw α] [Hd α] [AL β] [Aw β] [Hd β] : Hd (α × β) := ⟨fun h => by
 obtain ⟨c1, c2, F1, F2, rfl, rfl, h1, h2⟩ := h
 obtain ⟨rfl, rfl⟩ := Hd.inv h1
 obtain ⟨rfl, rfl⟩ := Hd.inv h2
 exact ⟨rfl, rfl⟩⟩
section
variable {α β : Type} [AL α] [Aw α] [AL β] [Aw β] {G G1 G' H H0 H' : A6} {rs rs0 rs0' rest : List BK} {S F : List Nat} {x : α} {y : β} {cs : List V}
theorem A4.aH (hO : A4 H G (AI [] F (x, y) cs :: rs)) : ∃ c1 c2 F1 F2, cs = c1 ++ c2 ∧ Aw.tr G x c1 F1 ∧ A4 H G (AI [] F2 y c2 :: AI [] F1 x c1 :: rs) := by
 obtain ⟨⟨F', n, hF, c1, c2, F1, F2, rfl, rfl, h1, h2⟩, hb⟩ := hO.tree (j := 0) (F := F) (S := []) rfl
 obtain ⟨n1, n2, n3⟩ := N6 n
 have hap := cg.1 hO.apart
 refine ⟨c1, c2, F1, F2, rfl, h1, hO.pre, hO.len, fun r hr => ?_, ?_⟩
 ·rcases bq.1 hr with rfl | hr
  ·exact IB ⟨F2, n2, fun _ h => h, h2⟩ fun b hb' => hb b (hF b (db _ hb'))
  ·rcases bq.1 hr with rfl | hr
   ·exact IB ⟨F1, n1, fun _ h => h, h1⟩ fun b hb' => hb b (hF b (cd _ hb'))
   ·exact hO.ok r (bw _ hr)
 ·refine cg.2 ⟨fun r hr c hc hc' => ?_, cg.2 ⟨fun r hr c hc hc' => ?_, hap.2⟩⟩
  ·rcases bq.1 hr with rfl | hr
   ·exact n3 c hc' hc
   ·exact hap.1 r hr c (hF c (db _ hc)) hc'
  ·exact hap.1 r hr c (hF c (cd _ hc)) hc'
theorem A4.TI [Hd α] (hO : A4 H G (AI [] F (x, y) cs :: rs)) : ∃ c2 F2, cs = AL.Ba 0 x ++ c2 ∧ A4 H G (AI [] F2 y c2 :: rs) := by
 obtain ⟨c1, c2, F1, F2, rfl, h1, hO2⟩ := hO.aH
 obtain ⟨rfl, rfl⟩ := Hd.inv h1
 exact ⟨c2, F2, rfl, hO2.drop (List.Sublist.cons_cons _ (List.sublist_cons_self _ _))⟩
theorem A4.KD {xs : List α} (hO : A4 H G (AI [] F (xs, y) cs :: rs)) : ∃ v c2 F1 F2, cs = v :: c2 ∧ A4 H G (AI [] F2 y c2 :: AI [] F1 xs [v] :: rs) := by
 obtain ⟨c1, c2, F1, F2, rfl, h1, hO2⟩ := hO.aH
 obtain ⟨v, rfl⟩ := gl.1 (show c1.length = 1 from Aw.len h1)
 exact ⟨v, c2, F1, F2, rfl, hO2⟩
theorem A4.Wg {xs : List α} (hO : A4 H G (AI [] F xs cs :: rs)) : ∃ v, cs = [v] := gl.1 (show cs.length = 1 from (MP hO (j := 0) rfl).1)
def BK.YC (S : List Nat) : BK → BK
 | .AW n b => .Cs S n b
 | .Cs _ n b => .Cs S n b
 | .tree _ F p => .tree S F p
 | r => r
def BK.XJ : BK → Bool
 | .AW .. | .Cs .. | .tree .. => true
 | _ => false
theorem BK.MO (S : List Nat) (r : BK) : (r.YC S).CO = r.CO := by cases r <;> rfl
theorem kY {r : BK} (h : r.ok H G) (hc : r.XJ = true) (hS : ∀ b ∈ r.CO, b ∈ S) : (r.YC S).ok G G := by
 have hlt := fun b hb => BK.E4 h (x := b) hb
 cases r with
 | AW n b => exact ⟨fun _ => hS n (by simp [BK.CO]), h.2⟩
 | Cs S' n b => exact ⟨fun _ => hS n (by simp [BK.CO]), h.2⟩
 | tree S' F p => exact ⟨fun b hb => ⟨hlt b hb, fun _ => hS b hb⟩, h.2⟩
 | own v d sz n cells => cases hc
 | Mx S' v d d1 sz n cells => cases hc
theorem A4.gQ (hO : A4 H G (rs0 ++ rest)) (hc : rs0.all BK.XJ = true) (hS : ∀ r ∈ rs0, ∀ b ∈ r.CO, b ∈ S) : A4 G G (rs0.map (BK.YC S)) where
 pre := fun _ _ => rfl
 len := al _
 ok := fun r hr => by
  obtain ⟨r0, h0, rfl⟩ := du.1 hr
  exact kY (hO.ok r0 (cd _ h0)) (cj.1 hc r0 h0) (hS r0 h0)
 apart := by
  rw [ni]
  refine (kl.1 hO.apart).1.imp fun h => ?_
  rw [BK.MO, BK.MO]; exact h
end
section calls
variable {P : bm} {h : Bp} {fk n base : Nat} {lk : Lk} {ops : Array ch} {s kk : Bool} {d : Nat} {ty : ao} {pos : String} {aft : Array Edge} {l : List (Bool × Bool × ch)} {Q : St → Prop} {T : Nat → V} {G G' H : A6} {rs0 rs0' rest : List BK} {S : List Nat}
end calls
section
theorem IK {S : List Nat} {rs : List BK} (h : rs.flatMap BK.CO = S) : ∀ r ∈ rs, ∀ b ∈ r.CO, b ∈ S := fun r hr b hb => by
 rw [← h]; exact nr.2 ⟨r, hr, hb⟩
theorem GY {S : List Nat} {rs : List BK} (h : rs.flatMap BK.CO = S) : ∀ b ∈ S, ∃ r ∈ rs, b ∈ r.CO := fun b hb => by
 rw [← h] at hb; exact nr.1 hb
def BK.rY : BK → Bool
 | .AW .. => true
 | .own .. => true
 | .tree [] _ _ => true
 | _ => false
theorem A4.lo {H G : A6} {rs0 rest : List BK} (hO : A4 H G (rs0 ++ rest)) (h : rs0.all BK.rY = true := by rfl) : ∀ r ∈ rs0, ∀ b ∈ r.CO, H.length ≤ b := fun r hr b hb => by
 have h1 := hO.ok r (cd _ hr)
 have h2 := cj.1 h r hr
 cases r with
 | AW n x => exact BK.MC h1 rfl hb
 | own v d sz n cells => exact BK.MC h1 rfl hb
 | Cs S n x => cases h2
 | Mx S v d d1 sz n cells => cases h2
 | tree S F p =>
  cases S with
  | nil => exact dw.1 fun hlt => by cases (h1.1 b hb).2 hlt
  | cons a S => cases h2
theorem B2 {α : Type} {xs : List α} {i : Int} {x : α} (h : AH xs i = some x) (y : α) : AH (xs.set i.toNat y) i = some y := by
 have := EZ h
 unfold AH
 rw [if_pos this.1, km, if_pos rfl, if_pos (by omega)]
theorem Bn {α : Type} {xs : List α} {v : V} {b j : Nat} {y : α} (h : v = .sl b 0 xs.length) : v = .sl b 0 (xs.set j y).length := by rw [bp]; exact h
section steps
variable {P : bm} {h : Bp} {fk n base : Nat} {lk : Lk} {c : Cx} {ops : Array ch} {s kk : Bool} {d : Nat} {ty : ao} {pos : String} {aft : Array Edge} {l : List (Bool × Bool × ch)} {Q : St → Prop} {T : Nat → V} {G G' H H0 : A6} {rs : List BK} {op : Op} {S F : List Nat}
theorem C4 {x : au} {v : V} (k : BU (B5 P h fk n base lk) ops l ⟨Cw T d v, G⟩ Q) (h1 : ev T x = some v := by rfl) (h2 : Un v = some v := by rfl) (hd : cm d n = true := by rfl) :
  BU (B5 P h fk n base lk) ops ((s, kk, ⟨some d, .nilCheck x, ty, pos, aft, none⟩) :: l) ⟨T, G⟩ Q := by
 refine pV ?_ hd k
 rw [T7]
 simp only [h1, h2, aa, aj]
section
variable {α β : Type} [AL α] [Aw α] [AL β] [Aw β] [Hd β]
theorem EV {get : α → β} {set : α → β → α} {off b : Nat} (L : Br α β get set off) {xs : List α} {i : Int} {x : α} {t : ao} {y : au} {v : V} (w : V) (hO : A4 H G rs) (j : Nat) (hv : v = .sl b 0 xs.length) (hc : AH xs i = some x) (ha : Cz P t = some false)
  (k : BU (B5 P h fk n base lk) ops l ⟨Cw T d w, G⟩ Q) (hw : AL.Ba 0 (get x) = [w] := by rfl) (h1 : ev T y = some (.ptr b (i.toNat * AL.sz α + off)) := by rfl) (hj : rs[j]? = some (AI S F xs [v]) := by rfl) (hd : cm d n = true := by rfl) :
  BU (B5 P h fk n base lk) ops ((s, kk, ⟨some d, .load t y, ty, pos, aft, none⟩) :: l) ⟨T, G⟩ Q := by
 obtain ⟨cells, c1, c2, c3, Fs, hg, rfl, hl, hl2, ⟨F', _, _, ht⟩, _, _, _⟩ := QR L (hO.tree hj).1 hc hv
 obtain ⟨rfl, _⟩ := Hd.inv ht
 refine eZ w hg ?_ k h1 hd
 unfold BF
 rw [ha, hw]
 show (c1 ++ ([w] ++ c3))[i.toNat * AL.sz α + off]? = some _
 rw [← hl, bu (al _), fo]; rfl
end
section
variable {α β : Type} [AL α] [Aw α] [AL β] [Aw β]
end
variable {α : Type} [AL α] [Aw α] [D6 α]
theorem Up {k : eg} {fn : Func} {body : Code} {t e : ao} {by_ : Nat} (hfn : P.funcs[k]? = some fn) (hb : fn.body = some body) (hcl : G0 body = some t) (hnt : cm 7 fn.ntmps = true) (hres : fn.results = #[.tmp 2]) (hname : (fn.name == "runtime.NumGoroutine") = false) (hg : h.grow k = false) (ht : h.QW k = true) (hkp : h.H4 k = false)
    (he : B6 P t = some e) (hz : B8 P e = some (AL.sz α)) (hby : CH P e = some by_) {z : List V} (hz0 : BJ P e = some z) (hzl : z.length = AL.sz α) {xs zs : List α} (happ : DP by_ [] xs = some zs) (l : Nat) (G : A6) {lk : Lk} (hlk : 0 < lk.length) :
    ∃ v H1, Am P h k [.lit l xs.length ((A8 0) xs)] G lk = some (v, H1) ∧ IC G xs v H1 := by
  have hnt := ca hnt
  unfold DP at happ
  split at happ
  case isFalse => cases happ
  rename_i hroom
  have hsz : (0 + xs.length) * (by_ + 1) ≤ 70368744177664 := by
    rcases hroom with h0 | h0
    · rw [h0]; simp
    · exact h0
  have hex := Kp (n := 0) { P := P, hints := h, fn := k, ntmps := fn.ntmps, base := G.length, lk := lk, Γ := Dw P h 0 } hcl (by show 7 < fn.ntmps; omega) he hz hby hz0 hzl xs hsz (T := JO [.lit l xs.length ((A8 0) xs)]) (G := G) (l := l) rfl
  have key : ∀ r, ((if xs.length = 0 then some (([.tl 0 []] : List V), G) else some ([.snap G.length xs.length ((A8 0) xs)], G ++ [.C1 lk.length xs.length (AL.sz α)])).bind fun r => Dd h k G.length lk.length (EI r.1) r.2) = some r → Am P h k [.lit l xs.length ((A8 0) xs)] G lk = some r := by
    intro r hr
    refine OV (n := 1) ?_
    unfold Dw
    simp only [hfn, hb]
    rw [if_pos ⟨by show 1 ≤ fn.ntmps; omega, hname⟩, hres]
    rw [hex]
    exact hr
  by_cases h0 : xs.length = 0
  · have hx : xs = [] := cp h0
    subst hx
    refine ⟨.tl 0 [], G, key _ ?_, [], [], by simp, .nil, fun b hb => (by cases hb), .inl ⟨rfl, rfl, rfl⟩⟩
    rw [if_pos (show ([] : List α).length = 0 from rfl)]
    simp only [aa, EI, Dd, hg, ht, bd, if_false]
    show (BL true G.length lk.length (7 + 1) (G, []) (.tl 0 [])).map _ = _
    rw [BL, if_pos rfl]
    simp
  · refine ⟨.sl G.length 0 xs.length, G ++ [.cells (AL.sz α) ((A8 0) xs)], key _ ?_, [.cells (AL.sz α) ((A8 0) xs)], [G.length], rfl, by simp, fun b hb => by simp only [bh] at hb; omega, .inr ⟨G.length, (A8 0) xs, [], rfl, G5 _ _, Lt xs, rfl⟩⟩
    rw [if_neg h0]
    simp only [aa, EI, Dd, hg, ht, bd, if_false]
    show (BL true G.length lk.length (7 + 1) (G ++ [.C1 lk.length xs.length (AL.sz α)], []) (.snap G.length xs.length ((A8 0) xs))).map _ = _
    have hcl := fun X => Fa (th := true) (lo := G.length) (d := lk.length) (k := 6) (X := X) ((A8 0) xs) (GL hlk fh _ (FZ xs)) (E9 xs)
    rw [BL]
    simp only [G5]
    rw [if_neg (by omega), hcl]
    simp only [aa, if_true]
    rw [if_pos (EA xs)]
    simp only [aj, List.length_nil, ir, dr]
    rw [ke _ _ (al _), lg rfl]
theorem T9 {f : au} {args : Array au} {ats : Array ao} {g : eg} {fn : Func} {t e : ao} {by_ lv : Nat} {w : V} {M : List Nat} {z : List V} {xs zs : List α} (hO : A4 H G rs) (happ : DP by_ [] xs = some zs)
  (hfn : P.funcs[g]? = some fn) (hcl : fn.body.bind G0 = some t) (he : B6 P t = some e) (hz : B8 P e = some (AL.sz α)) (hby : CH P e = some by_) (hz0 : BJ P e = some z)
  (k : ∀ v F G', A4 H G' (AI [] F zs [v] :: rs) → BU (B5 P h fk n base lk) ops l ⟨Cw T d v, G'⟩ Q)
  (h1 : ev T f = some (.fn g []) := by rfl) (h2 : LO T args.toList = some [w] := by rfl)
  (h3 : An ((B5 P h fk n base lk).BQ s kk) (h.DS g) G [w] = some ([.lit lv xs.length ((A8 0) xs)], M, G) := by rfl) (hzl : z.length = AL.sz α := by rfl) (hnt : cm 7 fn.ntmps = true := by rfl) (hres : fn.results = #[.tmp 2] := by rfl) (hname : (fn.name == "runtime.NumGoroutine") = false := by rfl) (hg : h.grow g = false := by rfl) (ht : h.QW g = true := by rfl) (hkp : h.H4 g = false := by rfl) (hd : cm d n = true := by rfl) :
  BU (B5 P h fk n base lk) ops ((s, kk, ⟨some d, .call ⟨.value f, args, ats⟩, ty, pos, aft, none⟩) :: l) ⟨T, G⟩ Q := by
 obtain ⟨body, hb, hcl⟩ := af.1 hcl
 have hzs : zs = xs := by
  unfold DP at happ
  split at happ
  ·simpa using happ.symm
  ·cases happ
 subst hzs
 exact Wj (vs := [w]) (caps := []) hO (fun L => Up hfn hb hcl hnt hres hname hg ht hkp he hz hby hz0 hzl happ lv G (lk := lk ++ [L]) (by simp)) k h1 h2 h3 hd
end steps
end
section
class JT (α : Type) [AL α] [Aw α] : Prop where
 cl : ∀ {G : A6} {x : α} {cs F}, Aw.tr G x cs F → ∀ d, cs.all (Bc d) = true ∧ ∀ b ∈ F, ∃ sz cells, G[b]? = some (.cells sz cells) ∧ cells.all (Bc d) = true
instance : JT Int := ⟨fun h d => by obtain ⟨rfl, rfl⟩ := h; exact ⟨rfl, fun b hb => by cases hb⟩⟩
instance : JT Bool := ⟨fun h d => by obtain ⟨rfl, rfl⟩ := h; exact ⟨rfl, fun b hb => by cases hb⟩⟩
instance : JT ByteArray := ⟨fun h d => by obtain ⟨rfl, rfl⟩ := h; exact ⟨rfl, fun b hb => by cases hb⟩⟩
section
variable {α β : Type} [AL α] [Aw α] [JT α] [AL β] [Aw β] [JT β] {G : A6}
instance : JT (α × β) := ⟨fun h d => by
 obtain ⟨c1, c2, F1, F2, rfl, rfl, h1, h2⟩ := h
 refine ⟨by rw [dv, (JT.cl h1 d).1, (JT.cl h2 d).1]; rfl, fun b hb => ?_⟩
 rcases aq.1 hb with hb | hb
 ·exact (JT.cl h1 d).2 b hb
 ·exact (JT.cl h2 d).2 b hb⟩
theorem X5 (d : Nat) : ∀ {xs : List α} {cs F}, NQ Aw.tr G xs cs F → cs.all (Bc d) = true ∧ ∀ b ∈ F, ∃ sz cells, G[b]? = some (.cells sz cells) ∧ cells.all (Bc d) = true
 | [], cs, F, h => by obtain ⟨rfl, rfl⟩ := h; exact ⟨rfl, fun b hb => by cases hb⟩
 | x :: xs, cs, F, h => by
  obtain ⟨c1, c2, F1, F2, rfl, rfl, h1, h2⟩ := h
  have h3 := X5 d h2
  refine ⟨by rw [dv, (JT.cl h1 d).1, h3.1]; rfl, fun b hb => ?_⟩
  rcases aq.1 hb with hb | hb
  ·exact (JT.cl h1 d).2 b hb
  ·exact h3.2 b hb
instance : JT (List α) := ⟨fun h d => by
 rcases h with ⟨rfl, rfl, rfl⟩ | ⟨b, cells, F', rfl, h1, h2, rfl⟩
 ·exact ⟨rfl, fun b hb => by cases hb⟩
 ·have h3 := X5 d h2
  refine ⟨rfl, fun c hc => ?_⟩
  rcases bq.1 hc with rfl | hc
  ·exact ⟨_, _, h1, h3.1⟩
  ·exact h3.2 c hc⟩
end
theorem NV {d : Nat} : ∀ {cs : List V}, cs.all (Bc d) = true → Bc.cleanGL d cs = true
 | [], _ => rfl
 | c :: cs, h => by
  rw [gg, ar] at h
  simp only [Bc.cleanGL, h.1, NV h.2, Bool.and_self]
def TC (base d : Nat) (G : A6) : A6 := G.take base ++ (G.drop base).map (ND d)
def cC (base d : Nat) (r : BK) : Prop := ∀ H G : A6, H.length = base → H.length ≤ G.length → r.ok H G → r.ok H (TC base d G)
def cB (base d : Nat) (rs : List BK) : Prop := ∀ r ∈ rs, cC base d r
theorem TD {base d : Nat} : cB base d [] := fun r hr => by cases hr
theorem FI {base d : Nat} {r : BK} {rs : List BK} (h : cC base d r) (hs : cB base d rs) : cB base d (r :: rs) := fun q hq => by
 rcases bq.1 hq with rfl | hq
 ·exact h
 ·exact hs q hq
theorem UI {base d b sz : Nat} {S : List Nat} {cs : List V} (hb : b < base) : cC base d (.Cs S b (.cells sz cs)) := fun H G hl hlg h => by
 refine ⟨h.1, ?_⟩
 subst hl
 unfold TC
 rw [N2 hlg, if_pos hb]; exact h.2
theorem Gr {α : Type} [AL α] [Aw α] [JT α] {base d : Nat} {S F : List Nat} {x : α} {cs : List V} : cC base d (AI S F x cs) := fun H G hl hlg h => by
 obtain ⟨hb, hp⟩ := h
 obtain ⟨F', h1, h2, h3⟩ := hp G fun _ _ => rfl
 subst hl
 have hlen : (TC H.length d G).length = G.length := by unfold TC; rw [an, dn, ee, im]; omega
 refine IB ⟨F', h1, h2, Aw.frame h3 fun b hb' => ?_⟩ fun b hb' => by rw [hlen]; exact hb b hb'
 unfold TC
 rw [N2 hlg]
 split
 ·rfl
 ·obtain ⟨sz, cells, e1, e2⟩ := (JT.cl h3 d).2 b hb'
  rw [e1, aj, ND, if_pos e2]
theorem Sj {P : bm} {h : Bp} {T : Nat → V} {G H0 Hm : A6} {S : List Nat} {k d : Nat} {lr : List ed} {vs : List V} {v : V} {xx : X} {ι : Type} {rsF : ι → List BK} (Fs : ι) (hO : A4 Hm G (rsF Fs)) (hFr : Bu H0 Hm S) (hrel : cB H0.length d (rsF Fs)) (h1 : BI P G T lr = some vs) (h2 : EI vs = v) (hc : Bc d v = true) (hg : h.grow k = true) (hx : xx = .normal ∨ xx = .ret) :
  YL P h k H0.length d lr (fun v1 H1 => v1 = v ∧ ∃ (Fs : ι) (Hm : A6), Bu H0 Hm S ∧ A4 Hm H1 (rsF Fs)) xx ⟨T, G⟩ := by
 have hl : Hm.length = H0.length := hFr.1
 have hl2 := hO.len
 have hlen : (TC H0.length d G).length = G.length := by unfold TC; rw [an, dn, ee, im]; omega
 refine ⟨hx, v, TC H0.length d G, ?_, rfl, Fs, Hm, hFr, fun b hb => ?_, by rw [hlen]; exact hO.len, fun r hr => hrel r hr _ _ hl hl2 (hO.ok r hr), hO.apart⟩
 ·simp only [h1, aa, h2, Dd, hg, if_true, hc]; rfl
 ·unfold TC
  rw [N2 (by omega), if_pos (by omega)]
  exact hO.pre b hb
section
variable {α β : Type} [AL α] [Aw α] [AL β] [Aw β] {G G1 G' H H0 Hm : A6} {rs rs0 rs1 rest : List BK} {S Sc F F2 : List Nat}
def BK.Ly (S : List Nat) : BK → Prop
 | .AW .. => S = []
 | .Cs S' _ _ => S' = S
 | .tree S' _ _ => S' = S
 | _ => False
theorem Bu.trans {Ha Hb Hc : A6} (h1 : Bu Ha Hb S) (h2 : Bu Hb Hc Sc) (hs : ∀ b ∈ Sc, b < Hb.length → b ∈ S) : Bu Ha Hc S := ⟨h2.1.trans h1.1, fun b hb => by
 rcases bz b Hb.length with hl | hl
 ·rw [h2.2 b fun h => hb (hs b h hl)]; exact h1.2 b hb
 ·rw [← h1.2 b hb, ba hl, ba (by have := h2.1; omega)]⟩
theorem A4.gA (hO : A4 H G (rs0 ++ rest)) (hS : ∀ b ∈ S, ∃ r ∈ rs0, b ∈ r.CO) (hSc : ∀ b ∈ S, b < H.length → b ∈ Sc) (hse : Bu G Hm S) (ho : A4 Hm G' (rs1.map (BK.YC S))) (hin : ∀ r ∈ rs1, r.Ly Sc) :
  Bu H (G'.take H.length) S ∧ A4 (G'.take H.length) G' (rs1 ++ rest) := by
 have l1 := hO.len
 have l2 := ho.len
 have l3 := hse.1
 have ht : (G'.take H.length).length = H.length := by rw [dn]; omega
 have hsame : ∀ b, b < G.length → b ∉ S → G'[b]? = G[b]? := fun b hb hn => by rw [ho.pre b (by omega)]; exact hse.2 b hn
 obtain ⟨a1, a2, a3⟩ := kl.1 hO.apart
 have hrest : ∀ r ∈ rest, ∀ x ∈ r.CO, x < G.length ∧ x ∉ S := fun r hr x hx => ⟨BK.E4 (hO.ok r (db _ hr)) hx, fun h => by
  obtain ⟨r0, h0, hx0⟩ := hS x h
  exact a3 r0 h0 r hr x hx0 hx⟩
 have hok1 : ∀ r ∈ rs1, (r.YC S).ok Hm G' := fun r hr => ho.ok _ (List.mem_map_of_mem hr)
 refine ⟨⟨ht, fun b hb => ?_⟩, fun b hb => ?_, by rw [ht]; omega, fun r hr => ?_, ?_⟩
 ·rw [di]
  split
  ·rename_i hlt; rw [hsame b (by omega) hb]; exact hO.pre b hlt
  ·rename_i hge; rw [ba (by omega)]
 ·rw [ht] at hb; rw [di, if_pos hb]
 ·refine BK.Vd ht ?_
  rcases aq.1 hr with hr | hr
  ·have h1 := hok1 r hr
   have h2 := hin r hr
   cases r with
   | AW n b =>
    subst h2
    refine ⟨dw.1 fun hlt => ?_, h1.2⟩
    cases hSc n (h1.1 (by omega)) hlt
   | Cs S' n b => subst h2; exact ⟨fun hlt => hSc n (h1.1 (by omega)) hlt, h1.2⟩
   | tree S' F p => subst h2; exact ⟨fun b hb => ⟨(h1.1 b hb).1, fun hlt => hSc b ((h1.1 b hb).2 (by omega)) hlt⟩, h1.2⟩
   | own v d sz n cells => cases h2
   | Mx S' v d d1 sz n cells => cases h2
  ·exact BK.Eb (hO.ok r (db _ hr)) fun x hx => hsame x (hrest r hr x hx).1 (hrest r hr x hx).2
 ·refine kl.2 ⟨?_, a2, fun r hr r' hr' x hx hx' => ?_⟩
  ·have := ho.apart
   rw [ni] at this
   exact this.imp fun h => by rw [BK.MO, BK.MO] at h; exact h
  ·have h9 := hrest r' hr' x hx'
   refine h9.2 ?_
   have h1 := hok1 r hr
   have h2 := hin r hr
   have hlt : x < Hm.length := by omega
   cases r with
   | AW n b => simp only [BK.CO, bh] at hx; subst hx; exact h1.1 hlt
   | Cs S' n b => simp only [BK.CO, bh] at hx; subst hx; exact h1.1 hlt
   | tree S' F p => exact (h1.1 x hx).2 hlt
   | own v d sz n cells => cases h2
   | Mx S' v d d1 sz n cells => cases h2
theorem A4.join {j : Nat} {p p' q : A6 → Prop} (hO : A4 H G (.tree [] F2 q :: rs)) (hj : rs[j]? = some (.tree S F p)) (hl : G'.length = G.length) (hs : ∀ b, b ∉ F → G'[b]? = G[b]?) (hp : ∀ G2, (∀ b ∈ F ++ F2, G2[b]? = G'[b]?) → p' G2) :
  A4 (G'.take H.length) G' (rs.set j (.tree S (F ++ F2) p')) := by
 have hj' : (BK.tree [] F2 q :: rs)[j + 1]? = some (.tree S F p) := hj
 have l1 := hO.len
 have ht : (G'.take H.length).length = H.length := by rw [dn]; omega
 obtain ⟨_, hbd⟩ := hO.tree hj'
 obtain ⟨_, hbd2⟩ := hO.tree (j := 0) (F := F2) (S := []) rfl
 obtain ⟨hj1, hj2⟩ := ak.1 hj
 obtain ⟨hO1, hO2, hO3, hO4⟩ := hO
 have hp2 := cz.1 (cg.1 hO4).2
 have key : ∀ i (hi : i < rs.length), i ≠ j → ∀ c ∈ F ++ F2, c ∉ rs[i].CO := fun i hi hij c hc hc' => by
  rcases aq.1 hc with hc | hc
  ·rcases bz i j with h | h
   ·exact hp2 i j hi hj1 h c hc' (by rw [hj2]; exact hc)
   ·exact hp2 j i hj1 hi (by omega) c (by rw [hj2]; exact hc) hc'
  ·exact (cg.1 hO4).1 _ (bg hi) c hc hc'
 refine ⟨fun c hc => ?_, by rw [ht]; omega, fun r hr => BK.Vd ht ?_, ?_⟩
 ·rw [ht] at hc; rw [di, if_pos hc]
 ·obtain ⟨i, hi, e⟩ := ej.1 hr
  rw [bp] at hi
  rw [en] at e
  split at e
  ·subst e
   refine ⟨fun c hc => ?_, hp⟩
   rw [hl]
   rcases aq.1 hc with hc | hc
   ·exact hbd c hc
   ·exact ⟨(hbd2 c hc).1, fun h => by cases (hbd2 c hc).2 h⟩
  ·rename_i hij
   subst e
   have hok := hO3 _ (bw (BK.tree [] F2 q) (bg hi))
   exact BK.Eb hok fun c hc => hs c fun hcF => key i hi (by omega) c (by simp [hcF]) hc
 ·rw [cz]
  intro a b ha hb hab c hc hc'
  rw [bp] at ha hb
  rw [en] at hc hc'
  split at hc
  ·rename_i e; subst e
   rw [if_neg (by omega)] at hc'
   exact key b hb (by omega) c hc hc'
  ·split at hc'
   ·rename_i e; subst e
    exact key a ha (by omega) c hc' hc
   ·exact hp2 a b ha hb hab c hc hc'
end
section steps
variable {P : bm} {h : Bp} {fk n base : Nat} {lk : Lk} {c : Cx} {ops : Array ch} {s kk : Bool} {d : Nat} {ty : ao} {pos : String} {aft : Array Edge} {l : List (Bool × Bool × ch)} {Q : St → Prop} {T : Nat → V} {G G' H H0 : A6} {rs : List BK} {op : Op} {S F F2 : List Nat}
theorem oG {t : ao} {x : au} {b sz m : Nat} {cs : List V} (hO : A4 H G rs) (j : Nat) (ha : Cz P t = some true) (hz : B8 P t = some m) (k : BU (B5 P h fk n base lk) ops l ⟨Cw T d (.agg cs), G⟩ Q) (h1 : ev T x = some (.ptr b 0) := by rfl) (hj : rs[j]? = some (.Cs S b (.cells sz cs)) := by rfl) (hl : cs.length = m := by rfl) (hd : cm d n = true := by rfl) :
  BU (B5 P h fk n base lk) ops ((s, kk, ⟨some d, .load t x, ty, pos, aft, none⟩) :: l) ⟨T, G⟩ Q := by
 refine eZ (.agg cs) (hO.VD hj).1 ?_ k h1 hd
 subst hl
 unfold BF
 simp only [ha, hz, aa]
 rw [if_pos (by omega), ia, er]
section
variable {α β : Type} [AL α] [Aw α] [AL β] [Aw β]
theorem Kb {get : α → β} {set : α → β → α} {off b : Nat} (L : Br α β get set off) {xs : List α} {i : Int} {x : α} {t : ao} {y z : au} {v w : V} {y' : β} (hO : A4 H G rs) (j : Nat) (hv : v = .sl b 0 xs.length) (hc : AH xs i = some x) (hz : B8 P t = some (AL.sz β)) (hw : ∀ G, Aw.tr G y' [w] [])
  (hFr : Bu H0 H S) (hS : ∀ b ∈ S, AX lk b = true) (hb : base = H0.length) (k : ∀ H' G', Bu H0 H' S → A4 H' G' (rs.set j (AI S F (xs.set i.toNat (set x y')) [v])) → BU (B5 P h fk n base lk) ops l ⟨T, G'⟩ Q)
  (h1 : ev T y = some (.ptr b (i.toNat * AL.sz α + off)) := by rfl) (h2 : ev T z = some w := by rfl) (hg : h.grow fk = true := by rfl) (hgv : Bc 1 w = true := by rfl) (h3 : w.cellsOf = [w] := by rfl) (hj : rs[j]? = some (AI S F xs [v]) := by rfl) :
  BU (B5 P h fk n base lk) ops ((s, kk, ⟨none, .store t y z, ty, pos, aft, none⟩) :: l) ⟨T, G⟩ Q := by
 obtain ⟨ht, hbd⟩ := hO.tree hj
 obtain ⟨cells, hbF, hgb, hfit, hcell, hput⟩ := Io (F2 := []) L ht hc hv ⟨[], .nil, fun _ h => h, hw G⟩ (fun _ h => by cases h)
 have hlt := (ak.1 hgb).1
 have hlw : [w].length = AL.sz β := Aw.len (hw G)
 rw [dh] at hput
 have hs : ∀ c, c ∉ F → (G.set b (.cells (AL.sz α) (Bo cells (i.toNat * AL.sz α + off) [w])))[c]? = G[c]? := fun c hc => by
  rw [Ai, if_neg]
  rintro ⟨rfl, _⟩; exact hc hbF
 refine a7 (Fl hz ?_ ?_ hgb (by rw [h3]; exact hfit) (by rw [h3]; exact hlw) (by rw [h3]; exact hcell) h1 h2) (k _ _ (hFr.YU hO hj (bp ..) hs) ?_)
 ·have hbb : base = H.length := hb.trans hFr.1.symm
  subst hbb
  exact OU hS (hbd b hbF).2
 ·rw [if_pos hg, if_pos hgv]; simp
 ·rw [h3]
  exact hO.YU hj (bp ..) hs fun G2 h2 => hput.mono h2
theorem gT [JT α] {b : Nat} {xs : List α} {i : Int} {x y' : α} {t : ao} {y z : au} {v w : V} {cs : List V} (hO : A4 H G (AI [] F2 y' cs :: rs)) (j : Nat) (hv : v = .sl b 0 xs.length) (hc : AH xs i = some x) (hz : B8 P t = some (AL.sz α))
  (hFr : Bu H0 H S) (hS : ∀ b ∈ S, AX lk b = true) (hb : base = H0.length) (k : ∀ H' G', Bu H0 H' S → A4 H' G' (rs.set j (AI S (F ++ F2) (xs.set i.toNat y') [v])) → BU (B5 P h fk n base lk) ops l ⟨T, G'⟩ Q)
  (h1 : ev T y = some (.ptr b (i.toNat * AL.sz α)) := by rfl) (h2 : ev T z = some w := by rfl) (hcw : cs.all (Bc 1) = true → Bc 1 w = true := by exact NV) (hg : h.grow fk = true := by rfl) (h3 : w.cellsOf = cs := by rfl) (hj : rs[j]? = some (AI S F xs [v]) := by rfl) :
  BU (B5 P h fk n base lk) ops ((s, kk, ⟨none, .store t y z, ty, pos, aft, none⟩) :: l) ⟨T, G⟩ Q := by
 have hj' : (AI [] F2 y' cs :: rs)[j + 1]? = some (AI S F xs [v]) := hj
 obtain ⟨ht, hbd⟩ := hO.tree hj'
 obtain ⟨ht2, hbd2⟩ := hO.tree (j := 0) (F := F2) (S := []) rfl
 have hap : ∀ c ∈ F2, c ∉ F := fun c hc hc' => (cg.1 hO.apart).1 _ (bj hj) c hc hc'
 obtain ⟨cells, hbF, hgb, hfit, hcell, hput⟩ := Io Br.all ht hc hv ht2 hap
 obtain ⟨hlw, _⟩ := ht2.cells
 have hs : ∀ c, c ∉ F → (G.set b (.cells (AL.sz α) (Bo cells (i.toNat * AL.sz α + 0) cs)))[c]? = G[c]? := fun c hc => by
  rw [Ai, if_neg]
  rintro ⟨rfl, _⟩; exact hc hbF
 have hcl : Bc 1 w = true := by
  obtain ⟨F', _, _, h3⟩ := ht2
  exact hcw (JT.cl h3 1).1
 subst h3
 refine a7 (Fl hz ?_ ?_ hgb (by simpa using hfit) hlw hcell h1 h2) (k _ _ (hFr.YU hO hj' (bp ..) hs) (hO.join hj (bp ..) hs fun G2 h2 => hput.mono h2))
 ·have hbb : base = H.length := hb.trans hFr.1.symm
  subst hbb
  exact OU hS (hbd b hbF).2
 ·rw [if_pos hg, if_pos hcl]; simp
theorem kF {R : A6 → List α → Prop} {Fs : List Nat} {xs : List α} {i : Int} {x : α} {t e : ao} {y z : au} {kd : fz} {u : V} (hs : Ue G R F [u] Fs xs) (hc : AH xs i = some x) (he : B6 P t = some e) (hz : B8 P e = some (AL.sz α)) (k : ∀ b, u = .sl b 0 xs.length → BU (B5 P h fk n base lk) ops l ⟨Cw T d (.ptr b (i.toNat * AL.sz α)), G⟩ Q)
  (h1 : ev T y = some u := by rfl) (h2 : ev T z = some (.int kd i) := by rfl) (hd : cm d n = true := by rfl) :
  BU (B5 P h fk n base lk) ops ((s, kk, ⟨some d, .indexAddr t y z, ty, pos, aft, none⟩) :: l) ⟨T, G⟩ Q := by
 obtain ⟨b, cells, F', rfl, _⟩ := OY hs.tr hc
 refine pV ?_ hd (k b rfl)
 rw [DM]
 show (B6 P t).bind _ = _
 rw [he, aa]
 show (B8 P e).bind _ = _
 simp only [hz, h1, h2, aa, asInt, Qn, Ct]
 rw [if_pos (EZ hc)]
 simp
theorem Zy [Hd α] {R : A6 → List α → Prop} {Fs : List Nat} {xs : List α} {i : Int} {x : α} {t : ao} {y : au} {u : V} {b : Nat} (w : V) (hs : Ue G R F [u] Fs xs) (hv : u = .sl b 0 xs.length) (hc : AH xs i = some x) (ha : Cz P t = some false)
  (k : BU (B5 P h fk n base lk) ops l ⟨Cw T d w, G⟩ Q) (hw : AL.Ba 0 x = [w] := by rfl) (h1 : ev T y = some (.ptr b (i.toNat * AL.sz α)) := by rfl) (hd : cm d n = true := by rfl) :
  BU (B5 P h fk n base lk) ops ((s, kk, ⟨some d, .load t y, ty, pos, aft, none⟩) :: l) ⟨T, G⟩ Q := by
 obtain ⟨cells, c1, c2, c3, Fs, hg, rfl, hl, hl2, ⟨F', _, _, ht⟩, _, _, _⟩ := QR Br.all hs.tr hc hv
 obtain ⟨rfl, _⟩ := Hd.inv ht
 refine eZ w hg ?_ k h1 hd
 unfold BF
 rw [ha]
 show (c1 ++ (AL.Ba 0 x ++ c3))[i.toNat * AL.sz α]? = some _
 rw [hw, ← ir (i.toNat * AL.sz α), ← hl, bu (al _), fo]; rfl
theorem oF {R : A6 → List α → Prop} {Fs : List Nat} {xs : List α} {x : au} {t : ao} {u : V} (hs : Ue G R F [u] Fs xs) (ht : IM P t = some false) (k : BU (B5 P h fk n base lk) ops l ⟨Cw T d (.int .i64 xs.length), G⟩ Q) (h1 : ev T x = some u := by rfl) (hd : cm d n = true := by rfl) :
  BU (B5 P h fk n base lk) ops ((s, kk, ⟨some d, .call ⟨.builtin .len, #[x], #[t]⟩, ty, pos, aft, none⟩) :: l) ⟨T, G⟩ Q := by
 refine Ae (b := false) (a := u) ht k h1 ?_ hd
 have := Zc hs.tr
 cases u <;> first | exact this | simp [Ct] at this
theorem oH {R : A6 → List α → Prop} {Fs : List Nat} {xs : List α} {i : Int} {x y' : α} {t : ao} {y z : au} {u w : V} {b : Nat} {p : A6 → Prop} (hO : A4 H G rs) (j : Nat) (hsub : Ue G R F [u] Fs xs) (hv : u = .sl b 0 xs.length) (hc : AH xs i = some x) (hz : B8 P t = some (AL.sz α)) (hw : ∀ G, Aw.tr G y' [w] [])
  (hFr : Bu H0 H S) (hS : ∀ b ∈ S, AX lk b = true) (hb : base = H0.length) (k : ∀ H' G', Bu H0 H' S → A4 H' G' (rs.set j (.tree S F fun G => R G (xs.set i.toNat y'))) → BU (B5 P h fk n base lk) ops l ⟨T, G'⟩ Q)
  (h1 : ev T y = some (.ptr b (i.toNat * AL.sz α)) := by rfl) (h2 : ev T z = some w := by rfl) (hg : h.grow fk = true := by rfl) (hgv : Bc 1 w = true := by rfl) (h3 : w.cellsOf = [w] := by rfl) (hj : rs[j]? = some (.tree S F p) := by rfl) :
  BU (B5 P h fk n base lk) ops ((s, kk, ⟨none, .store t y z, ty, pos, aft, none⟩) :: l) ⟨T, G⟩ Q := by
 obtain ⟨_, hbd⟩ := hO.tree hj
 obtain ⟨cells, hbF, hgb, hfit, hcell, hput⟩ := Io (F2 := []) Br.all hsub.tr hc hv ⟨[], .nil, fun _ h => h, hw G⟩ (fun _ h => by cases h)
 have hlw : [w].length = AL.sz α := Aw.len (hw G)
 rw [dh] at hput
 have hs' : ∀ c, c ∉ Fs → (G.set b (.cells (AL.sz α) (Bo cells (i.toNat * AL.sz α + 0) [w])))[c]? = G[c]? := fun c hc => by
  rw [Ai, if_neg]
  rintro ⟨rfl, _⟩; exact hc hbF
 have hs : ∀ c, c ∉ F → (G.set b (.cells (AL.sz α) (Bo cells (i.toNat * AL.sz α + 0) [w])))[c]? = G[c]? := fun c hc => hs' c fun h => hc (hsub.sub c h)
 refine a7 (Fl (off := i.toNat * AL.sz α + 0) hz ?_ ?_ hgb (by rw [h3]; exact hfit) (by rw [h3]; exact hlw) (by rw [h3]; exact hcell) (by rw [ir]; exact h1) h2) (k _ _ (hFr.YU hO hj (bp ..) hs) ?_)
 ·have hbb : base = H.length := hb.trans hFr.1.symm
  subst hbb
  exact OU hS (hbd b (hsub.sub b hbF)).2
 ·rw [if_pos hg, if_pos hgv]; simp
 ·rw [h3]
  exact hO.YU hj (bp ..) hs fun G2 h2 => hsub.fr _ _ _ (hsub.back _ _ hs' hput) h2
end
variable {rs0 rest : List BK} {ι : Type} {rs1 : ι → List BK}
theorem R5 {f : au} {args : Array au} {ats : Array ao} {g : eg} {caps vs vs' : List V} {r : V} (hr : Am P h g vs' G (lk ++ [((B5 P h fk n base lk).BQ s false).CF g [] G]) = some (r, G')) (h1 : ev T f = some (.fn g caps)) (h2 : LO T args.toList = some vs)
  (h3 : An ((B5 P h fk n base lk).BQ s false) (h.DS g) G (vs ++ caps) = some (vs', [], G)) : Hi ((B5 P h fk n base lk).BQ s false) (.call ⟨.value f, args, ats⟩) ⟨T, G⟩ = some (r, G') := by
 rw [Gi]
 simp only [h1, h2, aa, Qh]
 show (An ((B5 P h fk n base lk).BQ s false) (h.DS g) G (vs ++ caps)).bind _ = _
 rw [h3]
 simp only [aa]
 exact hr
theorem T0 {g : eg} : ∀ b ∈ ((B5 P h fk n base lk).BQ s false).CF g [] G, b < base ∧ h.grow fk = false := fun b hb => by
 unfold Cx.CF at hb
 rw [if_neg (by show ¬ false = true; simp)] at hb
 split at hb
 ·rename_i e
  have e' : (h.grow g && !h.grow fk) = true := e
  simp only [ar, eb] at e'
  have h9 : b ∈ ([] : List Nat) ++ bt base := hb
  exact ⟨by simpa using h9, e'.2⟩
 ·cases hb
theorem iJ {f : au} {args : Array au} {ats : Array ao} {g : eg} {caps vs vs' : List V} {v : V} (hO : A4 H G (rs0 ++ rest)) (hlo : EE lk H.length) (hb : base = H.length) (hS : ∀ r ∈ rs0, ∀ b ∈ r.CO, b ∈ S) (hS' : ∀ b ∈ S, ∃ r ∈ rs0, b ∈ r.CO) (hown : ∀ r ∈ rs0, ∀ b ∈ r.CO, H.length ≤ b)
  (hr : ∀ L, EE (lk ++ [L]) G.length → (∀ b ∈ S, b < G.length) → (∀ b ∈ S, AX (lk ++ [L]) b = true) → A4 G G (rs0.map (BK.YC S)) → ∃ v1 H1, Am P h g vs' G (lk ++ [L]) = some (v1, H1) ∧ v1 = v ∧ ∃ (Fs : ι) (Hm : A6), Bu G Hm S ∧ A4 Hm H1 ((rs1 Fs).map (BK.YC S)))
  (hc : rs0.all BK.XJ = true) (hin : ∀ Fs, ∀ r ∈ rs1 Fs, r.Ly [])
  (h1 : ev T f = some (.fn g caps)) (h2 : LO T args.toList = some vs) (h3 : An ((B5 P h fk n base lk).BQ s false) (h.DS g) G (vs ++ caps) = some (vs', [], G)) :
  ∃ G' Fs, Hi ((B5 P h fk n base lk).BQ s false) (.call ⟨.value f, args, ats⟩) ⟨T, G⟩ = some (v, G') ∧ A4 H G' (rs1 Fs ++ rest) := by
 have hlow : ∀ b ∈ S, H.length ≤ b := fun b hb' => by obtain ⟨r, hr, hx⟩ := hS' b hb'; exact hown r hr b hx
 have hlt : ∀ b ∈ S, b < G.length := fun b hb' => by obtain ⟨r, hr, hx⟩ := hS' b hb'; exact BK.E4 (hO.ok r (cd _ hr)) hx
 obtain ⟨v1, H1, hv, rfl, Fs, Hm, hse, ho⟩ := hr _ (hlo.push hO.len fun b hx => by
  have := (T0 (P := P) (h := h) (fk := fk) (n := n) (base := base) (lk := lk) (s := s) (G := G) (g := g) b hx).1
  have := hO.len
  omega) hlt (fun b hb' => hlo.free (hlow b hb') fun hx => by
  have := (T0 (P := P) (h := h) (fk := fk) (n := n) (base := base) (lk := lk) (s := s) (G := G) (g := g) b hx).1
  have := hlow b hb'
  omega) (hO.gQ hc hS)
 obtain ⟨e1, e2⟩ := hO.gA (Sc := []) hS' (fun b hb' hlt => by have := hlow b hb'; omega) hse ho (hin Fs)
 have e3 : H1.take H.length = H := by
  apply je
  intro b
  rcases bz b H.length with hl | hl
  ·exact e1.2 b fun h => by have := hlow b h; omega
  ·rw [ba hl, ba (by have := e1.1; omega)]
 rw [e3] at e2
 exact ⟨H1, Fs, R5 hv h1 h2 h3, e2⟩
theorem Vj {f : au} {args : Array au} {ats : Array ao} {g : eg} {caps vs vs' : List V} {v : V} (hO : A4 H G (rs0 ++ rest)) (hlo : EE lk H.length) (hb : base = H.length) (hS : ∀ r ∈ rs0, ∀ b ∈ r.CO, b ∈ S) (hS' : ∀ b ∈ S, ∃ r ∈ rs0, b ∈ r.CO) (hown : ∀ r ∈ rs0, ∀ b ∈ r.CO, H.length ≤ b)
  (hr : ∀ L, EE (lk ++ [L]) G.length → (∀ b ∈ S, b < G.length) → (∀ b ∈ S, AX (lk ++ [L]) b = true) → A4 G G (rs0.map (BK.YC S)) → ∃ v1 H1, Am P h g vs' G (lk ++ [L]) = some (v1, H1) ∧ v1 = v ∧ ∃ (Fs : ι) (Hm : A6), Bu G Hm S ∧ A4 Hm H1 ((rs1 Fs).map (BK.YC S)))
  (hin : ∀ Fs, ∀ r ∈ rs1 Fs, r.Ly []) (k : ∀ Fs G', A4 H G' (rs1 Fs ++ rest) → BU (B5 P h fk n base lk) ops l ⟨Cw T d v, G'⟩ Q)
  (hc : rs0.all BK.XJ = true := by rfl) (h1 : ev T f = some (.fn g caps) := by rfl) (h2 : LO T args.toList = some vs := by rfl) (h3 : An ((B5 P h fk n base lk).BQ s false) (h.DS g) G (vs ++ caps) = some (vs', [], G) := by rfl) (hd : cm d n = true := by rfl) :
  BU (B5 P h fk n base lk) ops ((s, false, ⟨some d, .call ⟨.value f, args, ats⟩, ty, pos, aft, none⟩) :: l) ⟨T, G⟩ Q := by
 obtain ⟨G', Fs, e1, e2⟩ := iJ (ats := ats) hO hlo hb hS hS' hown hr hc hin h1 h2 h3
 exact pV e1 hd (k Fs G' e2)
theorem cE {f : au} {args : Array au} {ats : Array ao} {g : eg} {caps vs vs' : List V} {v : V} {Sc : List Nat} (hO : A4 H G (rs0 ++ rest)) (hFr : Bu H0 H Sc) (hU : ∀ b ∈ Sc, AX lk b = true) (hlo : EE lk H0.length) (hS : ∀ r ∈ rs0, ∀ b ∈ r.CO, b ∈ S) (hS' : ∀ b ∈ S, ∃ r ∈ rs0, b ∈ r.CO) (hin0 : ∀ r ∈ rs0, r.Ly Sc)
  (hr : EE (lk ++ [[]]) G.length → (∀ b ∈ S, b < G.length) → (∀ b ∈ S, AX (lk ++ [[]]) b = true) → A4 G G (rs0.map (BK.YC S)) → ∃ v1 H1, Am P h g vs' G (lk ++ [[]]) = some (v1, H1) ∧ v1 = v ∧ ∃ (Fs : ι) (Hm : A6), Bu G Hm S ∧ A4 Hm H1 ((rs1 Fs).map (BK.YC S)))
  (hc : rs0.all BK.XJ = true) (hin : ∀ Fs, ∀ r ∈ rs1 Fs, r.Ly Sc) (hg : h.grow fk = true)
  (h1 : ev T f = some (.fn g caps)) (h2 : LO T args.toList = some vs) (h3 : An ((B5 P h fk n base lk).BQ s false) (h.DS g) G (vs ++ caps) = some (vs', [], G)) :
  ∃ H' G' Fs, Hi ((B5 P h fk n base lk).BQ s false) (.call ⟨.value f, args, ats⟩) ⟨T, G⟩ = some (v, G') ∧ Bu H0 H' Sc ∧ A4 H' G' (rs1 Fs ++ rest) := by
 have hlt : ∀ b ∈ S, b < G.length := fun b hb' => by obtain ⟨r, hr, hx⟩ := hS' b hb'; exact BK.E4 (hO.ok r (cd _ hr)) hx
 have hSc : ∀ b ∈ S, b < H.length → b ∈ Sc := fun b hb' hl => by
  obtain ⟨r, hr, hx⟩ := hS' b hb'
  have h1 := hO.ok r (cd _ hr)
  have h2 := hin0 r hr
  cases r with
  | AW n b => simp only [BK.CO, bh] at hx; subst hx; have := h1.1; omega
  | Cs S' n b => subst h2; simp only [BK.CO, bh] at hx; subst hx; exact h1.1 hl
  | tree S' F p => subst h2; exact (h1.1 b hx).2 hl
  | own v d sz n cells => cases h2
  | Mx S' v d d1 sz n cells => cases h2
 have hlk : ((B5 P h fk n base lk).BQ s false).CF g [] G = [] := List.eq_nil_iff_forall_not_mem.2 fun b hb => by
  have := (T0 b hb).2
  rw [hg] at this; cases this
 obtain ⟨v1, H1, hv, rfl, Fs, Hm, hse, ho⟩ := hr (hlo.push (by rw [← hFr.1]; exact hO.len) fun b hx => by cases hx) hlt (fun b hb' => JM (by
  rcases bz b H.length with hl | hl
  ·exact hU b (hSc b hb' hl)
  ·exact hlo.gP (by rw [← hFr.1]; exact hl))) (hO.gQ hc hS)
 obtain ⟨e1, e2⟩ := hO.gA (Sc := Sc) hS' hSc hse ho (hin Fs)
 exact ⟨_, H1, Fs, R5 (by rw [hlk]; exact hv) h1 h2 h3, hFr.trans e1 fun b hb hl => hSc b hb hl, e2⟩
theorem Zw {f : au} {args : Array au} {ats : Array ao} {g : eg} {caps vs vs' : List V} {v : V} {Sc : List Nat} (hO : A4 H G (rs0 ++ rest)) (hFr : Bu H0 H Sc) (hU : ∀ b ∈ Sc, AX lk b = true) (hlo : EE lk H0.length) (hS : ∀ r ∈ rs0, ∀ b ∈ r.CO, b ∈ S) (hS' : ∀ b ∈ S, ∃ r ∈ rs0, b ∈ r.CO) (hin0 : ∀ r ∈ rs0, r.Ly Sc)
  (hr : EE (lk ++ [[]]) G.length → (∀ b ∈ S, b < G.length) → (∀ b ∈ S, AX (lk ++ [[]]) b = true) → A4 G G (rs0.map (BK.YC S)) → ∃ v1 H1, Am P h g vs' G (lk ++ [[]]) = some (v1, H1) ∧ v1 = v ∧ ∃ (Fs : ι) (Hm : A6), Bu G Hm S ∧ A4 Hm H1 ((rs1 Fs).map (BK.YC S)))
  (hin : ∀ Fs, ∀ r ∈ rs1 Fs, r.Ly Sc) (k : ∀ Fs H' G', Bu H0 H' Sc → A4 H' G' (rs1 Fs ++ rest) → BU (B5 P h fk n base lk) ops l ⟨Cw T d v, G'⟩ Q)
  (hc : rs0.all BK.XJ = true := by rfl) (hg : h.grow fk = true := by rfl) (h1 : ev T f = some (.fn g caps) := by rfl) (h2 : LO T args.toList = some vs := by rfl) (h3 : An ((B5 P h fk n base lk).BQ s false) (h.DS g) G (vs ++ caps) = some (vs', [], G) := by rfl) (hd : cm d n = true := by rfl) :
  BU (B5 P h fk n base lk) ops ((s, false, ⟨some d, .call ⟨.value f, args, ats⟩, ty, pos, aft, none⟩) :: l) ⟨T, G⟩ Q := by
 obtain ⟨H', G', Fs, e1, e2, e3⟩ := cE (ats := ats) hO hFr hU hlo hS hS' hin0 hr hc hin hg h1 h2 h3
 exact pV e1 hd (k Fs H' G' e2 e3)
theorem Xg {S : List Nat} : ∀ r ∈ ([] : List BK), r.Ly S := fun r hr => by cases hr
theorem JU {S : List Nat} {r : BK} {rs : List BK} (h : r.Ly S) (hs : ∀ q ∈ rs, q.Ly S) : ∀ q ∈ r :: rs, q.Ly S := fun q hq => by
 rcases bq.1 hq with rfl | hq
 ·exact h
 ·exact hs q hq
end steps
end
end Go.Proofs.YtphpkphklegfeaaGreat.K
