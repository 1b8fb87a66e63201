/-
 The plain part of the law FnExactDoFrame: on typed values it returns true at every input. No conditions.
-/
import Derived.Test.YtphpkphklegfeaaGreatDDf
set_option linter.unusedVariables false
set_option linter.unusedSimpArgs false
set_option maxRecDepth 100000
namespace Go.Proofs.YtphpkphklegfeaaGreat.K
open Tryz renaming prog → ai
open Option renaming bind_some → aa, map_some → aj, any_some → bx, all_some → ik, toList_some → mq, getD_some → ec
open Bool renaming eq_false_or_eq_true → dg, not_true → da, or_false → gq, eq_iff_iff → fx, and_eq_true → ar, not_eq_true' → eb, false_or → il, true_and → fj, and_self → lz, not_false → jn, and_true → ld, or_eq_false_iff → mr, or_eq_true → df, true_or → me, false_ne_true → mz, or_true → mf
open List renaming map_id' → iy, getElem?_eq_getElem → ae, mem_of_getElem? → bj, range → bt, findSome?_eq_none_iff → lq, mem_range → cr, nil_append → dr, any_eq_false → fc, any_eq_true → ea, not_all_eq_any_not → mc, any_append → kc, take_add_one → gv, any_cons → jg, any_nil → jk, foldl_append → jf, take_length → er, all_eq_true → cj, getElem_of_mem → ij, getElem_mem → bg, mem_cons → bq, map_cons → dj, nodup_cons → dp, mem_append → aq, mem_singleton → bh, not_mem_nil → lf, mem_map → du, drop_eq_nil_of_le → ka, drop_eq_getElem_cons → js, map_append → eh, any_map → og, take_zero → kr, drop_eq_nil_iff → mo, length_take → dn, nodup_append → dc, mem_map_of_mem → fi, length_map → ee, take_succ_eq_append_getElem → ku, getElem?_set → km, length_set → bp, length_nil → fg, length_singleton → cn, length_append → an, set_set → kb, replicate → cq, getElem?_eq_none → ba, getElem_inj → nt, foldl_cons → nz, getElem_map → nu
open Nat renaming lt_or_ge → bz, zero_le → dq, le_of_lt → jv, le_refl → al
open Option.some renaming injEq → ab, inj → av
open List.cons renaming injEq → ep
open Int renaming toNat_natCast → gz, le_refl → ov, reduceBEq → ji
noncomputable section
open Go.ChangeShapes Go.WideShapes Go.ChangeAt Go.RowKit
abbrev Ls (x : Af) : Prop := Fi x.Switch ∧ Fi x.CK
abbrev Mu (x : CA) : Prop := (DH Fi) x.A0 ∧ (DH Ls) x.AJ ∧ (DH Ls) x.A7 ∧ (DH Fi) x.Bl ∧ (DH Fi) x.Ci
abbrev Ik (x : CA) : Prop := (Gk (fun _ => True)) x.A0 ∧ (Gk (fun _ => True)) x.AJ ∧ (Gk (fun _ => True)) x.A7 ∧ (Gk (fun _ => True)) x.Bl ∧ (Gk (fun _ => True)) x.Ci
abbrev ON (x : AT) : Prop := Fi x.A0 ∧ (DH Fi) x.A5 ∧ (DH Mu) x.A3 ∧ (DH (DH (fun _ => True))) x.Bk ∧ Fi x.DX
abbrev GR (x : AT) : Prop := (Gk (fun _ => True)) x.A5 ∧ (Gk Ik) x.A3 ∧ (Gk (Gk (fun _ => True))) x.Bk
abbrev Lr (x : AZ) : Prop := Fi x.Want ∧ Fi x.AJ
abbrev KM (x : AD) : Prop := Fi x.State ∧ Fi x.Aj ∧ (DH (fun _ => True)) x.Ac ∧ (fun _ => True) x.Shown ∧ Fi x.Timer
abbrev Lq (x : Frame) : Prop := (fun _ => True) x.Ok ∧ (DH (fun _ => True)) x.B1 ∧ (DH Lr) x.A1 ∧ (DH KM) x.A3
abbrev G6 (x : AD) : Prop := (Gk (fun _ => True)) x.Ac
abbrev E5 (x : Frame) : Prop := (Gk (fun _ => True)) x.B1 ∧ (Gk (fun _ => True)) x.A1 ∧ (Gk G6) x.A3
abbrev Dp (x : Aq) : Prop := E5 x.Frame
abbrev IF (x : BH) : Prop := Fi x.Op ∧ Fi x.Of ∧ Fi x.CK
theorem Y2 : Fg ai 3 Int Fi := Y3 Tryz.underlying3
theorem fB : Fg ai 22 (List Int) (DH Fi) := Eo Tryz.underlying22 rfl Y2
theorem oO : Fg ai 151 Af Ls := by
 intro K enc W sp fuel cs d ps h
 obtain ⟨fu, hl, hf⟩ := Et Tryz.underlying151 h
 have hl : cs.length = 2 := hl
 obtain ⟨_, _, h0⟩ := hf _ (List.Mem.head _)
 obtain ⟨x0, r0, g0⟩ := Y2 _ _ _ _ _ _ _ h0
 obtain ⟨_, _, h1⟩ := hf _ (List.Mem.tail _ (List.Mem.head _))
 obtain ⟨x1, r1, g1⟩ := Y2 _ _ _ _ _ _ _ h1
 exact ⟨⟨x0, x1⟩, Sk (off := 0) (sz := 1) r0 (J3 (sz := 1) hl r1), g0, g1⟩
theorem gU : Fg ai 105 (List Af) (DH Ls) := Eo Tryz.underlying105 rfl oO
theorem oL : Fg ai 107 CA Mu := by
 intro K enc W sp fuel cs d ps h
 obtain ⟨fu, hl, hf⟩ := Et Tryz.underlying107 h
 have hl : cs.length = 5 := hl
 obtain ⟨_, _, h0⟩ := hf _ (List.Mem.head _)
 obtain ⟨x0, r0, g0⟩ := fB _ _ _ _ _ _ _ h0
 obtain ⟨_, _, h1⟩ := hf _ (List.Mem.tail _ (List.Mem.head _))
 obtain ⟨x1, r1, g1⟩ := gU _ _ _ _ _ _ _ h1
 obtain ⟨_, _, h2⟩ := hf _ (List.Mem.tail _ (List.Mem.tail _ (List.Mem.head _)))
 obtain ⟨x2, r2, g2⟩ := gU _ _ _ _ _ _ _ h2
 obtain ⟨_, _, h3⟩ := hf _ (List.Mem.tail _ (List.Mem.tail _ (List.Mem.tail _ (List.Mem.head _))))
 obtain ⟨x3, r3, g3⟩ := fB _ _ _ _ _ _ _ h3
 obtain ⟨_, _, h4⟩ := hf _ (List.Mem.tail _ (List.Mem.tail _ (List.Mem.tail _ (List.Mem.tail _ (List.Mem.head _)))))
 obtain ⟨x4, r4, g4⟩ := fB _ _ _ _ _ _ _ h4
 exact ⟨⟨x0, x1, x2, x3, x4⟩, Sk (off := 0) (sz := 1) r0 (Sk (off := 1) (sz := 1) r1 (Sk (off := 2) (sz := 1) r2 (Sk (off := 3) (sz := 1) r3 (J3 (sz := 1) hl r4)))), g0, g1, g2, g3, g4⟩
theorem qY : Fg ai 23 (List CA) (DH Mu) := Eo Tryz.underlying23 rfl oL
theorem r9 : Fg ai 4 Bool (fun _ => True) := Vp Tryz.underlying4
theorem kG : Fg ai 27 (List Bool) (DH (fun _ => True)) := Eo Tryz.underlying27 rfl r9
theorem qZ : Fg ai 24 (List (List Bool)) (DH (DH (fun _ => True))) := Eo Tryz.underlying24 rfl kG
theorem r5 : Fg ai 26 AT ON := by
 intro K enc W sp fuel cs d ps h
 obtain ⟨fu, hl, hf⟩ := Et Tryz.underlying26 h
 have hl : cs.length = 5 := hl
 obtain ⟨_, _, h0⟩ := hf _ (List.Mem.head _)
 obtain ⟨x0, r0, g0⟩ := Y2 _ _ _ _ _ _ _ h0
 obtain ⟨_, _, h1⟩ := hf _ (List.Mem.tail _ (List.Mem.head _))
 obtain ⟨x1, r1, g1⟩ := fB _ _ _ _ _ _ _ h1
 obtain ⟨_, _, h2⟩ := hf _ (List.Mem.tail _ (List.Mem.tail _ (List.Mem.head _)))
 obtain ⟨x2, r2, g2⟩ := qY _ _ _ _ _ _ _ h2
 obtain ⟨_, _, h3⟩ := hf _ (List.Mem.tail _ (List.Mem.tail _ (List.Mem.tail _ (List.Mem.head _))))
 obtain ⟨x3, r3, g3⟩ := qZ _ _ _ _ _ _ _ h3
 obtain ⟨_, _, h4⟩ := hf _ (List.Mem.tail _ (List.Mem.tail _ (List.Mem.tail _ (List.Mem.tail _ (List.Mem.head _)))))
 obtain ⟨x4, r4, g4⟩ := Y2 _ _ _ _ _ _ _ h4
 exact ⟨⟨x0, x1, x2, x3, x4⟩, Sk (off := 0) (sz := 1) r0 (Sk (off := 1) (sz := 1) r1 (Sk (off := 2) (sz := 1) r2 (Sk (off := 3) (sz := 1) r3 (J3 (sz := 1) hl r4)))), g0, g1, g2, g3, g4⟩
theorem oN : Fg ai 118 AZ Lr := by
 intro K enc W sp fuel cs d ps h
 obtain ⟨fu, hl, hf⟩ := Et Tryz.underlying118 h
 have hl : cs.length = 2 := hl
 obtain ⟨_, _, h0⟩ := hf _ (List.Mem.head _)
 obtain ⟨x0, r0, g0⟩ := Y2 _ _ _ _ _ _ _ h0
 obtain ⟨_, _, h1⟩ := hf _ (List.Mem.tail _ (List.Mem.head _))
 obtain ⟨x1, r1, g1⟩ := Y2 _ _ _ _ _ _ _ h1
 exact ⟨⟨x0, x1⟩, Sk (off := 0) (sz := 1) r0 (J3 (sz := 1) hl r1), g0, g1⟩
theorem r6 : Fg ai 28 (List AZ) (DH Lr) := Eo Tryz.underlying28 rfl oN
theorem oM : Fg ai 109 AD KM := by
 intro K enc W sp fuel cs d ps h
 obtain ⟨fu, hl, hf⟩ := Et Tryz.underlying109 h
 have hl : cs.length = 5 := hl
 obtain ⟨_, _, h0⟩ := hf _ (List.Mem.head _)
 obtain ⟨x0, r0, g0⟩ := Y2 _ _ _ _ _ _ _ h0
 obtain ⟨_, _, h1⟩ := hf _ (List.Mem.tail _ (List.Mem.head _))
 obtain ⟨x1, r1, g1⟩ := Y2 _ _ _ _ _ _ _ h1
 obtain ⟨_, _, h2⟩ := hf _ (List.Mem.tail _ (List.Mem.tail _ (List.Mem.head _)))
 obtain ⟨x2, r2, g2⟩ := kG _ _ _ _ _ _ _ h2
 obtain ⟨_, _, h3⟩ := hf _ (List.Mem.tail _ (List.Mem.tail _ (List.Mem.tail _ (List.Mem.head _))))
 obtain ⟨x3, r3, g3⟩ := r9 _ _ _ _ _ _ _ h3
 obtain ⟨_, _, h4⟩ := hf _ (List.Mem.tail _ (List.Mem.tail _ (List.Mem.tail _ (List.Mem.tail _ (List.Mem.head _)))))
 obtain ⟨x4, r4, g4⟩ := Y2 _ _ _ _ _ _ _ h4
 exact ⟨⟨x0, x1, x2, x3, x4⟩, Sk (off := 0) (sz := 1) r0 (Sk (off := 1) (sz := 1) r1 (Sk (off := 2) (sz := 1) r2 (Sk (off := 3) (sz := 1) r3 (J3 (sz := 1) hl r4)))), g0, g1, g2, g3, g4⟩
theorem r7 : Fg ai 29 (List AD) (DH KM) := Eo Tryz.underlying29 rfl oM
theorem r8 : Fg ai 31 Frame Lq := by
 intro K enc W sp fuel cs d ps h
 obtain ⟨fu, hl, hf⟩ := Et Tryz.underlying31 h
 have hl : cs.length = 4 := hl
 obtain ⟨_, _, h0⟩ := hf _ (List.Mem.head _)
 obtain ⟨x0, r0, g0⟩ := r9 _ _ _ _ _ _ _ h0
 obtain ⟨_, _, h1⟩ := hf _ (List.Mem.tail _ (List.Mem.head _))
 obtain ⟨x1, r1, g1⟩ := kG _ _ _ _ _ _ _ h1
 obtain ⟨_, _, h2⟩ := hf _ (List.Mem.tail _ (List.Mem.tail _ (List.Mem.head _)))
 obtain ⟨x2, r2, g2⟩ := r6 _ _ _ _ _ _ _ h2
 obtain ⟨_, _, h3⟩ := hf _ (List.Mem.tail _ (List.Mem.tail _ (List.Mem.tail _ (List.Mem.head _))))
 obtain ⟨x3, r3, g3⟩ := r7 _ _ _ _ _ _ _ h3
 exact ⟨⟨x0, x1, x2, x3⟩, Sk (off := 0) (sz := 1) r0 (Sk (off := 1) (sz := 1) r1 (Sk (off := 2) (sz := 1) r2 (J3 (sz := 1) hl r3))), g0, g1, g2, g3⟩
theorem rA : Fg ai 57 BH IF := by
 intro K enc W sp fuel cs d ps h
 obtain ⟨fu, hl, hf⟩ := Et Tryz.underlying57 h
 have hl : cs.length = 3 := hl
 obtain ⟨_, _, h0⟩ := hf _ (List.Mem.head _)
 obtain ⟨x0, r0, g0⟩ := Y2 _ _ _ _ _ _ _ h0
 obtain ⟨_, _, h1⟩ := hf _ (List.Mem.tail _ (List.Mem.head _))
 obtain ⟨x1, r1, g1⟩ := Y2 _ _ _ _ _ _ _ h1
 obtain ⟨_, _, h2⟩ := hf _ (List.Mem.tail _ (List.Mem.tail _ (List.Mem.head _)))
 obtain ⟨x2, r2, g2⟩ := Y2 _ _ _ _ _ _ _ h2
 exact ⟨⟨x0, x1, x2⟩, Sk (off := 0) (sz := 1) r0 (Sk (off := 1) (sz := 1) r1 (J3 (sz := 1) hl r2)), g0, g1, g2⟩
theorem SE {x : List Int} {left : Int} (h0 : 0 ≤ left) (h1 : left ≤ 1048576) (hx : (DH Fi) x) : ∃ v, gH x left = some v ∧ v ≤ left ∧ (v < 0 ∨ (Gk (fun _ => True)) x) := by
 unfold gH
 obtain ⟨v, e1, e2, e3⟩ := OW (xs := x) h0 h1 hx.1
 exact ⟨v, e1, e2, e3.imp id fun h => ⟨h.1, fun _ _ => trivial⟩⟩
theorem WH {x : List Af} {left : Int} (h0 : 0 ≤ left) (h1 : left ≤ 1048576) (hx : (DH Ls) x) : ∃ v, XV x left = some v ∧ v ≤ left ∧ (v < 0 ∨ (Gk (fun _ => True)) x) := by
 unfold XV
 obtain ⟨v, e1, e2, e3⟩ := OW (xs := x) h0 h1 hx.1
 exact ⟨v, e1, e2, e3.imp id fun h => ⟨h.1, fun _ _ => trivial⟩⟩
theorem jI {x : CA} {left : Int} (h0 : 0 ≤ left) (h1 : left ≤ 1048576) (hx : Mu x) : ∃ v, lL x left = some v ∧ v ≤ left ∧ (v < 0 ∨ Ik x) := by
 unfold lL
 obtain ⟨v0, e0, a0, b0⟩ := SE (x := x.A0) (left := left) (by omega) (by omega) hx.1
 rw [e0, aa]
 rcases dg (decide (v0 < (0 : Int))) with hb0 | hb0
 ·rw [hb0]; exact ⟨_, rfl, by omega, .inl (by decide)⟩
 rw [hb0, cond_false]; simp only [decide_eq_false_iff_not] at hb0
 obtain ⟨v1, e1, a1, b1⟩ := WH (x := x.AJ) (left := v0) (by omega) (by omega) hx.2.1
 rw [e1, aa]
 rcases dg (decide (v1 < (0 : Int))) with hb1 | hb1
 ·rw [hb1]; exact ⟨_, rfl, by omega, .inl (by decide)⟩
 rw [hb1, cond_false]; simp only [decide_eq_false_iff_not] at hb1
 obtain ⟨v2, e2, a2, b2⟩ := WH (x := x.A7) (left := v1) (by omega) (by omega) hx.2.2.1
 rw [e2, aa]
 rcases dg (decide (v2 < (0 : Int))) with hb2 | hb2
 ·rw [hb2]; exact ⟨_, rfl, by omega, .inl (by decide)⟩
 rw [hb2, cond_false]; simp only [decide_eq_false_iff_not] at hb2
 obtain ⟨v3, e3, a3, b3⟩ := SE (x := x.Bl) (left := v2) (by omega) (by omega) hx.2.2.2.1
 rw [e3, aa]
 rcases dg (decide (v3 < (0 : Int))) with hb3 | hb3
 ·rw [hb3]; exact ⟨_, rfl, by omega, .inl (by decide)⟩
 rw [hb3, cond_false]; simp only [decide_eq_false_iff_not] at hb3
 obtain ⟨v4, e4, a4, b4⟩ := SE (x := x.Ci) (left := v3) (by omega) (by omega) hx.2.2.2.2
 rw [e4, aa]
 rcases dg (decide (v4 < (0 : Int))) with hb4 | hb4
 ·rw [hb4]; exact ⟨_, rfl, by omega, .inl (by decide)⟩
 rw [hb4, cond_false]; simp only [decide_eq_false_iff_not] at hb4
 exact ⟨_, rfl, by omega, .inr ⟨b0.resolve_left hb0, b1.resolve_left hb1, b2.resolve_left hb2, b3.resolve_left hb3, b4.resolve_left hb4⟩⟩
theorem iT {x : List CA} {left : Int} (h0 : 0 ≤ left) (h1 : left ≤ 1048576) (hx : (DH Mu) x) : ∃ v, mK x left = some v ∧ v ≤ left ∧ (v < 0 ∨ (Gk Ik) x) := by
 unfold mK
 refine TL (g := lL) (fit := Mu) (sm := Ik) (fun x l a b c => jI b c a) (fun l i x hi => ?_) (fun l => ?_) h0 h1 hx
 ·unfold SF
  simp only [Bf (Bi hi), cond_true, AE, hi, aa, aj]
 ·unfold SF
  simp only [Bd, cond_false, aj]
theorem V2 {x : List Bool} {left : Int} (h0 : 0 ≤ left) (h1 : left ≤ 1048576) (hx : (DH (fun _ => True)) x) : ∃ v, gI x left = some v ∧ v ≤ left ∧ (v < 0 ∨ (Gk (fun _ => True)) x) := by
 unfold gI
 obtain ⟨v, e1, e2, e3⟩ := OW (xs := x) h0 h1 hx.1
 exact ⟨v, e1, e2, e3.imp id fun h => ⟨h.1, fun _ _ => trivial⟩⟩
theorem iU {x : List (List Bool)} {left : Int} (h0 : 0 ≤ left) (h1 : left ≤ 1048576) (hx : (DH (DH (fun _ => True))) x) : ∃ v, mL x left = some v ∧ v ≤ left ∧ (v < 0 ∨ (Gk (Gk (fun _ => True))) x) := by
 unfold mL
 refine TL (g := gI) (fit := (DH (fun _ => True))) (sm := (Gk (fun _ => True))) (fun x l a b c => V2 b c a) (fun l i x hi => ?_) (fun l => ?_) h0 h1 hx
 ·unfold SG
  simp only [Bf (Bi hi), cond_true, AE, hi, aa, aj]
 ·unfold SG
  simp only [Bd, cond_false, aj]
theorem nE {x : AT} {left : Int} (h0 : 0 ≤ left) (h1 : left ≤ 1048576) (hx : ON x) : ∃ v, f6 x left = some v ∧ v ≤ left ∧ (v < 0 ∨ GR x) := by
 unfold f6
 obtain ⟨v0, e0, a0, b0⟩ := SE (x := x.A5) (left := left) (by omega) (by omega) hx.2.1
 rw [e0, aa]
 rcases dg (decide (v0 < (0 : Int))) with hb0 | hb0
 ·rw [hb0]; exact ⟨_, rfl, by omega, .inl (by decide)⟩
 rw [hb0, cond_false]; simp only [decide_eq_false_iff_not] at hb0
 obtain ⟨v1, e1, a1, b1⟩ := iT (x := x.A3) (left := v0) (by omega) (by omega) hx.2.2.1
 rw [e1, aa]
 rcases dg (decide (v1 < (0 : Int))) with hb1 | hb1
 ·rw [hb1]; exact ⟨_, rfl, by omega, .inl (by decide)⟩
 rw [hb1, cond_false]; simp only [decide_eq_false_iff_not] at hb1
 obtain ⟨v2, e2, a2, b2⟩ := iU (x := x.Bk) (left := v1) (by omega) (by omega) hx.2.2.2.1
 rw [e2, aa]
 rcases dg (decide (v2 < (0 : Int))) with hb2 | hb2
 ·rw [hb2]; exact ⟨_, rfl, by omega, .inl (by decide)⟩
 rw [hb2, cond_false]; simp only [decide_eq_false_iff_not] at hb2
 exact ⟨_, rfl, by omega, .inr ⟨b0.resolve_left hb0, b1.resolve_left hb1, b2.resolve_left hb2⟩⟩
theorem iV {x : List AZ} {left : Int} (h0 : 0 ≤ left) (h1 : left ≤ 1048576) (hx : (DH Lr) x) : ∃ v, mM x left = some v ∧ v ≤ left ∧ (v < 0 ∨ (Gk (fun _ => True)) x) := by
 unfold mM
 obtain ⟨v, e1, e2, e3⟩ := OW (xs := x) h0 h1 hx.1
 exact ⟨v, e1, e2, e3.imp id fun h => ⟨h.1, fun _ _ => trivial⟩⟩
theorem jJ {x : AD} {left : Int} (h0 : 0 ≤ left) (h1 : left ≤ 1048576) (hx : KM x) : ∃ v, lM x left = some v ∧ v ≤ left ∧ (v < 0 ∨ G6 x) := by
 unfold lM
 obtain ⟨v0, e0, a0, b0⟩ := V2 (x := x.Ac) (left := left) (by omega) (by omega) hx.2.2.1
 rw [e0, aa]
 rcases dg (decide (v0 < (0 : Int))) with hb0 | hb0
 ·rw [hb0]; exact ⟨_, rfl, by omega, .inl (by decide)⟩
 rw [hb0, cond_false]; simp only [decide_eq_false_iff_not] at hb0
 exact ⟨_, rfl, by omega, .inr (b0.resolve_left hb0)⟩
theorem iW {x : List AD} {left : Int} (h0 : 0 ≤ left) (h1 : left ≤ 1048576) (hx : (DH KM) x) : ∃ v, mN x left = some v ∧ v ≤ left ∧ (v < 0 ∨ (Gk G6) x) := by
 unfold mN
 refine TL (g := lM) (fit := KM) (sm := G6) (fun x l a b c => jJ b c a) (fun l i x hi => ?_) (fun l => ?_) h0 h1 hx
 ·unfold SI
  simp only [Bf (Bi hi), cond_true, AE, hi, aa, aj]
 ·unfold SI
  simp only [Bd, cond_false, aj]
theorem nL {x : Frame} {left : Int} (h0 : 0 ≤ left) (h1 : left ≤ 1048576) (hx : Lq x) : ∃ v, f7 x left = some v ∧ v ≤ left ∧ (v < 0 ∨ E5 x) := by
 unfold f7
 obtain ⟨v0, e0, a0, b0⟩ := V2 (x := x.B1) (left := left) (by omega) (by omega) hx.2.1
 rw [e0, aa]
 rcases dg (decide (v0 < (0 : Int))) with hb0 | hb0
 ·rw [hb0]; exact ⟨_, rfl, by omega, .inl (by decide)⟩
 rw [hb0, cond_false]; simp only [decide_eq_false_iff_not] at hb0
 obtain ⟨v1, e1, a1, b1⟩ := iV (x := x.A1) (left := v0) (by omega) (by omega) hx.2.2.1
 rw [e1, aa]
 rcases dg (decide (v1 < (0 : Int))) with hb1 | hb1
 ·rw [hb1]; exact ⟨_, rfl, by omega, .inl (by decide)⟩
 rw [hb1, cond_false]; simp only [decide_eq_false_iff_not] at hb1
 obtain ⟨v2, e2, a2, b2⟩ := iW (x := x.A3) (left := v1) (by omega) (by omega) hx.2.2.2
 rw [e2, aa]
 rcases dg (decide (v2 < (0 : Int))) with hb2 | hb2
 ·rw [hb2]; exact ⟨_, rfl, by omega, .inl (by decide)⟩
 rw [hb2, cond_false]; simp only [decide_eq_false_iff_not] at hb2
 exact ⟨_, rfl, by omega, .inr ⟨b0.resolve_left hb0, b1.resolve_left hb1, b2.resolve_left hb2⟩⟩
theorem SL {x : List Int} (hx : (Gk (fun _ => True)) x) : gJ x = some x := by
 have hl := hx.1
 unfold gJ
 rw [FM (by omega), aa]
 have := V9 x (fun y => y) (0 : Int) (F := Oy x) (fun ys i y hi hy => ?_) (fun ys => ?_)
 ·rw [iy] at this; exact this
 ·have hlt := Bi hi
  unfold Oy
  simp only [Bf (Bi hi), cond_true, AE, hi, aa]
  rw [ae (by omega), aa, AS (by omega)]
  rfl
 ·unfold Oy
  simp only [Bd, cond_false, aj]
theorem cJ {x : Af} (hx : (fun _ => True) x) : Yw x = some x := by
 unfold Yw
 rfl
theorem WI {x : List Af} (hx : (Gk (fun _ => True)) x) : XW x = some x := by
 have hl := hx.1
 unfold XW
 rw [FM (by omega), aa]
 have := V9 x (fun y => y) (⟨0, 0⟩ : Af) (F := La x) (fun ys i y hi hy => ?_) (fun ys => ?_)
 ·rw [iy] at this; exact this
 ·have hlt := Bi hi
  unfold La
  have hg := cJ (x := y) (hx.2 _ (bj hi))
  simp only [Bf (Bi hi), cond_true, AE, hi, aa, hg]
  rw [ae (by omega), aa, AS (by omega)]
  rfl
 ·unfold La
  simp only [Bd, cond_false, aj]
theorem jL {x : CA} (hx : Ik x) : nH x = some x := by
 unfold nH
 rw [SL (x := x.A0) hx.1, WI (x := x.AJ) hx.2.1, WI (x := x.A7) hx.2.2.1, SL (x := x.Bl) hx.2.2.2.1, SL (x := x.Ci) hx.2.2.2.2]
 rfl
theorem iX {x : List CA} (hx : (Gk Ik) x) : mP x = some x := by
 have hl := hx.1
 unfold mP
 rw [FM (by omega), aa]
 have := V9 x (fun y => y) (⟨[], [], [], [], []⟩ : CA) (F := Oz x) (fun ys i y hi hy => ?_) (fun ys => ?_)
 ·rw [iy] at this; exact this
 ·have hlt := Bi hi
  unfold Oz
  have hg := jL (x := y) (hx.2 _ (bj hi))
  simp only [Bf (Bi hi), cond_true, AE, hi, aa, hg]
  rw [ae (by omega), aa, AS (by omega)]
  rfl
 ·unfold Oz
  simp only [Bd, cond_false, aj]
theorem V3 {x : List Bool} (hx : (Gk (fun _ => True)) x) : iZ x = some x := by
 have hl := hx.1
 unfold iZ
 rw [FM (by omega), aa]
 have := V9 x (fun y => y) (false : Bool) (F := P1 x) (fun ys i y hi hy => ?_) (fun ys => ?_)
 ·rw [iy] at this; exact this
 ·have hlt := Bi hi
  unfold P1
  simp only [Bf (Bi hi), cond_true, AE, hi, aa]
  rw [ae (by omega), aa, AS (by omega)]
  rfl
 ·unfold P1
  simp only [Bd, cond_false, aj]
theorem iY {x : List (List Bool)} (hx : (Gk (Gk (fun _ => True))) x) : mQ x = some x := by
 have hl := hx.1
 unfold mQ
 rw [FM (by omega), aa]
 have := V9 x (fun y => y) ([] : List Bool) (F := P0 x) (fun ys i y hi hy => ?_) (fun ys => ?_)
 ·rw [iy] at this; exact this
 ·have hlt := Bi hi
  unfold P0
  have hg := V3 (x := y) (hx.2 _ (bj hi))
  simp only [Bf (Bi hi), cond_true, AE, hi, aa, hg]
  rw [ae (by omega), aa, AS (by omega)]
  rfl
 ·unfold P0
  simp only [Bd, cond_false, aj]
theorem nS {x : AT} (hx : GR x) : f9 x = some x := by
 unfold f9
 rw [SL (x := x.A5) hx.1, iX (x := x.A3) hx.2.1, iY (x := x.Bk) hx.2.2]
 rfl
theorem jM {x : AZ} (hx : (fun _ => True) x) : nI x = some x := by
 unfold nI
 rfl
theorem j7 {x : List AZ} (hx : (Gk (fun _ => True)) x) : mR x = some x := by
 have hl := hx.1
 unfold mR
 rw [FM (by omega), aa]
 have := V9 x (fun y => y) (⟨0, 0⟩ : AZ) (F := P2 x) (fun ys i y hi hy => ?_) (fun ys => ?_)
 ·rw [iy] at this; exact this
 ·have hlt := Bi hi
  unfold P2
  have hg := jM (x := y) (hx.2 _ (bj hi))
  simp only [Bf (Bi hi), cond_true, AE, hi, aa, hg]
  rw [ae (by omega), aa, AS (by omega)]
  rfl
 ·unfold P2
  simp only [Bd, cond_false, aj]
theorem jN {x : AD} (hx : G6 x) : nJ x = some x := by
 unfold nJ
 rw [V3 (x := x.Ac) hx]
 rfl
theorem j8 {x : List AD} (hx : (Gk G6) x) : mS x = some x := by
 have hl := hx.1
 unfold mS
 rw [FM (by omega), aa]
 have := V9 x (fun y => y) (⟨0, 0, [], false, 0⟩ : AD) (F := P3 x) (fun ys i y hi hy => ?_) (fun ys => ?_)
 ·rw [iy] at this; exact this
 ·have hlt := Bi hi
  unfold P3
  have hg := jN (x := y) (hx.2 _ (bj hi))
  simp only [Bf (Bi hi), cond_true, AE, hi, aa, hg]
  rw [ae (by omega), aa, AS (by omega)]
  rfl
 ·unfold P3
  simp only [Bd, cond_false, aj]
theorem iN {x : Frame} (hx : E5 x) : gE x = some x := by
 unfold gE
 rw [V3 (x := x.B1) hx.1, j7 (x := x.A1) hx.2.1, j8 (x := x.A3) hx.2.2]
 rfl
theorem iQ {x : BH} (hx : (fun _ => True) x) : iP x = some x := by
 unfold iP
 rfl
theorem SB {x : List Int} (hx : (Gk (fun _ => True)) x) : gF x x = some true := by
 unfold gF
 simp only [bne_self_eq_false, cond_false]
 refine Kr (F := Ot x x) hx.1 (fun i y hi => ?_) ?_
 ·unfold Ot
  simp only [Bf (Bi hi), cond_true, AE, hi, aa, bne_self_eq_false, beq_self_eq_true, da, cond_false]
 ·unfold Ot
  simp only [Bd, cond_false, aj]
theorem cK {x : Af} (hx : (fun _ => True) x) : Z2 x x = some true := by
 unfold Z2
 simp only [bne_self_eq_false, beq_self_eq_true, da, cond_false]
theorem WJ {x : List Af} (hx : (Gk (fun _ => True)) x) : XX x x = some true := by
 unfold XX
 simp only [bne_self_eq_false, cond_false]
 refine Kr (F := Lf x x) hx.1 (fun i y hi => ?_) ?_
 ·unfold Lf
  have hg := cK (x := y) (hx.2 _ (bj hi))
  simp only [Bf (Bi hi), cond_true, AE, hi, aa, hg, da, cond_false]
 ·unfold Lf
  simp only [Bd, cond_false, aj]
theorem jQ {x : CA} (hx : Ik x) : nM x x = some true := by
 unfold nM
 simp only [bne_self_eq_false, beq_self_eq_true, da, cond_false, SB (x := x.A0) hx.1, WJ (x := x.AJ) hx.2.1, WJ (x := x.A7) hx.2.2.1, SB (x := x.Bl) hx.2.2.2.1, SB (x := x.Ci) hx.2.2.2.2, aa]
theorem j9 {x : List CA} (hx : (Gk Ik) x) : mU x x = some true := by
 unfold mU
 simp only [bne_self_eq_false, cond_false]
 refine Kr (F := P5 x x) hx.1 (fun i y hi => ?_) ?_
 ·unfold P5
  have hg := jQ (x := y) (hx.2 _ (bj hi))
  simp only [Bf (Bi hi), cond_true, AE, hi, aa, hg, da, cond_false]
 ·unfold P5
  simp only [Bd, cond_false, aj]
theorem V4 {x : List Bool} (hx : (Gk (fun _ => True)) x) : jB x x = some true := by
 unfold jB
 simp only [bne_self_eq_false, cond_false]
 refine Kr (F := P7 x x) hx.1 (fun i y hi => ?_) ?_
 ·unfold P7
  simp only [Bf (Bi hi), cond_true, AE, hi, aa, bne_self_eq_false, beq_self_eq_true, da, cond_false]
 ·unfold P7
  simp only [Bd, cond_false, aj]
theorem jA {x : List (List Bool)} (hx : (Gk (Gk (fun _ => True))) x) : mV x x = some true := by
 unfold mV
 simp only [bne_self_eq_false, cond_false]
 refine Kr (F := P6 x x) hx.1 (fun i y hi => ?_) ?_
 ·unfold P6
  have hg := V4 (x := y) (hx.2 _ (bj hi))
  simp only [Bf (Bi hi), cond_true, AE, hi, aa, hg, da, cond_false]
 ·unfold P6
  simp only [Bd, cond_false, aj]
theorem iO {x : AT} (hx : GR x) : mG x x = some true := by
 unfold mG
 simp only [bne_self_eq_false, beq_self_eq_true, da, cond_false, SB (x := x.A5) hx.1, j9 (x := x.A3) hx.2.1, jA (x := x.Bk) hx.2.2, aa]
theorem jR {x : AZ} (hx : (fun _ => True) x) : nN x x = some true := by
 unfold nN
 simp only [bne_self_eq_false, beq_self_eq_true, da, cond_false]
theorem jC {x : List AZ} (hx : (Gk (fun _ => True)) x) : mW x x = some true := by
 unfold mW
 simp only [bne_self_eq_false, cond_false]
 refine Kr (F := P8 x x) hx.1 (fun i y hi => ?_) ?_
 ·unfold P8
  have hg := jR (x := y) (hx.2 _ (bj hi))
  simp only [Bf (Bi hi), cond_true, AE, hi, aa, hg, da, cond_false]
 ·unfold P8
  simp only [Bd, cond_false, aj]
theorem jS {x : AD} (hx : G6 x) : nO x x = some true := by
 unfold nO
 simp only [bne_self_eq_false, beq_self_eq_true, da, cond_false, V4 (x := x.Ac) hx, aa]
theorem jD {x : List AD} (hx : (Gk G6) x) : mX x x = some true := by
 unfold mX
 simp only [bne_self_eq_false, cond_false]
 refine Kr (F := P9 x x) hx.1 (fun i y hi => ?_) ?_
 ·unfold P9
  have hg := jS (x := y) (hx.2 _ (bj hi))
  simp only [Bf (Bi hi), cond_true, AE, hi, aa, hg, da, cond_false]
 ·unfold P9
  simp only [Bd, cond_false, aj]
theorem Z6 {x : Frame} (hx : E5 x) : lF x x = some true := by
 unfold lF
 simp only [bne_self_eq_false, beq_self_eq_true, da, cond_false, V4 (x := x.B1) hx.1, jC (x := x.A1) hx.2.1, jD (x := x.A3) hx.2.2, aa]
theorem iS {x : Aq} (hx : Dp x) : iR x x = some true := by
 unfold iR
 simp only [bne_self_eq_false, beq_self_eq_true, da, cond_false, Z6 (x := x.Frame) hx, aa]
def Bh {ρ : Type} (n : Nat) (b : Nat → Option ρ) (e : Option ρ) : Option ρ := match (bt n).findSome? b with | some r => some r | none => e
theorem Gd {ρ : Type} {n : Nat} {b : Nat → Option ρ} {e : Option ρ} (h : ∀ i, i < n → b i = none) : Bh n b e = e := by
 unfold Bh
 rw [lq.2 (fun x hx => h x (cr.1 hx))]
theorem Ge {ρ : Type} {n : Nat} {b : Nat → Option ρ} {e : Option ρ} {i : Nat} {r : ρ} (hi : i < n) (h : ∀ j, j < i → b j = none) (hr : b i = some r) : Bh n b e = some r := by
 unfold Bh
 have e1 : n = i + ((n - i - 1) + 1) := by omega
 have h0 : (bt i).findSome? b = none := lq.2 fun x hx => h x (cr.1 hx)
 rw [e1, List.range_add, List.findSome?_append, h0, List.range_succ_eq_map]
 simp [hr]
theorem Js {ρ : Type} (n : Nat) (b : Nat → Option ρ) : (∀ i, i < n → b i = none) ∨ ∃ i r, i < n ∧ (∀ j, j < i → b j = none) ∧ b i = some r := by
 induction n with
 | zero => exact .inl (fun i hi => by omega)
 | succ n ih =>
  rcases ih with h | ⟨i, r, h1, h2, h3⟩
  ·cases hb : b n with
   | none =>
    refine .inl (fun i hi => ?_)
    rcases bz i n with hl | hl
    ·exact h i hl
    ·have : i = n := by omega
     subst this; exact hb
   | some r => exact .inr ⟨n, r, by omega, h, hb⟩
  ·exact .inr ⟨i, r, by omega, h2, h3⟩
theorem BB {σ ρ : Type} {F : σ → Option (σ ⊕ ρ)} (n : Nat) (st : Nat → σ) (b : Nat → Option ρ) (e : Option ρ) (h : ∀ i, i < n → (∀ j, j < i → b j = none) → F (st i) = some ((b i).elim (.inl (st (i + 1))) .inr)) (hend : (∀ j, j < n → b j = none) → F (st n) = e.map .inr) : AG F (st 0) = Bh n b e := by
 have key : ∀ k i, i + k = n → (∀ j, j < i → b j = none) → AG F (st i) = Bh n b e := by
  intro k
  induction k with
  | zero =>
   intro i hi hb
   have : i = n := by omega
   subst this
   rw [Be, hend hb, Gd hb]
   cases e <;> rfl
  | succ k ih =>
   intro i hi hb
   rw [Be, h i (by omega) hb]
   cases hr : b i with
   | some r => rw [Ge (by omega) hb hr]; rfl
   | none =>
    simp only [aa, Option.elim]
    refine ih (i + 1) (by omega) (fun j hj => ?_)
    rcases bz j i with hl | hl
    ·exact hb j hl
    ·have : j = i := by omega
     subst this; exact hr
 exact key n 0 (by omega) (fun j hj => by omega)
section
variable {κ ν : Type} [DecidableEq κ]
theorem Q8 {k : κ} : ∀ {m : List (κ × ν)} {i : Nat}, Dm k m i = none → ∀ j, Dm k m j = none
 | [], _, _, _ => rfl
 | e :: m, i, h, j => by
  unfold Dm at h ⊢
  split at h
  ·cases h
  ·rename_i hk; rw [if_neg hk]; exact Q8 h (j + 1)
theorem GP (k : κ) (e : κ × ν) (m : List (κ × ν)) (z : ν) : K1 k (e :: m) z = if k = e.1 then e.2 else K1 k m z := by
 by_cases hk : k = e.1
 ·rw [if_pos hk]
  unfold K1 Dm
  rw [if_pos hk]
 ·rw [if_neg hk]
  unfold K1
  have h0 : Dm k (e :: m) 0 = Dm k m (0 + 1) := by rw [Dm, if_neg hk]
  rw [h0]
  have key : ∀ (m : List (κ × ν)) i j, (Dm k m i).map (·.2) = (Dm k m j).map (·.2) := by
   intro m
   induction m with
   | nil => intro i j; rfl
   | cons e m ih =>
    intro i j
    unfold Dm
    split
    ·rfl
    ·exact ih _ _
  have := key m (0 + 1) 0
  cases h1 : Dm k m (0 + 1) <;> cases h2 : Dm k m 0 <;> rw [h1, h2] at this <;> simp_all
theorem Nk (k k' : κ) (v : ν) (z : ν) : ∀ (m : List (κ × ν)), Dm k' m 0 = none → K1 k (m ++ [(k', v)]) z = if k = k' then v else K1 k m z
 | [], _ => by rw [dr, GP]
 | e :: m, h => by
  have h' : k' ≠ e.1 ∧ Dm k' m 0 = none := by
   unfold Dm at h
   split at h
   ·cases h
   ·rename_i hk; exact ⟨hk, Q8 h 0⟩
  rw [List.cons_append, GP, Nk k k' v z m h'.2, GP]
  by_cases h1 : k = e.1
  ·rw [if_pos h1, if_pos h1, if_neg (fun (h2 : k = k') => h'.1 (h2 ▸ h1))]
  ·rw [if_neg h1, if_neg h1]
theorem Q9 (k k' : κ) (v : ν) (z : ν) : ∀ (m : List (κ × ν)) (n i : Nat) (x : ν), Dm k' m n = some (n + i, x) → K1 k (m.set i (k', v)) z = if k = k' then v else K1 k m z
 | [], _, _, _, h => by cases h
 | e :: m, n, i, x, h => by
  unfold Dm at h
  split at h
  ·rename_i hk
   simp only [ab, Prod.mk.injEq] at h
   have : i = 0 := by omega
   subst this
   rw [List.set_cons_zero, GP, GP, hk]
   by_cases h1 : k = e.1
   ·rw [if_pos h1, if_pos h1]
   ·rw [if_neg h1, if_neg h1, if_neg h1]
  ·rename_i hk
   have hi := (RT h).1
   simp only [] at hi
   obtain ⟨i', rfl⟩ : ∃ i', i = i' + 1 := ⟨i - 1, by omega⟩
   rw [List.set_cons_succ, GP, Q9 k k' v z m (n + 1) i' x (by rw [h]; congr 2; omega), GP]
   by_cases h1 : k = e.1
   ·rw [if_pos h1, if_pos h1, if_neg (fun (h2 : k = k') => hk (h2 ▸ h1))]
   ·rw [if_neg h1, if_neg h1]
theorem Xn (k k' : κ) (v z : ν) (m : List (κ × ν)) : K1 k (Qs k' v m) z = if k = k' then v else K1 k m z := by
 unfold Qs
 cases h : Dm k' m 0 with
 | none => exact Nk k k' v z m h
 | some x =>
  obtain ⟨i, y⟩ := x
  exact Q9 k k' v z m 0 i y (by rw [h, Nat.zero_add])
end
theorem EL {ρ : Type} (n : Nat) (p : Nat → Bool) (r : ρ) (e : Option ρ) : Bh n (fun i => bif p i then some r else none) e = bif (bt n).any p then some r else e := by
 rcases Js n (fun i => bif p i then some r else none) with h | ⟨i, r', hi, hj, hr⟩
 ·rw [Gd h]
  have : (bt n).any p = false := by
   rw [fc]
   intro x hx
   have := h x (cr.1 hx)
   cases hp : p x <;> simp_all
  rw [this]; rfl
 ·rw [Ge hi hj hr]
  have hp : p i = true := by cases hp : p i <;> simp_all
  have : (bt n).any p = true := ea.2 ⟨i, cr.2 hi, hp⟩
  rw [this]
  simp_all
theorem VA (n : Nat) (p : Nat → Bool) (e : Bool) : Bh n (fun i => bif p i then none else some false) (some e) = some ((bt n).all p && e) := by
 have : (fun i => bif p i then (none : Option Bool) else some false) = fun i => bif !p i then some false else none := by funext i; cases p i <;> rfl
 rw [this, EL]
 have : ((bt n).any fun i => !p i) = !((bt n).all p) := by rw [mc]
 rw [this]
 cases (bt n).all p <;> rfl
theorem Fh {ρ : Type} (n : Nat) (b : Nat → Option ρ) {e : Option ρ} (h : ∃ r, e = some r) : ∃ r, Bh n b e = some r := by
 unfold Bh
 split
 ·exact ⟨_, rfl⟩
 ·exact h
theorem J1 {ρ : Type} {n : Nat} {b b' : Nat → Option ρ} {e e' : Option ρ} (h : ∀ i, i < n → b i = b' i) (he : (∀ i, i < n → b i = none) → e = e') : Bh n b e = Bh n b' e' := by
 rcases Js n b with h1 | ⟨i, r, hi, hj, hr⟩
 ·rw [Gd h1, Gd (fun i hi => by rw [← h i hi]; exact h1 i hi)]; exact he h1
 ·rw [Ge hi hj hr, Ge hi (fun j hl => by rw [← h j (by omega)]; exact hj j hl) (by rw [← h i hi]; exact hr)]
theorem GM {α : Type} (b : Bool) (x y : α) : (bif b then some x else some y) = some (bif b then x else y) := by cases b <;> rfl
theorem ED {α : Type} (xs : List α) (g : α → Bool) : ∀ i, ((bt i).any fun j => (xs[j]?).any g) = (xs.take i).any g
 | 0 => by simp
 | i + 1 => by
  rw [List.range_succ, kc, ED xs g i, gv, kc, jg, jk, gq]
  cases xs[i]? <;> simp [Option.any]
theorem VB {α β : Type} (g : β → α → β) (a : β) {xs : List α} {i : Nat} {x : α} (h : xs[i]? = some x) : (xs.take (i + 1)).foldl g a = g ((xs.take i).foldl g a) x := by
 rw [gv, jf, h]; rfl
theorem EM {ρ : Type} {n : Nat} {b : Nat → Option ρ} {e : Option ρ} {r : ρ} (h : Bh n b e = some r) : (∃ i, i < n ∧ b i = some r) ∨ ((∀ i, i < n → b i = none) ∧ e = some r) := by
 rcases Js n b with h1 | ⟨i, r', hi, hj, hr⟩
 ·rw [Gd h1] at h; exact .inr ⟨h1, h⟩
 ·rw [Ge hi hj hr] at h; exact .inl ⟨i, hi, hr.trans h⟩
theorem Fw {α : Type} {b : Bool} {x y : α} (h : (bif b then some x else none) = some y) : b = true ∧ x = y := by
 cases b
 ·cases h
 ·exact ⟨rfl, by simpa using h⟩
theorem Fv {α : Type} {b : Bool} {x : α} (h : (bif b then some x else none) = none) : b = false := by
 cases b
 ·rfl
 ·cases h
theorem HA {α : Type} (xs : List α) (p : α → Bool) (e : Option Int) (he : e = some (-1)) : (Bh xs.length (fun i => bif (xs[i]?).any p then some (i : Int) else none) e).bind (fun v => some (decide (v ≥ (0:Int)))) = some (xs.any p) := by
 subst he
 obtain ⟨r, hr⟩ := Fh xs.length (fun i => bif (xs[i]?).any p then some (i : Int) else none) (e := some (-1)) ⟨_, rfl⟩
 rw [hr, aa]
 have ht := ED xs p xs.length
 rw [er] at ht
 rw [← ht]
 rcases EM hr with ⟨i, hi, h⟩ | ⟨h, h2⟩
 ·obtain ⟨h3, rfl⟩ := Fw h
  congr 1
  rw [fx, decide_eq_true_eq, ea]
  exact ⟨fun _ => ⟨i, cr.2 hi, h3⟩, fun _ => by omega⟩
 ·have : r = -1 := by simpa using h2.symm
  subst this
  congr 1
  rw [fx, decide_eq_true_eq, ea]
  constructor
  ·intro h; omega
  ·rintro ⟨i, hi, h3⟩
   have := Fv (h i (cr.1 hi))
   rw [h3] at this; cases this
theorem ZT {xs : List Int} (hl : xs.length ≤ 1048576) (v : Int) : jP xs v = Bh xs.length (fun i => bif (xs[i]?).any (fun y => decide (v = y)) then some (i : Int) else none) (some (-1)) := by
 unfold jP
 refine BB xs.length (fun i => (i : Int)) _ _ (fun i hi _ => ?_) (fun _ => ?_)
 ·unfold Sb
  simp only [Bf hi, cond_true, AE, ae hi, aa, bx, AS (show i < 9223372036854775807 by omega)]
  by_cases hc : v = xs[i]
  ·rw [decide_eq_true hc, beq_iff_eq.2 hc]; rfl
  ·rw [decide_eq_false hc, beq_eq_false_iff_ne.2 hc]; rfl
 ·unfold Sb
  simp only [Bd, cond_false]
theorem IT {xs : List Int} (hl : xs.length ≤ 1048576) (v : Int) : eD xs v = some (xs.any fun y => decide (v = y)) := by
 unfold eD
 rw [ZT hl]
 exact HA xs _ _ rfl
theorem HS {F : Int → Option (Int ⊕ Bool)} (n : Nat) (p : Nat → Bool) (e : Bool) (hn : n < 9223372036854775807) (h : ∀ i, i < n → (∀ j, j < i → p j = true) → F (i : Int) = some (bif p i then .inl ((i + 1 : Nat) : Int) else .inr false)) (hend : (∀ j, j < n → p j = true) → F (n : Int) = some (.inr e)) : AG F (0 : Int) = some ((bt n).all p && e) := by
 have : AG F (((0 : Nat)) : Int) = Bh n (fun i => bif p i then none else some false) (some e) := by
  refine BB n (fun i => (i : Int)) _ _ (fun i hi hj => ?_) (fun hj => ?_)
  ·rw [h i hi (fun j hl => by have := hj j hl; cases hp : p j <;> simp_all)]
   cases p i <;> rfl
  ·rw [hend (fun j hl => by have := hj j hl; cases hp : p j <;> simp_all)]; rfl
 rw [show (0 : Int) = (((0 : Nat)) : Int) from rfl, this, VA]
theorem RZ {α : Type} (xs : List α) (p : Nat → Bool) (q : α → Bool) (h : ∀ (i : Nat) (x : α), xs[i]? = some x → p i = q x) : (bt xs.length).all p = xs.all q := by
 rw [fx, cj, cj]
 constructor
 ·intro hp x hx
  obtain ⟨i, hi, rfl⟩ := ij hx
  rw [← h i _ (ae hi)]
  exact hp i (cr.2 hi)
 ·intro hq i hi
  have hi := cr.1 hi
  rw [h i _ (ae hi)]
  exact hq _ (bg hi)
theorem Jv (x a b : Int) : Qc x a b = some (decide (x ≥ a) && decide (x ≤ b)) := rfl
theorem Fc (x a b : Int) : RD x a b = some (decide (x ≥ a) && decide (x ≤ b)) := rfl
def II {α : Type} (k : α → Int) (ok : α → Bool) : List Int → List α → Bool
 | _, [] => true
 | seen, x :: r => ok x && !(seen.any fun y => decide (y = k x)) && II k ok (seen ++ [k x]) r
theorem K3 {α : Type} (k : α → Int) (ok : α → Bool) : ∀ (r : List α) (seen : List Int), II k ok seen r = true ↔ (∀ x ∈ r, ok x = true) ∧ (r.map k).Nodup ∧ ∀ x ∈ r, k x ∉ seen
 | [], seen => by simp [II]
 | x :: r, seen => by
  unfold II
  rw [ar, ar, K3 k ok r, eb, fc]
  simp only [decide_eq_true_eq, bq, dj, dp, aq, bh, lf, or_false, du, forall_eq_or_imp, not_or, not_exists, not_and]
  constructor
  ·rintro ⟨⟨h1, h2⟩, h3, h4, h5⟩
   exact ⟨⟨h1, h3⟩, ⟨fun y hy e => (h5 y hy).2 e, h4⟩, fun hm => h2 _ hm rfl, fun y hy => (h5 y hy).1⟩
  ·rintro ⟨⟨h1, h3⟩, ⟨h6, h4⟩, h2, h5⟩
   exact ⟨⟨h1, fun y hy e => h2 (e ▸ hy)⟩, h3, h4, fun y hy => ⟨h5 y hy, fun e => h6 y hy e⟩⟩
theorem LD {α : Type} (k : α → Int) (ok : α → Bool) (xs : List α) : (bt xs.length).all (fun i => (xs[i]?).all fun x => ok x && !((xs.take i).any fun y => decide (k y = k x))) = II k ok [] xs := by
 have key : ∀ (r : List α) (i : Nat), xs.drop i = r → II k ok ((xs.take i).map k) r = (List.range' i r.length).all (fun i => (xs[i]?).all fun x => ok x && !((xs.take i).any fun y => decide (k y = k x))) := by
  intro r
  induction r with
  | nil => intro i _; rfl
  | cons x r ih =>
   intro i hr
   have hlt : i < xs.length := by
    rcases bz i xs.length with hl | hl
    ·exact hl
    ·rw [ka hl] at hr; cases hr
   rw [js hlt] at hr
   simp only [ep] at hr
   have hx : xs[i]? = some x := by rw [ae hlt, hr.1]
   rw [List.length_cons, List.range'_succ, List.all_cons, ← ih (i + 1) hr.2, hx]
   simp only [II, ik]
   rw [gv, hx, eh, og]
   rfl
 have := key xs 0 rfl
 rw [kr, List.map_nil] at this
 rw [this, List.range_eq_range']
theorem JB (a b : List Int) (ha : a.length ≤ 1048576) (hb : b.length ≤ 1048576) : ZF a b = some (a.any fun x => b.any fun y => decide (x = y)) := by
 unfold ZF
 refine Zf a (fun x => b.any fun y => decide (x = y)) (fun i x hx => ?_) ?_
 ·have hi := Bi hx
  unfold Sd
  simp only [Bf hi, cond_true, AE, hx, aa]
  have h2 : ∀ (r : List Int) (k : Nat), b.drop k = r → k ≤ b.length → AG (PV b (i : Int) x) (k : Int) = some (bif r.any (fun y => decide (x = y)) then .inr true else .inl ((i + 1 : Nat) : Int)) := by
   intro r
   induction r with
   | nil =>
    intro k hr hk
    have hk' : k = b.length := by have := mo.1 hr; omega
    subst hk'
    rw [Be]
    unfold PV
    simp only [Bd, cond_false, AS (show i < 9223372036854775807 by omega)]
    rfl
   | cons y r ih =>
    intro k hr hk
    have hlt : k < b.length := by
     rcases bz k b.length with hl | hl
     ·exact hl
     ·rw [ka hl] at hr; cases hr
    rw [js hlt] at hr
    simp only [ep] at hr
    have hg : b[k]? = some y := by rw [ae hlt, hr.1]
    rw [Be]
    unfold PV
    simp only [Bf hlt, cond_true, AE, hg, aa, AS (show k < 9223372036854775807 by omega), jg]
    by_cases hc : x = y
    ·rw [decide_eq_true hc, beq_iff_eq.2 hc]; rfl
    ·rw [decide_eq_false hc, beq_eq_false_iff_ne.2 hc]
     simp only [cond_false, aa, il]
     exact ih (k + 1) hr.2 hlt
  exact h2 b 0 rfl (dq _)
 ·unfold Sd
  simp only [Bd, cond_false, aj]
theorem KG (a b : List Int) (ha : a.length ≤ 1048576) (hb : b.length ≤ 1048576) : gM a b = some (a.any fun x => b.any fun y => decide (x = y)) := by
 unfold gM Lg
 have h1 : Jl a b = Bh a.length (fun i => bif (a[i]?).any (fun x => b.any fun y => decide (x = y)) then some (i : Int) else none) (some (-1)) := by
  unfold Jl
  refine BB a.length (fun i => (i : Int)) _ _ (fun i hi _ => ?_) (fun _ => ?_)
  ·unfold Hs cH
   simp only [Bf hi, cond_true, AE, ae hi, aa, IT hb, bx, AS (show i < 9223372036854775807 by omega)]
   cases (b.any fun y => decide (a[i] = y)) <;> rfl
  ·unfold Hs
   simp only [Bd, cond_false]
 rw [h1]
 have := HA a (fun x => b.any fun y => decide (x = y)) (some (-1)) rfl
 rw [this]; rfl
def RI (n : Int) (x : Int) : Bool := decide (x ≥ (0:Int)) && decide (x ≤ BE (n - 1))
def lB (l : List Int) (n : Int) : Bool := II (fun x => x) (RI n) [] l && decide ((l.length : Int) ≤ (30:Int))
theorem UX {α : Type} (xs : List α) (i : Nat) (hi : i ≤ xs.length) (p : α → Bool) {F : Int → Option (Int ⊕ (Int ⊕ Bool))} {i' : Int} (hn : xs.length < 9223372036854775807) (h : ∀ (k : Nat) (y : α), k < i → xs[k]? = some y → F (k : Int) = some (bif p y then .inr (.inr false) else .inl ((k + 1 : Nat) : Int))) (hend : F (i : Int) = some (.inr (.inl i'))) : AG F (0 : Int) = some (bif (xs.take i).any p then .inr false else .inl i') := by
 have h1 : AG F (((0 : Nat)) : Int) = Bh i (fun k => bif (xs[k]?).any p then some (.inr false) else none) (some (.inl i')) := by
  refine BB i (fun k => (k : Int)) _ _ (fun k hk _ => ?_) (fun _ => hend)
  have hg := ae (show k < xs.length by omega)
  rw [h k _ hk hg, hg, bx]
  cases p xs[k] <;> rfl
 rw [show (0 : Int) = (((0 : Nat)) : Int) from rfl, h1, EL, ED]
 cases (xs.take i).any p <;> rfl
theorem N4 (l : List Int) (n : Int) (hl : l.length ≤ 1048576) : V0 l n = some (lB l n) := by
 unfold V0 lB
 rw [← LD]
 refine HS l.length _ _ (by omega) (fun i hi _ => ?_) (fun _ => ?_)
 ·have hg := ae hi
  unfold OB
  simp only [Bf hi, cond_true, AE, hg, aa, Jv, ik]
  rw [show (decide (l[i] ≥ (0:Int)) && decide (l[i] ≤ BE (n - 1))) = RI n l[i] from rfl]
  cases RI n l[i] with
  | false => rfl
  | true =>
   simp only [da, cond_false, fj]
   rw [UX l i (jv hi) (fun y => decide (y = l[i])) (i' := ((i + 1 : Nat) : Int)) (by omega) (fun k y hk hy => ?_) ?_]
   ·cases ((l.take i).any fun y => decide (y = l[i])) <;> rfl
   rotate_left
   ·unfold OC
    simp only [Bf hk, cond_true, AE, hy, aa, AS (show k < 9223372036854775807 by omega)]
    by_cases hc : y = l[i]
    ·rw [decide_eq_true hc, beq_iff_eq.2 hc]; rfl
    ·rw [decide_eq_false hc, beq_eq_false_iff_ne.2 hc]; rfl
   ·unfold OC
    simp only [Bd, cond_false, AS (show i < 9223372036854775807 by omega)]
    rfl
 ·unfold OB
  simp only [Bd, cond_false, aj]
theorem Rg {α : Type} {xs : List α} {i : Nat} (hi : i ≤ xs.length) : TJ xs (0:Int) (i : Int) = some (xs.take i) := by
 unfold TJ
 rw [if_pos ⟨by omega, by omega, by omega⟩]
 simp
theorem N3 (l : List Int) (n : Int) (hl : l.length ≤ 1048576) : V1 l n = some (lB l n) := by
 unfold V1 lB
 rw [← LD]
 refine HS l.length _ _ (by omega) (fun i hi _ => ?_) (fun _ => ?_)
 ·have hg := ae hi
  unfold OG
  simp only [Bf hi, cond_true, AE, hg, aa, Fc, ik, Rg (jv hi), IT (xs := l.take i) (by rw [dn]; omega), AS (show i < 9223372036854775807 by omega)]
  rw [show (decide (l[i] ≥ (0:Int)) && decide (l[i] ≤ BE (n - 1))) = RI n l[i] from rfl]
  rw [show (fun y => decide (l[i] = y)) = (fun y => decide (y = l[i])) from funext fun y => by congr 1; exact propext eq_comm]
  cases RI n l[i] with
  | false => rfl
  | true => cases ((l.take i).any fun y => decide (y = l[i])) <;> rfl
 ·unfold OG
  simp only [Bd, cond_false, aj]
def tB (p : AT) (t : Af) : Bool := RI (p.A5.length : Int) t.Switch && (decide (t.CK ≥ (1:Int)) && decide (t.CK ≤ (2:Int)))
def cA (p : AT) (l : List Af) : Bool := II Af.Switch (tB p) [] l && decide ((l.length : Int) ≤ (30:Int))
theorem RR (p : AT) (l : List Af) (hl : l.length ≤ 1048576) : Xa p l = some (cA p l) := by
 unfold Xa cA
 rw [← LD]
 refine HS l.length _ _ (by omega) (fun i hi _ => ?_) (fun _ => ?_)
 ·have hg := ae hi
  unfold OD
  simp only [Bf hi, cond_true, AE, hg, aa, Jv, ik, GM]
  unfold tB
  rw [show (decide (l[i].Switch ≥ (0:Int)) && decide (l[i].Switch ≤ BE ((p.A5.length : Int) - 1))) = RI (p.A5.length : Int) l[i].Switch from rfl]
  cases RI (p.A5.length : Int) l[i].Switch with
  | false => rfl
  | true =>
   cases (decide (l[i].CK ≥ (1:Int)) && decide (l[i].CK ≤ (2:Int))) with
   | false => rfl
   | true =>
    simp only [da, cond_false, fj]
    rw [UX l i (jv hi) (fun y => decide (y.Switch = l[i].Switch)) (i' := ((i + 1 : Nat) : Int)) (by omega) (fun k y hk hy => ?_) ?_]
    ·cases ((l.take i).any fun y => decide (y.Switch = l[i].Switch)) <;> rfl
    rotate_left
    ·unfold OE
     simp only [Bf hk, cond_true, AE, hy, aa, AS (show k < 9223372036854775807 by omega)]
     by_cases hc : y.Switch = l[i].Switch
     ·rw [decide_eq_true hc, beq_iff_eq.2 hc]; rfl
     ·rw [decide_eq_false hc, beq_eq_false_iff_ne.2 hc]; rfl
    ·unfold OE
     simp only [Bd, cond_false, AS (show i < 9223372036854775807 by omega)]
     rfl
 ·unfold OD
  simp only [Bd, cond_false, aj]
theorem MQ {p : AT} {t : Af} (hp : p.A5.length ≤ 1048576) (h : tB p t = true) : ∃ (k : Nat) (c : Int), t.Switch = (k : Int) ∧ p.A5[k]? = some c ∧ AH p.A5 t.Switch = some c := by
 unfold tB RI at h
 rw [I0 (y := t.Switch) (n := (p.A5.length : Int)) (by omega)] at h
 simp only [ar, decide_eq_true_eq] at h
 obtain ⟨k, hk⟩ : ∃ k : Nat, t.Switch = (k : Int) := ⟨t.Switch.toNat, by omega⟩
 have hlt : k < p.A5.length := by omega
 exact ⟨k, _, hk, ae hlt, by rw [hk, AE, ae hlt]⟩
def kJ (p : AT) (t : Af) : Int := (AH p.A5 t.Switch).getD 0
def Ly (p : AT) (w : CA) (t : Af) : Bool := w.A0.any fun y => decide (kJ p t = y)
def ID (w : CA) (t : Af) : Bool := w.A7.any fun y => decide (t.Switch = y.Switch)
def Kl (w : CA) : Bool := !(w.Bl.any fun x => w.A0.any fun y => decide (x = y))
def Wb (p : AT) (w : CA) : Bool := !((w.A0.length : Int) == (0:Int)) && (lB w.A0 p.A0 && (lB w.Bl p.A0 && lB w.Ci p.A0))
def KE (p : AT) (w : CA) : Bool := Wb p w && ((cA p w.AJ && cA p w.A7) && ((w.AJ.all fun t => !ID w t && Ly p w t) && Kl w))
abbrev rC (w : CA) : Prop := w.A0.length ≤ 1048576 ∧ w.AJ.length ≤ 1048576 ∧ w.A7.length ≤ 1048576 ∧ w.Bl.length ≤ 1048576 ∧ w.Ci.length ≤ 1048576
theorem fR {p : AT} {l : List Af} (h : cA p l = true) : ∀ t ∈ l, tB p t = true := by
 unfold cA at h
 rw [ar, K3] at h
 exact h.1.1
theorem bL {p : AT} {w : CA} (hp : p.A5.length ≤ 1048576) (hw : rC w) : Yu p w = some (KE p w) := by
 obtain ⟨h1, h2, h3, h4, h5⟩ := hw
 unfold Yu KE Wb
 simp only [N4 _ _ h1, N4 _ _ h4, N4 _ _ h5, RR _ _ h2, RR _ _ h3, aa, GM]
 cases hL : cA p w.AJ with
 | false => cases ((w.A0.length : Int) == (0:Int)) <;> cases lB w.A0 p.A0 <;> cases lB w.Bl p.A0 <;> cases lB w.Ci p.A0 <;> rfl
 | true =>
  have hloop : AG (Lj p w) (0 : Int) = some ((w.AJ.all fun t => !ID w t && Ly p w t) && Kl w) := by
   rw [← RZ w.AJ (fun i => (w.AJ[i]?).all fun t => !ID w t && Ly p w t) _ (fun i x hx => by rw [hx]; rfl)]
   refine HS w.AJ.length _ _ (by omega) (fun i hi _ => ?_) (fun _ => ?_)
   ·have hg := ae hi
    obtain ⟨k, c, e1, e2, e3⟩ := MQ hp (fR hL _ (bg hi))
    unfold Lj
    simp only [Bf hi, cond_true, AE, hg, aa, ik]
    have hin : Ly p w w.AJ[i] = w.A0.any fun y => decide (c = y) := by unfold Ly kJ; rw [e3]; rfl
    have hL2 : AG (KL p w (i : Int) w.AJ[i]) (((0 : Nat)) : Int) = Bh w.A7.length (fun k => bif (w.A7[k]?).any (fun y => decide (w.AJ[i].Switch = y.Switch)) then some (.inr false) else none) (some (bif Ly p w w.AJ[i] then .inl ((i + 1 : Nat) : Int) else .inr false)) := by
     refine BB w.A7.length (fun k => (k : Int)) _ _ (fun k hk _ => ?_) (fun _ => ?_)
     ·have hgk := ae hk
      unfold KL
      simp only [Bf hk, cond_true, AE, hgk, aa, bx, AS (show k < 9223372036854775807 by omega)]
      by_cases hc : w.AJ[i].Switch = w.A7[k].Switch
      ·rw [decide_eq_true hc, beq_iff_eq.2 hc]; rfl
      ·rw [decide_eq_false hc, beq_eq_false_iff_ne.2 hc]; rfl
     ·unfold KL
      simp only [Bd, cond_false, e3, aa, JB [c] w.A0 (by simp) h1, AS (show i < 9223372036854775807 by omega)]
      rw [hin]
      simp only [jg, jk, gq]
      cases (w.A0.any fun y => decide (c = y)) <;> rfl
    have hL2 : AG (KL p w (i : Int) w.AJ[i]) (0 : Int) = _ := hL2
    have hcr : ID w w.AJ[i] = (bt w.A7.length).any fun k => (w.A7[k]?).any fun y => decide (w.AJ[i].Switch = y.Switch) := by
     rw [ED, er]; rfl
    rw [hL2, EL, hcr]
    cases ((bt w.A7.length).any fun k => (w.A7[k]?).any fun y => decide (w.AJ[i].Switch = y.Switch)) <;> cases Ly p w w.AJ[i] <;> rfl
   ·unfold Lj
    simp only [Bd, cond_false, JB _ _ h4 h1, aa, aj]
    rfl
  rw [hloop]
  cases ((w.A0.length : Int) == (0:Int)) <;> cases lB w.A0 p.A0 <;> cases lB w.Bl p.A0 <;> cases lB w.Ci p.A0 <;> cases cA p w.A7 <;> rfl
theorem YP (a b : List Int) : (a.any fun x => b.any fun y => decide (x = y)) = b.any fun x => a.any fun y => decide (x = y) := by
 rw [fx]
 simp only [ea, decide_eq_true_eq]
 constructor
 ·rintro ⟨x, hx, y, hy, rfl⟩; exact ⟨x, hy, x, hx, rfl⟩
 ·rintro ⟨x, hx, y, hy, rfl⟩; exact ⟨x, hy, x, hx, rfl⟩
theorem Zm {p : AT} {w : CA} : (II Af.Switch (tB p) [] (w.AJ ++ w.A7) && (w.AJ.all fun t => Ly p w t)) = ((II Af.Switch (tB p) [] w.AJ && II Af.Switch (tB p) [] w.A7) && (w.AJ.all fun t => !ID w t && Ly p w t)) := by
 rw [fx]
 simp only [ar, K3, cj, aq, eh, dc, eb]
 constructor
 ·rintro ⟨⟨h1, ⟨h2, h3, h4⟩, _⟩, h5⟩
  refine ⟨⟨⟨fun x hx => h1 x (.inl hx), h2, fun _ _ h => by cases h⟩, fun x hx => h1 x (.inr hx), h3, fun _ _ h => by cases h⟩, fun x hx => ⟨?_, h5 x hx⟩⟩
  unfold ID
  rw [fc]
  intro y hy
  simp only [decide_eq_true_eq]
  exact h4 _ (fi hx) _ (fi hy)
 ·rintro ⟨⟨⟨h1, h2, _⟩, h3, h4, _⟩, h5⟩
  refine ⟨⟨fun x hx => hx.elim (h1 x) (h3 x), ⟨h2, h4, ?_⟩, fun _ _ h => by cases h⟩, fun x hx => (h5 x hx).2⟩
  intro a ha b hb e
  obtain ⟨x, hx, rfl⟩ := du.1 ha
  obtain ⟨y, hy, rfl⟩ := du.1 hb
  have := (h5 x hx).1
  unfold ID at this
  rw [fc] at this
  exact absurd e (by simpa using this y hy)
theorem bK {p : AT} {w : CA} (hp : p.A5.length ≤ 1048576) (hw : rC w) : Yy p w = some (KE p w) := by
 obtain ⟨h1, h2, h3, h4, h5⟩ := hw
 unfold Yy KE Wb
 simp only [N3 _ _ h1, N3 _ _ h4, N3 _ _ h5, aa, GM]
 have hz0 : DP 16 ([] : List Af) w.AJ = some w.AJ := by rw [DC (by simp; omega)]; rfl
 have hz : DP 16 w.AJ w.A7 = some (w.AJ ++ w.A7) := DC (by omega)
 rw [hz0, aa, hz, aa]
 have hlen : (w.AJ ++ w.A7).length ≤ 2097152 := by simp; omega
 have hloop : AG (Iy p w (w.AJ ++ w.A7)) (([] : List (Int × Bool)), w.AJ ++ w.A7, (0:Int)) = some (II Af.Switch (tB p) [] (w.AJ ++ w.A7) && ((w.AJ.all fun t => Ly p w t) && Kl w)) := by
  have key : ∀ (r : List Af) (i : Nat) (m : List (Int × Bool)), (w.AJ ++ w.A7).drop i = r → i ≤ (w.AJ ++ w.A7).length → (∀ t ∈ (w.AJ ++ w.A7).take i, tB p t = true) → (∀ k, K1 k m false = ((w.AJ ++ w.A7).take i).any fun t => decide (t.Switch = k)) →
    AG (Iy p w (w.AJ ++ w.A7)) (m, w.AJ ++ w.A7, (i : Int)) = some (II Af.Switch (tB p) (((w.AJ ++ w.A7).take i).map (·.Switch)) r && ((w.AJ.all fun t => Ly p w t) && Kl w)) := by
   intro r
   induction r with
   | nil =>
    intro i m hr hi hok hm
    have hi' : i = (w.AJ ++ w.A7).length := by have := mo.1 hr; omega
    subst hi'
    rw [er] at hok
    rw [Be]
    unfold Iy
    simp only [Bd, cond_false, II, fj]
    have hL2 : AG (Ll p w) (0 : Int) = some ((w.AJ.all fun t => Ly p w t) && Kl w) := by
     rw [← RZ w.AJ (fun i => (w.AJ[i]?).all fun t => Ly p w t) _ (fun i x hx => by rw [hx]; rfl)]
     refine HS w.AJ.length _ _ (by omega) (fun i hi _ => ?_) (fun _ => ?_)
     ·have hg := ae hi
      obtain ⟨k, c, e1, e2, e3⟩ := MQ hp (hok _ (List.mem_append_left _ (bg hi)))
      have hin : Ly p w w.AJ[i] = w.A0.any fun y => decide (c = y) := by unfold Ly kJ; rw [e3]; rfl
      unfold Ll
      simp only [Bf hi, cond_true, AE, hg, aa, ik, e3, IT h1, AS (show i < 9223372036854775807 by omega)]
      rw [hin]
      cases (w.A0.any fun y => decide (c = y)) <;> rfl
     ·unfold Ll
      simp only [Bd, cond_false, KG _ _ h1 h4, aa, aj]
      unfold Kl
      rw [YP w.Bl]
    rw [hL2]
    rfl
   | cons t r ih =>
    intro i m hr hi hok hm
    have hlt : i < (w.AJ ++ w.A7).length := by
     rcases bz i (w.AJ ++ w.A7).length with hl | hl
     ·exact hl
     ·rw [ka hl] at hr; cases hr
    rw [js hlt] at hr
    simp only [ep] at hr
    have hg : (w.AJ ++ w.A7)[i]? = some t := by rw [ae hlt, hr.1]
    rw [Be]
    generalize hF : AG (Iy p w (w.AJ ++ w.A7)) = LP at ih ⊢
    unfold Iy
    simp only [Bf hlt, cond_true, AE, hg, aa, Fc, GM, hm, AS (show i < 9223372036854775807 by omega)]
    have hndup : II Af.Switch (tB p) (((w.AJ ++ w.A7).take i).map (·.Switch)) (t :: r) = ((tB p t && !(((w.AJ ++ w.A7).take i).any fun y => decide (y.Switch = t.Switch))) && II Af.Switch (tB p) (((w.AJ ++ w.A7).take (i + 1)).map (·.Switch)) r) := by
     rw [II, og, gv, hg, eh]
     rfl
    rw [hndup]
    unfold tB at hok ⊢
    rw [show (decide (t.Switch ≥ (0:Int)) && decide (t.Switch ≤ BE ((p.A5.length : Int) - 1))) = RI (p.A5.length : Int) t.Switch from rfl]
    cases hc1 : RI (p.A5.length : Int) t.Switch with
    | false => rfl
    | true =>
     cases hc2 : (decide (t.CK ≥ (1:Int)) && decide (t.CK ≤ (2:Int))) with
     | false => rfl
     | true =>
      cases hc3 : (((w.AJ ++ w.A7).take i).any fun y => decide (y.Switch = t.Switch)) with
      | true => rfl
      | false =>
       simp only [da, cond_false, gq, aa, fj, lz, jn]
       have hih := ih (i + 1) (Qs t.Switch true m) hr.2 hlt (fun x hx => ?_) (fun k => ?_)
       ·exact hih
       ·rw [gv, hg] at hx
        rcases aq.1 hx with hx | hx
        ·exact hok x hx
        ·simp only [mq, bh] at hx
         subst hx
         unfold tB
         rw [hc1, hc2]; rfl
       ·rw [Xn, hm, gv, hg, kc]
        simp only [mq, jg, jk, gq]
        by_cases hk : k = t.Switch
        ·rw [if_pos hk]; simp [hk]
        ·rw [if_neg hk, decide_eq_false (fun e => hk e.symm), gq]
  have := key (w.AJ ++ w.A7) 0 [] rfl (dq _) (fun t ht => by simp at ht) (fun k => rfl)
  simpa using this
 rw [hloop]
 have h30 : ∀ l : List Af, decide ((l.length : Int) > (30:Int)) = !decide ((l.length : Int) ≤ (30:Int)) := fun l => by
  by_cases hc : (l.length : Int) ≤ 30
  ·rw [decide_eq_true hc, decide_eq_false (by omega)]; rfl
  ·rw [decide_eq_false hc, decide_eq_true (by omega)]; rfl
 rw [h30, h30, ← Bool.and_assoc (II _ _ _ _), Zm]
 unfold cA
 generalize ((w.A0.length : Int) == (0:Int)) = b0
 generalize lB w.A0 p.A0 = b1
 generalize lB w.Bl p.A0 = b2
 generalize lB w.Ci p.A0 = b3
 generalize decide ((w.AJ.length : Int) ≤ (30:Int)) = b4
 generalize decide ((w.A7.length : Int) ≤ (30:Int)) = b5
 generalize II Af.Switch (tB p) [] w.AJ = b6
 generalize II Af.Switch (tB p) [] w.A7 = b7
 generalize (w.AJ.all fun t => !ID w t && Ly p w t) = b8
 generalize Kl w = b9
 cases b0 <;> cases b1 <;> cases b2 <;> cases b3 <;> cases b4 <;> cases b5 <;> cases b6 <;> cases b7 <;> cases b8 <;> cases b9 <;> rfl
def Zi (a b : List Int) : Bool := a.any fun x => b.any fun y => decide (x = y)
def HI (p : AT) (i k : Nat) : Bool := ((p.Bk[i]?).bind fun r => r[k]?).getD false
def Qw (p : AT) (i : Nat) : List Int := ((p.A3[i]?).map (·.A0)).getD []
def Qd (p : AT) (i k : Nat) : Bool := !(HI p i k == HI p k i) || (!(decide (i = k)) && (!HI p i k && Zi (Qw p i) (Qw p k)))
def I6 (p : AT) : Option Bt := Bh p.A3.length (fun i => bif (bt p.A3.length).any (Qd p i) then some ⟨5, (i : Int)⟩ else none) (some ⟨0, 0⟩)
def MF (p : AT) (e : Option Bt) : Option Bt := Bh p.Bk.length (fun i => bif (p.Bk[i]?).any (fun r => ((r.length : Int) != (p.A3.length : Int))) then some ⟨4, (i : Int)⟩ else none) e
def RY (p : AT) (e : Option Bt) : Option Bt := Bh p.A3.length (fun i => bif (p.A3[i]?).any (fun w => !KE p w) then some ⟨3, (i : Int)⟩ else none) (bif ((p.Bk.length : Int) != (p.A3.length : Int)) then some ⟨4, 0⟩ else MF p e)
def Ig (p : AT) (e : Option Bt) : Option Bt := Bh p.A5.length (fun i => bif (p.A5[i]?).any (fun x => !RI p.A0 x) then some ⟨2, (i : Int)⟩ else none) (RY p e)
def Lx (p : AT) : Bool := ((decide (p.A0 ≥ (1:Int)) && decide (p.A0 ≤ (60:Int))) && (decide (p.DX ≥ (1:Int)) && decide (p.DX ≤ (300:Int)))) && (!decide ((p.A5.length : Int) > (40:Int)) && !decide ((p.A3.length : Int) > (100:Int)))
def HT (p : AT) : Option Bt := bif !Lx p then some ⟨1, 0⟩ else Ig p (I6 p)
theorem UD (p : AT) : ∃ r, HT p = some r := by
 have h4 : ∃ r, I6 p = some r := Fh _ _ ⟨_, rfl⟩
 have h3 : ∃ r, MF p (I6 p) = some r := Fh _ _ h4
 have h2 : ∃ r, RY p (I6 p) = some r := by
  refine Fh _ _ ?_
  cases ((p.Bk.length : Int) != (p.A3.length : Int))
  ·exact h3
  ·exact ⟨_, rfl⟩
 have h1 : ∃ r, Ig p (I6 p) = some r := Fh _ _ h2
 unfold HT
 cases Lx p
 ·exact ⟨_, rfl⟩
 ·exact h1
theorem NJ {w : CA} (h : Ik w) : rC w := ⟨h.1.1, h.2.1.1, h.2.2.1.1, h.2.2.2.1.1, h.2.2.2.2.1⟩
theorem UC {p : AT} (hb : ((p.Bk.length : Int) != (p.A3.length : Int)) = false) {e e' : Option Bt} (h : (∀ (i : Nat), i < p.A3.length → ∃ r, p.Bk[i]? = some r ∧ r.length = p.A3.length) → e = e') : MF p e = MF p e' := by
 unfold MF
 refine J1 (fun _ _ => rfl) fun hn => h fun i hi => ?_
 rw [bne_eq_false_iff_eq] at hb
 have hlt : i < p.Bk.length := by omega
 have h1 := hn i hlt
 rw [ae hlt, bx] at h1
 have h2 := Fv h1
 rw [bne_eq_false_iff_eq] at h2
 exact ⟨_, ae hlt, by omega⟩
theorem QJ {p : AT} {e e' : Option Bt} (h : ((p.Bk.length : Int) != (p.A3.length : Int)) = false → (∀ (i : Nat), i < p.A3.length → ∃ r, p.Bk[i]? = some r ∧ r.length = p.A3.length) → e = e') : Ig p e = Ig p e' := by
 unfold Ig
 refine J1 (fun _ _ => rfl) fun _ => ?_
 unfold RY
 refine J1 (fun _ _ => rfl) fun _ => ?_
 cases hb : ((p.Bk.length : Int) != (p.A3.length : Int)) with
 | true => rfl
 | false => exact UC hb (h hb)
theorem Ic {ρ : Type} {n : Nat} (p : Nat → Bool) (r0 : ρ) {F : Int → Option (Int ⊕ (Int ⊕ ρ))} {i' : Int} (h : ∀ k, k < n → F (k : Int) = some (bif p k then .inr (.inr r0) else .inl ((k + 1 : Nat) : Int))) (hend : F (n : Int) = some (.inr (.inl i'))) : AG F (0 : Int) = some (bif (bt n).any p then .inr r0 else .inl i') := by
 have h1 : AG F (((0 : Nat)) : Int) = Bh n (fun k => bif p k then some (.inr r0) else none) (some (.inl i')) := by
  refine BB n (fun k => (k : Int)) _ _ (fun k hk _ => ?_) (fun _ => hend)
  rw [h k hk]
  cases p k <;> rfl
 rw [show (0 : Int) = (((0 : Nat)) : Int) from rfl, h1, EL]
 cases (bt n).any p <;> rfl
theorem QC (i k : Nat) : ((i : Int) != (k : Int)) = !(decide (i = k)) := by
 by_cases h : i = k
 ·rw [decide_eq_true h, h]; simp
 ·rw [decide_eq_false h, bne_iff_ne.2 (by omega)]; rfl
theorem XH {p : AT} (hs : GR p) (hr : ∀ (i : Nat), i < p.A3.length → ∃ r, p.Bk[i]? = some r ∧ r.length = p.A3.length) (hb : p.Bk.length = p.A3.length) : AG (Hq p) (0 : Int) = I6 p := by
 have hw := hs.2.1.1
 unfold I6
 rw [show (0 : Int) = (((0 : Nat)) : Int) from rfl]
 have := BB (F := Hq p) p.A3.length (fun i => (i : Int)) (fun i => bif (bt p.A3.length).any (Qd p i) then some (⟨5, (i : Int)⟩ : Bt) else none) (some ⟨0, 0⟩) (fun i hi _ => ?_) (fun _ => ?_)
 ·exact this
 ·obtain ⟨row, hrow, hlen⟩ := hr i hi
  have hwi := ae hi
  unfold Hq
  simp only [hb, Bf hi, cond_true, AE, hrow, aa]
  rw [Ic (n := p.A3.length) (Qd p i) (⟨5, (i : Int)⟩ : Bt) (i' := ((i + 1 : Nat) : Int)) (fun k hk => ?_) ?_]
  ·cases (bt p.A3.length).any (Qd p i) <;> rfl
  rotate_left
  ·obtain ⟨row2, hrow2, hlen2⟩ := hr k hk
   have hwk := ae hk
   have h1 := ae (show k < row.length by omega)
   have h2 := ae (show i < row2.length by omega)
   have e1 : HI p i k = row[k]'(by omega) := by unfold HI; rw [hrow, aa, h1]; rfl
   have e2 : HI p k i = row2[i]'(by omega) := by unfold HI; rw [hrow2, aa, h2]; rfl
   have e3 : Qw p i = p.A3[i].A0 := by unfold Qw; rw [hwi]; rfl
   have e4 : Qw p k = p.A3[k].A0 := by unfold Qw; rw [hwk]; rfl
   have l1 := (NJ (hs.2.1.2 _ (bg hi))).1
   have l2 := (NJ (hs.2.1.2 _ (bg hk))).1
   unfold O5 Qd
   simp only [hlen, Bf hk, cond_true, AE, h1, hrow2, h2, aa, hwi, hwk, JB _ _ l1 l2, AS (show k < 9223372036854775807 by omega), QC]
   rw [e1, e2, e3, e4]
   unfold Zi
   cases (row[k]'(by omega) == row2[i]'(by omega)) with
   | false => rfl
   | true =>
    cases decide (i = k) with
    | true => rfl
    | false =>
     cases row[k]'(by omega) with
     | true => rfl
     | false => cases (p.A3[i].A0.any fun x => p.A3[k].A0.any fun y => decide (x = y)) <;> rfl
  ·unfold O5
   simp only [hlen, Bd, cond_false, AS (show i < 9223372036854775807 by omega)]
   rfl
 ·unfold Hq
  simp only [hb, Bd, cond_false]
theorem XG {p : AT} (hs : GR p) (hr : ∀ (i : Nat), i < p.A3.length → ∃ r, p.Bk[i]? = some r ∧ r.length = p.A3.length) : AG (Hr p) (0 : Int) = I6 p := by
 have hw := hs.2.1.1
 unfold I6
 rw [show (0 : Int) = (((0 : Nat)) : Int) from rfl]
 have := BB (F := Hr p) p.A3.length (fun i => (i : Int)) (fun i => bif (bt p.A3.length).any (Qd p i) then some (⟨5, (i : Int)⟩ : Bt) else none) (some ⟨0, 0⟩) (fun i hi _ => ?_) (fun _ => ?_)
 ·exact this
 ·obtain ⟨row, hrow, hlen⟩ := hr i hi
  have hwi := ae hi
  unfold Hr
  simp only [Bf hi, cond_true]
  rw [Ic (n := p.A3.length) (Qd p i) (⟨5, (i : Int)⟩ : Bt) (i' := ((i + 1 : Nat) : Int)) (fun k hk => ?_) ?_]
  ·cases (bt p.A3.length).any (Qd p i) <;> rfl
  rotate_left
  ·obtain ⟨row2, hrow2, hlen2⟩ := hr k hk
   have hwk := ae hk
   have h1 := ae (show k < row.length by omega)
   have h2 := ae (show i < row2.length by omega)
   have e1 : HI p i k = row[k]'(by omega) := by unfold HI; rw [hrow, aa, h1]; rfl
   have e2 : HI p k i = row2[i]'(by omega) := by unfold HI; rw [hrow2, aa, h2]; rfl
   have e3 : Qw p i = p.A3[i].A0 := by unfold Qw; rw [hwi]; rfl
   have e4 : Qw p k = p.A3[k].A0 := by unfold Qw; rw [hwk]; rfl
   have l1 := (NJ (hs.2.1.2 _ (bg hi))).1
   have l2 := (NJ (hs.2.1.2 _ (bg hk))).1
   unfold O6 Qd
   simp only [Bf hk, cond_true, AE, hrow, h1, hrow2, h2, aa, hwi, hwk, KG _ _ l1 l2, AS (show k < 9223372036854775807 by omega), QC]
   rw [e1, e2, e3, e4]
   unfold Zi
   cases (row[k]'(by omega) == row2[i]'(by omega)) with
   | false => rfl
   | true =>
    cases decide (i = k) with
    | true => rfl
    | false =>
     cases row[k]'(by omega) with
     | true => rfl
     | false => cases (p.A3[i].A0.any fun x => p.A3[k].A0.any fun y => decide (x = y)) <;> rfl
  ·unfold O6
   simp only [Bd, cond_false, AS (show i < 9223372036854775807 by omega)]
   rfl
 ·unfold Hr
  simp only [Bd, cond_false]
theorem Y0 {p : AT} (hs : GR p) : Tb p = some (((Tb p)).getD ⟨0, 0⟩) ∧ Tb p = HT p := by
 have hq : Tb p = HT p := by
  have hw := hs.2.1.1
  have hsw := hs.1.1
  have hbl := hs.2.2.1
  unfold Tb HT Lx
  simp only [Jv, aa, GM]
  have hl : AG (Iu p) (0 : Int) = Ig p (I6 p) := by
   have h1 : AG (Iu p) (((0 : Nat)) : Int) = Ig p (AG (Hq p) (0 : Int)) := by
    unfold Ig
    refine BB p.A5.length (fun i => (i : Int)) _ _ (fun i hi _ => ?_) (fun _ => ?_)
    ·have hg := ae hi
     unfold Iu
     simp only [Bf hi, cond_true, AE, hg, aa, Jv, bx, AS (show i < 9223372036854775807 by omega)]
     rw [show (decide (p.A5[i] ≥ (0:Int)) && decide (p.A5[i] ≤ BE (p.A0 - 1))) = RI p.A0 p.A5[i] from rfl]
     cases RI p.A0 p.A5[i] <;> rfl
    ·unfold Iu
     simp only [Bd, cond_false]
     congr 1
     unfold RY
     have h2 : AG (KH p) (((0 : Nat)) : Int) = Bh p.A3.length (fun i => bif (p.A3[i]?).any (fun w => !KE p w) then some ⟨3, (i : Int)⟩ else none) (bif ((p.Bk.length : Int) != (p.A3.length : Int)) then some ⟨4, 0⟩ else AG (KI p) (0 : Int)) := by
      refine BB p.A3.length (fun i => (i : Int)) _ _ (fun i hi _ => ?_) (fun _ => ?_)
      ·have hg := ae hi
       unfold KH
       simp only [Bf hi, cond_true, AE, hg, aa, bL hsw (NJ (hs.2.1.2 _ (bg hi))), bx, AS (show i < 9223372036854775807 by omega)]
       cases KE p p.A3[i] <;> rfl
      ·unfold KH
       simp only [Bd, cond_false]
     have h2 : AG (KH p) (0 : Int) = _ := h2
     rw [h2]
     congr 2
     unfold MF
     have h3 : AG (KI p) (((0 : Nat)) : Int) = Bh p.Bk.length (fun i => bif (p.Bk[i]?).any (fun r => ((r.length : Int) != (p.A3.length : Int))) then some ⟨4, (i : Int)⟩ else none) (AG (Hq p) (0 : Int)) := by
      refine BB p.Bk.length (fun i => (i : Int)) _ _ (fun i hi _ => ?_) (fun _ => ?_)
      ·have hg := ae hi
       unfold KI
       simp only [Bf hi, cond_true, AE, hg, aa, bx, AS (show i < 9223372036854775807 by omega)]
       cases ((p.Bk[i].length : Int) != (p.A3.length : Int)) <;> rfl
      ·unfold KI
       simp only [Bd, cond_false]
     exact h3
   have h1 : AG (Iu p) (0 : Int) = _ := h1
   rw [h1]
   refine QJ fun hb hr => XH hs hr ?_
   rw [bne_eq_false_iff_eq] at hb
   omega
  rw [hl]
  cases (decide (p.A0 ≥ (1:Int)) && decide (p.A0 ≤ (60:Int))) <;> cases (decide (p.DX ≥ (1:Int)) && decide (p.DX ≤ (300:Int))) <;> cases decide ((p.A5.length : Int) > (40:Int)) <;> cases decide ((p.A3.length : Int) > (100:Int)) <;> rfl
 obtain ⟨r, hr⟩ := UD p
 exact ⟨by rw [hq, hr]; rfl, hq⟩
theorem Xz {p : AT} (hs : GR p) : Yl p = HT p := by
 have hw := hs.2.1.1
 have hsw := hs.1.1
 have hbl := hs.2.2.1
 unfold Yl HT Lx
 simp only [Fc, aa, GM]
 have hl : AG (Iv p) (0 : Int) = Ig p (I6 p) := by
  have h1 : AG (Iv p) (((0 : Nat)) : Int) = Ig p (AG (Hr p) (0 : Int)) := by
   unfold Ig
   refine BB p.A5.length (fun i => (i : Int)) _ _ (fun i hi _ => ?_) (fun _ => ?_)
   ·have hg := ae hi
    unfold Iv
    simp only [Bf hi, cond_true, AE, hg, aa, Fc, bx, AS (show i < 9223372036854775807 by omega)]
    rw [show (decide (p.A5[i] ≥ (0:Int)) && decide (p.A5[i] ≤ BE (p.A0 - 1))) = RI p.A0 p.A5[i] from rfl]
    cases RI p.A0 p.A5[i] <;> rfl
   ·unfold Iv
    simp only [Bd, cond_false]
    congr 1
    unfold RY
    have h2 : AG (KJ p) (((0 : Nat)) : Int) = Bh p.A3.length (fun i => bif (p.A3[i]?).any (fun w => !KE p w) then some ⟨3, (i : Int)⟩ else none) (bif ((p.Bk.length : Int) != (p.A3.length : Int)) then some ⟨4, 0⟩ else AG (KK p) (0 : Int)) := by
     refine BB p.A3.length (fun i => (i : Int)) _ _ (fun i hi _ => ?_) (fun _ => ?_)
     ·have hg := ae hi
      unfold KJ
      simp only [Bf hi, cond_true, AE, hg, aa, bK hsw (NJ (hs.2.1.2 _ (bg hi))), bx, AS (show i < 9223372036854775807 by omega)]
      cases KE p p.A3[i] <;> rfl
     ·unfold KJ
      simp only [Bd, cond_false]
    have h2 : AG (KJ p) (0 : Int) = _ := h2
    rw [h2]
    congr 2
    unfold MF
    have h3 : AG (KK p) (((0 : Nat)) : Int) = Bh p.Bk.length (fun i => bif (p.Bk[i]?).any (fun r => ((r.length : Int) != (p.A3.length : Int))) then some ⟨4, (i : Int)⟩ else none) (AG (Hr p) (0 : Int)) := by
     refine BB p.Bk.length (fun i => (i : Int)) _ _ (fun i hi _ => ?_) (fun _ => ?_)
     ·have hg := ae hi
      unfold KK
      simp only [Bf hi, cond_true, AE, hg, aa, bx, AS (show i < 9223372036854775807 by omega)]
      cases ((p.Bk[i].length : Int) != (p.A3.length : Int)) <;> rfl
     ·unfold KK
      simp only [Bd, cond_false]
    exact h3
  have h1 : AG (Iv p) (0 : Int) = _ := h1
  rw [h1]
  exact QJ fun _ hr => XG hs hr
 rw [hl]
 cases (decide (p.A0 ≥ (1:Int)) && decide (p.A0 ≤ (60:Int))) <;> cases (decide (p.DX ≥ (1:Int)) && decide (p.DX ≤ (300:Int))) <;> cases decide ((p.A5.length : Int) > (40:Int)) <;> cases decide ((p.A3.length : Int) > (100:Int)) <;> rfl
theorem Lp {ρ : Type} {P : ρ → Prop} {n : Nat} {f : Nat → Option ρ} {e : Option ρ} {r : ρ} (h : Bh n f e = some r) (hf : ∀ i r, f i = some r → P r) (he : e = some r → P r) : P r := by
 rcases EM h with ⟨i, _, h⟩ | ⟨_, h⟩
 ·exact hf i r h
 ·exact he h
def LM (f : Bt) : Prop := (f.Code == 0 && (f.At == 0 && true)) = (f.Code == 0)
theorem KF {b : Bool} {x r : Bt} (hx : LM x) (h : (bif b then some x else none) = some r) : LM r := by
 obtain ⟨_, rfl⟩ := Fw h
 exact hx
theorem UE {p : AT} {f : Bt} (h : HT p = some f) : LM f := by
 unfold HT at h
 cases hh : Lx p with
 | false => rw [hh] at h; cases h; rfl
 | true =>
  rw [hh] at h
  refine Lp h (fun i r h => KF (by unfold LM; rfl) h) fun h => ?_
  refine Lp h (fun i r h => KF (by unfold LM; rfl) h) fun h => ?_
  cases hb : ((p.Bk.length : Int) != (p.A3.length : Int)) with
  | true => rw [hb] at h; cases h; rfl
  | false =>
   rw [hb] at h
   refine Lp h (fun i r h => KF (by unfold LM; rfl) h) fun h => ?_
   refine Lp h (fun i r h => KF (by unfold LM; rfl) h) fun h => ?_
   cases h; rfl
theorem Xy {p : AT} {f : Bt} (h : HT p = some f) (h0 : (f.Code == 0) = true) : Lx p = true := by
 unfold HT at h
 cases hh : Lx p with
 | true => rfl
 | false => rw [hh] at h; cases h; cases h0
theorem eS {p : AT} {f : Bt} (hs : GR p) (hf : HT p = some f) : nF p = some (f.Code == 0) := by unfold nF; rw [(Y0 hs).2, hf]; rfl
theorem eR {p : AT} {f : Bt} (hs : GR p) (hf : HT p = some f) : nK p = some (f.Code == 0) := by unfold nK; rw [Xz hs, hf, aa, (UE hf : _ = _)]
theorem VM {p : AT} (h : Lx p = true) : 1 ≤ p.A0 ∧ p.A0 ≤ 60 ∧ p.A5.length ≤ 40 ∧ p.A3.length ≤ 100 ∧ 1 ≤ p.DX ∧ p.DX ≤ 300 := by
 unfold Lx at h
 simp only [ar, decide_eq_true_eq, eb, decide_eq_false_iff_not] at h
 omega
theorem jV {α β σ ρ : Type} {F : σ → Option (σ ⊕ ρ)} (st : List β → Int → σ) (xs : List α) (g : α → β) {r : ρ} (hstep : ∀ (row : List β) (i : Nat) (x : α), xs[i]? = some x → row.length = i → F (st row (i : Int)) = some (.inl (st (row ++ [g x]) ((i + 1 : Nat) : Int)))) (hend : F (st (xs.map g) (xs.length : Int)) = some (.inr r)) : AG F (st [] (0 : Int)) = some r := by
 have := Ez (F := F) xs.length (fun i => st ((xs.take i).map g) (i : Int)) (r := r) (fun i hi => ?_) (by rw [er]; exact hend)
 ·simpa using this
 ·have hx : xs[i]? = some xs[i] := ae hi
  rw [hstep _ i xs[i] hx (by rw [ee, dn]; omega), show (xs.take i).map g ++ [g xs[i]] = (xs.take (i + 1)).map g by rw [ku hi, eh]; rfl]
structure Kk (p : AT) (w : CA) : Prop where
 ne : 0 < w.A0.length
 RO : w.A0.length ≤ 30 ∧ w.Bl.length ≤ 30 ∧ w.Ci.length ≤ 30 ∧ w.AJ.length ≤ 30 ∧ w.A7.length ≤ 30
 HV : ∀ x ∈ w.A0, 0 ≤ x ∧ x < p.A0
 kC : ∀ x ∈ w.Bl, 0 ≤ x ∧ x < p.A0
 kB : ∀ x ∈ w.Ci, 0 ≤ x ∧ x < p.A0
 VS : ∀ t ∈ w.AJ, tB p t = true
 L5 : ∀ t ∈ w.A7, tB p t = true
 nodup : w.A0.Nodup
 gB : ∀ t ∈ w.AJ, ID w t = false ∧ Ly p w t = true
 rS : (w.AJ.map Af.Switch).Nodup
 rQ : (w.A7.map Af.Switch).Nodup
structure Fe (p : AT) : Prop where
 HV : 1 ≤ p.A0 ∧ p.A0 ≤ 60
 TK : p.A5.length ≤ 40
 Qy : p.A3.length ≤ 100
 hold : 1 ≤ p.DX ∧ p.DX ≤ 300
 sw : ∀ (i : Nat) (c : Int), p.A5[i]? = some c → RI p.A0 c = true
 XA : ∀ (i : Nat) (w : CA), p.A3[i]? = some w → Kk p w
 bl : p.Bk.length = p.A3.length
 rows : ∀ (i : Nat), i < p.A3.length → ∃ r, p.Bk[i]? = some r ∧ r.length = p.A3.length
 sym : ∀ (i k : Nat), i < p.A3.length → k < p.A3.length → HI p i k = HI p k i
theorem Q0 {l : List Int} {n : Int} (hn : -9223372036854775807 ≤ n ∧ n ≤ 9223372036854775807) (h : lB l n = true) : l.length ≤ 30 ∧ (∀ x ∈ l, 0 ≤ x ∧ x < n) ∧ l.Nodup := by
 unfold lB at h
 rw [ar, K3, decide_eq_true_eq] at h
 obtain ⟨⟨h1, h2, _⟩, h3⟩ := h
 refine ⟨by omega, fun x hx => ?_, by simpa using h2⟩
 have := h1 x hx
 unfold RI at this
 rw [I0 hn, ar, decide_eq_true_eq, decide_eq_true_eq] at this
 exact ⟨this.1, this.2⟩
theorem bJ {p : AT} {w : CA} (h60 : 1 ≤ p.A0 ∧ p.A0 ≤ 60) (h : KE p w = true) : Kk p w := by
 unfold KE Wb at h
 simp only [ar, eb, beq_eq_false_iff_ne] at h
 obtain ⟨⟨h0, h1, h2, h3⟩, ⟨h4, h5⟩, h6, _⟩ := h
 obtain ⟨a1, a2, a3⟩ := Q0 (by omega) h1
 obtain ⟨b1, b2, _⟩ := Q0 (by omega) h2
 obtain ⟨c1, c2, _⟩ := Q0 (by omega) h3
 unfold cA at h4 h5
 rw [ar, K3, decide_eq_true_eq] at h4 h5
 rw [cj] at h6
 exact { ne := by omega, RO := ⟨a1, b1, c1, by omega, by omega⟩, HV := a2, kC := b2, kB := c2, VS := h4.1.1, L5 := h5.1.1, nodup := a3, gB := fun t ht => by have := h6 t ht; rw [ar, eb] at this; exact this, rS := h4.1.2.1, rQ := h5.1.2.1 }
theorem Xx {p : AT} {f : Bt} (h : HT p = some f) (h0 : (f.Code == 0) = true) : Fe p := by
 have hh := Xy h h0
 obtain ⟨a1, a2, a3, a4, a5, a6⟩ := VM hh
 have e0 : f.Code = 0 := by simpa using h0
 have hp : Ig p (I6 p) = some f := by
  unfold HT at h
  rw [hh] at h
  exact h
 unfold Ig at hp
 rcases EM hp with ⟨i, _, h⟩ | ⟨n1, h1⟩
 ·obtain ⟨_, rfl⟩ := Fw h
  exact absurd (show (2 : Int) = 0 from e0) (by decide)
 unfold RY at h1
 rcases EM h1 with ⟨i, _, h⟩ | ⟨n2, h2⟩
 ·obtain ⟨_, rfl⟩ := Fw h
  exact absurd (show (3 : Int) = 0 from e0) (by decide)
 cases hb : ((p.Bk.length : Int) != (p.A3.length : Int)) with
 | true =>
  rw [hb] at h2
  cases h2
  exact absurd (show (4 : Int) = 0 from e0) (by decide)
 | false =>
  rw [hb] at h2
  have h2 : MF p (I6 p) = some f := h2
  unfold MF at h2
  rcases EM h2 with ⟨i, _, h⟩ | ⟨n3, h3⟩
  ·obtain ⟨_, rfl⟩ := Fw h
   exact absurd (show (4 : Int) = 0 from e0) (by decide)
  unfold I6 at h3
  rcases EM h3 with ⟨i, _, h⟩ | ⟨n4, h4⟩
  ·obtain ⟨_, rfl⟩ := Fw h
   exact absurd (show (5 : Int) = 0 from e0) (by decide)
  have hbl : p.Bk.length = p.A3.length := by rw [bne_eq_false_iff_eq] at hb; omega
  refine { HV := ⟨a1, a2⟩, TK := a3, Qy := a4, hold := ⟨a5, a6⟩, sw := fun i c hc => ?_, XA := fun i w hw => ?_, bl := hbl, rows := fun i hi => ?_, sym := fun i k hi hk => ?_ }
  ·have := Fv (n1 i (Bi hc))
   rw [hc, bx] at this
   simpa using this
  ·have := Fv (n2 i (Bi hw))
   rw [hw, bx] at this
   exact bJ ⟨a1, a2⟩ (by simpa using this)
  ·have hlt : i < p.Bk.length := by omega
   have := Fv (n3 i hlt)
   rw [ae hlt, bx, bne_eq_false_iff_eq] at this
   exact ⟨_, ae hlt, by omega⟩
  ·have := Fv (n4 i hi)
   rw [fc] at this
   have h7 := this k (cr.2 hk)
   by_cases hq : HI p i k = HI p k i
   ·exact hq
   ·refine absurd ?_ h7
    unfold Qd
    rw [beq_eq_false_iff_ne.2 hq]
    rfl
theorem Rx {p : AT} (G : Fe p) {i k : Nat} (hi : i < p.A3.length) (hk : k < p.A3.length) : ∃ r, p.Bk[i]? = some r ∧ r[k]? = some (HI p i k) := by
 obtain ⟨r, h1, h2⟩ := G.rows i hi
 have h3 := ae (show k < r.length by omega)
 exact ⟨r, h1, by unfold HI; rw [h1, aa, h3]; rfl⟩
structure HG (h : AD) (w : CA) : Prop where
 st : 0 ≤ h.State ∧ h.State ≤ 4
 LR : h.Ac.length = w.A0.length
 gone : 0 ≤ h.Aj ∧ h.Aj < w.A0.length
def WG (p : AT) (ws : List AD) : Prop := ws.length = p.A3.length ∧ ∀ (i : Nat) (h : AD) (w : CA), ws[i]? = some h → p.A3[i]? = some w → HG h w
structure W8 (p : AT) (f : Frame) : Prop where
 RU : (f.B1.length : Int) = p.A0
 JW : f.A1.length = p.A5.length
 ways : WG p f.A3
theorem Eg {α ρ : Type} (xs : List α) (q : α → Bool) (r : ρ) (e : Option ρ) : Bh xs.length (fun i => bif (xs[i]?).any q then some r else none) e = bif xs.any q then some r else e := by rw [EL, ED, er]
theorem Oi {xs : List Bool} (hl : xs.length ≤ 1048576) (v : Bool) : XY xs v = some (xs.any fun y => v == y) := by
 unfold XY
 have h1 : Z4 xs v = Bh xs.length (fun i => bif (xs[i]?).any (fun y => v == y) then some (i : Int) else none) (some (-1)) := by
  unfold Z4
  refine BB xs.length (fun i => (i : Int)) _ _ (fun i hi _ => ?_) (fun _ => ?_)
  ·unfold OH
   simp only [Bf hi, cond_true, AE, ae hi, aa, bx, AS (show i < 9223372036854775807 by omega)]
   cases (v == xs[i]) <;> rfl
  ·unfold OH
   simp only [Bd, cond_false]
 rw [h1]
 exact HA xs _ _ rfl
def UW (p : AT) (h : AD) : Bool := bif (h.State == 3) then (bif h.Shown then (decide (h.Timer ≥ 1) && decide (h.Timer ≤ p.DX)) else false) else (((h.Timer == (0:Int)) && ((h.State != (0:Int)) || !h.Shown)) && ((h.State != (2:Int)) || h.Shown))
theorem YA (p : AT) (h : AD) : Lb p h = some (UW p h) := by
 unfold Lb O7 UW
 simp only [Fc, aa]
 by_cases h3 : h.State = 3
 ·simp only [h3, beq_self_eq_true, cond_true, show ((3 : Int) == 0) = false from rfl, show ((3 : Int) == 2) = false from rfl]
  cases h.Shown <;> cases (decide (h.Timer ≥ 1) && decide (h.Timer ≤ p.DX)) <;> rfl
 ·rw [beq_eq_false_iff_ne.2 h3, show (h.State != 0) = !(h.State == 0) from rfl, show (h.State != 2) = !(h.State == 2) from rfl, show (h.Timer != 0) = !(h.Timer == 0) from rfl]
  cases (h.State == 0) <;> cases (h.State == 2) <;> cases h.Shown <;> cases (h.Timer == 0) <;> rfl
theorem Rk {p : AT} {h : AD} {g : Nat} (hg : h.Aj = (g : Int)) (hl : g ≤ h.Ac.length) (hm : h.Ac.length ≤ 1048576) : Mo p h = some (bif (h.Ac.take g).any (fun b => !b) then false else UW p h) := by
 unfold Mo
 have h1 : AG (PM p h) (((0 : Nat)) : Int) = Bh g (fun i => bif (h.Ac[i]?).any (fun b => !b) then some false else none) (some (UW p h)) := by
  refine BB g (fun i => (i : Int)) _ _ (fun i hi _ => ?_) (fun _ => ?_)
  ·unfold PM
   simp only [hg, Bf hi, cond_true, AE, ae (show i < h.Ac.length by omega), aa, bx, AS (show i < 9223372036854775807 by omega)]
   cases h.Ac[i] <;> rfl
  ·unfold PM UW
   simp only [hg, Bd, cond_false, Jv, aa]
   cases (h.State == 3) <;> cases h.Shown <;> rfl
 rw [show (0 : Int) = (((0 : Nat)) : Int) from rfl, h1, EL, ED]
 cases (h.Ac.take g).any (fun b => !b) <;> rfl
theorem My {p : AT} {f : Frame} {i : Nat} {h : AD} {w : CA} (hf : f.A3[i]? = some h) (hw : p.A3[i]? = some w) (h1 : h.Ac.length ≤ 1048576) (h2 : w.A0.length ≤ 1048576) : ∃ r, lN p f (i : Int) = some r ∧ Yn p h w = some r ∧ (r = true → HG h w) := by
 unfold lN Yn
 simp only [AE, hf, hw, aa, Jv, Fc]
 cases hA : (decide (h.State ≥ 0) && decide (h.State ≤ 4)) with
 | false => exact ⟨false, rfl, rfl, fun h => by cases h⟩
 | true =>
  cases hB : ((h.Ac.length : Int) != (w.A0.length : Int)) with
  | true => exact ⟨false, rfl, rfl, fun h => by cases h⟩
  | false =>
   simp only [da, gq, cond_false, aa]
   rw [I0 (by omega)]
   cases hC : (decide (h.Aj ≥ 0) && decide (h.Aj < (w.A0.length : Int))) with
   | false => exact ⟨false, rfl, rfl, fun h => by cases h⟩
   | true =>
    simp only [ar, decide_eq_true_eq] at hA hC
    rw [bne_eq_false_iff_eq] at hB
    have hG : HG h w := ⟨⟨hA.1, hA.2⟩, by omega, ⟨hC.1, hC.2⟩⟩
    obtain ⟨g, hg⟩ : ∃ g : Nat, h.Aj = (g : Int) := ⟨h.Aj.toNat, by omega⟩
    have hgl : g ≤ h.Ac.length := by omega
    simp only [da, cond_false]
    rw [YA, Rk hg hgl h1]
    cases h4 : (h.State != 4) with
    | true =>
     have h3 : AG (PN p h) (((0 : Nat)) : Int) = Bh h.Ac.length (fun i => bif (h.Ac[i]?).any (fun b => true == b) then some false else none) (bif (h.Aj != (0:Int)) then some false else Mo p h) := by
      refine BB h.Ac.length (fun i => (i : Int)) _ _ (fun i hi _ => ?_) (fun _ => ?_)
      ·unfold PN
       simp only [Bf hi, cond_true, AE, ae hi, aa, bx, AS (show i < 9223372036854775807 by omega)]
       cases h.Ac[i] <;> rfl
      ·unfold PN
       simp only [Bd, cond_false]
     rw [Eg, Rk hg hgl h1] at h3
     rw [show (0 : Int) = (((0 : Nat)) : Int) from rfl, Oi h1]
     simp only [cond_true, h3, aa]
     by_cases hz : h.Aj = 0
     ·have g0 : g = 0 := by omega
      subst g0
      have z1 : ((0 : Int) != (0 : Int)) = false := rfl
      have z2 : ((0 : Int) != ((0 : Nat) : Int)) = false := rfl
      rw [hz]
      simp only [z1, z2, kr, jk, cond_false]
      cases (h.Ac.any fun y => true == y) with
      | true => exact ⟨false, rfl, rfl, fun h => by cases h⟩
      | false => exact ⟨_, rfl, rfl, fun _ => hG⟩
     ·have z1 : (h.Aj != (0 : Int)) = true := bne_iff_ne.2 hz
      have z2 : (h.Aj != ((0 : Nat) : Int)) = true := bne_iff_ne.2 hz
      simp only [z1, z2]
      cases (h.Ac.any fun y => true == y) <;> exact ⟨false, rfl, rfl, fun h => by cases h⟩
    | false =>
     rw [show h.Aj = (g : Int) from hg, Rg hgl]
     simp only [cond_false, aa]
     rw [Oi (by rw [dn]; omega)]
     rw [show (fun y : Bool => false == y) = (fun y => !y) from funext fun y => by cases y <;> rfl]
     simp only [aa]
     cases ((h.Ac.take g).any fun y => !y) with
     | true => exact ⟨false, rfl, rfl, fun h => by cases h⟩
     | false => exact ⟨_, rfl, rfl, fun _ => hG⟩
theorem G4 {σ σ' ρ ρ' : Type} {F : σ → Option (σ ⊕ ρ)} {F' : σ' → Option (σ' ⊕ ρ')} (n : Nat) (Inv : Nat → σ → σ' → Prop) (R : ρ → ρ' → Prop) {s0 : σ} {s0' : σ'} (h0 : Inv 0 s0 s0')
  (h : ∀ i s s', i < n → Inv i s s' → (∃ t t', F s = some (.inl t) ∧ F' s' = some (.inl t') ∧ Inv (i + 1) t t') ∨ (∃ r r', F s = some (.inr r) ∧ F' s' = some (.inr r') ∧ R r r'))
  (hend : ∀ s s', Inv n s s' → ∃ r r', F s = some (.inr r) ∧ F' s' = some (.inr r') ∧ R r r') : ∃ r r', AG F s0 = some r ∧ AG F' s0' = some r' ∧ R r r' := by
 have key : ∀ k i s s', i + k = n → Inv i s s' → ∃ r r', AG F s = some r ∧ AG F' s' = some r' ∧ R r r' := by
  intro k
  induction k with
  | zero =>
   intro i s s' hi hs
   have : i = n := by omega
   subst this
   obtain ⟨r, r', e1, e2, e3⟩ := hend s s' hs
   exact ⟨r, r', by rw [Be, e1]; rfl, by rw [Be, e2]; rfl, e3⟩
  | succ k ih =>
   intro i s s' hi hs
   rcases h i s s' (by omega) hs with ⟨t, t', e1, e2, e3⟩ | ⟨r, r', e1, e2, e3⟩
   ·obtain ⟨r, r', f1, f2, f3⟩ := ih (i + 1) t t' (by omega) e3
    exact ⟨r, r', by rw [Be, e1]; exact f1, by rw [Be, e2]; exact f2, f3⟩
   ·exact ⟨r, r', by rw [Be, e1]; rfl, by rw [Be, e2]; rfl, e3⟩
 exact key n 0 s0 s0' (by omega) h0
theorem OP {α : Type} {ws : List α} {i : Nat} (h : i < ws.length) (x : α) : (ws.set i x)[i]? = some x := by rw [km, if_pos rfl, if_pos h]
theorem Vw {α : Type} {ws : List α} {i : Nat} {x : α} (h : ws[i]? = some x) : ws.set i x = ws := by
 have hl := Bi h
 have : ws[i] = x := by rw [ae hl] at h; exact av h
 rw [← this, List.set_getElem_self]
theorem GU {p : AT} {ws : List AD} {i : Nat} {w : CA} {x : AD} (H : WG p ws) (hw : p.A3[i]? = some w) (hx : HG x w) : WG p (ws.set i x) := by
 refine ⟨by rw [bp]; exact H.1, fun k a b ha hb => ?_⟩
 rw [km] at ha
 by_cases hk : i = k
 ·subst hk
  rw [if_pos rfl] at ha
  split at ha
  ·cases ha
   rw [hw] at hb
   cases hb
   exact hx
  ·cases ha
 ·rw [if_neg hk] at ha
  exact H.2 k a b ha hb
theorem R8 {f : Frame} (hs : E5 f) : gK f = some f := by
 have h1 := hs.1.1
 have h2 := hs.2.1.1
 have h3 := hs.2.2.1
 unfold gK
 rw [DC (by simp only [fg]; omega), aa, DC (by simp only [fg]; omega), aa]
 simp only [dr]
 refine jV (F := PH f) (fun ws i => (f.B1, f.A1, ws, i)) f.A3 id (r := f) (fun ws i x hx hi => ?_) ?_
 ·have hlt := Bi hx
  have hb : x.Ac.length ≤ 1048576 := (hs.2.2.2 x (bj hx)).1
  unfold PH
  simp only [Bf hlt, cond_true, AE, hx, aa]
  rw [DC (by simp only [fg]; omega), aa, DC (by simp only [cn]; omega), aa, AS (by omega)]
  rfl
 ·unfold PH
  simp only [Bd, cond_false, List.map_id]
  rfl
theorem R7 {f : Frame} (hs : E5 f) : gN f = some f := by
 have h1 := hs.1.1
 have h2 := hs.2.1.1
 have h3 := hs.2.2.1
 unfold gN
 rw [DC (by simp only [fg]; omega), aa, DC (by simp only [fg]; omega), aa, DC (by simp only [fg]; omega), aa]
 simp only [dr]
 refine Ez (F := Pa f f.B1 f.A1) f.A3.length (fun i => (i : Int)) (fun i hi => ?_) ?_
 ·have hb : f.A3[i].Ac.length ≤ 1048576 := (hs.2.2.2 _ (bg hi)).1
  unfold Pa
  simp only [Bf hi, cond_true, AE, ae hi, aa]
  rw [DC (by simp only [fg]; omega), aa, AS (by omega)]
 ·unfold Pa
  simp only [Bd, cond_false]
  rfl
def bZ (f : Frame) (t : Af) : Bool := match AH f.A1 t.Switch with | some x => (x.Want == t.CK) && (x.AJ == t.CK) | none => false
def EC (f : Frame) (s : Int) : Bool := (AH f.B1 s).getD false
def MG (f : Frame) (w : CA) : Bool := bif (w.AJ ++ w.A7).any (fun t => !bZ f t) then false else !(w.A0.any (EC f)) && !(w.Bl.any (EC f))
theorem H6 {p : AT} {f : Frame} (ho : (f.B1.length : Int) = p.A0) {s : Int} (h : 0 ≤ s ∧ s < p.A0) : AH f.B1 s = some (EC f s) := by
 obtain ⟨k, rfl⟩ : ∃ k : Nat, s = (k : Int) := ⟨s.toNat, by omega⟩
 unfold EC
 rw [J5 (show k < f.B1.length by omega)]
 rfl
theorem aA {p : AT} {f : Frame} (ho : f.A1.length = p.A5.length) (hp : p.A5.length ≤ 1048576) {t : Af} (h : tB p t = true) : ∃ x, AH f.A1 t.Switch = some x ∧ bZ f t = ((x.Want == t.CK) && (x.AJ == t.CK)) := by
 obtain ⟨k, c, e1, e2, e3⟩ := MQ hp h
 have := J5 (show k < f.A1.length by have := Bi e2; omega)
 exact ⟨_, by rw [e1]; exact this, by unfold bZ; rw [e1, this]⟩
theorem NK {p : AT} {f : Frame} (ho : (f.B1.length : Int) = p.A0) {l : List Int} (hl : l.length ≤ 30) (h : ∀ x ∈ l, 0 ≤ x ∧ x < p.A0) : jT f l = some (l.any (EC f)) := by
 unfold jT Lh
 have h1 : Jm l f = Bh l.length (fun i => bif (l[i]?).any (EC f) then some (i : Int) else none) (some (-1)) := by
  unfold Jm
  refine BB l.length (fun i => (i : Int)) _ _ (fun i hi _ => ?_) (fun _ => ?_)
  ·unfold Ht cI
   simp only [Bf hi, cond_true, AE, ae hi, aa, H6 ho (h _ (bg hi)), bx, AS (show i < 9223372036854775807 by omega)]
   cases EC f l[i] <;> rfl
  ·unfold Ht
   simp only [Bd, cond_false]
 rw [h1]
 have := HA l (EC f) (some (-1)) rfl
 rw [this]; rfl
theorem UF {p : AT} {f : Frame} {i : Nat} {w : CA} (hp : p.A5.length ≤ 1048576) (G : Kk p w) (hw : p.A3[i]? = some w) (ho : (f.B1.length : Int) = p.A0) (hq : f.A1.length = p.A5.length) : Ys p f (i : Int) = some (MG f w) := by
 obtain ⟨l1, l2, _, l3, l4⟩ := G.RO
 unfold Ys ZG
 simp only [AE, hw, aa]
 rw [DC (by simp only [fg]; omega), aa, dr, DC (by omega)]
 simp only [aa]
 have hlen : (w.AJ ++ w.A7).length ≤ 60 := by rw [an]; omega
 have h1 : AG (Li f w (w.AJ ++ w.A7)) (((0 : Nat)) : Int) = Bh (w.AJ ++ w.A7).length (fun k => bif ((w.AJ ++ w.A7)[k]?).any (fun t => !bZ f t) then some false else none) (some (!(w.A0.any (EC f)) && !(w.Bl.any (EC f)))) := by
  refine BB (w.AJ ++ w.A7).length (fun k => (k : Int)) _ _ (fun k hk _ => ?_) (fun _ => ?_)
  ·have hm : tB p (w.AJ ++ w.A7)[k] = true := by
    rcases aq.1 (bg hk) with h | h
    ·exact G.VS _ h
    ·exact G.L5 _ h
   obtain ⟨x, e1, e2⟩ := aA hq hp hm
   unfold Li
   simp only [Bf hk, cond_true, AE, ae hk, aa, e1, bx, e2, AS (show k < 9223372036854775807 by omega)]
   cases (x.Want == (w.AJ ++ w.A7)[k].CK) <;> cases (x.AJ == (w.AJ ++ w.A7)[k].CK) <;> rfl
  ·unfold Li
   simp only [Bd, cond_false, NK ho l1 G.HV, NK ho l2 G.kC, aa]
   cases w.A0.any (EC f) <;> rfl
 rw [show (0 : Int) = (((0 : Nat)) : Int) from rfl, h1, Eg]
 unfold MG
 cases (w.AJ ++ w.A7).any (fun t => !bZ f t) <;> rfl
theorem UG {p : AT} {f : Frame} {i : Nat} {w : CA} (hp : p.A5.length ≤ 1048576) (G : Kk p w) (hw : p.A3[i]? = some w) (ho : (f.B1.length : Int) = p.A0) (hq : f.A1.length = p.A5.length) : nP p f (i : Int) = some (MG f w) := by
 obtain ⟨l1, l2, _, l3, l4⟩ := G.RO
 unfold nP
 simp only [AE, hw, aa]
 have h3 : AG (Mq f w) (((0 : Nat)) : Int) = Bh ([w.A0, w.Bl] : List (List Int)).length (fun k => bif (([w.A0, w.Bl] : List (List Int))[k]?).any (fun l => l.any (EC f)) then some false else none) (some true) := by
  refine BB ([w.A0, w.Bl] : List (List Int)).length (fun k => (k : Int)) _ _ (fun k hk _ => ?_) (fun _ => ?_)
  ·obtain ⟨l, hl⟩ : ∃ l, ([w.A0, w.Bl] : List (List Int))[k]? = some l := ⟨_, ae hk⟩
   have hm : l.length ≤ 30 ∧ ∀ x ∈ l, 0 ≤ x ∧ x < p.A0 := by
    have := bj hl
    simp only [bq, lf, or_false] at this
    rcases this with rfl | rfl
    ·exact ⟨l1, G.HV⟩
    ·exact ⟨l2, G.kC⟩
   have hk2 : k < 2 := hk
   unfold Mq
   simp only [Bf hk, cond_true, AE, hl, aa, bx]
   have h4 := BB (F := PY f (k : Int) l) l.length (fun j => (j : Int)) (fun j => bif (l[j]?).any (EC f) then some (.inr false) else none) (some (.inl ((k + 1 : Nat) : Int))) (fun j hj _ => by
    unfold PY
    simp only [Bf hj, cond_true, AE, ae hj, aa, H6 ho (hm.2 _ (bg hj)), bx, AS (show j < 9223372036854775807 by omega)]
    cases EC f l[j] <;> rfl) (fun _ => by
    unfold PY
    simp only [Bd, cond_false, AS (show k < 9223372036854775807 by omega)])
   rw [Eg] at h4
   rw [show (0 : Int) = (((0 : Nat)) : Int) from rfl]
   refine h4.trans ?_
   cases l.any (EC f) <;> rfl
  ·unfold Mq
   simp only [Bd, cond_false]
 have h1 : AG (PW f w) (((0 : Nat)) : Int) = Bh ([w.AJ, w.A7] : List (List Af)).length (fun k => bif (([w.AJ, w.A7] : List (List Af))[k]?).any (fun l => l.any (fun t => !bZ f t)) then some false else none) (AG (Mq f w) (((0 : Nat)) : Int)) := by
  refine BB ([w.AJ, w.A7] : List (List Af)).length (fun k => (k : Int)) _ _ (fun k hk _ => ?_) (fun _ => ?_)
  ·obtain ⟨l, hl⟩ : ∃ l, ([w.AJ, w.A7] : List (List Af))[k]? = some l := ⟨_, ae hk⟩
   have hm : l.length ≤ 30 ∧ ∀ x ∈ l, tB p x = true := by
    have := bj hl
    simp only [bq, lf, or_false] at this
    rcases this with rfl | rfl
    ·exact ⟨l3, G.VS⟩
    ·exact ⟨l4, G.L5⟩
   have hk2 : k < 2 := hk
   unfold PW
   simp only [Bf hk, cond_true, AE, hl, aa, bx]
   have h4 := BB (F := PX f (k : Int) l) l.length (fun j => (j : Int)) (fun j => bif (l[j]?).any (fun t => !bZ f t) then some (.inr false) else none) (some (.inl ((k + 1 : Nat) : Int))) (fun j hj _ => by
    obtain ⟨x, e1, e2⟩ := aA hq hp (hm.2 _ (bg hj))
    unfold PX
    simp only [Bf hj, cond_true, AE, ae hj, aa, e1, bx, e2, AS (show j < 9223372036854775807 by omega)]
    rw [show (x.Want != l[j].CK) = !(x.Want == l[j].CK) from rfl, show (x.AJ != l[j].CK) = !(x.AJ == l[j].CK) from rfl]
    cases (x.Want == l[j].CK) <;> cases (x.AJ == l[j].CK) <;> rfl) (fun _ => by
    unfold PX
    simp only [Bd, cond_false, AS (show k < 9223372036854775807 by omega)])
   rw [Eg] at h4
   rw [show (0 : Int) = (((0 : Nat)) : Int) from rfl]
   refine h4.trans ?_
   cases l.any (fun t => !bZ f t) <;> rfl
  ·unfold PW
   simp only [Bd, cond_false]
   rfl
 rw [show (0 : Int) = (((0 : Nat)) : Int) from rfl, h1, h3, Eg, Eg]
 unfold MG
 rw [kc]
 simp only [jg, jk, gq]
 cases w.AJ.any (fun t => !bZ f t) <;> cases w.A7.any (fun t => !bZ f t) <;> cases w.A0.any (EC f) <;> cases w.Bl.any (EC f) <;> rfl
abbrev LN (f : Frame) (ws : List AD) : Frame := { Ok := f.Ok, B1 := f.B1, A1 := f.A1, A3 := ws }
theorem Xf {p : AT} {f : Frame} {i : Nat} {w : CA} {ws : List AD} {h : AD} (G : Kk p w) (ho : (f.B1.length : Int) = p.A0) (hi : i < 1048576) (hW : WG p ws) (hw : p.A3[i]? = some w) (hh : ws[i]? = some h) (ws0 : List AD) :
  ∃ ws', AG (Ky f (i : Int) w) (ws, h) = some (.inl (ws', ((i + 1 : Nat) : Int))) ∧ AG (Kx w (LN f ws0) (i : Int)) (ws, h) = some (LN f ws') ∧ WG p ws' := by
 have hg := hW.2 i h w hh hw
 obtain ⟨g0, hg0⟩ : ∃ g : Nat, h.Aj = (g : Int) := ⟨h.Aj.toNat, by have := hg.gone; omega⟩
 have hgn := hg.gone
 have hne := G.ne
 have h30 := G.RO.1
 have hbl := hg.LR
 have hil := Bi hh
 have hH : ∀ j : Nat, g0 + j < w.A0.length → HG { h with Aj := ((g0 + j : Nat) : Int) } w := fun j hj => ⟨hg.st, hg.LR, ⟨by show (0 : Int) ≤ ((g0 + j : Nat) : Int); omega, by show ((g0 + j : Nat) : Int) < _; omega⟩⟩
 have hn1 : BE ((w.A0.length : Int) - 1) = ((w.A0.length - 1 : Nat) : Int) := by rw [LL ⟨by omega, by omega⟩]; omega
 refine (G4 (F := Ky f (i : Int) w) (F' := Kx w (LN f ws0) (i : Int)) (w.A0.length - g0) (fun j s s' => s = s' ∧ s = (ws.set i { h with Aj := ((g0 + j : Nat) : Int) }, { h with Aj := ((g0 + j : Nat) : Int) })) (fun r r' => ∃ ws', r = .inl (ws', ((i + 1 : Nat) : Int)) ∧ r' = LN f ws' ∧ WG p ws') (s0 := (ws, h)) (s0' := (ws, h)) ⟨rfl, by
   have : ({ h with Aj := ((g0 + 0 : Nat) : Int) } : AD) = h := by
    cases h
    simp only [] at hg0
    rw [hg0]
    rfl
   rw [this, Vw hh]⟩ (fun j s s' hj hs => ?_) (fun s s' hs => ?_)).elim fun r hr => ?_
 ·obtain ⟨rfl, rfl⟩ := hs
  have hlt : g0 + j < w.A0.length := by omega
  have hb := ae (show g0 + j < h.Ac.length by omega)
  have hsec := ae hlt
  have hocc := H6 ho (G.HV _ (bg hlt))
  have e3 : (((g0 + j : Nat) : Int) == (w.A0.length : Int)) = false := by rw [beq_eq_false_iff_ne]; omega
  have hset : ∀ y : AD, (ws.set i { h with Aj := ((g0 + j : Nat) : Int) }).set i y = ws.set i y := fun y => kb ..
  obtain ⟨c, k1, k2⟩ : ∃ c : Bool, Ky f (i : Int) w (ws.set i { h with Aj := ((g0 + j : Nat) : Int) }, { h with Aj := ((g0 + j : Nat) : Int) }) = some (bif c then .inl (ws.set i { h with Aj := ((g0 + (j + 1) : Nat) : Int) }, { h with Aj := ((g0 + (j + 1) : Nat) : Int) }) else .inr (.inl (ws.set i { h with Aj := ((g0 + j : Nat) : Int) }, ((i + 1 : Nat) : Int)))) ∧ Kx w (LN f ws0) (i : Int) (ws.set i { h with Aj := ((g0 + j : Nat) : Int) }, { h with Aj := ((g0 + j : Nat) : Int) }) = some (bif c then .inl (ws.set i { h with Aj := ((g0 + (j + 1) : Nat) : Int) }, { h with Aj := ((g0 + (j + 1) : Nat) : Int) }) else .inr (LN f (ws.set i { h with Aj := ((g0 + j : Nat) : Int) }))) := by
   unfold Ky Kx HM
   simp only [Bf hlt, cond_true, AE, hb, hsec, aa, hocc, hn1, e3, AS (show g0 + j < 9223372036854775807 by omega), AS (show i < 9223372036854775807 by omega), gz, hset]
   by_cases hl : g0 + j = w.A0.length - 1
   ·rw [show (((g0 + j : Nat) : Int) == ((w.A0.length - 1 : Nat) : Int)) = true by rw [beq_iff_eq, hl], show decide (((g0 + j : Nat) : Int) < ((w.A0.length - 1 : Nat) : Int)) = false by rw [hl]; exact Bd _]
    cases h.Ac[g0 + j]'(by omega) with
    | false => exact ⟨false, rfl, rfl⟩
    | true =>
     cases EC f w.A0[g0 + j] with
     | true => exact ⟨false, rfl, rfl⟩
     | false => exact ⟨true, rfl, rfl⟩
   ·have hb2 := ae (show g0 + j + 1 < h.Ac.length by omega)
    rw [show (((g0 + j : Nat) : Int) == ((w.A0.length - 1 : Nat) : Int)) = false by rw [beq_eq_false_iff_ne]; omega, Bf (show g0 + j < w.A0.length - 1 by omega)]
    simp only [hb2, aa]
    cases h.Ac[g0 + j]'(by omega) with
    | false => exact ⟨false, rfl, rfl⟩
    | true =>
     cases EC f w.A0[g0 + j] with
     | true => exact ⟨false, rfl, rfl⟩
     | false =>
      cases h.Ac[g0 + j + 1]'(by omega) with
      | false => exact ⟨false, rfl, rfl⟩
      | true => exact ⟨true, rfl, rfl⟩
  cases c with
  | true => exact .inl ⟨_, _, k1, k2, rfl, rfl⟩
  | false => exact .inr ⟨_, _, k1, k2, _, rfl, rfl, GU hW hw (hH j hlt)⟩
 ·obtain ⟨rfl, rfl⟩ := hs
  have hgn2 : g0 + (w.A0.length - g0) = w.A0.length := by omega
  simp only [hgn2]
  have hidle : HG { State := 0, Aj := 0, Ac := cq w.A0.length false, Shown := false, Timer := 0 } w := ⟨⟨by show (0 : Int) ≤ 0; omega, by show (0 : Int) ≤ 4; omega⟩, by show (cq _ _).length = _; rw [List.length_replicate], ⟨by show (0 : Int) ≤ 0; omega, by show (0 : Int) < _; omega⟩⟩
  have hm : Gv 1 (w.A0.length : Int) = some w.A0.length := FM (by omega)
  have hset : ∀ y : AD, (ws.set i { h with Aj := (w.A0.length : Int) }).set i y = ws.set i y := fun y => kb ..
  unfold Ky Kx HM gO gL
  simp only [Bd, cond_false, aa, beq_self_eq_true, cond_true, hm, AE, OP hil, hbl, AS (show i < 9223372036854775807 by omega), gz, hset]
  exact ⟨_, _, rfl, rfl, _, rfl, rfl, GU hW hw hidle⟩
 ·obtain ⟨r', e1, e2, ws', rfl, rfl, e3⟩ := hr
  exact ⟨ws', e1, e2, e3⟩
theorem Xw {p : AT} {f : Frame} {i : Nat} {w : CA} {ws : List AD} {h : AD} (G : Kk p w) (ho : (f.B1.length : Int) = p.A0) (hi : i < 1048576) (hW : WG p ws) (hw : p.A3[i]? = some w) (hh : ws[i]? = some h) :
  ∃ ws', AG (Mr f (i : Int) w) (ws, h, (0 : Int)) = some (.inl (ws', ((i + 1 : Nat) : Int))) ∧ nQ w (LN f ws) (i : Int) = some (LN f ws') ∧ WG p ws' := by
 have h30 := G.RO.1
 unfold nQ
 simp only [AE, hh, aa]
 refine (G4 (F := Mr f (i : Int) w) (F' := PZ w (LN f ws) (i : Int)) w.A0.length (fun k s s' => s = s' ∧ ∃ v x, s = (v, x, (k : Int)) ∧ WG p v ∧ v[i]? = some x) (fun r r' => ∃ ws', r = .inl (ws', ((i + 1 : Nat) : Int)) ∧ r' = LN f ws' ∧ WG p ws') (s0 := (ws, h, (0 : Int))) (s0' := (ws, h, (0 : Int))) ⟨rfl, ws, h, rfl, hW, hh⟩ (fun k s s' hk hs => ?_) (fun s s' hs => ?_)).elim fun r hr => ?_
 ·obtain ⟨rfl, v, x, rfl, hv, hx⟩ := hs
  have hg := hv.2 i x w hx hw
  have hkb : k < x.Ac.length := by have := hg.LR; omega
  have hsec := ae hk
  have hb := ae hkb
  have hocc := H6 ho (G.HV _ (bg hk))
  left
  unfold Mr PZ Sf
  simp only [Bf hk, cond_true, AE, hb, hsec, aa, hocc, AS (show k < 9223372036854775807 by omega), gz]
  have hst : ∀ b : Bool, HG { x with Ac := x.Ac.set k b } w := fun b => ⟨hg.st, by show (x.Ac.set k b).length = _; rw [bp]; exact hg.LR, hg.gone⟩
  have hil := Bi hx
  cases EC f w.A0[k] with
  | true =>
   refine ⟨_, _, ?_, rfl, rfl, _, _, rfl, GU hv hw (hst true), OP hil _⟩
   cases x.Ac[k] <;> rfl
  | false =>
   refine ⟨(v, x, ((k + 1 : Nat) : Int)), _, ?_, rfl, rfl, _, _, rfl, hv, hx⟩
   have e : ({ x with Ac := x.Ac.set k x.Ac[k] } : AD) = x := by rw [Vw hb]
   have e4 : (bif x.Ac[k] then some true else some false) = some x.Ac[k] := by cases x.Ac[k] <;> rfl
   rw [e4, aa, e, Vw hx]
 ·obtain ⟨rfl, v, x, rfl, hv, hx⟩ := hs
  obtain ⟨ws', f1, f2, f3⟩ := Xf G ho hi hv hw hx ws
  unfold Mr PZ
  simp only [Bd, cond_false, f1, f2]
  exact ⟨_, _, rfl, rfl, ws', rfl, rfl, f3⟩
 ·obtain ⟨r', e1, e2, ws', rfl, rfl, e3⟩ := hr
  exact ⟨ws', e1, e2, e3⟩
theorem Wf {p : AT} {f : Frame} {i : Nat} {w : CA} {ws : List AD} {h : AD} (hp : p.A5.length ≤ 1048576) (G : Kk p w) (ho : (f.B1.length : Int) = p.A0) (hq : f.A1.length = p.A5.length) (hi : i < 1048576) (hW : WG p ws) (hw : p.A3[i]? = some w) (hh : ws[i]? = some h) :
  ∃ ws', PJ p f.Ok f.B1 f.A1 (i : Int) w ws h = some (.inl (f.Ok, f.B1, f.A1, ws', ((i + 1 : Nat) : Int))) ∧ Ms p f (i : Int) w ws h = some (.inl (ws', ((i + 1 : Nat) : Int))) ∧ WG p ws' := by
 have hg := hW.2 i h w hh hw
 have e3 : Ms p f (i : Int) w ws h = Pc p f (i : Int) w ws h ((h.State == (1:Int)) || (h.State == (2:Int))) := by
  unfold Ms
  cases (h.State == (1:Int)) <;> rfl
 rw [e3]
 unfold PJ Pc PK Ml HM
 have hst : ∀ (s : Int) (b : Bool), 0 ≤ s ∧ s ≤ 4 → HG { h with State := s, Shown := b } w := fun s b hs => ⟨hs, hg.LR, hg.gone⟩
 cases hc : ((h.State == (1:Int)) || (h.State == (2:Int))) with
 | true =>
  simp only [cond_true]
  rw [UG (f := LN f (ws.set (i : Int).toNat { h with State := (1:Int) })) hp G hw ho hq, UF (f := LN f (ws.set (i : Int).toNat { h with State := (1:Int) })) hp G hw ho hq]
  simp only [aa, gz, AS (show i < 9223372036854775807 by omega)]
  cases MG (LN f (ws.set i { h with State := (1:Int) })) w with
  | true =>
   refine ⟨_, rfl, rfl, ?_⟩
   rw [kb, kb]
   exact GU hW hw (hst 2 true ⟨by omega, by omega⟩)
  | false => exact ⟨_, rfl, rfl, GU hW hw (hst 1 h.Shown ⟨by omega, by omega⟩)⟩
 | false =>
  simp only [cond_false]
  cases (h.State == (4:Int)) with
  | true =>
   obtain ⟨ws', f1, f2, f3⟩ := Xw G ho hi hW hw hh
   simp only [cond_true, f1, f2, aa, AS (show i < 9223372036854775807 by omega)]
   exact ⟨ws', rfl, rfl, f3⟩
  | false =>
   simp only [cond_false, AS (show i < 9223372036854775807 by omega)]
   exact ⟨ws, rfl, rfl, hW⟩
theorem Nu {p : AT} {f : Frame} (G : Fe p) (F : W8 p f) : ∃ ws', YI p f = some (LN f ws') ∧ bW p f = some (LN f ws') ∧ WG p ws' := by
 have hp : p.A5.length ≤ 1048576 := by have := G.TK; omega
 have h100 := G.Qy
 have hfl := F.ways.1
 unfold YI bW
 refine (G4 (F := PI p f) (F' := Pb p f) f.A3.length (fun i s s' => ∃ ws, s = (f.Ok, f.B1, f.A1, ws, (i : Int)) ∧ s' = (ws, (i : Int)) ∧ WG p ws) (fun r r' => ∃ ws', r = LN f ws' ∧ r' = LN f ws' ∧ WG p ws') (s0 := (f.Ok, f.B1, f.A1, f.A3, (0 : Int))) (s0' := (f.A3, (0 : Int))) ⟨f.A3, rfl, rfl, F.ways⟩ (fun i s s' hi hs => ?_) (fun s s' hs => ?_)).elim fun r hr => ?_
 ·obtain ⟨ws, rfl, rfl, hW⟩ := hs
  left
  have hlw : i < p.A3.length := by omega
  obtain ⟨w, hw⟩ : ∃ w, p.A3[i]? = some w := ⟨_, ae hlw⟩
  obtain ⟨h, hh⟩ : ∃ h, ws[i]? = some h := ⟨_, ae (show i < ws.length by have := hW.1; omega)⟩
  have GW := G.XA i w hw
  have hg := hW.2 i h w hh hw
  have hs0 := ae GW.ne
  have hg0 : AH w.A0 (0 : Int) = some (w.A0[0]'GW.ne) := J5 GW.ne
  have hocc := H6 F.RU (GW.HV _ (bg GW.ne))
  have hil := Bi hh
  unfold PI Pb
  simp only [Bf hi, cond_true, AE, hh, hw, aa, hg0, hocc]
  cases (h.State == (0:Int)) with
  | true =>
   unfold Ml HM
   simp only [cond_true, AS (show i < 9223372036854775807 by omega)]
   exact ⟨_, _, rfl, rfl, ws, rfl, rfl, hW⟩
  | false =>
   simp only [cond_false]
   have stay := Wf hp GW F.RU F.JW (show i < 1048576 by omega) hW hw hh
   cases (h.State != (4:Int)) with
   | false =>
    simp only [cond_false, aa]
    obtain ⟨ws', f1, f2, f3⟩ := stay
    exact ⟨_, _, f1, f2, ws', rfl, rfl, f3⟩
   | true =>
    simp only [cond_true, aa]
    cases EC f (w.A0[0]'GW.ne) with
    | false =>
     simp only [cond_false]
     obtain ⟨ws', f1, f2, f3⟩ := stay
     exact ⟨_, _, f1, f2, ws', rfl, rfl, f3⟩
    | true =>
     simp only [cond_true, gz]
     have hx : HG { h with State := (4:Int), Timer := (0:Int) } w := ⟨⟨by show (0 : Int) ≤ 4; omega, by show (4 : Int) ≤ 4; omega⟩, hg.LR, hg.gone⟩
     obtain ⟨ws', f1, f2, f3⟩ := Wf (h := { h with State := (4:Int), Timer := (0:Int) }) hp GW F.RU F.JW (show i < 1048576 by omega) (ws := (ws.set i { h with State := (4:Int) }).set i { h with State := (4:Int), Timer := (0:Int) }) (by rw [kb]; exact GU hW hw hx) hw (OP (by rw [bp]; exact hil) _)
     exact ⟨_, _, f1, f2, ws', rfl, rfl, f3⟩
 ·obtain ⟨ws, rfl, rfl, hW⟩ := hs
  unfold PI Pb
  simp only [Bd, cond_false]
  exact ⟨_, _, rfl, rfl, ws, rfl, rfl, hW⟩
 ·obtain ⟨r', e1, e2, ws', rfl, rfl, e3⟩ := hr
  exact ⟨ws', e1, e2, e3⟩
def KC (a b : List Bool) (k : Nat) : Bool := (a[k]?).getD false == (b[k]?).getD false
theorem YZ {a b : List Bool} (hl : a.length = b.length) (hm : a.length ≤ 1048576) : XZ a b = some ((bt a.length).all (KC a b)) := by
 unfold XZ
 rw [show ((a.length : Int) != (b.length : Int)) = false by rw [bne_eq_false_iff_eq]; omega]
 simp only [cond_false]
 rw [HS a.length (KC a b) true (by omega) (fun i hi _ => ?_) (fun _ => ?_), ld]
 ·unfold O9 KC
  simp only [Bf hi, cond_true, AE, ae hi, ae (show i < b.length by omega), aa, ec, AS (show i < 9223372036854775807 by omega)]
  cases (a[i] == b[i]) <;> rfl
 ·unfold O9
  simp only [Bd, cond_false, aj]
theorem iL {a : List AZ} (hm : a.length ≤ 1048576) : Z0 a a = some true := by
 unfold Z0
 rw [show ((a.length : Int) != (a.length : Int)) = false by rw [bne_eq_false_iff_eq]]
 simp only [cond_false]
 rw [HS a.length (fun _ => true) true (by omega) (fun i hi _ => ?_) (fun _ => ?_)]
 ·simp
 ·unfold OA
  simp only [Bf hi, cond_true, AE, ae hi, aa, beq_self_eq_true, lz, da, cond_false, AS (show i < 9223372036854775807 by omega)]
 ·unfold OA
  simp only [Bd, cond_false, aj]
theorem ZR {x y : AD} (h1 : x.State = y.State) (h2 : x.Aj = y.Aj) (h3 : x.Ac = y.Ac) (h4 : x.Shown = y.Shown) (h5 : x.Timer = y.Timer) : x = y := by
 cases x
 cases y
 simp only [] at h1 h2 h3 h4 h5
 subst h1 h2 h3 h4 h5
 rfl
theorem Vv {a b : List Bool} (hl : a.length = b.length) (h : (bt a.length).all (KC a b) = true) : a = b := by
 refine List.ext_getElem hl fun k h1 h2 => ?_
 rw [cj] at h
 have := h k (cr.2 h1)
 unfold KC at this
 rw [ae h1, ae h2, ec, ec, beq_iff_eq] at this
 exact this
theorem Y6 {p : AT} {f : Frame} {ws : List AD} (hs : E5 f) (F : W8 p f) (hW : WG p ws) : ∃ r, jK f (LN f ws) = some r ∧ Uz f (LN f ws) = some r ∧ (r = true → ws = f.A3) := by
 have h1 := hs.1.1
 have h2 := hs.2.1.1
 have h3 := hs.2.2.1
 have hself : (bt f.B1.length).all (KC f.B1 f.B1) = true := by
  rw [cj]
  intro k _
  unfold KC
  exact beq_self_eq_true _
 have hfl := F.ways.1
 have hwl := hW.1
 unfold jK Uz
 simp only [YZ rfl h1, hself, iL h2, aa, da, cond_false, il]
 rw [show ((f.A3.length : Int) != (ws.length : Int)) = false by rw [bne_eq_false_iff_eq]; omega]
 simp only [cond_false]
 refine (G4 (F := PO f (LN f ws)) (F' := Lc f (LN f ws)) f.A3.length (fun i s s' => s = (i : Int) ∧ s' = (i : Int) ∧ ∀ k, k < i → ws[k]? = f.A3[k]?) (fun r r' => r = r' ∧ (r = true → ws = f.A3)) (s0 := (0 : Int)) (s0' := (0 : Int)) ⟨rfl, rfl, fun k hk => by omega⟩ (fun i s s' hi hs' => ?_) (fun s s' hs' => ?_)).elim fun r hr => ?_
 ·obtain ⟨rfl, rfl, hinv⟩ := hs'
  obtain ⟨x, hx⟩ : ∃ x, f.A3[i]? = some x := ⟨_, ae hi⟩
  obtain ⟨y, hy⟩ : ∃ y, ws[i]? = some y := ⟨_, ae (show i < ws.length by omega)⟩
  obtain ⟨w, hw⟩ : ∃ w, p.A3[i]? = some w := ⟨_, ae (show i < p.A3.length by omega)⟩
  have hbl : x.Ac.length = y.Ac.length := by rw [(F.ways.2 i x w hx hw).LR, (hW.2 i y w hy hw).LR]
  have hbm : x.Ac.length ≤ 1048576 := (hs.2.2.2 x (bj hx)).1
  have hL : AG (PQ (i : Int) x y) (0 : Int) = some (bif (bt x.Ac.length).any (fun k => !KC x.Ac y.Ac k) then .inr false else .inl ((i + 1 : Nat) : Int)) := by
   refine Ic (n := x.Ac.length) (fun k => !KC x.Ac y.Ac k) false (fun k hk => ?_) ?_
   ·unfold PQ KC
    simp only [Bf hk, cond_true, AE, ae hk, ae (show k < y.Ac.length by omega), aa, ec, AS (show k < 9223372036854775807 by omega)]
    cases (x.Ac[k] == y.Ac[k]'(by omega)) <;> rfl
   ·unfold PQ
    simp only [Bd, cond_false, AS (show i < 9223372036854775807 by omega)]
    rfl
  unfold PO Lc
  simp only [Bf hi, cond_true, AE, hx, hy, aa, YZ hbl hbm, hL, AS (show i < 9223372036854775807 by omega)]
  rw [← mc]
  cases hc : ((((x.State != y.State) || (x.Aj != y.Aj)) || !(x.Shown == y.Shown)) || (x.Timer != y.Timer)) with
  | true => exact .inr ⟨_, _, rfl, rfl, rfl, fun h => by cases h⟩
  | false =>
   cases ha : (bt x.Ac.length).all (KC x.Ac y.Ac) with
   | true =>
    refine .inl ⟨_, _, rfl, rfl, rfl, rfl, fun k hk => ?_⟩
    rcases bz k i with hl | hl
    ·exact hinv k hl
    ·have : k = i := by omega
     subst this
     simp only [mr, bne_eq_false_iff_eq, Bool.not_eq_false', beq_iff_eq] at hc
     rw [hx, hy, ZR hc.1.1.1 hc.1.1.2 (Vv hbl ha) hc.1.2 hc.2]
   | false => exact .inr ⟨_, _, rfl, rfl, rfl, fun h => by cases h⟩
 ·obtain ⟨rfl, rfl, hinv⟩ := hs'
  unfold PO Lc
  simp only [Bd, cond_false]
  refine ⟨_, _, rfl, rfl, rfl, fun _ => ?_⟩
  apply List.ext_getElem?
  intro k
  rcases bz k f.A3.length with hl | hl
  ·exact hinv k hl
  ·rw [ba hl, ba (by omega)]
 ·obtain ⟨r', e1, e2, rfl, e3⟩ := hr
  exact ⟨r, e1, e2, e3⟩
def UH (x : AZ) : Bool := !(decide (x.Want ≥ (1:Int)) && decide (x.Want ≤ (2:Int))) || !(decide (x.AJ ≥ (0:Int)) && decide (x.AJ ≤ (2:Int)))
def aI (f : Frame) (i : Nat) : Bool := ((f.A3[i]?).map fun h => h.State != (0:Int)).getD false
def Pu (p : AT) (f : Frame) (i : Nat) : Bool := (lN p f (i : Int)).getD false
def Jf (p : AT) (f : Frame) (i k : Nat) : Bool := HI p i k && (aI f i && aI f k)
def Rw (p : AT) (f : Frame) (i : Nat) : Bool := !Pu p f i || (bt p.A3.length).any fun k => !decide (i = k) && Jf p f i k
def TQ (p : AT) (f : Frame) (i : Nat) : Bool := !Pu p f i || (bt i).any fun k => Jf p f i k
theorem YT {p : AT} (f : Frame) (G : Fe p) : (bt p.A3.length).any (Rw p f) = (bt p.A3.length).any (TQ p f) := by
 rw [fx, ea, ea]
 have sy : ∀ i k : Nat, i < p.A3.length → k < p.A3.length → Jf p f i k = Jf p f k i := fun i k hi hk => by unfold Jf; rw [G.sym i k hi hk, Bool.and_comm (aI f i)]
 constructor
 ·rintro ⟨i, hi, h⟩
  have hi' := cr.1 hi
  unfold Rw at h
  rw [df, ea] at h
  rcases h with h | ⟨k, hk, h⟩
  ·exact ⟨i, hi, by unfold TQ; rw [h]; rfl⟩
  ·have hk' := cr.1 hk
   simp only [ar, eb, decide_eq_false_iff_not] at h
   rcases Nat.lt_or_gt_of_ne h.1 with hl | hl
   ·exact ⟨k, hk, by unfold TQ; rw [df, ea]; exact .inr ⟨i, cr.2 hl, by rw [sy k i hk' hi']; exact h.2⟩⟩
   ·exact ⟨i, hi, by unfold TQ; rw [df, ea]; exact .inr ⟨k, cr.2 hl, h.2⟩⟩
 ·rintro ⟨i, hi, h⟩
  have hi' := cr.1 hi
  unfold TQ at h
  rw [df, ea] at h
  rcases h with h | ⟨k, hk, h⟩
  ·exact ⟨i, hi, by unfold Rw; rw [h]; rfl⟩
  ·have hk' := cr.1 hk
   refine ⟨i, hi, ?_⟩
   unfold Rw
   rw [df, ea]
   exact .inr ⟨k, cr.2 (by omega), by rw [h, decide_eq_false (show ¬ i = k by omega)]; rfl⟩
theorem YF {p : AT} {f : Frame} (G : Fe p) (hs : E5 f) (hl : f.A3.length = p.A3.length) : AG (Ks p f) (0 : Int) = bif (bt p.A3.length).any (Rw p f) then some false else ((gK f).bind fun v => ((YI p v).bind fun z => ((jK f z).bind fun r => some r))) := by
 have h100 := G.Qy
 have h1 : AG (Ks p f) (((0 : Nat)) : Int) = Bh p.A3.length (fun i => bif Rw p f i then some false else none) ((gK f).bind fun v => ((YI p v).bind fun z => ((jK f z).bind fun r => some r))) := by
  refine BB p.A3.length (fun i => (i : Int)) _ _ (fun i hi _ => ?_) (fun _ => ?_)
  ·obtain ⟨w, hw⟩ : ∃ w, p.A3[i]? = some w := ⟨_, ae hi⟩
   obtain ⟨h, hh⟩ : ∃ h, f.A3[i]? = some h := ⟨_, ae (show i < f.A3.length by omega)⟩
   obtain ⟨r, e1, _, _⟩ := My hh hw (hs.2.2.2 h (bj hh)).1 (by have := (G.XA i w hw).RO.1; omega)
   unfold Ks Rw
   rw [show Pu p f i = r by unfold Pu; rw [e1]; rfl]
   simp only [hl, Bf hi, cond_true, e1, aa]
   cases r with
   | false => rfl
   | true =>
    simp only [da, cond_false, il]
    rw [Ic (n := p.A3.length) (fun k => !decide (i = k) && Jf p f i k) false (i' := ((i + 1 : Nat) : Int)) (fun k hk => ?_) ?_]
    ·cases (bt p.A3.length).any (fun k => !decide (i = k) && Jf p f i k) <;> rfl
    rotate_left
    ·obtain ⟨y, hy⟩ : ∃ y, f.A3[k]? = some y := ⟨_, ae (show k < f.A3.length by omega)⟩
     obtain ⟨row, b1, b2⟩ := Rx G hi hk
     unfold SJ Jf
     rw [show aI f i = (h.State != (0:Int)) by unfold aI; rw [hh]; rfl, show aI f k = (y.State != (0:Int)) by unfold aI; rw [hy]; rfl]
     simp only [hl, Bf hk, cond_true, QC, AE, b1, b2, hh, hy, aa, AS (show k < 9223372036854775807 by omega)]
     cases decide (i = k) <;> cases HI p i k <;> cases (h.State != (0:Int)) <;> cases (y.State != (0:Int)) <;> rfl
    ·unfold SJ
     simp only [hl, Bd, cond_false, AS (show i < 9223372036854775807 by omega)]
     rfl
  ·unfold Ks
   simp only [hl, Bd, cond_false]
 rw [show (0 : Int) = (((0 : Nat)) : Int) from rfl, h1, EL]
theorem YE {p : AT} {f : Frame} (G : Fe p) (hs : E5 f) (hl : f.A3.length = p.A3.length) : AG (Kw p f) (0 : Int) = bif (bt p.A3.length).any (TQ p f) then some false else ((gN f).bind fun v => ((bW p v).bind fun z => ((Uz f z).bind fun r => some r))) := by
 have h100 := G.Qy
 have h1 : AG (Kw p f) (((0 : Nat)) : Int) = Bh p.A3.length (fun i => bif TQ p f i then some false else none) ((gN f).bind fun v => ((bW p v).bind fun z => ((Uz f z).bind fun r => some r))) := by
  refine BB p.A3.length (fun i => (i : Int)) _ _ (fun i hi _ => ?_) (fun _ => ?_)
  ·obtain ⟨w, hw⟩ : ∃ w, p.A3[i]? = some w := ⟨_, ae hi⟩
   obtain ⟨h, hh⟩ : ∃ h, f.A3[i]? = some h := ⟨_, ae (show i < f.A3.length by omega)⟩
   obtain ⟨r, e1, e2, _⟩ := My hh hw (hs.2.2.2 h (bj hh)).1 (by have := (G.XA i w hw).RO.1; omega)
   unfold Kw TQ
   rw [show Pu p f i = r by unfold Pu; rw [e1]; rfl]
   simp only [hl, Bf hi, cond_true, AE, hh, hw, e2, aa]
   cases r with
   | false => rfl
   | true =>
    simp only [da, cond_false, il]
    rw [Ic (n := i) (fun k => Jf p f i k) false (i' := ((i + 1 : Nat) : Int)) (fun k hk => ?_) ?_]
    ·cases (bt i).any (fun k => Jf p f i k) <;> rfl
    rotate_left
    ·obtain ⟨y, hy⟩ : ∃ y, f.A3[k]? = some y := ⟨_, ae (show k < f.A3.length by omega)⟩
     obtain ⟨row, b1, b2⟩ := Rx G hi (show k < p.A3.length by omega)
     unfold Sa Jf
     rw [show aI f i = (h.State != (0:Int)) by unfold aI; rw [hh]; rfl, show aI f k = (y.State != (0:Int)) by unfold aI; rw [hy]; rfl]
     simp only [Bf hk, cond_true, AE, b1, b2, hy, aa, AS (show k < 9223372036854775807 by omega)]
     cases HI p i k <;> cases (h.State != (0:Int)) <;> cases (y.State != (0:Int)) <;> rfl
    ·unfold Sa
     simp only [Bd, cond_false, AS (show i < 9223372036854775807 by omega)]
     rfl
  ·unfold Kw
   simp only [hl, Bd, cond_false]
 rw [show (0 : Int) = (((0 : Nat)) : Int) from rfl, h1, EL]
theorem VC {p : AT} {f : Frame} (hs : GR p) (hsf : E5 f) : ∃ r, mO p f = some r ∧ mT p f = some r ∧ (r = true → Fe p ∧ W8 p f ∧ YI p f = some f ∧ bW p f = some f) := by
 obtain ⟨q, hq⟩ := UD p
 unfold mO mT pS
 simp only [eS hs hq, eR hs hq, aa]
 cases hc : (q.Code == 0) with
 | false => exact ⟨false, rfl, rfl, fun h => by cases h⟩
 | true =>
  have G := Xx hq hc
  simp only [da, il, cond_true]
  cases hd : (((!f.Ok || ((f.B1.length : Int) != p.A0)) || ((f.A1.length : Int) != (p.A5.length : Int))) || ((f.A3.length : Int) != (p.A3.length : Int))) with
  | true => exact ⟨false, rfl, rfl, fun h => by cases h⟩
  | false =>
   simp only [mr, bne_eq_false_iff_eq] at hd
   obtain ⟨⟨⟨_, d1⟩, d2⟩, d3⟩ := hd
   have d3 : f.A3.length = p.A3.length := by omega
   have hpl := hsf.2.1.1
   have hS : AG (Ox p f) (((0 : Nat)) : Int) = Bh f.A1.length (fun i => bif (f.A1[i]?).any UH then some false else none) (AG (Ks p f) (0 : Int)) := by
    refine BB f.A1.length (fun i => (i : Int)) _ _ (fun i hi _ => ?_) (fun _ => ?_)
    ·unfold Ox UH
     simp only [Bf hi, cond_true, AE, ae hi, aa, Jv, bx, AS (show i < 9223372036854775807 by omega)]
     cases (decide (f.A1[i].Want ≥ (1:Int)) && decide (f.A1[i].Want ≤ (2:Int))) <;> cases (decide (f.A1[i].AJ ≥ (0:Int)) && decide (f.A1[i].AJ ≤ (2:Int))) <;> rfl
    ·unfold Ox
     simp only [Bd, cond_false]
   have hI : AG (PR p f) (((0 : Nat)) : Int) = Bh f.A1.length (fun i => bif (f.A1[i]?).any UH then some false else none) (AG (Kw p f) (0 : Int)) := by
    refine BB f.A1.length (fun i => (i : Int)) _ _ (fun i hi _ => ?_) (fun _ => ?_)
    ·unfold PR UH
     simp only [Bf hi, cond_true, AE, ae hi, aa, Fc, bx, AS (show i < 9223372036854775807 by omega)]
     cases (decide (f.A1[i].Want ≥ (1:Int)) && decide (f.A1[i].Want ≤ (2:Int))) <;> cases (decide (f.A1[i].AJ ≥ (0:Int)) && decide (f.A1[i].AJ ≤ (2:Int))) <;> rfl
    ·unfold PR
     simp only [Bd, cond_false]
   rw [Eg] at hS hI
   simp only [cond_false]
   rw [show (0 : Int) = (((0 : Nat)) : Int) from rfl, hS, hI, YF G hsf d3, YE G hsf d3, ← YT f G, R8 hsf, R7 hsf]
   cases f.A1.any UH with
   | true => exact ⟨false, rfl, rfl, fun h => by cases h⟩
   | false =>
    cases hb : (bt p.A3.length).any (Rw p f) with
    | true => exact ⟨false, rfl, rfl, fun h => by cases h⟩
    | false =>
     have F : W8 p f := ⟨d1, by omega, d3, fun i h w hh hw => by
      obtain ⟨r, e1, _, e2⟩ := My hh hw (hsf.2.2.2 h (bj hh)).1 (by have := (G.XA i w hw).RO.1; omega)
      refine e2 ?_
      rw [fc] at hb
      have := hb i (cr.2 (Bi hw))
      unfold Rw Pu at this
      rw [e1] at this
      cases r with
      | true => rfl
      | false => exact absurd rfl this⟩
     obtain ⟨ws, s1, s2, s3⟩ := Nu G F
     obtain ⟨r, t1, t2, t3⟩ := Y6 hsf F s3
     simp only [cond_false, aa, s1, s2, t1, t2]
     refine ⟨r, rfl, rfl, fun hr => ?_⟩
     have e := t3 hr
     subst e
     exact ⟨G, F, rfl, rfl⟩
def Kg (HV : List Int) (g s : Int) : Bool := (bt HV.length).any fun k => (HV[k]?).any (fun y => y == s) && decide ((k : Int) ≥ g)
theorem Zn {xs : List Int} (h : xs.Nodup) {i k : Nat} {v : Int} (hi : xs[i]? = some v) (hk : xs[k]? = some v) : i = k := by
 have h1 := Bi hi
 have h2 := Bi hk
 rw [ae h1] at hi
 rw [ae h2] at hk
 exact (nt h).1 (by rw [av hi, av hk])
theorem VO {HV : List Int} (h : HV.Nodup) (hl : HV.length ≤ 1048576) {g : Int} (hg : 0 ≤ g) (s : Int) : ∃ r, jP HV s = some r ∧ decide (r ≥ g) = Kg HV g s := by
 rw [ZT hl]
 obtain ⟨r, hr⟩ := Fh HV.length (fun i => bif (HV[i]?).any (fun y => decide (s = y)) then some (i : Int) else none) (e := some (-1)) ⟨_, rfl⟩
 refine ⟨r, hr, ?_⟩
 rw [fx, decide_eq_true_eq]
 unfold Kg
 rw [ea]
 rcases EM hr with ⟨i, hi, h1⟩ | ⟨h1, h2⟩
 ·obtain ⟨h3, rfl⟩ := Fw h1
  have hx := ae hi
  rw [hx, bx, decide_eq_true_eq] at h3
  constructor
  ·intro hgi
   exact ⟨i, cr.2 hi, by rw [hx, bx, ← h3, beq_self_eq_true, decide_eq_true hgi]; rfl⟩
  ·rintro ⟨k, hk, h4⟩
   have hk := cr.1 hk
   rw [ae hk, bx, ar, beq_iff_eq, decide_eq_true_eq] at h4
   have : i = k := Zn h (v := s) (by rw [hx, ← h3]) (by rw [ae hk, h4.1])
   subst this
   exact h4.2
 ·have : r = -1 := by simpa using h2.symm
  subst this
  constructor
  ·intro h; omega
  ·rintro ⟨k, hk, h4⟩
   have hk := cr.1 hk
   have h5 := Fv (h1 k hk)
   rw [ae hk, bx] at h4 h5
   rw [ar, beq_iff_eq] at h4
   rw [decide_eq_false_iff_not] at h5
   exact absurd h4.1.symm h5
theorem ZS {p : AT} {f : Frame} {i : Nat} {w : CA} {h : AD} (hw : p.A3[i]? = some w) (hh : f.A3[i]? = some h) (hl : w.A0.length ≤ 1048576) (s : Int) : Yj p f (i : Int) s = some (!(h.State == 0) && Kg w.A0 h.Aj s) := by
 unfold Yj
 simp only [AE, hw, hh, aa]
 cases (h.State == 0) with
 | true => rfl
 | false =>
  simp only [cond_false, jn, fj]
  have h1 := BB (F := LZ f (i : Int) s w) w.A0.length (fun k => (k : Int)) (fun k => bif ((w.A0[k]?).any (fun y => y == s) && decide ((k : Int) ≥ h.Aj)) then some true else none) (some false) (fun k hk _ => by
   unfold LZ
   simp only [Bf hk, cond_true, AE, ae hk, hh, aa, bx, AS (show k < 9223372036854775807 by omega)]
   cases (w.A0[k] == s) <;> cases decide ((k : Int) ≥ h.Aj) <;> rfl) (fun _ => by
   unfold LZ
   simp only [Bd, cond_false])
  rw [EL] at h1
  refine (show _ = _ from h1).trans ?_
  unfold Kg
  cases (bt w.A0.length).any (fun k => (w.A0[k]?).any (fun y => y == s) && decide ((k : Int) ≥ h.Aj)) <;> rfl
theorem m6 {l : List Af} (hl : l.length ≤ 1048576) (k : Int) : PS l k = some (l.any fun t => t.Switch == k) := by
 unfold PS
 have h1 : Ld l k = Bh l.length (fun i => bif (l[i]?).any (fun t => t.Switch == k) then some (i : Int) else none) (some (-1)) := by
  unfold Ld
  refine BB l.length (fun i => (i : Int)) _ _ (fun i hi _ => ?_) (fun _ => ?_)
  ·unfold Iw pT
   simp only [Bf hi, cond_true, AE, ae hi, aa, bx, AS (show i < 9223372036854775807 by omega)]
   cases (l[i].Switch == k) <;> rfl
  ·unfold Iw
   simp only [Bd, cond_false]
 rw [h1]
 exact HA l _ _ rfl
theorem m7 {l : List Af} (hl : l.length ≤ 1048576) (k : Int) : PT l k = some (l.any fun t => t.Switch == k) := by
 unfold PT
 have h1 : Le l k = Bh l.length (fun i => bif (l[i]?).any (fun t => t.Switch == k) then some (i : Int) else none) (some (-1)) := by
  unfold Le
  refine BB l.length (fun i => (i : Int)) _ _ (fun i hi _ => ?_) (fun _ => ?_)
  ·unfold Ix pW
   simp only [Bf hi, cond_true, AE, ae hi, aa, bx, AS (show i < 9223372036854775807 by omega)]
   cases (l[i].Switch == k) <;> rfl
  ·unfold Ix
   simp only [Bd, cond_false]
 rw [h1]
 exact HA l _ _ rfl
def QY (w : CA) (h : AD) (c k : Int) : Bool := !(h.State == 0) && ((w.A7.any fun t => t.Switch == k) || ((w.AJ.any fun t => t.Switch == k) && Kg w.A0 h.Aj c))
theorem OQ {p : AT} {t : Af} (h : tB p t = true) : 1 ≤ t.CK ∧ t.CK ≤ 2 := by
 unfold tB at h
 simp only [ar, decide_eq_true_eq] at h
 exact ⟨h.2.1, h.2.2⟩
theorem bI {p : AT} {f : Frame} {i : Nat} {w : CA} {h : AD} {k : Nat} {c : Int} (G : Kk p w) (hw : p.A3[i]? = some w) (hh : f.A3[i]? = some h) (hc : p.A5[k]? = some c) : ∃ r, nG p f (i : Int) (k : Int) = some r ∧ decide (r > 0) = QY w h c (k : Int) := by
 obtain ⟨l1, _, _, l3, l4⟩ := G.RO
 unfold nG
 simp only [AE, hw, hh, aa]
 unfold QY
 cases hst : (h.State == 0) with
 | true => exact ⟨0, rfl, rfl⟩
 | false =>
  simp only [cond_false, jn, fj]
  have hL := BB (F := Kv p f (i : Int) (k : Int) w) w.AJ.length (fun j => (j : Int)) (fun j => (w.AJ[j]?).bind fun t => bif ((t.Switch == (k : Int)) && Kg w.A0 h.Aj c) then some t.CK else none) (some (0 : Int)) (fun j hj _ => by
   unfold Kv
   simp only [Bf hj, cond_true, AE, ae hj, hc, aa, ZS hw hh (show w.A0.length ≤ 1048576 by omega) c, hst, jn, fj, AS (show j < 9223372036854775807 by omega)]
   cases (w.AJ[j].Switch == (k : Int)) <;> cases Kg w.A0 h.Aj c <;> rfl) (fun _ => by
   unfold Kv
   simp only [Bd, cond_false])
  have hF := BB (F := Mp p f (i : Int) (k : Int) w) w.A7.length (fun j => (j : Int)) (fun j => (w.A7[j]?).bind fun t => bif (t.Switch == (k : Int)) then some t.CK else none) (AG (Kv p f (i : Int) (k : Int) w) (0 : Int)) (fun j hj _ => by
   unfold Mp
   simp only [Bf hj, cond_true, AE, ae hj, aa, AS (show j < 9223372036854775807 by omega)]
   cases (w.A7[j].Switch == (k : Int)) <;> rfl) (fun _ => by
   unfold Mp
   simp only [Bd, cond_false, AE, hw, aa])
  have hF : AG (Mp p f (i : Int) (k : Int) w) (0 : Int) = _ := hF
  rw [hF]
  have hL : AG (Kv p f (i : Int) (k : Int) w) (0 : Int) = _ := hL
  rw [hL]
  have h0 := Fh w.AJ.length (fun j => (w.AJ[j]?).bind fun t => bif ((t.Switch == (k : Int)) && Kg w.A0 h.Aj c) then some t.CK else none) (e := some (0 : Int)) ⟨_, rfl⟩
  obtain ⟨r, hr⟩ := Fh w.A7.length (fun j => (w.A7[j]?).bind fun t => bif (t.Switch == (k : Int)) then some t.CK else none) h0
  refine ⟨r, hr, ?_⟩
  rcases EM hr with ⟨j, hj, h1⟩ | ⟨h1, h2⟩
  ·rw [ae hj, aa] at h1
   obtain ⟨h3, rfl⟩ := Fw h1
   have hm := bg hj
   have hp := OQ (G.L5 _ hm)
   rw [show (w.A7.any fun t => t.Switch == (k : Int)) = true from ea.2 ⟨_, hm, h3⟩, me, decide_eq_true_eq]
   omega
  ·have hno : (w.A7.any fun t => t.Switch == (k : Int)) = false := by
    rw [fc]
    intro t ht
    obtain ⟨j, hj, rfl⟩ := ij ht
    have h3 := h1 j hj
    rw [ae hj, aa] at h3
    rw [Fv h3]
    exact mz
   rw [hno, il]
   rcases EM h2 with ⟨j, hj, h3⟩ | ⟨h3, h4⟩
   ·rw [ae hj, aa] at h3
    obtain ⟨h5, rfl⟩ := Fw h3
    rw [ar] at h5
    have hm := bg hj
    have hp := OQ (G.VS _ hm)
    rw [show (w.AJ.any fun t => t.Switch == (k : Int)) = true from ea.2 ⟨_, hm, h5.1⟩, h5.2, fj, decide_eq_true_eq]
    omega
   ·have : r = 0 := by simpa using h4.symm
    subst this
    cases hb : Kg w.A0 h.Aj c with
    | false => rw [Bool.and_false]; rfl
    | true =>
     have hno2 : (w.AJ.any fun t => t.Switch == (k : Int)) = false := by
      rw [fc]
      intro t ht
      obtain ⟨j, hj, rfl⟩ := ij ht
      have h6 := h3 j hj
      rw [ae hj, aa] at h6
      have h7 := Fv h6
      rw [hb, ld] at h7
      rw [h7]
      exact mz
     rw [hno2]; rfl
theorem QK {p : AT} {f : Frame} (G : Fe p) (F : W8 p f) {k : Nat} {c : Int} (hc : p.A5[k]? = some c) : ∃ r, lJ p f (k : Int) = some r ∧ lK p f (k : Int) = some r ∧ r.length ≤ p.A3.length := by
 have h100 := G.Qy
 have hfl : f.A3.length = p.A3.length := F.ways.1
 unfold lJ lK
 refine (G4 (F := Md p f (k : Int)) (F' := Me p f (k : Int)) p.A3.length (fun i s s' => ∃ acc : List Int, s = (acc, (i : Int)) ∧ s' = (acc, (i : Int)) ∧ acc.length ≤ i) (fun r r' => r = r' ∧ r.length ≤ p.A3.length) (s0 := (([] : List Int), (0 : Int))) (s0' := (([] : List Int), (0 : Int))) ⟨[], rfl, rfl, al _⟩ (fun i s s' hi hs => ?_) (fun s s' hs => ?_)).elim fun r hr => ?_
 ·obtain ⟨acc, rfl, rfl, hacc⟩ := hs
  left
  obtain ⟨w, hw⟩ : ∃ w, p.A3[i]? = some w := ⟨_, ae hi⟩
  obtain ⟨h, hh⟩ : ∃ h, f.A3[i]? = some h := ⟨_, ae (show i < f.A3.length by omega)⟩
  have GW := G.XA i w hw
  obtain ⟨l1, _, _, l3, l4⟩ := GW.RO
  obtain ⟨r, q1, q2⟩ := bI GW hw hh hc
  obtain ⟨r2, q3, q4⟩ := VO GW.nodup (show w.A0.length ≤ 1048576 by omega) (F.ways.2 i h w hh hw).gone.1 c
  have hap : DP 8 acc [(i : Int)] = some (acc ++ [(i : Int)]) := DC (by simp only [cn]; omega)
  have e1 : Md p f (k : Int) (acc, (i : Int)) = some (.inl (bif QY w h c (k : Int) then acc ++ [(i : Int)] else acc, ((i + 1 : Nat) : Int))) := by
   unfold Md SK
   simp only [Bf hi, cond_true, q1, aa, q2, hap, AS (show i < 9223372036854775807 by omega)]
   cases QY w h c (k : Int) <;> rfl
  have e2 : Me p f (k : Int) (acc, (i : Int)) = some (.inl (bif QY w h c (k : Int) then acc ++ [(i : Int)] else acc, ((i + 1 : Nat) : Int))) := by
   unfold Me SN P4 QY
   simp only [hfl, Bf hi, cond_true, AE, hw, hh, hc, aa, m6 (show w.A7.length ≤ 1048576 by omega), m7 (show w.AJ.length ≤ 1048576 by omega), q3, q4, hap, AS (show i < 9223372036854775807 by omega)]
   cases (h.State == 0) <;> cases (w.A7.any fun t => t.Switch == (k : Int)) <;> cases (w.AJ.any fun t => t.Switch == (k : Int)) <;> cases Kg w.A0 h.Aj c <;> rfl
  refine ⟨_, _, e1, e2, _, rfl, rfl, ?_⟩
  cases QY w h c (k : Int) with
  | true => simp only [cond_true, an, cn]; omega
  | false => simp only [cond_false]; omega
 ·obtain ⟨acc, rfl, rfl, hacc⟩ := hs
  unfold Md Me
  simp only [hfl, Bd, cond_false]
  exact ⟨_, _, rfl, rfl, rfl, hacc⟩
 ·obtain ⟨r', e1, e2, rfl, e3⟩ := hr
  exact ⟨r, e1, e2, e3⟩
def JV (l : List Af) (k a : Int) : Int := l.foldl (fun a t => bif t.Switch == k then t.CK else a) a
theorem Q2 {k : Int} : ∀ {l : List Af} (a : Int), (∀ t ∈ l, t.Switch ≠ k) → JV l k a = a
 | [], _, _ => rfl
 | t :: r, a, h => by
  unfold JV
  rw [nz, beq_eq_false_iff_ne.2 (h t (List.mem_cons_self ..))]
  exact Q2 a (fun t ht => h t (List.mem_cons_of_mem _ ht))
theorem Zd {k : Int} : ∀ {l : List Af} (a : Int), (l.map Af.Switch).Nodup → ∀ t ∈ l, t.Switch = k → JV l k a = t.CK
 | [], _, _, _, h, _ => by cases h
 | x :: r, a, nd, t, ht, hk => by
  rw [dj, dp] at nd
  unfold JV
  rw [nz]
  rcases bq.1 ht with rfl | ht
  ·rw [beq_iff_eq.2 hk]
   refine Q2 _ fun y hy e => nd.1 ?_
   rw [hk, ← e]
   exact fi hy
  ·exact Zd _ nd.2 t ht hk
theorem U5 {p : AT} {w : CA} (G : Kk p w) : ((w.AJ ++ w.A7).map Af.Switch).Nodup := by
 rw [eh, dc]
 refine ⟨G.rS, G.rQ, fun a ha b hb e => ?_⟩
 obtain ⟨t, ht, rfl⟩ := du.1 ha
 obtain ⟨y, hy, rfl⟩ := du.1 hb
 have := (G.gB t ht).1
 unfold ID at this
 rw [fc] at this
 exact this y hy (decide_eq_true e)
def NX (n : Nat) : Int := bif decide (0 < n) then 3 else 0
def Gu (n m : Nat) : Int := bif decide (0 < n) then 3 else (bif decide (0 < m) then 4 else 0)
def Je (n m : Nat) : Int := bif decide (0 < n) then 5 else (bif decide (0 < m) then 6 else 0)
def NW (x : DK) (a b : List Int) : Int := bif (Gu x.A3.length x.A0.length == 0) then Je a.length b.length else Gu x.A3.length x.A0.length
structure lC where
 JW : List Int
 Hg : List Int
 QQ : List Int
def MU (k : Int) (a b : Bool) (s : lC) : lC := ⟨bif a || b then s.JW ++ [k] else s.JW, bif a then s.Hg ++ [k] else s.Hg, bif b then s.QQ ++ [k] else s.QQ⟩
theorem M4 (b : Bool) (xs : List Int) (k : Int) (n : Nat) (h : xs.length ≤ n) : (bif b then xs ++ [k] else xs).length ≤ n + 1 := by
 cases b with
 | true => simp only [cond_true, an, cn]; omega
 | false => simp only [cond_false]; omega
theorem XN (k : Int) (a b : Bool) (s : lC) : Je (MU k a b s).Hg.length (MU k a b s).QQ.length = bif a then 5 else (bif b then (bif (Je s.Hg.length s.QQ.length == 0) then 6 else Je s.Hg.length s.QQ.length) else Je s.Hg.length s.QQ.length) := by
 unfold MU Je
 cases a with
 | true => simp
 | false =>
  cases b with
  | false => rfl
  | true =>
   simp only [cond_false, cond_true, mf, an, cn]
   rw [show decide (0 < s.QQ.length + 1) = true by rw [decide_eq_true_eq]; omega]
   cases decide (0 < s.Hg.length) <;> cases decide (0 < s.QQ.length) <;> rfl
theorem UP {p : AT} {f : Frame} {w : CA} (l3 : w.AJ.length ≤ 30) (l4 : w.A7.length ≤ 30) (held k : Int) (ws ss ps : List Int) {r : ((List Int) × (List Int) × (List Int) × Int × Int) ⊕ (DK × Int)}
  (hend : HL p f w held k (ws, ss, ps, JV (w.AJ ++ w.A7) k 0, ((2 : Nat) : Int)) = some (.inr r)) : AG (HL p f w held k) (ws, ss, ps, (0 : Int), (0 : Int)) = some r := by
 have hin : ∀ (j : Nat) (l : List Af) (a : Int), j < 2 → l.length ≤ 30 → AG (Mh k (j : Int) l) (ws, ss, ps, a, (0 : Int)) = some (.inl (ws, ss, ps, JV l k a, ((j + 1 : Nat) : Int))) := fun j l a hj hl => by
  have := Ez (F := Mh k (j : Int) l) l.length (fun i => (ws, ss, ps, JV (l.take i) k a, (i : Int))) (r := .inl (ws, ss, ps, JV l k a, ((j + 1 : Nat) : Int))) (fun i hi => ?_) ?_
  ·exact this
  ·unfold Mh SR
   simp only [Bf hi, cond_true, AE, ae hi, aa, AS (show i < 9223372036854775807 by omega)]
   rw [show JV (l.take (i + 1)) k a = (bif l[i].Switch == k then l[i].CK else JV (l.take i) k a) from VB _ _ (ae hi)]
   cases (l[i].Switch == k) <;> rfl
  ·unfold Mh
   simp only [Bd, cond_false, er, AS (show j < 9223372036854775807 by omega)]
   rfl
 rw [Be]
 have s0 : HL p f w held k (ws, ss, ps, (0 : Int), (0 : Int)) = some (.inl (ws, ss, ps, JV w.AJ k 0, ((1 : Nat) : Int))) := by
  unfold HL
  have h0 := hin 0 w.AJ 0 (by omega) l3
  simp only [show decide ((0 : Int) < ((([w.AJ, w.A7] : List (List Af)).length : Nat) : Int)) = true from rfl, cond_true, show AH ([w.AJ, w.A7] : List (List Af)) (0 : Int) = some w.AJ from rfl, aa]
  exact h0
 rw [s0]
 simp only [aa]
 rw [Be]
 have s1 : HL p f w held k (ws, ss, ps, JV w.AJ k 0, ((1 : Nat) : Int)) = some (.inl (ws, ss, ps, JV (w.AJ ++ w.A7) k 0, ((2 : Nat) : Int))) := by
  unfold HL
  have h0 := hin 1 w.A7 (JV w.AJ k 0) (by omega) l4
  rw [show JV w.A7 k (JV w.AJ k 0) = JV (w.AJ ++ w.A7) k 0 by unfold JV; rw [jf]] at h0
  simp only [show decide (((1 : Nat) : Int) < ((([w.AJ, w.A7] : List (List Af)).length : Nat) : Int)) = true from rfl, cond_true, show AH ([w.AJ, w.A7] : List (List Af)) ((1 : Nat) : Int) = some w.A7 from rfl, aa]
  exact h0
 rw [s1]
 simp only [aa]
 rw [Be, hend]
 rfl
theorem aJ {p : AT} {f : Frame} {w : CA} (G : Fe p) (F : W8 p f) (GW : Kk p w) {k : Nat} (hk : k < p.A5.length) (ws ss : List Int) (s : lC) (hl : s.JW.length ≤ k ∧ s.Hg.length ≤ k ∧ s.QQ.length ≤ k) :
  ∃ s' : lC, AG (HL p f w (Je s.Hg.length s.QQ.length) (k : Int)) (ws, ss, s.JW, (0 : Int), (0 : Int)) = some (.inl (ws, ss, s'.JW, Je s'.Hg.length s'.QQ.length, ((k + 1 : Nat) : Int))) ∧ AG (Iz p f (k : Int) (w.AJ ++ w.A7)) (ws, ss, s.JW, s.Hg, s.QQ, (0 : Int)) = some (.inl (ws, ss, s'.JW, s'.Hg, s'.QQ, ((k + 1 : Nat) : Int))) ∧ s'.JW.length ≤ k + 1 ∧ s'.Hg.length ≤ k + 1 ∧ s'.QQ.length ≤ k + 1 := by
 have h40 := G.TK
 obtain ⟨_, _, _, l3, l4⟩ := GW.RO
 have hlen : (w.AJ ++ w.A7).length ≤ 60 := by rw [an]; omega
 obtain ⟨c, hc⟩ : ∃ c, p.A5[k]? = some c := ⟨_, ae hk⟩
 obtain ⟨pt, hpt⟩ : ∃ pt, f.A1[k]? = some pt := ⟨_, ae (show k < f.A1.length by have := F.JW; omega)⟩
 obtain ⟨lk, p1, p2, p3⟩ := QK G F hc
 have hcin : 0 ≤ c ∧ c < p.A0 := by
  have := G.sw k c hc
  have hsec := G.HV
  unfold RI at this
  rw [I0 (by omega), ar, decide_eq_true_eq, decide_eq_true_eq] at this
  exact ⟨this.1, this.2⟩
 have hocc := H6 F.RU hcin
 have hap : ∀ xs : List Int, xs.length ≤ k → DP 8 xs [(k : Int)] = some (xs ++ [(k : Int)]) := fun xs hx => DC (by simp only [cn]; omega)
 have nd := U5 GW
 have h2f : decide ((((2 : Nat)) : Int) < ((([w.AJ, w.A7] : List (List Af)).length : Nat) : Int)) = false := rfl
 by_cases hno : ∀ t ∈ w.AJ ++ w.A7, t.Switch ≠ (k : Int)
 ·refine ⟨s, UP l3 l4 _ _ _ _ _ ?_, ?_, by omega, by omega, by omega⟩
  ·unfold HL Jn
   rw [Q2 0 hno]
   simp only [h2f, cond_false, beq_self_eq_true, cond_true, aa, AS (show k < 9223372036854775807 by omega)]
   rfl
  ·refine Ez (F := Iz p f (k : Int) (w.AJ ++ w.A7)) (w.AJ ++ w.A7).length (fun j => (ws, ss, s.JW, s.Hg, s.QQ, (j : Int))) (fun j hj => ?_) ?_
   ·unfold Iz Jo
    simp only [Bf hj, cond_true, AE, ae hj, aa, bne_iff_ne.2 (hno _ (bg hj)), AS (show j < 9223372036854775807 by omega)]
   ·unfold Iz
    simp only [Bd, cond_false, AS (show k < 9223372036854775807 by omega)]
    rfl
 ·have : ∃ t, t ∈ w.AJ ++ w.A7 ∧ t.Switch = (k : Int) := by
   refine Classical.byContradiction fun hx => hno fun t ht e => hx ⟨t, ht, e⟩
  obtain ⟨t, ht, htk⟩ := this
  obtain ⟨j0, hj0, hjt⟩ := ij ht
  have hlie := Zd 0 nd t ht htk
  have hpos : 1 ≤ t.CK ∧ t.CK ≤ 2 := by
   rcases aq.1 ht with h | h
   ·exact OQ (GW.VS _ h)
   ·exact OQ (GW.L5 _ h)
  have hother : ∀ j, (hj : j < (w.AJ ++ w.A7).length) → j ≠ j0 → ((w.AJ ++ w.A7)[j].Switch != (k : Int)) = true := fun j hj hne => by
   rw [bne_iff_ne]
   intro e
   apply hne
   have e1 : ((w.AJ ++ w.A7).map Af.Switch)[j]'(by rw [ee]; exact hj) = ((w.AJ ++ w.A7).map Af.Switch)[j0]'(by rw [ee]; exact hj0) := by
    rw [nu, nu, e, hjt, htk]
   exact (nt nd).1 e1
  have hat : (t.Switch != (k : Int)) = false := by rw [bne_eq_false_iff_eq]; exact htk
  have hz : (t.CK == 0) = false := by rw [beq_eq_false_iff_ne]; omega
  obtain ⟨go, hgo⟩ : ∃ go : Bool, go = (pt.Want == t.CK) := ⟨_, rfl⟩
  have hgo2 : (t.CK == pt.Want) = go := by rw [hgo, fx, beq_iff_eq, beq_iff_eq]; exact eq_comm
  refine ⟨bif go then s else MU (k : Int) (decide (((lk.length : Nat) : Int) > 0)) (EC f c) s, UP l3 l4 _ _ _ _ _ ?_, ?_, ?_⟩
  ·unfold HL Jn
   rw [hlie]
   simp only [h2f, cond_false, hz, AE, hpt, hc, aa, hgo2, p1, hocc, hap s.JW hl.1, AS (show k < 9223372036854775807 by omega)]
   cases go with
   | true => rfl
   | false =>
    simp only [cond_false]
    rw [XN]
    unfold MU
    cases decide (((lk.length : Nat) : Int) > 0) with
    | true => rfl
    | false =>
     cases EC f c with
     | false => rfl
     | true =>
      simp only [cond_false, cond_true, mf]
      cases (Je s.Hg.length s.QQ.length == 0) <;> rfl
  ·have hrun := Ez (F := Iz p f (k : Int) (w.AJ ++ w.A7)) (w.AJ ++ w.A7).length (fun j => (ws, ss, (bif decide (j ≤ j0) then s else (bif go then s else MU (k : Int) (decide (((lk.length : Nat) : Int) > 0)) (EC f c) s)).JW, (bif decide (j ≤ j0) then s else (bif go then s else MU (k : Int) (decide (((lk.length : Nat) : Int) > 0)) (EC f c) s)).Hg, (bif decide (j ≤ j0) then s else (bif go then s else MU (k : Int) (decide (((lk.length : Nat) : Int) > 0)) (EC f c) s)).QQ, (j : Int))) (r := .inl (ws, ss, (bif go then s else MU (k : Int) (decide (((lk.length : Nat) : Int) > 0)) (EC f c) s).JW, (bif go then s else MU (k : Int) (decide (((lk.length : Nat) : Int) > 0)) (EC f c) s).Hg, (bif go then s else MU (k : Int) (decide (((lk.length : Nat) : Int) > 0)) (EC f c) s).QQ, ((k + 1 : Nat) : Int))) (fun j hj => ?_) ?_
   ·exact hrun
   ·unfold Iz
    by_cases hjj : j = j0
    ·subst hjj
     rw [show decide (j ≤ j) = true from decide_eq_true (al _), show decide (j + 1 ≤ j) = false from decide_eq_false (by omega)]
     simp only [Bf hj, cond_true, cond_false, AE, ae hj, hpt, hc, aa, hat, hjt, p2, hocc, ← hgo, hap s.Hg hl.2.1]
     cases go with
     | true =>
      unfold Jo
      simp only [cond_true, AS (show j < 9223372036854775807 by omega)]
     | false =>
      unfold SV SW Jo MU
      simp only [cond_false, hap s.JW hl.1, hap s.QQ hl.2.2, aa, AS (show j < 9223372036854775807 by omega)]
      cases decide (((lk.length : Nat) : Int) > 0) <;> cases EC f c <;> rfl
    ·unfold Jo
     simp only [Bf hj, cond_true, AE, ae hj, aa, hother j hj hjj, AS (show j < 9223372036854775807 by omega)]
     rw [show decide (j ≤ j0) = decide (j + 1 ≤ j0) by congr 1; apply propext; omega]
   ·unfold Iz
    rw [show decide ((w.AJ ++ w.A7).length ≤ j0) = false from decide_eq_false (by omega)]
    simp only [Bd, cond_false, AS (show k < 9223372036854775807 by omega)]
    rfl
  ·cases go with
   | true => simp only [cond_true]; omega
   | false =>
    simp only [cond_false]
    unfold MU
    exact ⟨M4 _ _ _ _ hl.1, M4 _ _ _ _ hl.2.1, M4 _ _ _ _ hl.2.2⟩
theorem W0 {p : AT} {f : Frame} (G : Fe p) (F : W8 p f) {i : Nat} {w : CA} (hw : p.A3[i]? = some w) :
  ∃ x a b, n9 p f (i : Int) = some (x, NW x a b) ∧ nA p f (i : Int) = some (x, a, b) ∧ x.A3.length ≤ 1048576 ∧ x.A0.length ≤ 1048576 ∧ x.A1.length ≤ 1048576 := by
 have h100 := G.Qy
 have h40 := G.TK
 have h60 := G.HV
 have GW := G.XA i w hw
 have hi := Bi hw
 obtain ⟨l1, l2, _, l3, l4⟩ := GW.RO
 have hfl : f.A3.length = p.A3.length := F.ways.1
 obtain ⟨n, hn⟩ : ∃ n : Nat, p.A0 = (n : Int) := ⟨p.A0.toNat, by omega⟩
 have hneeds : ZG w = some (w.AJ ++ w.A7) := by
  unfold ZG
  rw [DC (by simp only [fg]; omega), aa, dr, DC (by omega)]
  rfl
 have h5 : ∀ ws ss : List Int, ws.length ≤ 100 → ss.length ≤ 60 → ∃ x a b, AG (Mg p f w (Gu ws.length ss.length)) (ws, ss, ([] : List Int), (0 : Int), (0 : Int)) = some (x, NW x a b) ∧ AG (Mj p f w) (ws, ss, ([] : List Int), ([] : List Int), ([] : List Int), (0 : Int)) = some (x, a, b) ∧ x.A3.length ≤ 1048576 ∧ x.A0.length ≤ 1048576 ∧ x.A1.length ≤ 1048576 := fun ws ss hwl hsl => by
  refine (G4 (F := Mg p f w (Gu ws.length ss.length)) (F' := Mj p f w) p.A5.length (fun k s s' => ∃ z : lC, s = (ws, ss, z.JW, Je z.Hg.length z.QQ.length, (k : Int)) ∧ s' = (ws, ss, z.JW, z.Hg, z.QQ, (k : Int)) ∧ z.JW.length ≤ k ∧ z.Hg.length ≤ k ∧ z.QQ.length ≤ k) (fun r r' => ∃ x a b, r = (x, NW x a b) ∧ r' = (x, a, b) ∧ x.A3.length ≤ 1048576 ∧ x.A0.length ≤ 1048576 ∧ x.A1.length ≤ 1048576) (s0 := (ws, ss, ([] : List Int), (0 : Int), (0 : Int))) (s0' := (ws, ss, ([] : List Int), ([] : List Int), ([] : List Int), (0 : Int))) ⟨⟨[], [], []⟩, rfl, rfl, al _, al _, al _⟩ (fun k s s' hk hs => ?_) (fun s s' hs => ?_)).elim fun r hr => ?_
  ·obtain ⟨z, rfl, rfl, hz⟩ := hs
   left
   obtain ⟨z', f1, f2, f3⟩ := aJ G F GW hk ws ss z hz
   unfold Mg Mj
   simp only [Bf hk, cond_true, hneeds, aa, f1, f2]
   exact ⟨_, _, rfl, rfl, z', rfl, rfl, f3⟩
  ·obtain ⟨z, rfl, rfl, hz⟩ := hs
   unfold Mg Mj OL
   simp only [Bd, cond_false, GM, aj]
   refine ⟨_, _, rfl, rfl, ⟨ws, ss, z.JW⟩, z.Hg, z.QQ, ?_, rfl, by show ws.length ≤ _; omega, by show ss.length ≤ _; omega, by show z.JW.length ≤ _; omega⟩
   unfold NW
   cases (Gu ws.length ss.length == 0) <;> rfl
  ·obtain ⟨r', e1, e2, x, a, b, rfl, rfl, e3⟩ := hr
   exact ⟨x, a, b, e1, e2, e3⟩
 have h3 : ∀ ws : List Int, ws.length ≤ 100 → ∃ x a b, AG (Kt p f w) (ws, ([] : List Int), NX ws.length, (0 : Int)) = some (x, NW x a b) ∧ AG (Ku p f w) (ws, ([] : List Int), (0 : Int)) = some (x, a, b) ∧ x.A3.length ≤ 1048576 ∧ x.A0.length ≤ 1048576 ∧ x.A1.length ≤ 1048576 := fun ws hwl => by
  refine (G4 (F := Kt p f w) (F' := Ku p f w) n (fun k s s' => ∃ ss : List Int, s = (ws, ss, Gu ws.length ss.length, (k : Int)) ∧ s' = (ws, ss, (k : Int)) ∧ ss.length ≤ k) (fun r r' => ∃ x a b, r = (x, NW x a b) ∧ r' = (x, a, b) ∧ x.A3.length ≤ 1048576 ∧ x.A0.length ≤ 1048576 ∧ x.A1.length ≤ 1048576) (s0 := (ws, ([] : List Int), NX ws.length, (0 : Int))) (s0' := (ws, ([] : List Int), (0 : Int))) ⟨[], by unfold NX Gu; cases decide (0 < ws.length) <;> rfl, rfl, al _⟩ (fun k s s' hk hs => ?_) (fun s s' hs => ?_)).elim fun r hr => ?_
  ·obtain ⟨ss, rfl, rfl, hss⟩ := hs
   left
   have hocc := H6 F.RU (s := (k : Int)) (by omega)
   have hap : DP 8 ss [(k : Int)] = some (ss ++ [(k : Int)]) := DC (by simp only [cn]; omega)
   obtain ⟨t, ht⟩ : ∃ t : Bool, t = (EC f (k : Int) && ((w.A0.any fun y => decide ((k : Int) = y)) || (w.Bl.any fun y => decide ((k : Int) = y)))) := ⟨_, rfl⟩
   have f1 : Kt p f w (ws, ss, Gu ws.length ss.length, (k : Int)) = some (.inl (ws, (bif t then ss ++ [(k : Int)] else ss), Gu ws.length (bif t then ss ++ [(k : Int)] else ss).length, ((k + 1 : Nat) : Int))) := by
    unfold Kt PG
    simp only [hn, Bf hk, cond_true, hocc, aa, JB [(k : Int)] w.A0 (by simp only [cn]; omega) (by omega), JB [(k : Int)] w.Bl (by simp only [cn]; omega) (by omega), jg, jk, gq, hap, AS (show k < 9223372036854775807 by omega), ht]
    have hc4 : Gu ws.length (ss ++ [(k : Int)]).length = bif (Gu ws.length ss.length == 0) then 4 else Gu ws.length ss.length := by
     unfold Gu
     rw [show decide (0 < (ss ++ [(k : Int)]).length) = true by rw [decide_eq_true_eq, an, cn]; omega]
     cases decide (0 < ws.length) <;> cases decide (0 < ss.length) <;> rfl
    cases EC f (k : Int) with
    | false => rfl
    | true =>
     cases (w.A0.any fun y => decide ((k : Int) = y)) with
     | true =>
      simp only [cond_true, me, fj, aa, hc4]
      cases (Gu ws.length ss.length == 0) <;> rfl
     | false =>
      cases (w.Bl.any fun y => decide ((k : Int) = y)) with
      | true =>
       simp only [cond_true, cond_false, il, fj, aa, hc4]
       cases (Gu ws.length ss.length == 0) <;> rfl
      | false => rfl
   have f2 : Ku p f w (ws, ss, (k : Int)) = some (.inl (ws, (bif t then ss ++ [(k : Int)] else ss), ((k + 1 : Nat) : Int))) := by
    unfold Ku SU
    simp only [hn, Bf hk, cond_true, hocc, aa, IT (show w.A0.length ≤ 1048576 by omega), IT (show w.Bl.length ≤ 1048576 by omega), hap, AS (show k < 9223372036854775807 by omega), ht]
    cases EC f (k : Int) <;> cases (w.A0.any fun y => decide ((k : Int) = y)) <;> cases (w.Bl.any fun y => decide ((k : Int) = y)) <;> rfl
   exact ⟨_, _, f1, f2, _, rfl, rfl, M4 _ _ _ _ hss⟩
  ·obtain ⟨ss, rfl, rfl, hss⟩ := hs
   obtain ⟨x, a, b, f1, f2, f3⟩ := h5 ws ss hwl (by omega)
   unfold Kt Ku
   simp only [hn, Bd, cond_false, f1, f2]
   exact ⟨_, _, rfl, rfl, x, a, b, rfl, rfl, f3⟩
  ·obtain ⟨r', e1, e2, x, a, b, rfl, rfl, e3⟩ := hr
   exact ⟨x, a, b, e1, e2, e3⟩
 unfold n9 nA
 simp only [AE, hw, aa]
 refine (G4 (F := Mf p f (i : Int) w) (F' := Mi p f (i : Int) w) p.A3.length (fun k s s' => ∃ ws : List Int, s = (ws, NX ws.length, (k : Int)) ∧ s' = (ws, (k : Int)) ∧ ws.length ≤ k) (fun r r' => ∃ x a b, r = (x, NW x a b) ∧ r' = (x, a, b) ∧ x.A3.length ≤ 1048576 ∧ x.A0.length ≤ 1048576 ∧ x.A1.length ≤ 1048576) (s0 := (([] : List Int), (0 : Int), (0 : Int))) (s0' := (([] : List Int), (0 : Int))) ⟨[], rfl, rfl, al _⟩ (fun k s s' hk hs => ?_) (fun s s' hs => ?_)).elim fun r hr => ?_
 ·obtain ⟨ws, rfl, rfl, hws⟩ := hs
  left
  obtain ⟨y, hy⟩ : ∃ y, p.A3[k]? = some y := ⟨_, ae hk⟩
  obtain ⟨h, hh⟩ : ∃ h, f.A3[k]? = some h := ⟨_, ae (show k < f.A3.length by omega)⟩
  obtain ⟨m1, m2, _, _, _⟩ := (G.XA k y hy).RO
  obtain ⟨row, b1, b2⟩ := Rx G hi hk
  have hap : DP 8 ws [(k : Int)] = some (ws ++ [(k : Int)]) := DC (by simp only [cn]; omega)
  have hc3 : NX (ws ++ [(k : Int)]).length = 3 := by
   unfold NX
   rw [show decide (0 < (ws ++ [(k : Int)]).length) = true by rw [decide_eq_true_eq, an, cn]; omega]
   rfl
  obtain ⟨t, ht⟩ : ∃ t : Bool, t = (((!decide (k = i)) && (h.State != (0:Int))) && (HI p i k || ((w.A0.any fun x => y.Bl.any fun z => decide (x = z)) || (w.Bl.any fun x => y.A0.any fun z => decide (x = z))))) := ⟨_, rfl⟩
  have f1 : Mf p f (i : Int) w (ws, NX ws.length, (k : Int)) = some (.inl ((bif t then ws ++ [(k : Int)] else ws), NX (bif t then ws ++ [(k : Int)] else ws).length, ((k + 1 : Nat) : Int))) := by
   unfold Mf SQ
   simp only [Bf hk, cond_true, QC, AE, hy, hh, b1, b2, aa, JB w.A0 y.Bl (by omega) (by omega), JB w.Bl y.A0 (by omega) (by omega), hap, AS (show k < 9223372036854775807 by omega), ht]
   cases decide (k = i) <;> cases (h.State != (0:Int)) <;> cases HI p i k <;> cases (w.A0.any fun x => y.Bl.any fun z => decide (x = z)) <;> cases (w.Bl.any fun x => y.A0.any fun z => decide (x = z)) <;> first | rfl | (simp only [jn, lz, Bool.or_self, mf, me, fj, cond_true, cond_false, aa, hc3])
  have f2 : Mi p f (i : Int) w (ws, (k : Int)) = some (.inl ((bif t then ws ++ [(k : Int)] else ws), ((k + 1 : Nat) : Int))) := by
   unfold Mi SS
   simp only [hfl, Bf hk, cond_true, QC, AE, hy, hh, b1, b2, aa, KG w.A0 y.Bl (by omega) (by omega), KG w.Bl y.A0 (by omega) (by omega), hap, AS (show k < 9223372036854775807 by omega), ht]
   cases decide (k = i) <;> cases (h.State != (0:Int)) <;> cases HI p i k <;> cases (w.A0.any fun x => y.Bl.any fun z => decide (x = z)) <;> cases (w.Bl.any fun x => y.A0.any fun z => decide (x = z)) <;> rfl
  exact ⟨_, _, f1, f2, _, rfl, rfl, M4 _ _ _ _ hws⟩
 ·obtain ⟨ws, rfl, rfl, hws⟩ := hs
  obtain ⟨x, a, b, f1, f2, f3⟩ := h3 ws (by omega)
  unfold Mf Mi
  simp only [hfl, Bd, cond_false, f1, f2]
  exact ⟨_, _, rfl, rfl, x, a, b, rfl, rfl, f3⟩
 ·obtain ⟨r', e1, e2, x, a, b, rfl, rfl, e3⟩ := hr
  exact ⟨x, a, b, e1, e2, e3⟩
theorem bM {p : AT} {f : Frame} (G : Fe p) (F : W8 p f) {i : Nat} {w : CA} (hw : p.A3[i]? = some w) : ∃ r, nB p f (i : Int) = some r ∧ nR p f (i : Int) = some r := by
 obtain ⟨h, hh⟩ : ∃ h, f.A3[i]? = some h := ⟨_, ae (show i < f.A3.length by have := Bi hw; have := F.ways.1; omega)⟩
 obtain ⟨x, a, b, e1, e2, _⟩ := W0 G F hw
 unfold nB nR
 simp only [AE, hh, aa, e1, e2]
 cases (h.State != (0:Int)) with
 | true => exact ⟨2, rfl, rfl⟩
 | false =>
  refine ⟨_, rfl, ?_⟩
  have pos : ∀ l : List Int, decide ((l.length : Int) > (0:Int)) = decide (0 < l.length) := fun l => by congr 1; apply propext; omega
  simp only [cond_false, pos]
  unfold NW Gu Je
  cases decide (0 < x.A3.length) <;> cases decide (0 < x.A0.length) <;> cases decide (0 < a.length) <;> cases decide (0 < b.length) <;> rfl
theorem eH (p : AT) (e : BH) : pQ p e = dJ p e := rfl
theorem nT (p : AT) (e : BH) : ∃ r, dJ p e = some r := by
 unfold dJ SX SY
 simp only [Jv, aa]
 cases (e.Op == (1:Int)) <;> cases (e.Op == (2:Int)) <;> cases (e.Op == (3:Int)) <;> cases (e.Op == (4:Int)) <;> cases (e.Op == (5:Int)) <;> cases (e.Op == (6:Int)) <;> cases (e.Op == (7:Int)) <;> simp only [cond_true, cond_false] <;> first
  | exact ⟨_, rfl⟩
  | (cases (decide (e.Of ≥ 0) && decide (e.Of ≤ BE ((p.A5.length : Int) - 1))) <;> exact ⟨_, rfl⟩)
theorem VN {x n : Int} (h : (decide (x ≥ 0) && decide (x < n)) = true) : ∃ i : Nat, x = (i : Int) ∧ (i : Int) < n := by
 simp only [ar, decide_eq_true_eq] at h
 exact ⟨x.toNat, by omega, by omega⟩
theorem Yb {p : AT} {op x lie : Int} (G : Fe p) (ho : op = 1 ∨ op = 2) (h : dJ p ⟨op, x, lie⟩ = some true) : ∃ i : Nat, x = (i : Int) ∧ i < p.A3.length := by
 have h100 := G.Qy
 have h2 : (decide (x ≥ 0) && decide (x ≤ BE ((p.A3.length : Int) - 1))) = true := by
  rcases ho with rfl | rfl
  ·have h : some ((decide (x ≥ 0) && decide (x ≤ BE ((p.A3.length : Int) - 1))) && (lie == (0:Int))) = some true := h
   rw [ab, ar] at h; exact h.1
  ·have h : some ((decide (x ≥ 0) && decide (x ≤ BE ((p.A3.length : Int) - 1))) && (lie == (0:Int))) = some true := h
   rw [ab, ar] at h; exact h.1
 rw [I0 (by omega)] at h2
 obtain ⟨i, h3, h4⟩ := VN h2
 exact ⟨i, h3, by omega⟩
theorem Ya {p : AT} {op x lie : Int} (G : Fe p) (ho : op = 3 ∨ op = 4) (h : dJ p ⟨op, x, lie⟩ = some true) : ∃ i : Nat, x = (i : Int) ∧ (i : Int) < p.A0 := by
 have h60 := G.HV
 have h2 : (decide (x ≥ 0) && decide (x ≤ BE (p.A0 - 1))) = true := by
  rcases ho with rfl | rfl
  ·have h : some ((decide (x ≥ 0) && decide (x ≤ BE (p.A0 - 1))) && (lie == (0:Int))) = some true := h
   rw [ab, ar] at h; exact h.1
  ·have h : some ((decide (x ≥ 0) && decide (x ≤ BE (p.A0 - 1))) && (lie == (0:Int))) = some true := h
   rw [ab, ar] at h; exact h.1
 rw [I0 (by omega)] at h2
 exact VN h2
theorem gD {p : AT} {op x lie : Int} (G : Fe p) (ho : op = 5 ∨ op = 6) (h : dJ p ⟨op, x, lie⟩ = some true) : ∃ i : Nat, x = (i : Int) ∧ i < p.A5.length := by
 have h40 := G.TK
 have h2 : (decide (x ≥ 0) && decide (x ≤ BE ((p.A5.length : Int) - 1))) = true := by
  cases hb : (decide (x ≥ 0) && decide (x ≤ BE ((p.A5.length : Int) - 1))) with
  | true => rfl
  | false =>
   rcases ho with rfl | rfl
   ·have h : ((bif (decide (x ≥ 0) && decide (x ≤ BE ((p.A5.length : Int) - 1))) then ((Qc lie (0:Int) (2:Int)).bind fun v9 => some v9) else some false).bind fun t8 => some t8) = some true := h
    rw [hb] at h; cases h
   ·have h : ((bif (decide (x ≥ 0) && decide (x ≤ BE ((p.A5.length : Int) - 1))) then ((Qc lie (1:Int) (2:Int)).bind fun v9 => some v9) else some false).bind fun t8 => some t8) = some true := h
    rw [hb] at h; cases h
 rw [I0 (by omega)] at h2
 obtain ⟨i, h3, h4⟩ := VN h2
 exact ⟨i, h3, by omega⟩
theorem iI {α : Type} (x : Option α) : (x.bind fun v => some v) = x := by cases x <;> rfl
theorem ZL {p : AT} {f : Frame} (G : Fe p) (F : W8 p f) : E5 f := by
 have h60 := G.HV
 have h40 := G.TK
 have h100 := G.Qy
 have o1 := F.RU
 have o2 := F.JW
 have o3 := F.ways.1
 refine ⟨⟨by omega, fun _ _ => trivial⟩, ⟨by omega, fun _ _ => trivial⟩, ⟨by omega, fun h hh => ?_⟩⟩
 obtain ⟨i, hi, rfl⟩ := ij hh
 have hw := ae (show i < p.A3.length by omega)
 have H := F.ways.2 i _ _ (ae hi) hw
 have l := (G.XA i _ hw).RO.1
 have e := H.LR
 exact ⟨by omega, fun _ _ => trivial⟩
theorem Ex {p : AT} {f f' : Frame} (G : Fe p) (F' : W8 p f') (ho : f'.Ok = f.Ok) : ∃ r, Ef p f'.Ok f'.B1 f'.A1 f'.A3 (0:Int) = some r ∧ Fz p f f'.A3 f'.A1 f'.B1 = some r ∧ Dp r := by
 obtain ⟨ws, s1, s2, hW⟩ := Nu G F'
 have hG : E5 (LN f' ws) := ZL G ⟨F'.RU, F'.JW, hW⟩
 refine ⟨⟨0, LN f' ws⟩, ?_, ?_, hG⟩
 ·unfold Ef
  have s1 : YI p ({ Ok := f'.Ok, B1 := f'.B1, A1 := f'.A1, A3 := f'.A3 } : Frame) = some (LN f' ws) := s1
  rw [s1]; rfl
 ·unfold Fz
  have s2 : bW p ({ Ok := f'.Ok, B1 := f'.B1, A1 := f'.A1, A3 := f'.A3 } : Frame) = some (LN f' ws) := s2
  rw [← ho, s2]; rfl
theorem KW {p : AT} {f : Frame} (S1 : YI p f = some f) (code : Int) : Ef p f.Ok f.B1 f.A1 f.A3 code = some ⟨code, f⟩ := by
 unfold Ef
 have S1 : YI p ({ Ok := f.Ok, B1 := f.B1, A1 := f.A1, A3 := f.A3 } : Frame) = some f := S1
 rw [S1]; rfl
def Pv (w : CA) : AD := { State := 0, Aj := 0, Ac := cq w.A0.length false, Shown := false, Timer := 0 }
theorem RH {p : AT} {ws : List AD} {i : Nat} {h : AD} {w : CA} (hh : ws[i]? = some h) (H : HG h w) (G : Kk p w) : gL ws (i : Int) = some (ws.set i (Pv w)) := by
 have l := G.RO.1
 unfold gL
 rw [AE, hh, aa, H.LR, FM (by omega), aa]; rfl
theorem RG {p : AT} {w : CA} (G : Kk p w) : gO w = some (Pv w) := by
 have l := G.RO.1
 unfold gO
 rw [FM (by omega), aa]; rfl
theorem Wd {p : AT} {w : CA} (G : Kk p w) : HG (Pv w) w := ⟨⟨ov _, (by decide : (0:Int) ≤ 4)⟩, by unfold Pv; simp, ⟨ov _, by have := G.ne; show (0 : Int) < _; omega⟩⟩
def QZ (a : List AZ) (t : Af) : List AZ := match a[t.Switch.toNat]? with | some c => a.set t.Switch.toNat { c with Want := t.CK } | none => a
def DF (a : List AZ) (ts : List Af) : List AZ := ts.foldl QZ a
theorem YD (a : List AZ) (t : Af) : (QZ a t).length = a.length := by
 unfold QZ
 split
 ·rw [bp]
 ·rfl
theorem HX : ∀ (ts : List Af) (a : List AZ), (DF a ts).length = a.length
 | [], _ => rfl
 | t :: ts, a => (HX ts (QZ a t)).trans (YD a t)
theorem Qa {l : List Af} {i : Nat} (hi : i < l.length) (a : List AZ) : DF a (l.take (i + 1)) = QZ (DF a (l.take i)) l[i] := by
 rw [ku hi]
 unfold DF
 rw [jf]; rfl
theorem X9 {p : AT} {a : List AZ} {t : Af} (hp : p.A5.length ≤ 1048576) (ha : a.length = p.A5.length) (h : tB p t = true) : ∃ c, AH a t.Switch = some c ∧ a.set t.Switch.toNat { c with Want := t.CK } = QZ a t := by
 obtain ⟨k, c, e1, e2, e3⟩ := MQ hp h
 have hk : k < a.length := by have := Bi e2; omega
 refine ⟨a[k], by rw [e1]; exact J5 hk, ?_⟩
 unfold QZ
 rw [e1]
 show _ = (match a[k]? with | some c => a.set k { c with Want := t.CK } | none => a)
 rw [ae hk]; rfl
theorem UO {p : AT} {l : List Af} {a : List AZ} (x : Int) (hp : p.A5.length ≤ 1048576) (ha : a.length = p.A5.length) (hl : l.length ≤ 1048576) (h : ∀ t ∈ l, tB p t = true) : AG (Jq x l) (a, (0 : Int)) = some (.inl (DF a l, BE (x + (1:Int)))) := by
 refine Ez (F := Jq x l) l.length (fun i => (DF a (l.take i), (i : Int))) (fun i hi => ?_) ?_
 ·obtain ⟨c, e1, e2⟩ := X9 (a := DF a (l.take i)) hp ((HX _ _).trans ha) (h _ (bg hi))
  unfold Jq
  simp only [Bf hi, cond_true, AE, ae hi, aa, e1, e2, Qa hi, AS (show i < 9223372036854775807 by omega)]
 ·unfold Jq
  simp only [Bd, cond_false, er]; rfl
theorem aF {p : AT} {f : Frame} {i : Nat} {w : CA} {h : AD} (G : Fe p) (F : W8 p f) (hw : p.A3[i]? = some w) (hh : f.A3[i]? = some h) : nC p f (i : Int) = some { Ok := f.Ok, B1 := f.B1, A1 := DF f.A1 (w.AJ ++ w.A7), A3 := f.A3.set i { h with State := 1 } } := by
 have GW := G.XA i w hw
 have hp : p.A5.length ≤ 1048576 := by have := G.TK; omega
 obtain ⟨_, _, _, l3, l4⟩ := GW.RO
 unfold nC
 simp only [AE, hw, hh, aa]
 have a0 : Jp f (i : Int) w h (f.A1, (0 : Int)) = some (.inl (DF f.A1 w.AJ, (1 : Int))) := by
  have q : Jp f (i : Int) w h (f.A1, (0 : Int)) = AG (Jq (0 : Int) w.AJ) (f.A1, (0 : Int)) := rfl
  rw [q, UO (0 : Int) hp F.JW (by omega) GW.VS]; rfl
 have a1 : Jp f (i : Int) w h (DF f.A1 w.AJ, (1 : Int)) = some (.inl (DF (DF f.A1 w.AJ) w.A7, (2 : Int))) := by
  have q : Jp f (i : Int) w h (DF f.A1 w.AJ, (1 : Int)) = AG (Jq (1 : Int) w.A7) (DF f.A1 w.AJ, (0 : Int)) := rfl
  rw [q, UO (1 : Int) hp ((HX _ _).trans F.JW) (by omega) GW.L5]; rfl
 have e : DF f.A1 (w.AJ ++ w.A7) = DF (DF f.A1 w.AJ) w.A7 := by unfold DF; rw [jf]
 rw [Be, a0]
 show AG (Jp f (i : Int) w h) (DF f.A1 w.AJ, (1 : Int)) = _
 rw [Be, a1]
 show AG (Jp f (i : Int) w h) (DF (DF f.A1 w.AJ) w.A7, (2 : Int)) = _
 rw [Be, e]; rfl
theorem Xp {p : AT} {w : CA} (G : Kk p w) : ∀ t ∈ w.AJ ++ w.A7, tB p t = true := fun t ht => by
 rcases aq.1 ht with h | h
 ·exact G.VS t h
 ·exact G.L5 t h
theorem aE {p : AT} {f : Frame} {e : BH} {w : CA} {h : AD} {r : Aq} (G : Fe p) (F : W8 p f) (GW : Kk p w) (hk : Fz p f (f.A3.set e.Of.toNat { h with State := 1 }) (DF f.A1 (w.AJ ++ w.A7)) f.B1 = some r) :
  ((ZG w).bind fun v => AG (Mm p e f h v) (f.A1, (0 : Int))) = some r := by
 have hp : p.A5.length ≤ 1048576 := by have := G.TK; omega
 obtain ⟨_, _, _, l3, l4⟩ := GW.RO
 have hn : ZG w = some (w.AJ ++ w.A7) := by
  unfold ZG
  rw [DC (by simp only [fg]; omega), aa, dr, DC (by omega), aa]
 rw [hn, aa]
 have hl : (w.AJ ++ w.A7).length ≤ 60 := by rw [an]; omega
 have hall := Xp GW
 generalize w.AJ ++ w.A7 = l at hk hl hall
 refine Ez (F := Mm p e f h l) l.length (fun i => (DF f.A1 (l.take i), (i : Int))) (fun i hi => ?_) ?_
 ·obtain ⟨c, e1, e2⟩ := X9 (a := DF f.A1 (l.take i)) hp ((HX _ _).trans F.JW) (hall _ (bg hi))
  unfold Mm
  simp only [Bf hi, cond_true, AE, ae hi, aa, e1, e2, Qa hi, AS (show i < 9223372036854775807 by omega)]
 ·unfold Mm
  simp only [Bd, cond_false, er, hk]; rfl
theorem XD (xs : List Int) (q : Int → Bool) (b : Bool) : (xs.any fun x => q x && b) = (bif b then xs.any q else false) := by
 cases b with
 | true => simp only [ld, cond_true]
 | false => simp
theorem XF {p : AT} {f : Frame} {i : Nat} {w : CA} {h : AD} (G : Fe p) (F : W8 p f) (hw : p.A3[i]? = some w) (hh : f.A3[i]? = some h) (hst : ((h.State != (1:Int)) && (h.State != (2:Int))) = false) :
  jG p f (i : Int) = some (LN f (bif (bif h.Shown then w.Ci.any (EC f) else false) then (f.A3.set i { h with State := 3 }).set i { ({ h with State := 3 } : AD) with Timer := p.DX } else f.A3.set i (Pv w)), 0) := by
 have GW := G.XA i w hw
 obtain ⟨_, _, l2, _, _⟩ := GW.RO
 unfold jG
 simp only [AE, hw, hh, aa, hst, cond_false]
 have hL := BB (F := Mk p f (i : Int) h w) w.Ci.length (fun j => (j : Int)) (fun j => bif (w.Ci[j]?).any (fun x => EC f x && h.Shown) then some (LN f ((f.A3.set i { h with State := 3 }).set i { ({ h with State := 3 } : AD) with Timer := p.DX }), (0 : Int)) else none) (some (LN f (f.A3.set i (Pv w)), (0 : Int))) (fun j hj _ => by
  unfold Mk
  simp only [Bf hj, cond_true, AE, ae hj, aa, bx, H6 F.RU (GW.kB _ (bg hj)), AS (show j < 9223372036854775807 by omega)]
  cases (EC f w.Ci[j] && h.Shown) <;> rfl) (fun _ => by
  unfold Mk
  simp only [Bd, cond_false, RH hh (F.ways.2 i h w hh hw) GW, aa])
 have hL : AG (Mk p f (i : Int) h w) (0 : Int) = _ := hL
 rw [hL, Eg, XD]
 cases (bif h.Shown then w.Ci.any (EC f) else false) <;> rfl
theorem YB {p : AT} {f : Frame} (G : Fe p) (F : W8 p f) : ∃ r, AG (Mc p f) (f.A3, (0 : Int)) = some r ∧ AG (Mn p f) (f.A3, (0 : Int)) = some r ∧ Dp r := by
 have h100 := G.Qy
 have hfl := F.ways.1
 refine (G4 (F := Mc p f) (F' := Mn p f) f.A3.length (fun i s s' => ∃ ws, s = (ws, (i : Int)) ∧ s' = (ws, (i : Int)) ∧ WG p ws) (fun r r' => r = r' ∧ Dp r) (s0 := (f.A3, (0 : Int))) (s0' := (f.A3, (0 : Int))) ⟨f.A3, rfl, rfl, F.ways⟩ (fun i s s' hi hs => ?_) (fun s s' hs => ?_)).elim fun r hr => ?_
 ·obtain ⟨ws, rfl, rfl, hW⟩ := hs
  left
  obtain ⟨w, hw⟩ : ∃ w, p.A3[i]? = some w := ⟨_, ae (show i < p.A3.length by omega)⟩
  obtain ⟨h, hh⟩ : ∃ h, ws[i]? = some h := ⟨_, ae (show i < ws.length by have := hW.1; omega)⟩
  have GW := G.XA i w hw
  have H := hW.2 i h w hh hw
  have H2 : HG { h with Timer := BE (h.Timer - (1:Int)) } w := ⟨H.st, H.LR, H.gone⟩
  have q := RH (OP (Bi hh) { h with Timer := BE (h.Timer - (1:Int)) }) H2 GW
  unfold Mc Mn Ow PL
  simp only [Bf hi, cond_true, AE, hh, hw, aa, bne, gz, q, RG GW, AS (show i < 9223372036854775807 by omega)]
  cases (h.State == (3:Int)) with
  | false => exact ⟨_, _, rfl, rfl, ws, rfl, rfl, hW⟩
  | true =>
   simp only [da, cond_false, cond_true]
   cases (BE (h.Timer - (1:Int)) == (0:Int)) with
   | true => exact ⟨_, _, rfl, rfl, _, rfl, rfl, GU (GU hW hw H2) hw (Wd GW)⟩
   | false => exact ⟨_, _, rfl, rfl, _, rfl, rfl, GU hW hw H2⟩
 ·obtain ⟨ws, rfl, rfl, hW⟩ := hs
  obtain ⟨r, d1, d2, d3⟩ := Ex (f := f) (f' := LN f ws) G ⟨F.RU, F.JW, hW⟩ rfl
  unfold Mc Mn
  simp only [Bd, cond_false]
  exact ⟨r, r, by rw [show Ef p f.Ok f.B1 f.A1 ws (0:Int) = some r from d1]; rfl, by rw [show Fz p f ws f.A1 f.B1 = some r from d2]; rfl, rfl, d3⟩
 ·obtain ⟨r', e1, e2, rfl, e3⟩ := hr
  exact ⟨r, e1, e2, e3⟩
theorem nY {p : AT} {f : Frame} {e : BH} (hx : ON p) (hxf : Lq f) (hxe : IF e) (hs : GR p) (hsf : E5 f) : ∃ r, mI p f e = some r ∧ lH p f e = some r ∧ Dp r := by
 have fail : Dp ⟨1, ⟨false, [], [], []⟩⟩ := ⟨⟨by simp, fun _ _ => trivial⟩, ⟨by simp, fun _ _ => trivial⟩, ⟨by simp, fun _ h => by cases h⟩⟩
 obtain ⟨r, e1, e2, e3⟩ := VC hs hsf
 obtain ⟨b, hb⟩ := nT p e
 unfold mI lH
 simp only [e1, e2, aa, eH, hb]
 cases r with
 | false => exact ⟨_, rfl, rfl, fail⟩
 | true =>
  cases b with
  | false => exact ⟨_, rfl, rfl, fail⟩
  | true =>
   obtain ⟨G, F, S1, S2⟩ := e3 rfl
   have h100 := G.Qy
   have h40 := G.TK
   have h60 := G.HV
   have hfl := F.ways.1
   unfold pR
   simp only [da, cond_false, aa, iI, R8 hsf, R7 hsf]
   obtain ⟨op, x, lie⟩ := e
   simp only []
   by_cases h1 : op = 1
   ·subst h1
    obtain ⟨i, rfl, hi⟩ := Yb G (.inl rfl) hb
    obtain ⟨w, hw⟩ : ∃ w, p.A3[i]? = some w := ⟨_, ae hi⟩
    obtain ⟨h, hh⟩ : ∃ h, f.A3[i]? = some h := ⟨_, ae (show i < f.A3.length by omega)⟩
    obtain ⟨c, q1, q2⟩ := bM G F hw
    simp only [ji, cond_true, q1, q2, aa, bne]
    cases hc : (c == (0:Int)) with
    | false => exact ⟨⟨c, f⟩, KW S1 c, rfl, hsf⟩
    | true =>
     rw [beq_iff_eq] at hc
     subst hc
     have GW := G.XA i w hw
     obtain ⟨r, d1, d2, d3⟩ := Ex (f := f) (f' := { Ok := f.Ok, B1 := f.B1, A1 := DF f.A1 (w.AJ ++ w.A7), A3 := f.A3.set i { h with State := 1 } }) G ⟨F.RU, (HX _ _).trans F.JW, GU F.ways hw ⟨⟨(by decide : (0:Int) ≤ 1), (by decide : (1:Int) ≤ 4)⟩, (F.ways.2 i h w hh hw).LR, (F.ways.2 i h w hh hw).gone⟩⟩ rfl
     simp only [da, cond_true, cond_false, aF G F hw hh, aa, AE, hw, hh]
     exact ⟨r, d1, aE (e := ⟨1, (i : Int), lie⟩) G F GW d2, d3⟩
   by_cases h2 : op = 2
   ·subst h2
    obtain ⟨i, rfl, hi⟩ := Yb G (.inr rfl) hb
    obtain ⟨w, hw⟩ : ∃ w, p.A3[i]? = some w := ⟨_, ae hi⟩
    obtain ⟨h, hh⟩ : ∃ h, f.A3[i]? = some h := ⟨_, ae (show i < f.A3.length by omega)⟩
    have GW := G.XA i w hw
    have H := F.ways.2 i h w hh hw
    simp only [ji, cond_true, cond_false, AE, hh, hw, aa]
    cases hst : ((h.State != (1:Int)) && (h.State != (2:Int))) with
    | true =>
     have q : jG p f (i : Int) = some (f, 2) := by
      unfold jG
      simp only [AE, hh, aa, hst, cond_true]
     rw [q]
     exact ⟨⟨2, f⟩, KW S1 2, rfl, hsf⟩
    | false =>
     rw [XF G F hw hh hst]
     simp only [aa, cond_false, NK F.RU GW.RO.2.2.1 GW.kB, RG GW]
     cases hn : (bif h.Shown then w.Ci.any (EC f) else false) with
     | true =>
      have q : (bif h.Shown then some (w.Ci.any (EC f)) else some false) = some true := by rw [← hn]; cases h.Shown <;> rfl
      obtain ⟨r, d1, d2, d3⟩ := Ex (f := f) (f' := LN f ((f.A3.set i { h with State := 3 }).set i { ({ h with State := 3 } : AD) with Timer := p.DX })) G ⟨F.RU, F.JW, GU (GU F.ways hw ⟨⟨(by decide : (0:Int) ≤ 3), (by decide : (3:Int) ≤ 4)⟩, H.LR, H.gone⟩) hw ⟨⟨(by decide : (0:Int) ≤ 3), (by decide : (3:Int) ≤ 4)⟩, H.LR, H.gone⟩⟩ rfl
      rw [q]
      exact ⟨r, d1, d2, d3⟩
     | false =>
      have q : (bif h.Shown then some (w.Ci.any (EC f)) else some false) = some false := by rw [← hn]; cases h.Shown <;> rfl
      obtain ⟨r, d1, d2, d3⟩ := Ex (f := f) (f' := LN f (f.A3.set i (Pv w))) G ⟨F.RU, F.JW, GU F.ways hw (Wd GW)⟩ rfl
      rw [q]
      exact ⟨r, d1, d2, d3⟩
   by_cases h3 : op = 3
   ·subst h3
    obtain ⟨i, rfl, hi⟩ := Ya G (.inl rfl) hb
    obtain ⟨r, d1, d2, d3⟩ := Ex (f := f) (f' := { Ok := f.Ok, B1 := f.B1.set i true, A1 := f.A1, A3 := f.A3 }) G ⟨by rw [bp]; exact F.RU, F.JW, F.ways⟩ rfl
    simp only [ji, cond_true, cond_false, J5 (show i < f.B1.length by have := F.RU; omega), aa]
    exact ⟨r, d1, d2, d3⟩
   by_cases h4 : op = 4
   ·subst h4
    obtain ⟨i, rfl, hi⟩ := Ya G (.inr rfl) hb
    obtain ⟨r, d1, d2, d3⟩ := Ex (f := f) (f' := { Ok := f.Ok, B1 := f.B1.set i false, A1 := f.A1, A3 := f.A3 }) G ⟨by rw [bp]; exact F.RU, F.JW, F.ways⟩ rfl
    simp only [ji, cond_true, cond_false, J5 (show i < f.B1.length by have := F.RU; omega), aa]
    exact ⟨r, d1, d2, d3⟩
   by_cases h5 : op = 5
   ·subst h5
    obtain ⟨i, rfl, hi⟩ := gD G (.inl rfl) hb
    have hi2 : i < f.A1.length := by have := F.JW; omega
    obtain ⟨r, d1, d2, d3⟩ := Ex (f := f) (f' := { Ok := f.Ok, B1 := f.B1, A1 := f.A1.set i { f.A1[i] with AJ := lie }, A3 := f.A3 }) G ⟨F.RU, by rw [bp]; exact F.JW, F.ways⟩ rfl
    simp only [ji, cond_true, cond_false, J5 hi2, aa]
    exact ⟨r, d1, d2, d3⟩
   by_cases h6 : op = 6
   ·subst h6
    obtain ⟨i, rfl, hi⟩ := gD G (.inr rfl) hb
    have hi2 : i < f.A1.length := by have := F.JW; omega
    obtain ⟨c, hc⟩ : ∃ c, p.A5[i]? = some c := ⟨_, ae hi⟩
    obtain ⟨l, q1, q2, _⟩ := QK G F hc
    have hc2 := G.sw i c hc
    unfold RI at hc2
    rw [I0 (by omega)] at hc2
    simp only [ar, decide_eq_true_eq] at hc2
    simp only [ji, cond_true, cond_false, q1, q2, aa, AE, hc, H6 F.RU (show 0 ≤ c ∧ c < p.A0 by omega), ae hi2]
    cases decide ((l.length : Int) > (0:Int)) with
    | true => exact ⟨⟨2, f⟩, KW S1 2, rfl, hsf⟩
    | false =>
     simp only [cond_false]
     cases EC f c with
     | true => exact ⟨⟨3, f⟩, KW S1 3, rfl, hsf⟩
     | false =>
      obtain ⟨r, d1, d2, d3⟩ := Ex (f := f) (f' := { Ok := f.Ok, B1 := f.B1, A1 := f.A1.set i { f.A1[i] with Want := lie }, A3 := f.A3 }) G ⟨F.RU, by rw [bp]; exact F.JW, F.ways⟩ rfl
      exact ⟨r, d1, d2, d3⟩
   rw [beq_eq_false_iff_ne.2 h1, beq_eq_false_iff_ne.2 h2, beq_eq_false_iff_ne.2 h3, beq_eq_false_iff_ne.2 h4, beq_eq_false_iff_ne.2 h5, beq_eq_false_iff_ne.2 h6]
   simp only [cond_false]
   cases (op == (7:Int)) with
   | true => simp only [cond_true]; exact YB G F
   | false => simp only [cond_false]; exact Ex (f := f) (f' := f) G F rfl
def OT (x : Af) (k : Int) : Af := { Switch := k, CK := k + 1 }
def CY (x : Af) : Nat := 1 + (1)
def VY (x : CA) (k : Int) : CA := { A0 := BM lP (fun _ => 1) x.A0 k, AJ := BM OT CY x.AJ (k + ((B4 (fun _ => 1) x.A0 : Nat) : Int)), A7 := BM OT CY x.A7 (k + ((B4 (fun _ => 1) x.A0 : Nat) : Int) + ((B4 CY x.AJ : Nat) : Int)), Bl := BM lP (fun _ => 1) x.Bl (k + ((B4 (fun _ => 1) x.A0 : Nat) : Int) + ((B4 CY x.AJ : Nat) : Int) + ((B4 CY x.A7 : Nat) : Int)), Ci := BM lP (fun _ => 1) x.Ci (k + ((B4 (fun _ => 1) x.A0 : Nat) : Int) + ((B4 CY x.AJ : Nat) : Int) + ((B4 CY x.A7 : Nat) : Int) + ((B4 (fun _ => 1) x.Bl : Nat) : Int)) }
def GK (x : CA) : Nat := B4 (fun _ => 1) x.A0 + (B4 CY x.AJ + (B4 CY x.A7 + (B4 (fun _ => 1) x.Bl + (B4 (fun _ => 1) x.Ci))))
def eP (x : AT) (k : Int) : AT := { A0 := x.A0, A5 := BM lP (fun _ => 1) x.A5 k, A3 := BM VY GK x.A3 (k + ((B4 (fun _ => 1) x.A5 : Nat) : Int)), Bk := BM (BM YJ (fun _ => 1)) (B4 (fun _ => 1)) x.Bk (k + ((B4 (fun _ => 1) x.A5 : Nat) : Int) + ((B4 GK x.A3 : Nat) : Int)), DX := x.DX }
def Fy (x : AT) : Nat := B4 (fun _ => 1) x.A5 + (B4 GK x.A3 + (B4 (B4 (fun _ => 1)) x.Bk))
theorem Lm {x : List Int} {k : Int} (hx : (Gk (fun _ => True)) x) (h0 : 0 ≤ k) (hb : k + ((B4 (fun _ => 1) x : Nat) : Int) ≤ 4611686018427387904) : gG x k = some (BM lP (fun _ => 1) x k, k + ((B4 (fun _ => 1) x : Nat) : Int)) := by
 have hl := hx.1
 unfold gG
 refine Fj (F := Ov) (fun xs k i => (xs, k, i)) lP (fun _ => 1) (fun _ => True) x.length (fun pre y post k hp h0 hb hn => ?_) (fun ys k hn => ?_) x [] k hx.2 h0 hb rfl
 ·have hlen := J9 hn
  have hb' : k + ((1 : Nat) : Int) ≤ 4611686018427387904 := hb
  unfold Ov
  simp (disch := omega) only [LC, cond_true, HP, JI, aa, IQ]
  rw [show k + (((fun _ => 1) y : Nat) : Int) = k + 1 from by show k + ((1 : Nat) : Int) = _; omega]
  rfl
 ·unfold Ov
  simp only [← hn, Bd, cond_false, aj]
theorem Tk {x : List Af} {k : Int} (hx : (Gk (fun _ => True)) x) (h0 : 0 ≤ k) (hb : k + ((B4 CY x : Nat) : Int) ≤ 4611686018427387904) : lO x k = some (BM OT CY x k, k + ((B4 CY x : Nat) : Int)) := by
 have hl := hx.1
 unfold lO
 refine Fj (F := PU) (fun xs k i => (xs, k, i)) OT CY (fun _ => True) x.length (fun pre y post k hp h0 hb hn => ?_) (fun ys k hn => ?_) x [] k hx.2 h0 hb rfl
 ·have hlen := J9 hn
  have hb' : k + ((1 + (1) : Nat) : Int) ≤ 4611686018427387904 := hb
  unfold PU
  simp (disch := omega) only [LC, cond_true, HP, JI, aa, IQ]
  rw [show k + ((CY y : Nat) : Int) = k + 1 + 1 from by show k + ((1 + (1) : Nat) : Int) = _; omega]
  rfl
 ·unfold PU
  simp only [← hn, Bd, cond_false, aj]
theorem ZA {x : List CA} {k : Int} (hx : (Gk Ik) x) (h0 : 0 ≤ k) (hb : k + ((B4 GK x : Nat) : Int) ≤ 4611686018427387904) : mY x k = some (BM VY GK x k, k + ((B4 GK x : Nat) : Int)) := by
 have hl := hx.1
 unfold mY
 refine Fj (F := PA) (fun xs k i => (xs, k, i)) VY GK Ik x.length (fun pre y post k hp h0 hb hn => ?_) (fun ys k hn => ?_) x [] k hx.2 h0 hb rfl
 ·have hlen := J9 hn
  have hb' : k + ((B4 (fun _ => 1) y.A0 + (B4 CY y.AJ + (B4 CY y.A7 + (B4 (fun _ => 1) y.Bl + (B4 (fun _ => 1) y.Ci)))) : Nat) : Int) ≤ 4611686018427387904 := hb
  unfold PA
  simp (disch := omega) only [LC, cond_true, HP, JI, aa, IQ, Lm (x := y.A0) hp.1, Tk (x := y.AJ) hp.2.1, Tk (x := y.A7) hp.2.2.1, Lm (x := y.Bl) hp.2.2.2.1, Lm (x := y.Ci) hp.2.2.2.2]
  rw [show k + ((GK y : Nat) : Int) = k + ((B4 (fun _ => 1) y.A0 : Nat) : Int) + ((B4 CY y.AJ : Nat) : Int) + ((B4 CY y.A7 : Nat) : Int) + ((B4 (fun _ => 1) y.Bl : Nat) : Int) + ((B4 (fun _ => 1) y.Ci : Nat) : Int) from by show k + ((B4 (fun _ => 1) y.A0 + (B4 CY y.AJ + (B4 CY y.A7 + (B4 (fun _ => 1) y.Bl + (B4 (fun _ => 1) y.Ci)))) : Nat) : Int) = _; omega]
  rfl
 ·unfold PA
  simp only [← hn, Bd, cond_false, aj]
theorem PD {x : List Bool} {k : Int} (hx : (Gk (fun _ => True)) x) (h0 : 0 ≤ k) (hb : k + ((B4 (fun _ => 1) x : Nat) : Int) ≤ 4611686018427387904) : jE x k = some (BM YJ (fun _ => 1) x k, k + ((B4 (fun _ => 1) x : Nat) : Int)) := by
 have hl := hx.1
 unfold jE
 refine Fj (F := PC) (fun xs k i => (xs, k, i)) YJ (fun _ => 1) (fun _ => True) x.length (fun pre y post k hp h0 hb hn => ?_) (fun ys k hn => ?_) x [] k hx.2 h0 hb rfl
 ·have hlen := J9 hn
  have hb' : k + ((1 : Nat) : Int) ≤ 4611686018427387904 := hb
  unfold PC
  simp (disch := omega) only [LC, cond_true, HP, JI, aa, IQ]
  rw [show k + (((fun _ => 1) y : Nat) : Int) = k + 1 from by show k + ((1 : Nat) : Int) = _; omega]
  rfl
 ·unfold PC
  simp only [← hn, Bd, cond_false, aj]
theorem ZB {x : List (List Bool)} {k : Int} (hx : (Gk (Gk (fun _ => True))) x) (h0 : 0 ≤ k) (hb : k + ((B4 (B4 (fun _ => 1)) x : Nat) : Int) ≤ 4611686018427387904) : mZ x k = some (BM (BM YJ (fun _ => 1)) (B4 (fun _ => 1)) x k, k + ((B4 (B4 (fun _ => 1)) x : Nat) : Int)) := by
 have hl := hx.1
 unfold mZ
 refine Fj (F := PB) (fun xs k i => (xs, k, i)) (BM YJ (fun _ => 1)) (B4 (fun _ => 1)) (Gk (fun _ => True)) x.length (fun pre y post k hp h0 hb hn => ?_) (fun ys k hn => ?_) x [] k hx.2 h0 hb rfl
 ·have hlen := J9 hn
  have hb' : k + ((B4 (fun _ => 1) y : Nat) : Int) ≤ 4611686018427387904 := hb
  unfold PB
  simp (disch := omega) only [LC, cond_true, HP, JI, aa, IQ, PD (x := y) hp]
  rw [show k + (((B4 (fun _ => 1)) y : Nat) : Int) = k + ((B4 (fun _ => 1) y : Nat) : Int) from by show k + ((B4 (fun _ => 1) y : Nat) : Int) = _; omega]
  rfl
 ·unfold PB
  simp only [← hn, Bd, cond_false, aj]
theorem Z7 {x : AT} {k : Int} (hx : GR x) (h0 : 0 ≤ k) (hb : k + ((Fy x : Nat) : Int) ≤ 4611686018427387904) : mH x k = some (eP x k, k + ((Fy x : Nat) : Int)) := by
 unfold Fy at hb
 unfold mH
 rw [Lm (x := x.A5) (k := k) hx.1 (by omega) (by omega), aa]
 dsimp only
 rw [ZA (x := x.A3) (k := k + ((B4 (fun _ => 1) x.A5 : Nat) : Int)) hx.2.1 (by omega) (by omega), aa]
 dsimp only
 rw [ZB (x := x.Bk) (k := k + ((B4 (fun _ => 1) x.A5 : Nat) : Int) + ((B4 GK x.A3 : Nat) : Int)) hx.2.2 (by omega) (by omega), aa]
 dsimp only
 rw [show k + ((Fy x : Nat) : Int) = k + ((B4 (fun _ => 1) x.A5 : Nat) : Int) + ((B4 GK x.A3 : Nat) : Int) + ((B4 (B4 (fun _ => 1)) x.Bk : Nat) : Int) from by unfold Fy; omega]
 rfl
theorem Od (x : Af) (hx : (fun _ => True) x) : CY x ≤ 2 := by
 unfold CY
 omega
theorem XL (x : CA) (hx : Ik x) : GK x ≤ 7340032 := by
 unfold GK
 have h0 : (B4 (fun _ => 1)) x.A0 ≤ 1048576 := by
  have h := (fun _ hx => Ew (p := (fun _ => True)) (fun _ _ => al 1) hx.1 hx.2) x.A0 hx.1
  exact h
 have h1 : (B4 CY) x.AJ ≤ 2097152 := by
  have h := (fun _ hx => Ew (p := (fun _ => True)) Od hx.1 hx.2) x.AJ hx.2.1
  exact h
 have h2 : (B4 CY) x.A7 ≤ 2097152 := by
  have h := (fun _ hx => Ew (p := (fun _ => True)) Od hx.1 hx.2) x.A7 hx.2.2.1
  exact h
 have h3 : (B4 (fun _ => 1)) x.Bl ≤ 1048576 := by
  have h := (fun _ hx => Ew (p := (fun _ => True)) (fun _ _ => al 1) hx.1 hx.2) x.Bl hx.2.2.2.1
  exact h
 have h4 : (B4 (fun _ => 1)) x.Ci ≤ 1048576 := by
  have h := (fun _ hx => Ew (p := (fun _ => True)) (fun _ _ => al 1) hx.1 hx.2) x.Ci hx.2.2.2.2
  exact h
 omega
theorem Ur (x : AT) (hx : GR x) : Fy x ≤ 8796094070784 := by
 unfold Fy
 have h0 : (B4 (fun _ => 1)) x.A5 ≤ 1048576 := by
  have h := (fun _ hx => Ew (p := (fun _ => True)) (fun _ _ => al 1) hx.1 hx.2) x.A5 hx.1
  exact h
 have h1 : (B4 GK) x.A3 ≤ 7696581394432 := by
  have h := (fun _ hx => Ew (p := Ik) XL hx.1 hx.2) x.A3 hx.2.1
  exact h
 have h2 : (B4 (B4 (fun _ => 1))) x.Bk ≤ 1099511627776 := by
  have h := (fun _ hx => Ew (p := (Gk (fun _ => True))) (fun _ hx => Ew (p := (fun _ => True)) (fun _ _ => al 1) hx.1 hx.2) hx.1 hx.2) x.Bk hx.2.2
  exact h
 omega
def Gh (x : AZ) (k : Int) : AZ := { Want := k, AJ := k + 1 }
def CL (x : AZ) : Nat := 1 + (1)
def I2 (x : AD) (k : Int) : AD := { State := k, Aj := k + 1, Ac := BM YJ (fun _ => 1) x.Ac (k + 1 + 1), Shown := (Int.tmod (k + 1 + 1 + ((B4 (fun _ => 1) x.Ac : Nat) : Int)) 3 == 0), Timer := k + 1 + 1 + ((B4 (fun _ => 1) x.Ac : Nat) : Int) + 1 }
def DJ (x : AD) : Nat := 1 + (1 + (B4 (fun _ => 1) x.Ac + (1 + (1))))
def MA (x : Frame) (k : Int) : Frame := { Ok := x.Ok, B1 := BM YJ (fun _ => 1) x.B1 k, A1 := BM Gh CL x.A1 (k + ((B4 (fun _ => 1) x.B1 : Nat) : Int)), A3 := BM I2 DJ x.A3 (k + ((B4 (fun _ => 1) x.B1 : Nat) : Int) + ((B4 CL x.A1 : Nat) : Int)) }
def Co (x : Frame) : Nat := B4 (fun _ => 1) x.B1 + (B4 CL x.A1 + (B4 DJ x.A3))
theorem ZC {x : List AZ} {k : Int} (hx : (Gk (fun _ => True)) x) (h0 : 0 ≤ k) (hb : k + ((B4 CL x : Nat) : Int) ≤ 4611686018427387904) : n7 x k = some (BM Gh CL x k, k + ((B4 CL x : Nat) : Int)) := by
 have hl := hx.1
 unfold n7
 refine Fj (F := PE) (fun xs k i => (xs, k, i)) Gh CL (fun _ => True) x.length (fun pre y post k hp h0 hb hn => ?_) (fun ys k hn => ?_) x [] k hx.2 h0 hb rfl
 ·have hlen := J9 hn
  have hb' : k + ((1 + (1) : Nat) : Int) ≤ 4611686018427387904 := hb
  unfold PE
  simp (disch := omega) only [LC, cond_true, HP, JI, aa, IQ]
  rw [show k + ((CL y : Nat) : Int) = k + 1 + 1 from by show k + ((1 + (1) : Nat) : Int) = _; omega]
  rfl
 ·unfold PE
  simp only [← hn, Bd, cond_false, aj]
theorem ZD {x : List AD} {k : Int} (hx : (Gk G6) x) (h0 : 0 ≤ k) (hb : k + ((B4 DJ x : Nat) : Int) ≤ 4611686018427387904) : n8 x k = some (BM I2 DJ x k, k + ((B4 DJ x : Nat) : Int)) := by
 have hl := hx.1
 unfold n8
 refine Fj (F := PF) (fun xs k i => (xs, k, i)) I2 DJ G6 x.length (fun pre y post k hp h0 hb hn => ?_) (fun ys k hn => ?_) x [] k hx.2 h0 hb rfl
 ·have hlen := J9 hn
  have hb' : k + ((1 + (1 + (B4 (fun _ => 1) y.Ac + (1 + (1)))) : Nat) : Int) ≤ 4611686018427387904 := hb
  unfold PF
  simp (disch := omega) only [LC, cond_true, HP, JI, aa, IQ, PD (x := y.Ac) hp]
  rw [show k + ((DJ y : Nat) : Int) = k + 1 + 1 + ((B4 (fun _ => 1) y.Ac : Nat) : Int) + 1 + 1 from by show k + ((1 + (1 + (B4 (fun _ => 1) y.Ac + (1 + (1)))) : Nat) : Int) = _; omega]
  rfl
 ·unfold PF
  simp only [← hn, Bd, cond_false, aj]
theorem Tj {x : Frame} {k : Int} (hx : E5 x) (h0 : 0 ≤ k) (hb : k + ((Co x : Nat) : Int) ≤ 4611686018427387904) : lG x k = some (MA x k, k + ((Co x : Nat) : Int)) := by
 unfold Co at hb
 unfold lG
 rw [PD (x := x.B1) (k := k) hx.1 (by omega) (by omega), aa]
 dsimp only
 rw [ZC (x := x.A1) (k := k + ((B4 (fun _ => 1) x.B1 : Nat) : Int)) hx.2.1 (by omega) (by omega), aa]
 dsimp only
 rw [ZD (x := x.A3) (k := k + ((B4 (fun _ => 1) x.B1 : Nat) : Int) + ((B4 CL x.A1 : Nat) : Int)) hx.2.2 (by omega) (by omega), aa]
 dsimp only
 rw [show k + ((Co x : Nat) : Int) = k + ((B4 (fun _ => 1) x.B1 : Nat) : Int) + ((B4 CL x.A1 : Nat) : Int) + ((B4 DJ x.A3 : Nat) : Int) from by unfold Co; omega]
 rfl
theorem TT (x : AZ) (hx : (fun _ => True) x) : CL x ≤ 2 := by
 unfold CL
 omega
theorem Uo (x : AD) (hx : G6 x) : DJ x ≤ 1048580 := by
 unfold DJ
 have h0 : (B4 (fun _ => 1)) x.Ac ≤ 1048576 := by
  have h := (fun _ hx => Ew (p := (fun _ => True)) (fun _ _ => al 1) hx.1 hx.2) x.Ac hx
  exact h
 omega
theorem NY (x : Frame) (hx : E5 x) : Co x ≤ 1099518967808 := by
 unfold Co
 have h0 : (B4 (fun _ => 1)) x.B1 ≤ 1048576 := by
  have h := (fun _ hx => Ew (p := (fun _ => True)) (fun _ _ => al 1) hx.1 hx.2) x.B1 hx.1
  exact h
 have h1 : (B4 CL) x.A1 ≤ 2097152 := by
  have h := (fun _ hx => Ew (p := (fun _ => True)) TT hx.1 hx.2) x.A1 hx.2.1
  exact h
 have h2 : (B4 DJ) x.A3 ≤ 1099515822080 := by
  have h := (fun _ hx => Ew (p := G6) Uo hx.1 hx.2) x.A3 hx.2.2
  exact h
 omega
def JD (x : Aq) (k : Int) : Aq := { Code := x.Code, Frame := MA x.Frame k }
def C6 (x : Aq) : Nat := Co x.Frame
theorem Z8 {x : Aq} {k : Int} (hx : Dp x) (h0 : 0 ≤ k) (hb : k + ((C6 x : Nat) : Int) ≤ 4611686018427387904) : mJ x k = some (JD x k, k + ((C6 x : Nat) : Int)) := by
 unfold C6 at hb
 unfold mJ
 rw [Tj (x := x.Frame) (k := k) hx (by omega) (by omega), aa]
 dsimp only
 rw [show k + ((C6 x : Nat) : Int) = k + ((Co x.Frame : Nat) : Int) from by unfold C6; omega]
 rfl
theorem Ny (x : Aq) (hx : Dp x) : C6 x ≤ 1099518967808 := by
 unfold C6
 have h0 : Co x.Frame ≤ 1099518967808 := by
  have h := NY x.Frame hx
  exact h
 omega
theorem RC {x : List Bool} {k : Int} (hx : (Gk (fun _ => True)) x) (h0 : 0 ≤ k) (hb : k + ((B4 (fun _ => 1) x : Nat) : Int) ≤ 4611686018427387904) : XS (BM YJ (fun _ => 1) x k) k = some (k + ((B4 (fun _ => 1) x : Nat) : Int)) := by
 have hl := hx.1
 unfold XS
 refine KP (F := LW (BM YJ (fun _ => 1) x k)) (fun k i => (k, i)) YJ (fun _ => 1) (fun _ => True) (BM YJ (fun _ => 1) x k) (fun i y k hp h0 hb hy => ?_) (fun k2 => ?_) x [] k rfl hx.2 h0 hb
 ·have hlen := Bi hy
  have hlt := Bf hlen
  rw [I1] at hlen
  have hb' : k + ((1 : Nat) : Int) ≤ 4611686018427387904 := hb
  unfold LW
  simp (disch := omega) only [hlt, cond_true, AE, hy, aa, YJ, bne_self_eq_false, beq_self_eq_true, da, cond_false, IQ, bX]
  rw [show k + (((fun _ => 1) y : Nat) : Int) = k + 1 from by show k + ((1 : Nat) : Int) = _; omega]
  rfl
 ·unfold LW
  simp only [Bd, cond_false, aj]
theorem XT {x : List AZ} {k : Int} (hx : (Gk (fun _ => True)) x) (h0 : 0 ≤ k) (hb : k + ((B4 CL x : Nat) : Int) ≤ 4611686018427387904) : Ye (BM Gh CL x k) k = some (k + ((B4 CL x : Nat) : Int)) := by
 have hl := hx.1
 unfold Ye
 refine KP (F := LX (BM Gh CL x k)) (fun k i => (k, i)) Gh CL (fun _ => True) (BM Gh CL x k) (fun i y k hp h0 hb hy => ?_) (fun k2 => ?_) x [] k rfl hx.2 h0 hb
 ·have hlen := Bi hy
  have hlt := Bf hlen
  rw [I1] at hlen
  have hb' : k + ((1 + (1) : Nat) : Int) ≤ 4611686018427387904 := hb
  unfold LX
  simp (disch := omega) only [hlt, cond_true, AE, hy, aa, Gh, bne_self_eq_false, beq_self_eq_true, da, cond_false, IQ, bX]
  rw [show k + ((CL y : Nat) : Int) = k + 1 + 1 from by show k + ((1 + (1) : Nat) : Int) = _; omega]
  rfl
 ·unfold LX
  simp only [Bd, cond_false, aj]
theorem XU {x : List AD} {k : Int} (hx : (Gk G6) x) (h0 : 0 ≤ k) (hb : k + ((B4 DJ x : Nat) : Int) ≤ 4611686018427387904) : Yg (BM I2 DJ x k) k = some (k + ((B4 DJ x : Nat) : Int)) := by
 have hl := hx.1
 unfold Yg
 refine KP (F := LY (BM I2 DJ x k)) (fun k i => (k, i)) I2 DJ G6 (BM I2 DJ x k) (fun i y k hp h0 hb hy => ?_) (fun k2 => ?_) x [] k rfl hx.2 h0 hb
 ·have hlen := Bi hy
  have hlt := Bf hlen
  rw [I1] at hlen
  have hb' : k + ((1 + (1 + (B4 (fun _ => 1) y.Ac + (1 + (1)))) : Nat) : Int) ≤ 4611686018427387904 := hb
  unfold LY
  simp (disch := omega) only [hlt, cond_true, AE, hy, aa, I2, bne_self_eq_false, beq_self_eq_true, da, cond_false, IQ, bX, RC (x := y.Ac) hp]
  rw [show k + ((DJ y : Nat) : Int) = k + 1 + 1 + ((B4 (fun _ => 1) y.Ac : Nat) : Int) + 1 + 1 from by show k + ((1 + (1 + (B4 (fun _ => 1) y.Ac + (1 + (1)))) : Nat) : Int) = _; omega]
  rfl
 ·unfold LY
  simp only [Bd, cond_false, aj]
theorem ZE {x : Frame} {k : Int} (hx : E5 x) (h0 : 0 ≤ k) (hb : k + ((Co x : Nat) : Int) ≤ 4611686018427387904) : nD (MA x k) k = some (k + ((Co x : Nat) : Int)) := by
 unfold Co at hb
 unfold nD MA
 dsimp only
 rw [RC (x := x.B1) (k := k) hx.1 (by omega) (by omega), aa, bX (by omega), cond_false]
 rw [XT (x := x.A1) (k := k + ((B4 (fun _ => 1) x.B1 : Nat) : Int)) hx.2.1 (by omega) (by omega), aa, bX (by omega), cond_false]
 rw [XU (x := x.A3) (k := k + ((B4 (fun _ => 1) x.B1 : Nat) : Int) + ((B4 CL x.A1 : Nat) : Int)) hx.2.2 (by omega) (by omega), aa, bX (by omega), cond_false]
 rw [show k + ((Co x : Nat) : Int) = k + ((B4 (fun _ => 1) x.B1 : Nat) : Int) + ((B4 CL x.A1 : Nat) : Int) + ((B4 DJ x.A3 : Nat) : Int) from by unfold Co; omega]
theorem Z9 {x : Aq} {k : Int} (hx : Dp x) (h0 : 0 ≤ k) (hb : k + ((C6 x : Nat) : Int) ≤ 4611686018427387904) : lI (JD x k) k = some (k + ((C6 x : Nat) : Int)) := by
 unfold C6 at hb
 unfold lI JD
 dsimp only
 rw [ZE (x := x.Frame) (k := k) hx (by omega) (by omega), aa, bX (by omega), cond_false]
 rw [show k + ((C6 x : Nat) : Int) = k + ((Co x.Frame : Nat) : Int) from by unfold C6; omega]
theorem qO (aAP0 : AT) (aAF1 : Frame) (aAE2 : BH) (haAP0 : ON aAP0) (haAF1 : Lq aAF1) (haAE2 : IF aAE2) : f5 aAP0 aAF1 aAE2 = some true := by
 unfold f5
 obtain ⟨v0, e0, a0, b0⟩ := nE (x := aAP0) (left := 1048576) (by omega) (by omega) haAP0
 rw [e0, aa]
 rcases dg (decide (v0 < (0 : Int))) with hb0 | hb0
 ·rw [hb0]; rfl
 rw [hb0, cond_false]; simp only [decide_eq_false_iff_not] at hb0
 have saAP0 := b0.resolve_left hb0
 obtain ⟨v1, e1, a1, b1⟩ := nL (x := aAF1) (left := v0) (by omega) (by omega) haAF1
 rw [e1, aa]
 rcases dg (decide (v1 < (0 : Int))) with hb1 | hb1
 ·rw [hb1]; rfl
 rw [hb1, cond_false]; simp only [decide_eq_false_iff_not] at hb1
 have saAF1 := b1.resolve_left hb1
 obtain ⟨r, m1, m2, m3⟩ := nY haAP0 haAF1 haAE2 saAP0 saAF1
 have u0 : Fy aAP0 ≤ 8796094070784 := by
  have h := Ur aAP0 saAP0
  exact h
 have k0 := Z7 (x := aAP0) (k := (1 : Int)) saAP0 (by omega) (by omega)
 have u1 : Co aAF1 ≤ 1099518967808 := by
  have h := NY aAF1 saAF1
  exact h
 have k1 := Tj (x := aAF1) (k := (1 : Int) + ((Fy aAP0 : Nat) : Int)) saAF1 (by omega) (by omega)
 have u2 : C6 r ≤ 1099518967808 := by
  have h := Ny r m3
  exact h
 have k2 := Z8 (x := r) (k := (1 : Int)) m3 (by omega) (by omega)
 have j2 := Z9 (x := r) (k := (1 : Int)) m3 (by omega) (by omega)
 simp only [nS (x := aAP0) saAP0, iN (x := aAF1) saAF1, iQ (x := aAE2) trivial, iO (x := aAP0) saAP0, Z6 (x := aAF1) saAF1, iS (x := r) m3, k0, bX (show (0:Int) ≤ (1 : Int) + ((Fy aAP0 : Nat) : Int) by omega), k1, bX (show (0:Int) ≤ (1 : Int) + ((Fy aAP0 : Nat) : Int) + ((Co aAF1 : Nat) : Int) by omega), k2, bX (show (0:Int) ≤ (1 : Int) + ((C6 r : Nat) : Int) by omega), j2, aa, m1, m2, bne_self_eq_false, beq_self_eq_true, da, cond_false]
end
end Go.Proofs.YtphpkphklegfeaaGreat.K

