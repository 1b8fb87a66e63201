/-
 The plain part of the law FnExactBlocked: on typed values it returns true at every input. No conditions.
-/
import Derived.Test.YtphpkphklegfeaaGreatDBd
set_option linter.unusedVariables false
set_option linter.unusedSimpArgs false
set_option maxRecDepth 100000
namespace Go.Proofs.YtphpkphklegfeaaGreat.K
noncomputable section
open Go.ChangeShapes Go.WideShapes Go.ChangeAt Go.RowKit
abbrev Kz (x : Aa) : Prop := FO x.Switch ∧ FO x.EZ
abbrev M0 (x : Bu) : Prop := (Cr FO) x.A0 ∧ (Cr Kz) x.AO ∧ (Cr Kz) x.AB ∧ (Cr FO) x.BY ∧ (Cr FO) x.DF
abbrev I1 (x : Bu) : Prop := (Fu (fun _ => True)) x.A0 ∧ (Fu (fun _ => True)) x.AO ∧ (Fu (fun _ => True)) x.AB ∧ (Fu (fun _ => True)) x.BY ∧ (Fu (fun _ => True)) x.DF
abbrev NN (x : AQ) : Prop := FO x.A0 ∧ (Cr FO) x.A7 ∧ (Cr M0) x.A5 ∧ (Cr (Cr (fun _ => True))) x.BX ∧ FO x.ED
abbrev Fo (x : AQ) : Prop := (Fu (fun _ => True)) x.A7 ∧ (Fu I1) x.A5 ∧ (Fu (Fu (fun _ => True))) x.BX
abbrev Ky (x : Am) : Prop := FO x.Want ∧ FO x.AO
abbrev Jj (x : AH) : Prop := FO x.State ∧ FO x.Ac ∧ (Cr (fun _ => True)) x.Ab ∧ (fun _ => True) x.Shown ∧ FO x.Timer
abbrev Kx (x : AE) : Prop := (fun _ => True) x.Ok ∧ (Cr (fun _ => True)) x.C9 ∧ (Cr Ky) x.A8 ∧ (Cr Jj) x.A5
abbrev GH (x : AH) : Prop := (Fu (fun _ => True)) x.Ab
abbrev Eo (x : AE) : Prop := (Fu (fun _ => True)) x.C9 ∧ (Fu (fun _ => True)) x.A8 ∧ (Fu GH) x.A5
abbrev Js (x : BE) : Prop := (Fu (fun _ => True)) x.A5 ∧ (Fu (fun _ => True)) x.A0 ∧ (Fu (fun _ => True)) x.A8
theorem Yc : FI Tryz.prog 3 Int FO := Wk Tryz.underlying3
theorem bI : FI Tryz.prog 22 (List Int) (Cr FO) := EL Tryz.underlying22 rfl Yc
theorem kT : FI Tryz.prog 151 Aa Kz := by
 intro K enc W sp fuel cs d ps h
 obtain ⟨fu, hl, hf⟩ := FE Tryz.underlying151 h
 have hl : cs.length = 2 := hl
 obtain ⟨_, _, h0⟩ := hf _ (List.Mem.head _)
 obtain ⟨x0, r0, g0⟩ := Yc _ _ _ _ _ _ _ h0
 obtain ⟨_, _, h1⟩ := hf _ (List.Mem.tail _ (List.Mem.head _))
 obtain ⟨x1, r1, g1⟩ := Yc _ _ _ _ _ _ _ h1
 exact ⟨⟨x0, x1⟩, Sj (off := 0) (sz := 1) r0 (Jk (sz := 1) hl r1), g0, g1⟩
theorem cY : FI Tryz.prog 105 (List Aa) (Cr Kz) := EL Tryz.underlying105 rfl kT
theorem kQ : FI Tryz.prog 107 Bu M0 := by
 intro K enc W sp fuel cs d ps h
 obtain ⟨fu, hl, hf⟩ := FE Tryz.underlying107 h
 have hl : cs.length = 5 := hl
 obtain ⟨_, _, h0⟩ := hf _ (List.Mem.head _)
 obtain ⟨x0, r0, g0⟩ := bI _ _ _ _ _ _ _ h0
 obtain ⟨_, _, h1⟩ := hf _ (List.Mem.tail _ (List.Mem.head _))
 obtain ⟨x1, r1, g1⟩ := cY _ _ _ _ _ _ _ h1
 obtain ⟨_, _, h2⟩ := hf _ (List.Mem.tail _ (List.Mem.tail _ (List.Mem.head _)))
 obtain ⟨x2, r2, g2⟩ := cY _ _ _ _ _ _ _ h2
 obtain ⟨_, _, h3⟩ := hf _ (List.Mem.tail _ (List.Mem.tail _ (List.Mem.tail _ (List.Mem.head _))))
 obtain ⟨x3, r3, g3⟩ := bI _ _ _ _ _ _ _ h3
 obtain ⟨_, _, h4⟩ := hf _ (List.Mem.tail _ (List.Mem.tail _ (List.Mem.tail _ (List.Mem.tail _ (List.Mem.head _)))))
 obtain ⟨x4, r4, g4⟩ := bI _ _ _ _ _ _ _ h4
 exact ⟨⟨x0, x1, x2, x3, x4⟩, Sj (off := 0) (sz := 1) r0 (Sj (off := 1) (sz := 1) r1 (Sj (off := 2) (sz := 1) r2 (Sj (off := 3) (sz := 1) r3 (Jk (sz := 1) hl r4)))), g0, g1, g2, g3, g4⟩
theorem n7 : FI Tryz.prog 23 (List Bu) (Cr M0) := EL Tryz.underlying23 rfl kQ
theorem nD : FI Tryz.prog 4 Bool (fun _ => True) := Uo Tryz.underlying4
theorem fV : FI Tryz.prog 27 (List Bool) (Cr (fun _ => True)) := EL Tryz.underlying27 rfl nD
theorem n8 : FI Tryz.prog 24 (List (List Bool)) (Cr (Cr (fun _ => True))) := EL Tryz.underlying24 rfl fV
theorem n9 : FI Tryz.prog 26 AQ NN := by
 intro K enc W sp fuel cs d ps h
 obtain ⟨fu, hl, hf⟩ := FE Tryz.underlying26 h
 have hl : cs.length = 5 := hl
 obtain ⟨_, _, h0⟩ := hf _ (List.Mem.head _)
 obtain ⟨x0, r0, g0⟩ := Yc _ _ _ _ _ _ _ h0
 obtain ⟨_, _, h1⟩ := hf _ (List.Mem.tail _ (List.Mem.head _))
 obtain ⟨x1, r1, g1⟩ := bI _ _ _ _ _ _ _ h1
 obtain ⟨_, _, h2⟩ := hf _ (List.Mem.tail _ (List.Mem.tail _ (List.Mem.head _)))
 obtain ⟨x2, r2, g2⟩ := n7 _ _ _ _ _ _ _ h2
 obtain ⟨_, _, h3⟩ := hf _ (List.Mem.tail _ (List.Mem.tail _ (List.Mem.tail _ (List.Mem.head _))))
 obtain ⟨x3, r3, g3⟩ := n8 _ _ _ _ _ _ _ h3
 obtain ⟨_, _, h4⟩ := hf _ (List.Mem.tail _ (List.Mem.tail _ (List.Mem.tail _ (List.Mem.tail _ (List.Mem.head _)))))
 obtain ⟨x4, r4, g4⟩ := Yc _ _ _ _ _ _ _ h4
 exact ⟨⟨x0, x1, x2, x3, x4⟩, Sj (off := 0) (sz := 1) r0 (Sj (off := 1) (sz := 1) r1 (Sj (off := 2) (sz := 1) r2 (Sj (off := 3) (sz := 1) r3 (Jk (sz := 1) hl r4)))), g0, g1, g2, g3, g4⟩
theorem kS : FI Tryz.prog 118 Am Ky := by
 intro K enc W sp fuel cs d ps h
 obtain ⟨fu, hl, hf⟩ := FE Tryz.underlying118 h
 have hl : cs.length = 2 := hl
 obtain ⟨_, _, h0⟩ := hf _ (List.Mem.head _)
 obtain ⟨x0, r0, g0⟩ := Yc _ _ _ _ _ _ _ h0
 obtain ⟨_, _, h1⟩ := hf _ (List.Mem.tail _ (List.Mem.head _))
 obtain ⟨x1, r1, g1⟩ := Yc _ _ _ _ _ _ _ h1
 exact ⟨⟨x0, x1⟩, Sj (off := 0) (sz := 1) r0 (Jk (sz := 1) hl r1), g0, g1⟩
theorem nA : FI Tryz.prog 28 (List Am) (Cr Ky) := EL Tryz.underlying28 rfl kS
theorem kR : FI Tryz.prog 109 AH Jj := by
 intro K enc W sp fuel cs d ps h
 obtain ⟨fu, hl, hf⟩ := FE Tryz.underlying109 h
 have hl : cs.length = 5 := hl
 obtain ⟨_, _, h0⟩ := hf _ (List.Mem.head _)
 obtain ⟨x0, r0, g0⟩ := Yc _ _ _ _ _ _ _ h0
 obtain ⟨_, _, h1⟩ := hf _ (List.Mem.tail _ (List.Mem.head _))
 obtain ⟨x1, r1, g1⟩ := Yc _ _ _ _ _ _ _ h1
 obtain ⟨_, _, h2⟩ := hf _ (List.Mem.tail _ (List.Mem.tail _ (List.Mem.head _)))
 obtain ⟨x2, r2, g2⟩ := fV _ _ _ _ _ _ _ h2
 obtain ⟨_, _, h3⟩ := hf _ (List.Mem.tail _ (List.Mem.tail _ (List.Mem.tail _ (List.Mem.head _))))
 obtain ⟨x3, r3, g3⟩ := nD _ _ _ _ _ _ _ h3
 obtain ⟨_, _, h4⟩ := hf _ (List.Mem.tail _ (List.Mem.tail _ (List.Mem.tail _ (List.Mem.tail _ (List.Mem.head _)))))
 obtain ⟨x4, r4, g4⟩ := Yc _ _ _ _ _ _ _ h4
 exact ⟨⟨x0, x1, x2, x3, x4⟩, Sj (off := 0) (sz := 1) r0 (Sj (off := 1) (sz := 1) r1 (Sj (off := 2) (sz := 1) r2 (Sj (off := 3) (sz := 1) r3 (Jk (sz := 1) hl r4)))), g0, g1, g2, g3, g4⟩
theorem nB : FI Tryz.prog 29 (List AH) (Cr Jj) := EL Tryz.underlying29 rfl kR
theorem nC : FI Tryz.prog 31 AE Kx := by
 intro K enc W sp fuel cs d ps h
 obtain ⟨fu, hl, hf⟩ := FE Tryz.underlying31 h
 have hl : cs.length = 4 := hl
 obtain ⟨_, _, h0⟩ := hf _ (List.Mem.head _)
 obtain ⟨x0, r0, g0⟩ := nD _ _ _ _ _ _ _ h0
 obtain ⟨_, _, h1⟩ := hf _ (List.Mem.tail _ (List.Mem.head _))
 obtain ⟨x1, r1, g1⟩ := fV _ _ _ _ _ _ _ h1
 obtain ⟨_, _, h2⟩ := hf _ (List.Mem.tail _ (List.Mem.tail _ (List.Mem.head _)))
 obtain ⟨x2, r2, g2⟩ := nA _ _ _ _ _ _ _ h2
 obtain ⟨_, _, h3⟩ := hf _ (List.Mem.tail _ (List.Mem.tail _ (List.Mem.tail _ (List.Mem.head _))))
 obtain ⟨x3, r3, g3⟩ := nB _ _ _ _ _ _ _ h3
 exact ⟨⟨x0, x1, x2, x3⟩, Sj (off := 0) (sz := 1) r0 (Sj (off := 1) (sz := 1) r1 (Sj (off := 2) (sz := 1) r2 (Jk (sz := 1) hl r3))), g0, g1, g2, g3⟩
theorem R8 {x : List Int} {left : Int} (h0 : 0 ≤ left) (h1 : left ≤ 1048576) (hx : (Cr FO) x) : ∃ v, cJ x left = some v ∧ v ≤ left ∧ (v < 0 ∨ (Fu (fun _ => True)) x) := by
 unfold cJ
 obtain ⟨v, e1, e2, e3⟩ := NW (xs := x) h0 h1 hx.1
 exact ⟨v, e1, e2, e3.imp id fun h => ⟨h.1, fun _ _ => trivial⟩⟩
theorem VF {x : List Aa} {left : Int} (h0 : 0 ≤ left) (h1 : left ≤ 1048576) (hx : (Cr Kz) x) : ∃ v, WD x left = some v ∧ v ≤ left ∧ (v < 0 ∨ (Fu (fun _ => True)) x) := by
 unfold WD
 obtain ⟨v, e1, e2, e3⟩ := NW (xs := x) h0 h1 hx.1
 exact ⟨v, e1, e2, e3.imp id fun h => ⟨h.1, fun _ _ => trivial⟩⟩
theorem eO {x : Bu} {left : Int} (h0 : 0 ≤ left) (h1 : left ≤ 1048576) (hx : M0 x) : ∃ v, gU x left = some v ∧ v ≤ left ∧ (v < 0 ∨ I1 x) := by
 unfold gU
 obtain ⟨v0, e0, a0, b0⟩ := R8 (x := x.A0) (left := left) (by omega) (by omega) hx.1
 rw [e0, Option.bind_some]
 rcases Bool.eq_false_or_eq_true (decide (v0 < (0 : Int))) with hb0 | hb0
 ·rw [hb0]; exact ⟨_, rfl, by omega, .inl (by decide)⟩
 rw [hb0, cond_false]; simp only [decide_eq_false_iff_not] at hb0
 obtain ⟨v1, e1, a1, b1⟩ := VF (x := x.AO) (left := v0) (by omega) (by omega) hx.2.1
 rw [e1, Option.bind_some]
 rcases Bool.eq_false_or_eq_true (decide (v1 < (0 : Int))) with hb1 | hb1
 ·rw [hb1]; exact ⟨_, rfl, by omega, .inl (by decide)⟩
 rw [hb1, cond_false]; simp only [decide_eq_false_iff_not] at hb1
 obtain ⟨v2, e2, a2, b2⟩ := VF (x := x.AB) (left := v1) (by omega) (by omega) hx.2.2.1
 rw [e2, Option.bind_some]
 rcases Bool.eq_false_or_eq_true (decide (v2 < (0 : Int))) with hb2 | hb2
 ·rw [hb2]; exact ⟨_, rfl, by omega, .inl (by decide)⟩
 rw [hb2, cond_false]; simp only [decide_eq_false_iff_not] at hb2
 obtain ⟨v3, e3, a3, b3⟩ := R8 (x := x.BY) (left := v2) (by omega) (by omega) hx.2.2.2.1
 rw [e3, Option.bind_some]
 rcases Bool.eq_false_or_eq_true (decide (v3 < (0 : Int))) with hb3 | hb3
 ·rw [hb3]; exact ⟨_, rfl, by omega, .inl (by decide)⟩
 rw [hb3, cond_false]; simp only [decide_eq_false_iff_not] at hb3
 obtain ⟨v4, e4, a4, b4⟩ := R8 (x := x.DF) (left := v3) (by omega) (by omega) hx.2.2.2.2
 rw [e4, Option.bind_some]
 rcases Bool.eq_false_or_eq_true (decide (v4 < (0 : Int))) with hb4 | hb4
 ·rw [hb4]; exact ⟨_, rfl, by omega, .inl (by decide)⟩
 rw [hb4, cond_false]; simp only [decide_eq_false_iff_not] at hb4
 exact ⟨_, rfl, by omega, .inr ⟨b0.resolve_left hb0, b1.resolve_left hb1, b2.resolve_left hb2, b3.resolve_left hb3, b4.resolve_left hb4⟩⟩
theorem e6 {x : List Bu} {left : Int} (h0 : 0 ≤ left) (h1 : left ≤ 1048576) (hx : (Cr M0) x) : ∃ v, iU x left = some v ∧ v ≤ left ∧ (v < 0 ∨ (Fu I1) x) := by
 unfold iU
 refine SB (g := gU) (fit := M0) (sm := I1) (fun x l a b c => eO b c a) (fun l i x hi => ?_) (fun l => ?_) h0 h1 hx
 ·unfold R9
  simp only [Bi (Bs hi), cond_true, AK, hi, Option.bind_some, Option.map_some]
 ·unfold R9
  simp only [Bd, cond_false, Option.map_some]
theorem U0 {x : List Bool} {left : Int} (h0 : 0 ≤ left) (h1 : left ≤ 1048576) (hx : (Cr (fun _ => True)) x) : ∃ v, cK x left = some v ∧ v ≤ left ∧ (v < 0 ∨ (Fu (fun _ => True)) x) := by
 unfold cK
 obtain ⟨v, e1, e2, e3⟩ := NW (xs := x) h0 h1 hx.1
 exact ⟨v, e1, e2, e3.imp id fun h => ⟨h.1, fun _ _ => trivial⟩⟩
theorem e7 {x : List (List Bool)} {left : Int} (h0 : 0 ≤ left) (h1 : left ≤ 1048576) (hx : (Cr (Cr (fun _ => True))) x) : ∃ v, iV x left = some v ∧ v ≤ left ∧ (v < 0 ∨ (Fu (Fu (fun _ => True))) x) := by
 unfold iV
 refine SB (g := cK) (fit := (Cr (fun _ => True))) (sm := (Fu (fun _ => True))) (fun x l a b c => U0 b c a) (fun l i x hi => ?_) (fun l => ?_) h0 h1 hx
 ·unfold RA
  simp only [Bi (Bs hi), cond_true, AK, hi, Option.bind_some, Option.map_some]
 ·unfold RA
  simp only [Bd, cond_false, Option.map_some]
theorem jL {x : AQ} {left : Int} (h0 : 0 ≤ left) (h1 : left ≤ 1048576) (hx : NN x) : ∃ v, f6 x left = some v ∧ v ≤ left ∧ (v < 0 ∨ Fo x) := by
 unfold f6
 obtain ⟨v0, e0, a0, b0⟩ := R8 (x := x.A7) (left := left) (by omega) (by omega) hx.2.1
 rw [e0, Option.bind_some]
 rcases Bool.eq_false_or_eq_true (decide (v0 < (0 : Int))) with hb0 | hb0
 ·rw [hb0]; exact ⟨_, rfl, by omega, .inl (by decide)⟩
 rw [hb0, cond_false]; simp only [decide_eq_false_iff_not] at hb0
 obtain ⟨v1, e1, a1, b1⟩ := e6 (x := x.A5) (left := v0) (by omega) (by omega) hx.2.2.1
 rw [e1, Option.bind_some]
 rcases Bool.eq_false_or_eq_true (decide (v1 < (0 : Int))) with hb1 | hb1
 ·rw [hb1]; exact ⟨_, rfl, by omega, .inl (by decide)⟩
 rw [hb1, cond_false]; simp only [decide_eq_false_iff_not] at hb1
 obtain ⟨v2, e2, a2, b2⟩ := e7 (x := x.BX) (left := v1) (by omega) (by omega) hx.2.2.2.1
 rw [e2, Option.bind_some]
 rcases Bool.eq_false_or_eq_true (decide (v2 < (0 : Int))) with hb2 | hb2
 ·rw [hb2]; exact ⟨_, rfl, by omega, .inl (by decide)⟩
 rw [hb2, cond_false]; simp only [decide_eq_false_iff_not] at hb2
 exact ⟨_, rfl, by omega, .inr ⟨b0.resolve_left hb0, b1.resolve_left hb1, b2.resolve_left hb2⟩⟩
theorem e8 {x : List Am} {left : Int} (h0 : 0 ≤ left) (h1 : left ≤ 1048576) (hx : (Cr Ky) x) : ∃ v, iW x left = some v ∧ v ≤ left ∧ (v < 0 ∨ (Fu (fun _ => True)) x) := by
 unfold iW
 obtain ⟨v, e1, e2, e3⟩ := NW (xs := x) h0 h1 hx.1
 exact ⟨v, e1, e2, e3.imp id fun h => ⟨h.1, fun _ _ => trivial⟩⟩
theorem eP {x : AH} {left : Int} (h0 : 0 ≤ left) (h1 : left ≤ 1048576) (hx : Jj x) : ∃ v, gV x left = some v ∧ v ≤ left ∧ (v < 0 ∨ GH x) := by
 unfold gV
 obtain ⟨v0, e0, a0, b0⟩ := U0 (x := x.Ab) (left := left) (by omega) (by omega) hx.2.2.1
 rw [e0, Option.bind_some]
 rcases Bool.eq_false_or_eq_true (decide (v0 < (0 : Int))) with hb0 | hb0
 ·rw [hb0]; exact ⟨_, rfl, by omega, .inl (by decide)⟩
 rw [hb0, cond_false]; simp only [decide_eq_false_iff_not] at hb0
 exact ⟨_, rfl, by omega, .inr (b0.resolve_left hb0)⟩
theorem e9 {x : List AH} {left : Int} (h0 : 0 ≤ left) (h1 : left ≤ 1048576) (hx : (Cr Jj) x) : ∃ v, iX x left = some v ∧ v ≤ left ∧ (v < 0 ∨ (Fu GH) x) := by
 unfold iX
 refine SB (g := gV) (fit := Jj) (sm := GH) (fun x l a b c => eP b c a) (fun l i x hi => ?_) (fun l => ?_) h0 h1 hx
 ·unfold RC
  simp only [Bi (Bs hi), cond_true, AK, hi, Option.bind_some, Option.map_some]
 ·unfold RC
  simp only [Bd, cond_false, Option.map_some]
theorem jS {x : AE} {left : Int} (h0 : 0 ≤ left) (h1 : left ≤ 1048576) (hx : Kx x) : ∃ v, f7 x left = some v ∧ v ≤ left ∧ (v < 0 ∨ Eo x) := by
 unfold f7
 obtain ⟨v0, e0, a0, b0⟩ := U0 (x := x.C9) (left := left) (by omega) (by omega) hx.2.1
 rw [e0, Option.bind_some]
 rcases Bool.eq_false_or_eq_true (decide (v0 < (0 : Int))) with hb0 | hb0
 ·rw [hb0]; exact ⟨_, rfl, by omega, .inl (by decide)⟩
 rw [hb0, cond_false]; simp only [decide_eq_false_iff_not] at hb0
 obtain ⟨v1, e1, a1, b1⟩ := e8 (x := x.A8) (left := v0) (by omega) (by omega) hx.2.2.1
 rw [e1, Option.bind_some]
 rcases Bool.eq_false_or_eq_true (decide (v1 < (0 : Int))) with hb1 | hb1
 ·rw [hb1]; exact ⟨_, rfl, by omega, .inl (by decide)⟩
 rw [hb1, cond_false]; simp only [decide_eq_false_iff_not] at hb1
 obtain ⟨v2, e2, a2, b2⟩ := e9 (x := x.A5) (left := v1) (by omega) (by omega) hx.2.2.2
 rw [e2, Option.bind_some]
 rcases Bool.eq_false_or_eq_true (decide (v2 < (0 : Int))) with hb2 | hb2
 ·rw [hb2]; exact ⟨_, rfl, by omega, .inl (by decide)⟩
 rw [hb2, cond_false]; simp only [decide_eq_false_iff_not] at hb2
 exact ⟨_, rfl, by omega, .inr ⟨b0.resolve_left hb0, b1.resolve_left hb1, b2.resolve_left hb2⟩⟩
theorem RF {x : List Int} (hx : (Fu (fun _ => True)) x) : cL x = some x := by
 have hl := hx.1
 unfold cL
 rw [G7 (by omega), Option.bind_some]
 have := U7 x (fun y => y) (0 : Int) (F := Ny x) (fun ys i y hi hy => ?_) (fun ys => ?_)
 ·rw [List.map_id'] at this; exact this
 ·have hlt := Bs hi
  unfold Ny
  simp only [Bi (Bs hi), cond_true, AK, hi, Option.bind_some]
  rw [List.getElem?_eq_getElem (by omega), Option.bind_some, AS (by omega)]
  rfl
 ·unfold Ny
  simp only [Bd, cond_false, Option.map_some]
theorem ZU {x : Aa} (hx : (fun _ => True) x) : XY x = some x := by
 unfold XY
 rfl
theorem VG {x : List Aa} (hx : (Fu (fun _ => True)) x) : WE x = some x := by
 have hl := hx.1
 unfold WE
 rw [G7 (by omega), Option.bind_some]
 have := U7 x (fun y => y) (⟨0, 0⟩ : Aa) (F := Kj x) (fun ys i y hi hy => ?_) (fun ys => ?_)
 ·rw [List.map_id'] at this; exact this
 ·have hlt := Bs hi
  unfold Kj
  have hg := ZU (x := y) (hx.2 _ (List.mem_of_getElem? hi))
  simp only [Bi (Bs hi), cond_true, AK, hi, Option.bind_some, hg]
  rw [List.getElem?_eq_getElem (by omega), Option.bind_some, AS (by omega)]
  rfl
 ·unfold Kj
  simp only [Bd, cond_false, Option.map_some]
theorem eR {x : Bu} (hx : I1 x) : jO x = some x := by
 unfold jO
 rw [RF (x := x.A0) hx.1, VG (x := x.AO) hx.2.1, VG (x := x.AB) hx.2.2.1, RF (x := x.BY) hx.2.2.2.1, RF (x := x.DF) hx.2.2.2.2]
 rfl
theorem eA {x : List Bu} (hx : (Fu I1) x) : j7 x = some x := by
 have hl := hx.1
 unfold j7
 rw [G7 (by omega), Option.bind_some]
 have := U7 x (fun y => y) (⟨[], [], [], [], []⟩ : Bu) (F := O0 x) (fun ys i y hi hy => ?_) (fun ys => ?_)
 ·rw [List.map_id'] at this; exact this
 ·have hlt := Bs hi
  unfold O0
  have hg := eR (x := y) (hx.2 _ (List.mem_of_getElem? hi))
  simp only [Bi (Bs hi), cond_true, AK, hi, Option.bind_some, hg]
  rw [List.getElem?_eq_getElem (by omega), Option.bind_some, AS (by omega)]
  rfl
 ·unfold O0
  simp only [Bd, cond_false, Option.map_some]
theorem U2 {x : List Bool} (hx : (Fu (fun _ => True)) x) : eC x = some x := by
 have hl := hx.1
 unfold eC
 rw [G7 (by omega), Option.bind_some]
 have := U7 x (fun y => y) (false : Bool) (F := O2 x) (fun ys i y hi hy => ?_) (fun ys => ?_)
 ·rw [List.map_id'] at this; exact this
 ·have hlt := Bs hi
  unfold O2
  simp only [Bi (Bs hi), cond_true, AK, hi, Option.bind_some]
  rw [List.getElem?_eq_getElem (by omega), Option.bind_some, AS (by omega)]
  rfl
 ·unfold O2
  simp only [Bd, cond_false, Option.map_some]
theorem eB {x : List (List Bool)} (hx : (Fu (Fu (fun _ => True))) x) : j8 x = some x := by
 have hl := hx.1
 unfold j8
 rw [G7 (by omega), Option.bind_some]
 have := U7 x (fun y => y) ([] : List Bool) (F := O1 x) (fun ys i y hi hy => ?_) (fun ys => ?_)
 ·rw [List.map_id'] at this; exact this
 ·have hlt := Bs hi
  unfold O1
  have hg := U2 (x := y) (hx.2 _ (List.mem_of_getElem? hi))
  simp only [Bi (Bs hi), cond_true, AK, hi, Option.bind_some, hg]
  rw [List.getElem?_eq_getElem (by omega), Option.bind_some, AS (by omega)]
  rfl
 ·unfold O1
  simp only [Bd, cond_false, Option.map_some]
theorem jY {x : AQ} (hx : Fo x) : f9 x = some x := by
 unfold f9
 rw [RF (x := x.A7) hx.1, eA (x := x.A5) hx.2.1, eB (x := x.BX) hx.2.2]
 rfl
theorem eS {x : Am} (hx : (fun _ => True) x) : jP x = some x := by
 unfold jP
 rfl
theorem eD {x : List Am} (hx : (Fu (fun _ => True)) x) : j9 x = some x := by
 have hl := hx.1
 unfold j9
 rw [G7 (by omega), Option.bind_some]
 have := U7 x (fun y => y) (⟨0, 0⟩ : Am) (F := O3 x) (fun ys i y hi hy => ?_) (fun ys => ?_)
 ·rw [List.map_id'] at this; exact this
 ·have hlt := Bs hi
  unfold O3
  have hg := eS (x := y) (hx.2 _ (List.mem_of_getElem? hi))
  simp only [Bi (Bs hi), cond_true, AK, hi, Option.bind_some, hg]
  rw [List.getElem?_eq_getElem (by omega), Option.bind_some, AS (by omega)]
  rfl
 ·unfold O3
  simp only [Bd, cond_false, Option.map_some]
theorem eT {x : AH} (hx : GH x) : jQ x = some x := by
 unfold jQ
 rw [U2 (x := x.Ab) hx]
 rfl
theorem eE {x : List AH} (hx : (Fu GH) x) : jA x = some x := by
 have hl := hx.1
 unfold jA
 rw [G7 (by omega), Option.bind_some]
 have := U7 x (fun y => y) (⟨0, 0, [], false, 0⟩ : AH) (F := O4 x) (fun ys i y hi hy => ?_) (fun ys => ?_)
 ·rw [List.map_id'] at this; exact this
 ·have hlt := Bs hi
  unfold O4
  have hg := eT (x := y) (hx.2 _ (List.mem_of_getElem? hi))
  simp only [Bi (Bs hi), cond_true, AK, hi, Option.bind_some, hg]
  rw [List.getElem?_eq_getElem (by omega), Option.bind_some, AS (by omega)]
  rfl
 ·unfold O4
  simp only [Bd, cond_false, Option.map_some]
theorem dU {x : AE} (hx : Eo x) : cI x = some x := by
 unfold cI
 rw [U2 (x := x.C9) hx.1, eD (x := x.A8) hx.2.1, eE (x := x.A5) hx.2.2]
 rfl
theorem KD {x : List Int} (hx : (Fu (fun _ => True)) x) : XV x x = some true := by
 unfold XV
 simp only [bne_self_eq_false, cond_false]
 refine KB (F := Ns x x) hx.1 (fun i y hi => ?_) ?_
 ·unfold Ns
  simp only [Bi (Bs hi), cond_true, AK, hi, Option.bind_some, bne_self_eq_false, beq_self_eq_true, Bool.not_true, cond_false]
 ·unfold Ns
  simp only [Bd, cond_false, Option.map_some]
theorem ZV {x : Aa} (hx : (fun _ => True) x) : Xe x x = some true := by
 unfold Xe
 simp only [bne_self_eq_false, beq_self_eq_true, Bool.not_true, cond_false]
theorem VH {x : List Aa} (hx : (Fu (fun _ => True)) x) : WH x x = some true := by
 unfold WH
 simp only [bne_self_eq_false, cond_false]
 refine KB (F := Ko x x) hx.1 (fun i y hi => ?_) ?_
 ·unfold Ko
  have hg := ZV (x := y) (hx.2 _ (List.mem_of_getElem? hi))
  simp only [Bi (Bs hi), cond_true, AK, hi, Option.bind_some, hg, Bool.not_true, cond_false]
 ·unfold Ko
  simp only [Bd, cond_false, Option.map_some]
theorem eW {x : Bu} (hx : I1 x) : jT x x = some true := by
 unfold jT
 simp only [bne_self_eq_false, beq_self_eq_true, Bool.not_true, cond_false, KD (x := x.A0) hx.1, VH (x := x.AO) hx.2.1, VH (x := x.AB) hx.2.2.1, KD (x := x.BY) hx.2.2.2.1, KD (x := x.DF) hx.2.2.2.2, Option.bind_some]
theorem eF {x : List Bu} (hx : (Fu I1) x) : jD x x = some true := by
 unfold jD
 simp only [bne_self_eq_false, cond_false]
 refine KB (F := O6 x x) hx.1 (fun i y hi => ?_) ?_
 ·unfold O6
  have hg := eW (x := y) (hx.2 _ (List.mem_of_getElem? hi))
  simp only [Bi (Bs hi), cond_true, AK, hi, Option.bind_some, hg, Bool.not_true, cond_false]
 ·unfold O6
  simp only [Bd, cond_false, Option.map_some]
theorem U4 {x : List Bool} (hx : (Fu (fun _ => True)) x) : eI x x = some true := by
 unfold eI
 simp only [bne_self_eq_false, cond_false]
 refine KB (F := O8 x x) hx.1 (fun i y hi => ?_) ?_
 ·unfold O8
  simp only [Bi (Bs hi), cond_true, AK, hi, Option.bind_some, bne_self_eq_false, beq_self_eq_true, Bool.not_true, cond_false]
 ·unfold O8
  simp only [Bd, cond_false, Option.map_some]
theorem eG {x : List (List Bool)} (hx : (Fu (Fu (fun _ => True))) x) : jE x x = some true := by
 unfold jE
 simp only [bne_self_eq_false, cond_false]
 refine KB (F := O7 x x) hx.1 (fun i y hi => ?_) ?_
 ·unfold O7
  have hg := U4 (x := y) (hx.2 _ (List.mem_of_getElem? hi))
  simp only [Bi (Bs hi), cond_true, AK, hi, Option.bind_some, hg, Bool.not_true, cond_false]
 ·unfold O7
  simp only [Bd, cond_false, Option.map_some]
theorem dV {x : AQ} (hx : Fo x) : iO x x = some true := by
 unfold iO
 simp only [bne_self_eq_false, beq_self_eq_true, Bool.not_true, cond_false, KD (x := x.A7) hx.1, eF (x := x.A5) hx.2.1, eG (x := x.BX) hx.2.2, Option.bind_some]
theorem eX {x : Am} (hx : (fun _ => True) x) : jU x x = some true := by
 unfold jU
 simp only [bne_self_eq_false, beq_self_eq_true, Bool.not_true, cond_false]
theorem eJ {x : List Am} (hx : (Fu (fun _ => True)) x) : jF x x = some true := by
 unfold jF
 simp only [bne_self_eq_false, cond_false]
 refine KB (F := O9 x x) hx.1 (fun i y hi => ?_) ?_
 ·unfold O9
  have hg := eX (x := y) (hx.2 _ (List.mem_of_getElem? hi))
  simp only [Bi (Bs hi), cond_true, AK, hi, Option.bind_some, hg, Bool.not_true, cond_false]
 ·unfold O9
  simp only [Bd, cond_false, Option.map_some]
theorem eY {x : AH} (hx : GH x) : jV x x = some true := by
 unfold jV
 simp only [bne_self_eq_false, beq_self_eq_true, Bool.not_true, cond_false, U4 (x := x.Ab) hx, Option.bind_some]
theorem eK {x : List AH} (hx : (Fu GH) x) : jG x x = some true := by
 unfold jG
 simp only [bne_self_eq_false, cond_false]
 refine KB (F := OA x x) hx.1 (fun i y hi => ?_) ?_
 ·unfold OA
  have hg := eY (x := y) (hx.2 _ (List.mem_of_getElem? hi))
  simp only [Bi (Bs hi), cond_true, AK, hi, Option.bind_some, hg, Bool.not_true, cond_false]
 ·unfold OA
  simp only [Bd, cond_false, Option.map_some]
theorem dW {x : AE} (hx : Eo x) : iP x x = some true := by
 unfold iP
 simp only [bne_self_eq_false, beq_self_eq_true, Bool.not_true, cond_false, U4 (x := x.C9) hx.1, eJ (x := x.A8) hx.2.1, eK (x := x.A5) hx.2.2, Option.bind_some]
theorem dZ {x : BE} (hx : Js x) : dY x x = some true := by
 unfold dY
 simp only [bne_self_eq_false, beq_self_eq_true, Bool.not_true, cond_false, KD (x := x.A5) hx.1, KD (x := x.A0) hx.2.1, KD (x := x.A8) hx.2.2, Option.bind_some]
def BZ {ρ : Type} (n : Nat) (b : Nat → Option ρ) (e : Option ρ) : Option ρ := match (List.range n).findSome? b with | some r => some r | none => e
theorem Fz {ρ : Type} {n : Nat} {b : Nat → Option ρ} {e : Option ρ} (h : ∀ i, i < n → b i = none) : BZ n b e = e := by
 unfold BZ
 rw [List.findSome?_eq_none_iff.2 (fun x hx => h x (List.mem_range.1 hx))]
theorem G0 {ρ : Type} {n : Nat} {b : Nat → Option ρ} {e : Option ρ} {i : Nat} {r : ρ} (hi : i < n) (h : ∀ j, j < i → b j = none) (hr : b i = some r) : BZ n b e = some r := by
 unfold BZ
 have e1 : n = i + ((n - i - 1) + 1) := by omega
 have h0 : (List.range i).findSome? b = none := List.findSome?_eq_none_iff.2 fun x hx => h x (List.mem_range.1 hx)
 rw [e1, List.range_add, List.findSome?_append, h0, List.range_succ_eq_map]
 simp [hr]
theorem JB {ρ : Type} (n : Nat) (b : Nat → Option ρ) : (∀ i, i < n → b i = none) ∨ ∃ i r, i < n ∧ (∀ j, j < i → b j = none) ∧ b i = some r := by
 induction n with
 | zero => exact .inl (fun i hi => by omega)
 | succ n ih =>
  rcases ih with h | ⟨i, r, h1, h2, h3⟩
  ·cases hb : b n with
   | none =>
    refine .inl (fun i hi => ?_)
    rcases Nat.lt_or_ge i n with hl | hl
    ·exact h i hl
    ·have : i = n := by omega
     subst this; exact hb
   | some r => exact .inr ⟨n, r, by omega, h, hb⟩
  ·exact .inr ⟨i, r, by omega, h2, h3⟩
theorem B6 {σ ρ : Type} {F : σ → Option (σ ⊕ ρ)} (n : Nat) (st : Nat → σ) (b : Nat → Option ρ) (e : Option ρ) (h : ∀ i, i < n → (∀ j, j < i → b j = none) → F (st i) = some ((b i).elim (.inl (st (i + 1))) .inr)) (hend : (∀ j, j < n → b j = none) → F (st n) = e.map .inr) : AJ F (st 0) = BZ n b e := by
 have key : ∀ k i, i + k = n → (∀ j, j < i → b j = none) → AJ F (st i) = BZ n b e := by
  intro k
  induction k with
  | zero =>
   intro i hi hb
   have : i = n := by omega
   subst this
   rw [Bn, hend hb, Fz hb]
   cases e <;> rfl
  | succ k ih =>
   intro i hi hb
   rw [Bn, h i (by omega) hb]
   cases hr : b i with
   | some r => rw [G0 (by omega) hb hr]; rfl
   | none =>
    simp only [Option.bind_some, Option.elim]
    refine ih (i + 1) (by omega) (fun j hj => ?_)
    rcases Nat.lt_or_ge j i with hl | hl
    ·exact hb j hl
    ·have : j = i := by omega
     subst this; exact hr
 exact key n 0 (by omega) (fun j hj => by omega)
section
variable {κ ν : Type} [DecidableEq κ]
theorem PD {k : κ} : ∀ {m : List (κ × ν)} {i : Nat}, DK k m i = none → ∀ j, DK k m j = none
 | [], _, _, _ => rfl
 | e :: m, i, h, j => by
  unfold DK at h ⊢
  split at h
  ·cases h
  ·rename_i hk; rw [if_neg hk]; exact PD h (j + 1)
theorem Fk (k : κ) (e : κ × ν) (m : List (κ × ν)) (z : ν) : JM k (e :: m) z = if k = e.1 then e.2 else JM k m z := by
 by_cases hk : k = e.1
 ·rw [if_pos hk]
  unfold JM DK
  rw [if_pos hk]
 ·rw [if_neg hk]
  unfold JM
  have h0 : DK k (e :: m) 0 = DK k m (0 + 1) := by rw [DK, if_neg hk]
  rw [h0]
  have key : ∀ (m : List (κ × ν)) i j, (DK k m i).map (·.2) = (DK k m j).map (·.2) := by
   intro m
   induction m with
   | nil => intro i j; rfl
   | cons e m ih =>
    intro i j
    unfold DK
    split
    ·rfl
    ·exact ih _ _
  have := key m (0 + 1) 0
  cases h1 : DK k m (0 + 1) <;> cases h2 : DK k m 0 <;> rw [h1, h2] at this <;> simp_all
theorem Mn (k k' : κ) (v : ν) (z : ν) : ∀ (m : List (κ × ν)), DK k' m 0 = none → JM k (m ++ [(k', v)]) z = if k = k' then v else JM k m z
 | [], _ => by rw [List.nil_append, Fk]
 | e :: m, h => by
  have h' : k' ≠ e.1 ∧ DK k' m 0 = none := by
   unfold DK at h
   split at h
   ·cases h
   ·rename_i hk; exact ⟨hk, PD h 0⟩
  rw [List.cons_append, Fk, Mn k k' v z m h'.2, Fk]
  by_cases h1 : k = e.1
  ·rw [if_pos h1, if_pos h1, if_neg (fun (h2 : k = k') => h'.1 (h2 ▸ h1))]
  ·rw [if_neg h1, if_neg h1]
theorem PE (k k' : κ) (v : ν) (z : ν) : ∀ (m : List (κ × ν)) (n i : Nat) (x : ν), DK k' m n = some (n + i, x) → JM k (m.set i (k', v)) z = if k = k' then v else JM k m z
 | [], _, _, _, h => by cases h
 | e :: m, n, i, x, h => by
  unfold DK at h
  split at h
  ·rename_i hk
   simp only [Option.some.injEq, Prod.mk.injEq] at h
   have : i = 0 := by omega
   subst this
   rw [List.set_cons_zero, Fk, Fk, hk]
   by_cases h1 : k = e.1
   ·rw [if_pos h1, if_pos h1]
   ·rw [if_neg h1, if_neg h1, if_neg h1]
  ·rename_i hk
   have hi := (QR h).1
   simp only [] at hi
   obtain ⟨i', rfl⟩ : ∃ i', i = i' + 1 := ⟨i - 1, by omega⟩
   rw [List.set_cons_succ, Fk, PE k k' v z m (n + 1) i' x (by rw [h]; congr 2; omega), Fk]
   by_cases h1 : k = e.1
   ·rw [if_pos h1, if_pos h1, if_neg (fun (h2 : k = k') => hk (h2 ▸ h1))]
   ·rw [if_neg h1, if_neg h1]
theorem WY (k k' : κ) (v z : ν) (m : List (κ × ν)) : JM k (Py k' v m) z = if k = k' then v else JM k m z := by
 unfold Py
 cases h : DK k' m 0 with
 | none => exact Mn k k' v z m h
 | some x =>
  obtain ⟨i, y⟩ := x
  exact PE k k' v z m 0 i y (by rw [h, Nat.zero_add])
end
theorem Dp {ρ : Type} (n : Nat) (p : Nat → Bool) (r : ρ) (e : Option ρ) : BZ n (fun i => bif p i then some r else none) e = bif (List.range n).any p then some r else e := by
 rcases JB n (fun i => bif p i then some r else none) with h | ⟨i, r', hi, hj, hr⟩
 ·rw [Fz h]
  have : (List.range n).any p = false := by
   rw [List.any_eq_false]
   intro x hx
   have := h x (List.mem_range.1 hx)
   cases hp : p x <;> simp_all
  rw [this]; rfl
 ·rw [G0 hi hj hr]
  have hp : p i = true := by cases hp : p i <;> simp_all
  have : (List.range n).any p = true := List.any_eq_true.2 ⟨i, List.mem_range.2 hi, hp⟩
  rw [this]
  simp_all
theorem U9 (n : Nat) (p : Nat → Bool) (e : Bool) : BZ n (fun i => bif p i then none else some false) (some e) = some ((List.range n).all p && e) := by
 have : (fun i => bif p i then (none : Option Bool) else some false) = fun i => bif !p i then some false else none := by funext i; cases p i <;> rfl
 rw [this, Dp]
 have : ((List.range n).any fun i => !p i) = !((List.range n).all p) := by rw [List.not_all_eq_any_not]
 rw [this]
 cases (List.range n).all p <;> rfl
theorem Ez {ρ : Type} (n : Nat) (b : Nat → Option ρ) {e : Option ρ} (h : ∃ r, e = some r) : ∃ r, BZ n b e = some r := by
 unfold BZ
 split
 ·exact ⟨_, rfl⟩
 ·exact h
theorem IH {ρ : Type} {n : Nat} {b b' : Nat → Option ρ} {e e' : Option ρ} (h : ∀ i, i < n → b i = b' i) (he : (∀ i, i < n → b i = none) → e = e') : BZ n b e = BZ n b' e' := by
 rcases JB n b with h1 | ⟨i, r, hi, hj, hr⟩
 ·rw [Fz h1, Fz (fun i hi => by rw [← h i hi]; exact h1 i hi)]; exact he h1
 ·rw [G0 hi hj hr, G0 hi (fun j hl => by rw [← h j (by omega)]; exact hj j hl) (by rw [← h i hi]; exact hr)]
theorem Fg {α : Type} (b : Bool) (x y : α) : (bif b then some x else some y) = some (bif b then x else y) := by cases b <;> rfl
theorem De {α : Type} (xs : List α) (g : α → Bool) : ∀ i, ((List.range i).any fun j => (xs[j]?).any g) = (xs.take i).any g
 | 0 => by simp
 | i + 1 => by
  rw [List.range_succ, List.any_append, De xs g i, List.take_add_one, List.any_append, List.any_cons, List.any_nil, Bool.or_false]
  cases xs[i]? <;> simp [Option.any]
theorem UA {α β : Type} (g : β → α → β) (a : β) {xs : List α} {i : Nat} {x : α} (h : xs[i]? = some x) : (xs.take (i + 1)).foldl g a = g ((xs.take i).foldl g a) x := by
 rw [List.take_add_one, List.foldl_append, h]; rfl
theorem Dq {ρ : Type} {n : Nat} {b : Nat → Option ρ} {e : Option ρ} {r : ρ} (h : BZ n b e = some r) : (∃ i, i < n ∧ b i = some r) ∨ ((∀ i, i < n → b i = none) ∧ e = some r) := by
 rcases JB n b with h1 | ⟨i, r', hi, hj, hr⟩
 ·rw [Fz h1] at h; exact .inr ⟨h1, h⟩
 ·rw [G0 hi hj hr] at h; exact .inl ⟨i, hi, hr.trans h⟩
theorem FK {α : Type} {b : Bool} {x y : α} (h : (bif b then some x else none) = some y) : b = true ∧ x = y := by
 cases b
 ·cases h
 ·exact ⟨rfl, by simpa using h⟩
theorem FJ {α : Type} {b : Bool} {x : α} (h : (bif b then some x else none) = none) : b = false := by
 cases b
 ·rfl
 ·cases h
theorem GX {α : Type} (xs : List α) (p : α → Bool) (e : Option Int) (he : e = some (-1)) : (BZ xs.length (fun i => bif (xs[i]?).any p then some (i : Int) else none) e).bind (fun v => some (decide (v ≥ (0:Int)))) = some (xs.any p) := by
 subst he
 obtain ⟨r, hr⟩ := Ez xs.length (fun i => bif (xs[i]?).any p then some (i : Int) else none) (e := some (-1)) ⟨_, rfl⟩
 rw [hr, Option.bind_some]
 have ht := De xs p xs.length
 rw [List.take_length] at ht
 rw [← ht]
 rcases Dq hr with ⟨i, hi, h⟩ | ⟨h, h2⟩
 ·obtain ⟨h3, rfl⟩ := FK h
  congr 1
  rw [Bool.eq_iff_iff, decide_eq_true_eq, List.any_eq_true]
  exact ⟨fun _ => ⟨i, List.mem_range.2 hi, h3⟩, fun _ => by omega⟩
 ·have : r = -1 := by simpa using h2.symm
  subst this
  congr 1
  rw [Bool.eq_iff_iff, decide_eq_true_eq, List.any_eq_true]
  constructor
  ·intro h; omega
  ·rintro ⟨i, hi, h3⟩
   have := FJ (h i (List.mem_range.1 hi))
   rw [h3] at this; cases this
theorem Y4 {xs : List Int} (hl : xs.length ≤ 1048576) (v : Int) : eV xs v = BZ xs.length (fun i => bif (xs[i]?).any (fun y => decide (v = y)) then some (i : Int) else none) (some (-1)) := by
 unfold eV
 refine B6 xs.length (fun i => (i : Int)) _ _ (fun i hi _ => ?_) (fun _ => ?_)
 ·unfold RR
  simp only [Bi hi, cond_true, AK, List.getElem?_eq_getElem hi, Option.bind_some, Option.any_some, AS (show i < 9223372036854775807 by omega)]
  by_cases hc : v = xs[i]
  ·rw [decide_eq_true hc, beq_iff_eq.2 hc]; rfl
  ·rw [decide_eq_false hc, beq_eq_false_iff_ne.2 hc]; rfl
 ·unfold RR
  simp only [Bd, cond_false]
theorem Hi {xs : List Int} (hl : xs.length ≤ 1048576) (v : Int) : aM xs v = some (xs.any fun y => decide (v = y)) := by
 unfold aM
 rw [Y4 hl]
 exact GX xs _ _ rfl
theorem Gs {F : Int → Option (Int ⊕ Bool)} (n : Nat) (p : Nat → Bool) (e : Bool) (hn : n < 9223372036854775807) (h : ∀ i, i < n → (∀ j, j < i → p j = true) → F (i : Int) = some (bif p i then .inl ((i + 1 : Nat) : Int) else .inr false)) (hend : (∀ j, j < n → p j = true) → F (n : Int) = some (.inr e)) : AJ F (0 : Int) = some ((List.range n).all p && e) := by
 have : AJ F (((0 : Nat)) : Int) = BZ n (fun i => bif p i then none else some false) (some e) := by
  refine B6 n (fun i => (i : Int)) _ _ (fun i hi hj => ?_) (fun hj => ?_)
  ·rw [h i hi (fun j hl => by have := hj j hl; cases hp : p j <;> simp_all)]
   cases p i <;> rfl
  ·rw [hend (fun j hl => by have := hj j hl; cases hp : p j <;> simp_all)]; rfl
 rw [show (0 : Int) = (((0 : Nat)) : Int) from rfl, this, U9]
theorem QW {α : Type} (xs : List α) (p : Nat → Bool) (q : α → Bool) (h : ∀ (i : Nat) (x : α), xs[i]? = some x → p i = q x) : (List.range xs.length).all p = xs.all q := by
 rw [Bool.eq_iff_iff, List.all_eq_true, List.all_eq_true]
 constructor
 ·intro hp x hx
  obtain ⟨i, hi, rfl⟩ := List.getElem_of_mem hx
  rw [← h i _ (List.getElem?_eq_getElem hi)]
  exact hp i (List.mem_range.2 hi)
 ·intro hq i hi
  have hi := List.mem_range.1 hi
  rw [h i _ (List.getElem?_eq_getElem hi)]
  exact hq _ (List.getElem_mem hi)
theorem JF (x a b : Int) : U1 x a b = some (decide (x ≥ a) && decide (x ≤ b)) := rfl
theorem ER (x a b : Int) : U3 x a b = some (decide (x ≥ a) && decide (x ≤ b)) := rfl
def HV {α : Type} (k : α → Int) (ok : α → Bool) : List Int → List α → Bool
 | _, [] => true
 | seen, x :: r => ok x && !(seen.any fun y => decide (y = k x)) && HV k ok (seen ++ [k x]) r
theorem JO {α : Type} (k : α → Int) (ok : α → Bool) : ∀ (r : List α) (seen : List Int), HV k ok seen r = true ↔ (∀ x ∈ r, ok x = true) ∧ (r.map k).Nodup ∧ ∀ x ∈ r, k x ∉ seen
 | [], seen => by simp [HV]
 | x :: r, seen => by
  unfold HV
  rw [Bool.and_eq_true, Bool.and_eq_true, JO k ok r, Bool.not_eq_true', List.any_eq_false]
  simp only [decide_eq_true_eq, List.mem_cons, List.map_cons, List.nodup_cons, List.mem_append, List.mem_singleton, List.not_mem_nil, or_false, List.mem_map, forall_eq_or_imp, not_or, not_exists, not_and]
  constructor
  ·rintro ⟨⟨h1, h2⟩, h3, h4, h5⟩
   exact ⟨⟨h1, h3⟩, ⟨fun y hy e => (h5 y hy).2 e, h4⟩, fun hm => h2 _ hm rfl, fun y hy => (h5 y hy).1⟩
  ·rintro ⟨⟨h1, h3⟩, ⟨h6, h4⟩, h2, h5⟩
   exact ⟨⟨h1, fun y hy e => h2 (e ▸ hy)⟩, h3, h4, fun y hy => ⟨h5 y hy, fun e => h6 y hy e⟩⟩
theorem KS {α : Type} (k : α → Int) (ok : α → Bool) (xs : List α) : (List.range xs.length).all (fun i => (xs[i]?).all fun x => ok x && !((xs.take i).any fun y => decide (k y = k x))) = HV k ok [] xs := by
 have key : ∀ (r : List α) (i : Nat), xs.drop i = r → HV k ok ((xs.take i).map k) r = (List.range' i r.length).all (fun i => (xs[i]?).all fun x => ok x && !((xs.take i).any fun y => decide (k y = k x))) := by
  intro r
  induction r with
  | nil => intro i _; rfl
  | cons x r ih =>
   intro i hr
   have hlt : i < xs.length := by
    rcases Nat.lt_or_ge i xs.length with hl | hl
    ·exact hl
    ·rw [List.drop_eq_nil_of_le hl] at hr; cases hr
   rw [List.drop_eq_getElem_cons hlt] at hr
   simp only [List.cons.injEq] at hr
   have hx : xs[i]? = some x := by rw [List.getElem?_eq_getElem hlt, hr.1]
   rw [List.length_cons, List.range'_succ, List.all_cons, ← ih (i + 1) hr.2, hx]
   simp only [HV, Option.all_some]
   rw [List.take_add_one, hx, List.map_append, List.any_map]
   rfl
 have := key xs 0 rfl
 rw [List.take_zero, List.map_nil] at this
 rw [this, List.range_eq_range']
theorem IS (a b : List Int) (ha : a.length ≤ 1048576) (hb : b.length ≤ 1048576) : Xr a b = some (a.any fun x => b.any fun y => decide (x = y)) := by
 unfold Xr
 refine YH a (fun x => b.any fun y => decide (x = y)) (fun i x hx => ?_) ?_
 ·have hi := Bs hx
  unfold RS
  simp only [Bi hi, cond_true, AK, hx, Option.bind_some]
  have h2 : ∀ (r : List Int) (k : Nat), b.drop k = r → k ≤ b.length → AJ (OU b (i : Int) x) (k : Int) = some (bif r.any (fun y => decide (x = y)) then .inr true else .inl ((i + 1 : Nat) : Int)) := by
   intro r
   induction r with
   | nil =>
    intro k hr hk
    have hk' : k = b.length := by have := List.drop_eq_nil_iff.1 hr; omega
    subst hk'
    rw [Bn]
    unfold OU
    simp only [Bd, cond_false, AS (show i < 9223372036854775807 by omega)]
    rfl
   | cons y r ih =>
    intro k hr hk
    have hlt : k < b.length := by
     rcases Nat.lt_or_ge k b.length with hl | hl
     ·exact hl
     ·rw [List.drop_eq_nil_of_le hl] at hr; cases hr
    rw [List.drop_eq_getElem_cons hlt] at hr
    simp only [List.cons.injEq] at hr
    have hg : b[k]? = some y := by rw [List.getElem?_eq_getElem hlt, hr.1]
    rw [Bn]
    unfold OU
    simp only [Bi hlt, cond_true, AK, hg, Option.bind_some, AS (show k < 9223372036854775807 by omega), List.any_cons]
    by_cases hc : x = y
    ·rw [decide_eq_true hc, beq_iff_eq.2 hc]; rfl
    ·rw [decide_eq_false hc, beq_eq_false_iff_ne.2 hc]
     simp only [cond_false, Option.bind_some, Bool.false_or]
     exact ih (k + 1) hr.2 hlt
  exact h2 b 0 rfl (Nat.zero_le _)
 ·unfold RS
  simp only [Bd, cond_false, Option.map_some]
theorem Jd (a b : List Int) (ha : a.length ≤ 1048576) (hb : b.length ≤ 1048576) : cN a b = some (a.any fun x => b.any fun y => decide (x = y)) := by
 unfold cN Kp
 have h1 : J6 a b = BZ a.length (fun i => bif (a[i]?).any (fun x => b.any fun y => decide (x = y)) then some (i : Int) else none) (some (-1)) := by
  unfold J6
  refine B6 a.length (fun i => (i : Int)) _ _ (fun i hi _ => ?_) (fun _ => ?_)
  ·unfold HD ZS
   simp only [Bi hi, cond_true, AK, List.getElem?_eq_getElem hi, Option.bind_some, Hi hb, Option.any_some, AS (show i < 9223372036854775807 by omega)]
   cases (b.any fun y => decide (a[i] = y)) <;> rfl
  ·unfold HD
   simp only [Bd, cond_false]
 rw [h1]
 have := GX a (fun x => b.any fun y => decide (x = y)) (some (-1)) rfl
 rw [this]; rfl
def Rg (n : Int) (x : Int) : Bool := decide (x ≥ (0:Int)) && decide (x ≤ BV (n - 1))
def lB (l : List Int) (n : Int) : Bool := HV (fun x => x) (Rg n) [] l && decide ((l.length : Int) ≤ (30:Int))
theorem TS {α : Type} (xs : List α) (i : Nat) (hi : i ≤ xs.length) (p : α → Bool) {F : Int → Option (Int ⊕ (Int ⊕ Bool))} {i' : Int} (hn : xs.length < 9223372036854775807) (h : ∀ (k : Nat) (y : α), k < i → xs[k]? = some y → F (k : Int) = some (bif p y then .inr (.inr false) else .inl ((k + 1 : Nat) : Int))) (hend : F (i : Int) = some (.inr (.inl i'))) : AJ F (0 : Int) = some (bif (xs.take i).any p then .inr false else .inl i') := by
 have h1 : AJ F (((0 : Nat)) : Int) = BZ i (fun k => bif (xs[k]?).any p then some (.inr false) else none) (some (.inl i')) := by
  refine B6 i (fun k => (k : Int)) _ _ (fun k hk _ => ?_) (fun _ => hend)
  have hg := List.getElem?_eq_getElem (show k < xs.length by omega)
  rw [h k _ hk hg, hg, Option.any_some]
  cases p xs[k] <;> rfl
 rw [show (0 : Int) = (((0 : Nat)) : Int) from rfl, h1, Dp, De]
 cases (xs.take i).any p <;> rfl
theorem ME (l : List Int) (n : Int) (hl : l.length ≤ 1048576) : Ty l n = some (lB l n) := by
 unfold Ty lB
 rw [← KS]
 refine Gs l.length _ _ (by omega) (fun i hi _ => ?_) (fun _ => ?_)
 ·have hg := List.getElem?_eq_getElem hi
  unfold NC
  simp only [Bi hi, cond_true, AK, hg, Option.bind_some, JF, Option.all_some]
  rw [show (decide (l[i] ≥ (0:Int)) && decide (l[i] ≤ BV (n - 1))) = Rg n l[i] from rfl]
  cases Rg n l[i] with
  | false => rfl
  | true =>
   simp only [Bool.not_true, cond_false, Bool.true_and]
   rw [TS l i (Nat.le_of_lt hi) (fun y => decide (y = l[i])) (i' := ((i + 1 : Nat) : Int)) (by omega) (fun k y hk hy => ?_) ?_]
   ·cases ((l.take i).any fun y => decide (y = l[i])) <;> rfl
   rotate_left
   ·unfold ND
    simp only [Bi hk, cond_true, AK, hy, Option.bind_some, AS (show k < 9223372036854775807 by omega)]
    by_cases hc : y = l[i]
    ·rw [decide_eq_true hc, beq_iff_eq.2 hc]; rfl
    ·rw [decide_eq_false hc, beq_eq_false_iff_ne.2 hc]; rfl
   ·unfold ND
    simp only [Bd, cond_false, AS (show i < 9223372036854775807 by omega)]
    rfl
 ·unfold NC
  simp only [Bd, cond_false, Option.map_some]
theorem Qe {α : Type} {xs : List α} {i : Nat} (hi : i ≤ xs.length) : SA xs (0:Int) (i : Int) = some (xs.take i) := by
 unfold SA
 rw [if_pos ⟨by omega, by omega, by omega⟩]
 simp
theorem MD (l : List Int) (n : Int) (hl : l.length ≤ 1048576) : Tz l n = some (lB l n) := by
 unfold Tz lB
 rw [← KS]
 refine Gs l.length _ _ (by omega) (fun i hi _ => ?_) (fun _ => ?_)
 ·have hg := List.getElem?_eq_getElem hi
  unfold NH
  simp only [Bi hi, cond_true, AK, hg, Option.bind_some, ER, Option.all_some, Qe (Nat.le_of_lt hi), Hi (xs := l.take i) (by rw [List.length_take]; omega), AS (show i < 9223372036854775807 by omega)]
  rw [show (decide (l[i] ≥ (0:Int)) && decide (l[i] ≤ BV (n - 1))) = Rg n l[i] from rfl]
  rw [show (fun y => decide (l[i] = y)) = (fun y => decide (y = l[i])) from funext fun y => by congr 1; exact propext eq_comm]
  cases Rg n l[i] with
  | false => rfl
  | true => cases ((l.take i).any fun y => decide (y = l[i])) <;> rfl
 ·unfold NH
  simp only [Bd, cond_false, Option.map_some]
def tB (p : AQ) (t : Aa) : Bool := Rg (p.A7.length : Int) t.Switch && (decide (t.EZ ≥ (1:Int)) && decide (t.EZ ≤ (2:Int)))
def ZL (p : AQ) (l : List Aa) : Bool := HV Aa.Switch (tB p) [] l && decide ((l.length : Int) ≤ (30:Int))
theorem QP (p : AQ) (l : List Aa) (hl : l.length ≤ 1048576) : WK p l = some (ZL p l) := by
 unfold WK ZL
 rw [← KS]
 refine Gs l.length _ _ (by omega) (fun i hi _ => ?_) (fun _ => ?_)
 ·have hg := List.getElem?_eq_getElem hi
  unfold NF
  simp only [Bi hi, cond_true, AK, hg, Option.bind_some, JF, Option.all_some, Fg]
  unfold tB
  rw [show (decide (l[i].Switch ≥ (0:Int)) && decide (l[i].Switch ≤ BV ((p.A7.length : Int) - 1))) = Rg (p.A7.length : Int) l[i].Switch from rfl]
  cases Rg (p.A7.length : Int) l[i].Switch with
  | false => rfl
  | true =>
   cases (decide (l[i].EZ ≥ (1:Int)) && decide (l[i].EZ ≤ (2:Int))) with
   | false => rfl
   | true =>
    simp only [Bool.not_true, cond_false, Bool.true_and]
    rw [TS l i (Nat.le_of_lt hi) (fun y => decide (y.Switch = l[i].Switch)) (i' := ((i + 1 : Nat) : Int)) (by omega) (fun k y hk hy => ?_) ?_]
    ·cases ((l.take i).any fun y => decide (y.Switch = l[i].Switch)) <;> rfl
    rotate_left
    ·unfold NG
     simp only [Bi hk, cond_true, AK, hy, Option.bind_some, AS (show k < 9223372036854775807 by omega)]
     by_cases hc : y.Switch = l[i].Switch
     ·rw [decide_eq_true hc, beq_iff_eq.2 hc]; rfl
     ·rw [decide_eq_false hc, beq_eq_false_iff_ne.2 hc]; rfl
    ·unfold NG
     simp only [Bd, cond_false, AS (show i < 9223372036854775807 by omega)]
     rfl
 ·unfold NF
  simp only [Bd, cond_false, Option.map_some]
theorem Pe {p : AQ} {t : Aa} (hp : p.A7.length ≤ 1048576) (h : tB p t = true) : ∃ (k : Nat) (c : Int), t.Switch = (k : Int) ∧ p.A7[k]? = some c ∧ AL p.A7 t.Switch = some c := by
 unfold tB Rg at h
 rw [LB (y := t.Switch) (n := (p.A7.length : Int)) (by omega)] at h
 simp only [Bool.and_eq_true, decide_eq_true_eq] at h
 obtain ⟨k, hk⟩ : ∃ k : Nat, t.Switch = (k : Int) := ⟨t.Switch.toNat, by omega⟩
 have hlt : k < p.A7.length := by omega
 exact ⟨k, _, hk, List.getElem?_eq_getElem hlt, by rw [hk, AK, List.getElem?_eq_getElem hlt]⟩
def fY (p : AQ) (t : Aa) : Int := (AL p.A7 t.Switch).getD 0
def L8 (p : AQ) (w : Bu) (t : Aa) : Bool := w.A0.any fun y => decide (fY p t = y)
def HT (w : Bu) (t : Aa) : Bool := w.AB.any fun y => decide (t.Switch = y.Switch)
def K7 (w : Bu) : Bool := !(w.BY.any fun x => w.A0.any fun y => decide (x = y))
def VU (p : AQ) (w : Bu) : Bool := !((w.A0.length : Int) == (0:Int)) && (lB w.A0 p.A0 && (lB w.BY p.A0 && lB w.DF p.A0))
def Jb (p : AQ) (w : Bu) : Bool := VU p w && ((ZL p w.AO && ZL p w.AB) && ((w.AO.all fun t => !HT w t && L8 p w t) && K7 w))
abbrev nF (w : Bu) : Prop := w.A0.length ≤ 1048576 ∧ w.AO.length ≤ 1048576 ∧ w.AB.length ≤ 1048576 ∧ w.BY.length ≤ 1048576 ∧ w.DF.length ≤ 1048576
theorem bZ {p : AQ} {l : List Aa} (h : ZL p l = true) : ∀ t ∈ l, tB p t = true := by
 unfold ZL at h
 rw [Bool.and_eq_true, JO] at h
 exact h.1.1
theorem Z5 {p : AQ} {w : Bu} (hp : p.A7.length ≤ 1048576) (hw : nF w) : XW p w = some (Jb p w) := by
 obtain ⟨h1, h2, h3, h4, h5⟩ := hw
 unfold XW Jb VU
 simp only [ME _ _ h1, ME _ _ h4, ME _ _ h5, QP _ _ h2, QP _ _ h3, Option.bind_some, Fg]
 cases hL : ZL p w.AO with
 | false => cases ((w.A0.length : Int) == (0:Int)) <;> cases lB w.A0 p.A0 <;> cases lB w.BY p.A0 <;> cases lB w.DF p.A0 <;> rfl
 | true =>
  have hloop : AJ (Ks p w) (0 : Int) = some ((w.AO.all fun t => !HT w t && L8 p w t) && K7 w) := by
   rw [← QW w.AO (fun i => (w.AO[i]?).all fun t => !HT w t && L8 p w t) _ (fun i x hx => by rw [hx]; rfl)]
   refine Gs w.AO.length _ _ (by omega) (fun i hi _ => ?_) (fun _ => ?_)
   ·have hg := List.getElem?_eq_getElem hi
    obtain ⟨k, c, e1, e2, e3⟩ := Pe hp (bZ hL _ (List.getElem_mem hi))
    unfold Ks
    simp only [Bi hi, cond_true, AK, hg, Option.bind_some, Option.all_some]
    have hin : L8 p w w.AO[i] = w.A0.any fun y => decide (c = y) := by unfold L8 fY; rw [e3]; rfl
    have hL2 : AJ (Ji p w (i : Int) w.AO[i]) (((0 : Nat)) : Int) = BZ w.AB.length (fun k => bif (w.AB[k]?).any (fun y => decide (w.AO[i].Switch = y.Switch)) then some (.inr false) else none) (some (bif L8 p w w.AO[i] then .inl ((i + 1 : Nat) : Int) else .inr false)) := by
     refine B6 w.AB.length (fun k => (k : Int)) _ _ (fun k hk _ => ?_) (fun _ => ?_)
     ·have hgk := List.getElem?_eq_getElem hk
      unfold Ji
      simp only [Bi hk, cond_true, AK, hgk, Option.bind_some, Option.any_some, AS (show k < 9223372036854775807 by omega)]
      by_cases hc : w.AO[i].Switch = w.AB[k].Switch
      ·rw [decide_eq_true hc, beq_iff_eq.2 hc]; rfl
      ·rw [decide_eq_false hc, beq_eq_false_iff_ne.2 hc]; rfl
     ·unfold Ji
      simp only [Bd, cond_false, e3, Option.bind_some, IS [c] w.A0 (by simp) h1, AS (show i < 9223372036854775807 by omega)]
      rw [hin]
      simp only [List.any_cons, List.any_nil, Bool.or_false]
      cases (w.A0.any fun y => decide (c = y)) <;> rfl
    have hL2 : AJ (Ji p w (i : Int) w.AO[i]) (0 : Int) = _ := hL2
    have hcr : HT w w.AO[i] = (List.range w.AB.length).any fun k => (w.AB[k]?).any fun y => decide (w.AO[i].Switch = y.Switch) := by
     rw [De, List.take_length]; rfl
    rw [hL2, Dp, hcr]
    cases ((List.range w.AB.length).any fun k => (w.AB[k]?).any fun y => decide (w.AO[i].Switch = y.Switch)) <;> cases L8 p w w.AO[i] <;> rfl
   ·unfold Ks
    simp only [Bd, cond_false, IS _ _ h4 h1, Option.bind_some, Option.map_some]
    rfl
  rw [hloop]
  cases ((w.A0.length : Int) == (0:Int)) <;> cases lB w.A0 p.A0 <;> cases lB w.BY p.A0 <;> cases lB w.DF p.A0 <;> cases ZL p w.AB <;> rfl
theorem X5 (a b : List Int) : (a.any fun x => b.any fun y => decide (x = y)) = b.any fun x => a.any fun y => decide (x = y) := by
 rw [Bool.eq_iff_iff]
 simp only [List.any_eq_true, decide_eq_true_eq]
 constructor
 ·rintro ⟨x, hx, y, hy, rfl⟩; exact ⟨x, hy, x, hx, rfl⟩
 ·rintro ⟨x, hx, y, hy, rfl⟩; exact ⟨x, hy, x, hx, rfl⟩
theorem YO {p : AQ} {w : Bu} : (HV Aa.Switch (tB p) [] (w.AO ++ w.AB) && (w.AO.all fun t => L8 p w t)) = ((HV Aa.Switch (tB p) [] w.AO && HV Aa.Switch (tB p) [] w.AB) && (w.AO.all fun t => !HT w t && L8 p w t)) := by
 rw [Bool.eq_iff_iff]
 simp only [Bool.and_eq_true, JO, List.all_eq_true, List.mem_append, List.map_append, List.nodup_append, Bool.not_eq_true']
 constructor
 ·rintro ⟨⟨h1, ⟨h2, h3, h4⟩, _⟩, h5⟩
  refine ⟨⟨⟨fun x hx => h1 x (.inl hx), h2, fun _ _ h => by cases h⟩, fun x hx => h1 x (.inr hx), h3, fun _ _ h => by cases h⟩, fun x hx => ⟨?_, h5 x hx⟩⟩
  unfold HT
  rw [List.any_eq_false]
  intro y hy
  simp only [decide_eq_true_eq]
  exact h4 _ (List.mem_map_of_mem hx) _ (List.mem_map_of_mem hy)
 ·rintro ⟨⟨⟨h1, h2, _⟩, h3, h4, _⟩, h5⟩
  refine ⟨⟨fun x hx => hx.elim (h1 x) (h3 x), ⟨h2, h4, ?_⟩, fun _ _ h => by cases h⟩, fun x hx => (h5 x hx).2⟩
  intro a ha b hb e
  obtain ⟨x, hx, rfl⟩ := List.mem_map.1 ha
  obtain ⟨y, hy, rfl⟩ := List.mem_map.1 hb
  have := (h5 x hx).1
  unfold HT at this
  rw [List.any_eq_false] at this
  exact absurd e (by simpa using this y hy)
theorem Z4 {p : AQ} {w : Bu} (hp : p.A7.length ≤ 1048576) (hw : nF w) : Xa p w = some (Jb p w) := by
 obtain ⟨h1, h2, h3, h4, h5⟩ := hw
 unfold Xa Jb VU
 simp only [MD _ _ h1, MD _ _ h4, MD _ _ h5, Option.bind_some, Fg]
 have hz0 : D5 16 ([] : List Aa) w.AO = some w.AO := by rw [DA (by simp; omega)]; rfl
 have hz : D5 16 w.AO w.AB = some (w.AO ++ w.AB) := DA (by omega)
 rw [hz0, Option.bind_some, hz, Option.bind_some]
 have hlen : (w.AO ++ w.AB).length ≤ 2097152 := by simp; omega
 have hloop : AJ (IB p w (w.AO ++ w.AB)) (([] : List (Int × Bool)), w.AO ++ w.AB, (0:Int)) = some (HV Aa.Switch (tB p) [] (w.AO ++ w.AB) && ((w.AO.all fun t => L8 p w t) && K7 w)) := by
  have key : ∀ (r : List Aa) (i : Nat) (m : List (Int × Bool)), (w.AO ++ w.AB).drop i = r → i ≤ (w.AO ++ w.AB).length → (∀ t ∈ (w.AO ++ w.AB).take i, tB p t = true) → (∀ k, JM k m false = ((w.AO ++ w.AB).take i).any fun t => decide (t.Switch = k)) →
    AJ (IB p w (w.AO ++ w.AB)) (m, w.AO ++ w.AB, (i : Int)) = some (HV Aa.Switch (tB p) (((w.AO ++ w.AB).take i).map (·.Switch)) r && ((w.AO.all fun t => L8 p w t) && K7 w)) := by
   intro r
   induction r with
   | nil =>
    intro i m hr hi hok hm
    have hi' : i = (w.AO ++ w.AB).length := by have := List.drop_eq_nil_iff.1 hr; omega
    subst hi'
    rw [List.take_length] at hok
    rw [Bn]
    unfold IB
    simp only [Bd, cond_false, HV, Bool.true_and]
    have hL2 : AJ (Kt p w) (0 : Int) = some ((w.AO.all fun t => L8 p w t) && K7 w) := by
     rw [← QW w.AO (fun i => (w.AO[i]?).all fun t => L8 p w t) _ (fun i x hx => by rw [hx]; rfl)]
     refine Gs w.AO.length _ _ (by omega) (fun i hi _ => ?_) (fun _ => ?_)
     ·have hg := List.getElem?_eq_getElem hi
      obtain ⟨k, c, e1, e2, e3⟩ := Pe hp (hok _ (List.mem_append_left _ (List.getElem_mem hi)))
      have hin : L8 p w w.AO[i] = w.A0.any fun y => decide (c = y) := by unfold L8 fY; rw [e3]; rfl
      unfold Kt
      simp only [Bi hi, cond_true, AK, hg, Option.bind_some, Option.all_some, e3, Hi h1, AS (show i < 9223372036854775807 by omega)]
      rw [hin]
      cases (w.A0.any fun y => decide (c = y)) <;> rfl
     ·unfold Kt
      simp only [Bd, cond_false, Jd _ _ h1 h4, Option.bind_some, Option.map_some]
      unfold K7
      rw [X5 w.BY]
    rw [hL2]
    rfl
   | cons t r ih =>
    intro i m hr hi hok hm
    have hlt : i < (w.AO ++ w.AB).length := by
     rcases Nat.lt_or_ge i (w.AO ++ w.AB).length with hl | hl
     ·exact hl
     ·rw [List.drop_eq_nil_of_le hl] at hr; cases hr
    rw [List.drop_eq_getElem_cons hlt] at hr
    simp only [List.cons.injEq] at hr
    have hg : (w.AO ++ w.AB)[i]? = some t := by rw [List.getElem?_eq_getElem hlt, hr.1]
    rw [Bn]
    generalize hF : AJ (IB p w (w.AO ++ w.AB)) = LP at ih ⊢
    unfold IB
    simp only [Bi hlt, cond_true, AK, hg, Option.bind_some, ER, Fg, hm, AS (show i < 9223372036854775807 by omega)]
    have hndup : HV Aa.Switch (tB p) (((w.AO ++ w.AB).take i).map (·.Switch)) (t :: r) = ((tB p t && !(((w.AO ++ w.AB).take i).any fun y => decide (y.Switch = t.Switch))) && HV Aa.Switch (tB p) (((w.AO ++ w.AB).take (i + 1)).map (·.Switch)) r) := by
     rw [HV, List.any_map, List.take_add_one, hg, List.map_append]
     rfl
    rw [hndup]
    unfold tB at hok ⊢
    rw [show (decide (t.Switch ≥ (0:Int)) && decide (t.Switch ≤ BV ((p.A7.length : Int) - 1))) = Rg (p.A7.length : Int) t.Switch from rfl]
    cases hc1 : Rg (p.A7.length : Int) t.Switch with
    | false => rfl
    | true =>
     cases hc2 : (decide (t.EZ ≥ (1:Int)) && decide (t.EZ ≤ (2:Int))) with
     | false => rfl
     | true =>
      cases hc3 : (((w.AO ++ w.AB).take i).any fun y => decide (y.Switch = t.Switch)) with
      | true => rfl
      | false =>
       simp only [Bool.not_true, cond_false, Bool.or_false, Option.bind_some, Bool.true_and, Bool.and_self, Bool.not_false]
       have hih := ih (i + 1) (Py t.Switch true m) hr.2 hlt (fun x hx => ?_) (fun k => ?_)
       ·exact hih
       ·rw [List.take_add_one, hg] at hx
        rcases List.mem_append.1 hx with hx | hx
        ·exact hok x hx
        ·simp only [Option.toList_some, List.mem_singleton] at hx
         subst hx
         unfold tB
         rw [hc1, hc2]; rfl
       ·rw [WY, hm, List.take_add_one, hg, List.any_append]
        simp only [Option.toList_some, List.any_cons, List.any_nil, Bool.or_false]
        by_cases hk : k = t.Switch
        ·rw [if_pos hk]; simp [hk]
        ·rw [if_neg hk, decide_eq_false (fun e => hk e.symm), Bool.or_false]
  have := key (w.AO ++ w.AB) 0 [] rfl (Nat.zero_le _) (fun t ht => by simp at ht) (fun k => rfl)
  simpa using this
 rw [hloop]
 have h30 : ∀ l : List Aa, decide ((l.length : Int) > (30:Int)) = !decide ((l.length : Int) ≤ (30:Int)) := fun l => by
  by_cases hc : (l.length : Int) ≤ 30
  ·rw [decide_eq_true hc, decide_eq_false (by omega)]; rfl
  ·rw [decide_eq_false hc, decide_eq_true (by omega)]; rfl
 rw [h30, h30, ← Bool.and_assoc (HV _ _ _ _), YO]
 unfold ZL
 generalize ((w.A0.length : Int) == (0:Int)) = b0
 generalize lB w.A0 p.A0 = b1
 generalize lB w.BY p.A0 = b2
 generalize lB w.DF p.A0 = b3
 generalize decide ((w.AO.length : Int) ≤ (30:Int)) = b4
 generalize decide ((w.AB.length : Int) ≤ (30:Int)) = b5
 generalize HV Aa.Switch (tB p) [] w.AO = b6
 generalize HV Aa.Switch (tB p) [] w.AB = b7
 generalize (w.AO.all fun t => !HT w t && L8 p w t) = b8
 generalize K7 w = b9
 cases b0 <;> cases b1 <;> cases b2 <;> cases b3 <;> cases b4 <;> cases b5 <;> cases b6 <;> cases b7 <;> cases b8 <;> cases b9 <;> rfl
def YJ (a b : List Int) : Bool := a.any fun x => b.any fun y => decide (x = y)
def Ge (p : AQ) (i k : Nat) : Bool := ((p.BX[i]?).bind fun r => r[k]?).getD false
def Q3 (p : AQ) (i : Nat) : List Int := ((p.A5[i]?).map (·.A0)).getD []
def Pk (p : AQ) (i k : Nat) : Bool := !(Ge p i k == Ge p k i) || (!(decide (i = k)) && (!Ge p i k && YJ (Q3 p i) (Q3 p k)))
def HN (p : AQ) : Option Be := BZ p.A5.length (fun i => bif (List.range p.A5.length).any (Pk p i) then some ⟨5, (i : Int)⟩ else none) (some ⟨0, 0⟩)
def LN (p : AQ) (e : Option Be) : Option Be := BZ p.BX.length (fun i => bif (p.BX[i]?).any (fun r => ((r.length : Int) != (p.A5.length : Int))) then some ⟨4, (i : Int)⟩ else none) e
def QV (p : AQ) (e : Option Be) : Option Be := BZ p.A5.length (fun i => bif (p.A5[i]?).any (fun w => !Jb p w) then some ⟨3, (i : Int)⟩ else none) (bif ((p.BX.length : Int) != (p.A5.length : Int)) then some ⟨4, 0⟩ else LN p e)
def Hu (p : AQ) (e : Option Be) : Option Be := BZ p.A7.length (fun i => bif (p.A7[i]?).any (fun x => !Rg p.A0 x) then some ⟨2, (i : Int)⟩ else none) (QV p e)
def L7 (p : AQ) : Bool := ((decide (p.A0 ≥ (1:Int)) && decide (p.A0 ≤ (60:Int))) && (decide (p.ED ≥ (1:Int)) && decide (p.ED ≤ (300:Int)))) && (!decide ((p.A7.length : Int) > (40:Int)) && !decide ((p.A5.length : Int) > (100:Int)))
def Gu (p : AQ) : Option Be := bif !L7 p then some ⟨1, 0⟩ else Hu p (HN p)
theorem TB (p : AQ) : ∃ r, Gu p = some r := by
 have h4 : ∃ r, HN p = some r := Ez _ _ ⟨_, rfl⟩
 have h3 : ∃ r, LN p (HN p) = some r := Ez _ _ h4
 have h2 : ∃ r, QV p (HN p) = some r := by
  refine Ez _ _ ?_
  cases ((p.BX.length : Int) != (p.A5.length : Int))
  ·exact h3
  ·exact ⟨_, rfl⟩
 have h1 : ∃ r, Hu p (HN p) = some r := Ez _ _ h2
 unfold Gu
 cases L7 p
 ·exact ⟨_, rfl⟩
 ·exact h1
theorem MV {w : Bu} (h : I1 w) : nF w := ⟨h.1.1, h.2.1.1, h.2.2.1.1, h.2.2.2.1.1, h.2.2.2.2.1⟩
theorem TA {p : AQ} (hb : ((p.BX.length : Int) != (p.A5.length : Int)) = false) {e e' : Option Be} (h : (∀ (i : Nat), i < p.A5.length → ∃ r, p.BX[i]? = some r ∧ r.length = p.A5.length) → e = e') : LN p e = LN p e' := by
 unfold LN
 refine IH (fun _ _ => rfl) fun hn => h fun i hi => ?_
 rw [bne_eq_false_iff_eq] at hb
 have hlt : i < p.BX.length := by omega
 have h1 := hn i hlt
 rw [List.getElem?_eq_getElem hlt, Option.any_some] at h1
 have h2 := FJ h1
 rw [bne_eq_false_iff_eq] at h2
 exact ⟨_, List.getElem?_eq_getElem hlt, by omega⟩
theorem PS {p : AQ} {e e' : Option Be} (h : ((p.BX.length : Int) != (p.A5.length : Int)) = false → (∀ (i : Nat), i < p.A5.length → ∃ r, p.BX[i]? = some r ∧ r.length = p.A5.length) → e = e') : Hu p e = Hu p e' := by
 unfold Hu
 refine IH (fun _ _ => rfl) fun _ => ?_
 unfold QV
 refine IH (fun _ _ => rfl) fun _ => ?_
 cases hb : ((p.BX.length : Int) != (p.A5.length : Int)) with
 | true => rfl
 | false => exact TA hb (h hb)
theorem Ht {ρ : Type} {n : Nat} (p : Nat → Bool) (r0 : ρ) {F : Int → Option (Int ⊕ (Int ⊕ ρ))} {i' : Int} (h : ∀ k, k < n → F (k : Int) = some (bif p k then .inr (.inr r0) else .inl ((k + 1 : Nat) : Int))) (hend : F (n : Int) = some (.inr (.inl i'))) : AJ F (0 : Int) = some (bif (List.range n).any p then .inr r0 else .inl i') := by
 have h1 : AJ F (((0 : Nat)) : Int) = BZ n (fun k => bif p k then some (.inr r0) else none) (some (.inl i')) := by
  refine B6 n (fun k => (k : Int)) _ _ (fun k hk _ => ?_) (fun _ => hend)
  rw [h k hk]
  cases p k <;> rfl
 rw [show (0 : Int) = (((0 : Nat)) : Int) from rfl, h1, Dp]
 cases (List.range n).any p <;> rfl
theorem PJ (i k : Nat) : ((i : Int) != (k : Int)) = !(decide (i = k)) := by
 by_cases h : i = k
 ·rw [decide_eq_true h, h]; simp
 ·rw [decide_eq_false h, bne_iff_ne.2 (by omega)]; rfl
theorem W0 {p : AQ} (hs : Fo p) (hr : ∀ (i : Nat), i < p.A5.length → ∃ r, p.BX[i]? = some r ∧ r.length = p.A5.length) (hb : p.BX.length = p.A5.length) : AJ (HB p) (0 : Int) = HN p := by
 have hw := hs.2.1.1
 unfold HN
 rw [show (0 : Int) = (((0 : Nat)) : Int) from rfl]
 have := B6 (F := HB p) p.A5.length (fun i => (i : Int)) (fun i => bif (List.range p.A5.length).any (Pk p i) then some (⟨5, (i : Int)⟩ : Be) else none) (some ⟨0, 0⟩) (fun i hi _ => ?_) (fun _ => ?_)
 ·exact this
 ·obtain ⟨row, hrow, hlen⟩ := hr i hi
  have hwi := List.getElem?_eq_getElem hi
  unfold HB
  simp only [hb, Bi hi, cond_true, AK, hrow, Option.bind_some]
  rw [Ht (n := p.A5.length) (Pk p i) (⟨5, (i : Int)⟩ : Be) (i' := ((i + 1 : Nat) : Int)) (fun k hk => ?_) ?_]
  ·cases (List.range p.A5.length).any (Pk p i) <;> rfl
  rotate_left
  ·obtain ⟨row2, hrow2, hlen2⟩ := hr k hk
   have hwk := List.getElem?_eq_getElem hk
   have h1 := List.getElem?_eq_getElem (show k < row.length by omega)
   have h2 := List.getElem?_eq_getElem (show i < row2.length by omega)
   have e1 : Ge p i k = row[k]'(by omega) := by unfold Ge; rw [hrow, Option.bind_some, h1]; rfl
   have e2 : Ge p k i = row2[i]'(by omega) := by unfold Ge; rw [hrow2, Option.bind_some, h2]; rfl
   have e3 : Q3 p i = p.A5[i].A0 := by unfold Q3; rw [hwi]; rfl
   have e4 : Q3 p k = p.A5[k].A0 := by unfold Q3; rw [hwk]; rfl
   have l1 := (MV (hs.2.1.2 _ (List.getElem_mem hi))).1
   have l2 := (MV (hs.2.1.2 _ (List.getElem_mem hk))).1
   unfold N6 Pk
   simp only [hlen, Bi hk, cond_true, AK, h1, hrow2, h2, Option.bind_some, hwi, hwk, IS _ _ l1 l2, AS (show k < 9223372036854775807 by omega), PJ]
   rw [e1, e2, e3, e4]
   unfold YJ
   cases (row[k]'(by omega) == row2[i]'(by omega)) with
   | false => rfl
   | true =>
    cases decide (i = k) with
    | true => rfl
    | false =>
     cases row[k]'(by omega) with
     | true => rfl
     | false => cases (p.A5[i].A0.any fun x => p.A5[k].A0.any fun y => decide (x = y)) <;> rfl
  ·unfold N6
   simp only [hlen, Bd, cond_false, AS (show i < 9223372036854775807 by omega)]
   rfl
 ·unfold HB
  simp only [hb, Bd, cond_false]
theorem Vz {p : AQ} (hs : Fo p) (hr : ∀ (i : Nat), i < p.A5.length → ∃ r, p.BX[i]? = some r ∧ r.length = p.A5.length) : AJ (HC p) (0 : Int) = HN p := by
 have hw := hs.2.1.1
 unfold HN
 rw [show (0 : Int) = (((0 : Nat)) : Int) from rfl]
 have := B6 (F := HC p) p.A5.length (fun i => (i : Int)) (fun i => bif (List.range p.A5.length).any (Pk p i) then some (⟨5, (i : Int)⟩ : Be) else none) (some ⟨0, 0⟩) (fun i hi _ => ?_) (fun _ => ?_)
 ·exact this
 ·obtain ⟨row, hrow, hlen⟩ := hr i hi
  have hwi := List.getElem?_eq_getElem hi
  unfold HC
  simp only [Bi hi, cond_true]
  rw [Ht (n := p.A5.length) (Pk p i) (⟨5, (i : Int)⟩ : Be) (i' := ((i + 1 : Nat) : Int)) (fun k hk => ?_) ?_]
  ·cases (List.range p.A5.length).any (Pk p i) <;> rfl
  rotate_left
  ·obtain ⟨row2, hrow2, hlen2⟩ := hr k hk
   have hwk := List.getElem?_eq_getElem hk
   have h1 := List.getElem?_eq_getElem (show k < row.length by omega)
   have h2 := List.getElem?_eq_getElem (show i < row2.length by omega)
   have e1 : Ge p i k = row[k]'(by omega) := by unfold Ge; rw [hrow, Option.bind_some, h1]; rfl
   have e2 : Ge p k i = row2[i]'(by omega) := by unfold Ge; rw [hrow2, Option.bind_some, h2]; rfl
   have e3 : Q3 p i = p.A5[i].A0 := by unfold Q3; rw [hwi]; rfl
   have e4 : Q3 p k = p.A5[k].A0 := by unfold Q3; rw [hwk]; rfl
   have l1 := (MV (hs.2.1.2 _ (List.getElem_mem hi))).1
   have l2 := (MV (hs.2.1.2 _ (List.getElem_mem hk))).1
   unfold N7 Pk
   simp only [Bi hk, cond_true, AK, hrow, h1, hrow2, h2, Option.bind_some, hwi, hwk, Jd _ _ l1 l2, AS (show k < 9223372036854775807 by omega), PJ]
   rw [e1, e2, e3, e4]
   unfold YJ
   cases (row[k]'(by omega) == row2[i]'(by omega)) with
   | false => rfl
   | true =>
    cases decide (i = k) with
    | true => rfl
    | false =>
     cases row[k]'(by omega) with
     | true => rfl
     | false => cases (p.A5[i].A0.any fun x => p.A5[k].A0.any fun y => decide (x = y)) <;> rfl
  ·unfold N7
   simp only [Bd, cond_false, AS (show i < 9223372036854775807 by omega)]
   rfl
 ·unfold HC
  simp only [Bd, cond_false]
theorem Wi {p : AQ} (hs : Fo p) : SV p = some (((SV p)).getD ⟨0, 0⟩) ∧ SV p = Gu p := by
 have hq : SV p = Gu p := by
  have hw := hs.2.1.1
  have hsw := hs.1.1
  have hbl := hs.2.2.1
  unfold SV Gu L7
  simp only [JF, Option.bind_some, Fg]
  have hl : AJ (I7 p) (0 : Int) = Hu p (HN p) := by
   have h1 : AJ (I7 p) (((0 : Nat)) : Int) = Hu p (AJ (HB p) (0 : Int)) := by
    unfold Hu
    refine B6 p.A7.length (fun i => (i : Int)) _ _ (fun i hi _ => ?_) (fun _ => ?_)
    ·have hg := List.getElem?_eq_getElem hi
     unfold I7
     simp only [Bi hi, cond_true, AK, hg, Option.bind_some, JF, Option.any_some, AS (show i < 9223372036854775807 by omega)]
     rw [show (decide (p.A7[i] ≥ (0:Int)) && decide (p.A7[i] ≤ BV (p.A0 - 1))) = Rg p.A0 p.A7[i] from rfl]
     cases Rg p.A0 p.A7[i] <;> rfl
    ·unfold I7
     simp only [Bd, cond_false]
     congr 1
     unfold QV
     have h2 : AJ (Je p) (((0 : Nat)) : Int) = BZ p.A5.length (fun i => bif (p.A5[i]?).any (fun w => !Jb p w) then some ⟨3, (i : Int)⟩ else none) (bif ((p.BX.length : Int) != (p.A5.length : Int)) then some ⟨4, 0⟩ else AJ (Jf p) (0 : Int)) := by
      refine B6 p.A5.length (fun i => (i : Int)) _ _ (fun i hi _ => ?_) (fun _ => ?_)
      ·have hg := List.getElem?_eq_getElem hi
       unfold Je
       simp only [Bi hi, cond_true, AK, hg, Option.bind_some, Z5 hsw (MV (hs.2.1.2 _ (List.getElem_mem hi))), Option.any_some, AS (show i < 9223372036854775807 by omega)]
       cases Jb p p.A5[i] <;> rfl
      ·unfold Je
       simp only [Bd, cond_false]
     have h2 : AJ (Je p) (0 : Int) = _ := h2
     rw [h2]
     congr 2
     unfold LN
     have h3 : AJ (Jf p) (((0 : Nat)) : Int) = BZ p.BX.length (fun i => bif (p.BX[i]?).any (fun r => ((r.length : Int) != (p.A5.length : Int))) then some ⟨4, (i : Int)⟩ else none) (AJ (HB p) (0 : Int)) := by
      refine B6 p.BX.length (fun i => (i : Int)) _ _ (fun i hi _ => ?_) (fun _ => ?_)
      ·have hg := List.getElem?_eq_getElem hi
       unfold Jf
       simp only [Bi hi, cond_true, AK, hg, Option.bind_some, Option.any_some, AS (show i < 9223372036854775807 by omega)]
       cases ((p.BX[i].length : Int) != (p.A5.length : Int)) <;> rfl
      ·unfold Jf
       simp only [Bd, cond_false]
     exact h3
   have h1 : AJ (I7 p) (0 : Int) = _ := h1
   rw [h1]
   refine PS fun hb hr => W0 hs hr ?_
   rw [bne_eq_false_iff_eq] at hb
   omega
  rw [hl]
  cases (decide (p.A0 ≥ (1:Int)) && decide (p.A0 ≤ (60:Int))) <;> cases (decide (p.ED ≥ (1:Int)) && decide (p.ED ≤ (300:Int))) <;> cases decide ((p.A7.length : Int) > (40:Int)) <;> cases decide ((p.A5.length : Int) > (100:Int)) <;> rfl
 obtain ⟨r, hr⟩ := TB p
 exact ⟨by rw [hq, hr]; rfl, hq⟩
theorem Wh {p : AQ} (hs : Fo p) : XM p = Gu p := by
 have hw := hs.2.1.1
 have hsw := hs.1.1
 have hbl := hs.2.2.1
 unfold XM Gu L7
 simp only [ER, Option.bind_some, Fg]
 have hl : AJ (I8 p) (0 : Int) = Hu p (HN p) := by
  have h1 : AJ (I8 p) (((0 : Nat)) : Int) = Hu p (AJ (HC p) (0 : Int)) := by
   unfold Hu
   refine B6 p.A7.length (fun i => (i : Int)) _ _ (fun i hi _ => ?_) (fun _ => ?_)
   ·have hg := List.getElem?_eq_getElem hi
    unfold I8
    simp only [Bi hi, cond_true, AK, hg, Option.bind_some, ER, Option.any_some, AS (show i < 9223372036854775807 by omega)]
    rw [show (decide (p.A7[i] ≥ (0:Int)) && decide (p.A7[i] ≤ BV (p.A0 - 1))) = Rg p.A0 p.A7[i] from rfl]
    cases Rg p.A0 p.A7[i] <;> rfl
   ·unfold I8
    simp only [Bd, cond_false]
    congr 1
    unfold QV
    have h2 : AJ (Jg p) (((0 : Nat)) : Int) = BZ p.A5.length (fun i => bif (p.A5[i]?).any (fun w => !Jb p w) then some ⟨3, (i : Int)⟩ else none) (bif ((p.BX.length : Int) != (p.A5.length : Int)) then some ⟨4, 0⟩ else AJ (Jh p) (0 : Int)) := by
     refine B6 p.A5.length (fun i => (i : Int)) _ _ (fun i hi _ => ?_) (fun _ => ?_)
     ·have hg := List.getElem?_eq_getElem hi
      unfold Jg
      simp only [Bi hi, cond_true, AK, hg, Option.bind_some, Z4 hsw (MV (hs.2.1.2 _ (List.getElem_mem hi))), Option.any_some, AS (show i < 9223372036854775807 by omega)]
      cases Jb p p.A5[i] <;> rfl
     ·unfold Jg
      simp only [Bd, cond_false]
    have h2 : AJ (Jg p) (0 : Int) = _ := h2
    rw [h2]
    congr 2
    unfold LN
    have h3 : AJ (Jh p) (((0 : Nat)) : Int) = BZ p.BX.length (fun i => bif (p.BX[i]?).any (fun r => ((r.length : Int) != (p.A5.length : Int))) then some ⟨4, (i : Int)⟩ else none) (AJ (HC p) (0 : Int)) := by
     refine B6 p.BX.length (fun i => (i : Int)) _ _ (fun i hi _ => ?_) (fun _ => ?_)
     ·have hg := List.getElem?_eq_getElem hi
      unfold Jh
      simp only [Bi hi, cond_true, AK, hg, Option.bind_some, Option.any_some, AS (show i < 9223372036854775807 by omega)]
      cases ((p.BX[i].length : Int) != (p.A5.length : Int)) <;> rfl
     ·unfold Jh
      simp only [Bd, cond_false]
    exact h3
  have h1 : AJ (I8 p) (0 : Int) = _ := h1
  rw [h1]
  exact PS fun _ hr => Vz hs hr
 rw [hl]
 cases (decide (p.A0 ≥ (1:Int)) && decide (p.A0 ≤ (60:Int))) <;> cases (decide (p.ED ≥ (1:Int)) && decide (p.ED ≤ (300:Int))) <;> cases decide ((p.A7.length : Int) > (40:Int)) <;> cases decide ((p.A5.length : Int) > (100:Int)) <;> rfl
theorem Kw {ρ : Type} {P : ρ → Prop} {n : Nat} {f : Nat → Option ρ} {e : Option ρ} {r : ρ} (h : BZ n f e = some r) (hf : ∀ i r, f i = some r → P r) (he : e = some r → P r) : P r := by
 rcases Dq h with ⟨i, _, h⟩ | ⟨_, h⟩
 ·exact hf i r h
 ·exact he h
def Kd (f : Be) : Prop := (f.Code == 0 && (f.At == 0 && true)) = (f.Code == 0)
theorem Jc {b : Bool} {x r : Be} (hx : Kd x) (h : (bif b then some x else none) = some r) : Kd r := by
 obtain ⟨_, rfl⟩ := FK h
 exact hx
theorem TC {p : AQ} {f : Be} (h : Gu p = some f) : Kd f := by
 unfold Gu at h
 cases hh : L7 p with
 | false => rw [hh] at h; cases h; rfl
 | true =>
  rw [hh] at h
  refine Kw h (fun i r h => Jc (by unfold Kd; rfl) h) fun h => ?_
  refine Kw h (fun i r h => Jc (by unfold Kd; rfl) h) fun h => ?_
  cases hb : ((p.BX.length : Int) != (p.A5.length : Int)) with
  | true => rw [hb] at h; cases h; rfl
  | false =>
   rw [hb] at h
   refine Kw h (fun i r h => Jc (by unfold Kd; rfl) h) fun h => ?_
   refine Kw h (fun i r h => Jc (by unfold Kd; rfl) h) fun h => ?_
   cases h; rfl
theorem Wg {p : AQ} {f : Be} (h : Gu p = some f) (h0 : (f.Code == 0) = true) : L7 p = true := by
 unfold Gu at h
 cases hh : L7 p with
 | true => rfl
 | false => rw [hh] at h; cases h; cases h0
theorem bB {p : AQ} {f : Be} (hs : Fo p) (hf : Gu p = some f) : jM p = some (f.Code == 0) := by unfold jM; rw [(Wi hs).2, hf]; rfl
theorem bA {p : AQ} {f : Be} (hs : Fo p) (hf : Gu p = some f) : jR p = some (f.Code == 0) := by unfold jR; rw [Wh hs, hf, Option.bind_some, (TC hf : _ = _)]
theorem UM {p : AQ} (h : L7 p = true) : 1 ≤ p.A0 ∧ p.A0 ≤ 60 ∧ p.A7.length ≤ 40 ∧ p.A5.length ≤ 100 ∧ 1 ≤ p.ED ∧ p.ED ≤ 300 := by
 unfold L7 at h
 simp only [Bool.and_eq_true, decide_eq_true_eq, Bool.not_eq_true', decide_eq_false_iff_not] at h
 omega
theorem fE {α β σ ρ : Type} {F : σ → Option (σ ⊕ ρ)} (st : List β → Int → σ) (xs : List α) (g : α → β) {r : ρ} (hstep : ∀ (row : List β) (i : Nat) (x : α), xs[i]? = some x → row.length = i → F (st row (i : Int)) = some (.inl (st (row ++ [g x]) ((i + 1 : Nat) : Int)))) (hend : F (st (xs.map g) (xs.length : Int)) = some (.inr r)) : AJ F (st [] (0 : Int)) = some r := by
 have := Fj (F := F) xs.length (fun i => st ((xs.take i).map g) (i : Int)) (r := r) (fun i hi => ?_) (by rw [List.take_length]; exact hend)
 ·simpa using this
 ·have hx : xs[i]? = some xs[i] := List.getElem?_eq_getElem hi
  rw [hstep _ i xs[i] hx (by rw [List.length_map, List.length_take]; omega), show (xs.take i).map g ++ [g xs[i]] = (xs.take (i + 1)).map g by rw [List.take_succ_eq_append_getElem hi, List.map_append]; rfl]
structure Pj (p : AQ) (w : Bu) : Prop where
 ne : 0 < w.A0.length
 WS : w.A0.length ≤ 30 ∧ w.BY.length ≤ 30 ∧ w.DF.length ≤ 30 ∧ w.AO.length ≤ 30 ∧ w.AB.length ≤ 30
 I0 : ∀ x ∈ w.A0, 0 ≤ x ∧ x < p.A0
 fO : ∀ x ∈ w.BY, 0 ≤ x ∧ x < p.A0
 mX : ∀ x ∈ w.DF, 0 ≤ x ∧ x < p.A0
 YF : ∀ t ∈ w.AO, tB p t = true
 Od : ∀ t ∈ w.AB, tB p t = true
 nodup : w.A0.Nodup
 cG : ∀ t ∈ w.AO, HT w t = false ∧ L8 p w t = true
 nX : (w.AO.map Aa.Switch).Nodup
 nV : (w.AB.map Aa.Switch).Nodup
structure Jz (p : AQ) : Prop where
 I0 : 1 ≤ p.A0 ∧ p.A0 ≤ 60
 bM : p.A7.length ≤ 40
 V6 : p.A5.length ≤ 100
 hold : 1 ≤ p.ED ∧ p.ED ≤ 300
 sw : ∀ (i : Nat) (c : Int), p.A7[i]? = some c → Rg p.A0 c = true
 dK : ∀ (i : Nat) (w : Bu), p.A5[i]? = some w → Pj p w
 bl : p.BX.length = p.A5.length
 rows : ∀ (i : Nat), i < p.A5.length → ∃ r, p.BX[i]? = some r ∧ r.length = p.A5.length
 sym : ∀ (i k : Nat), i < p.A5.length → k < p.A5.length → Ge p i k = Ge p k i
theorem P3 {l : List Int} {n : Int} (hn : -9223372036854775807 ≤ n ∧ n ≤ 9223372036854775807) (h : lB l n = true) : l.length ≤ 30 ∧ (∀ x ∈ l, 0 ≤ x ∧ x < n) ∧ l.Nodup := by
 unfold lB at h
 rw [Bool.and_eq_true, JO, decide_eq_true_eq] at h
 obtain ⟨⟨h1, h2, _⟩, h3⟩ := h
 refine ⟨by omega, fun x hx => ?_, by simpa using h2⟩
 have := h1 x hx
 unfold Rg at this
 rw [LB hn, Bool.and_eq_true, decide_eq_true_eq, decide_eq_true_eq] at this
 exact ⟨this.1, this.2⟩
theorem Z3 {p : AQ} {w : Bu} (h60 : 1 ≤ p.A0 ∧ p.A0 ≤ 60) (h : Jb p w = true) : Pj p w := by
 unfold Jb VU at h
 simp only [Bool.and_eq_true, Bool.not_eq_true', beq_eq_false_iff_ne] at h
 obtain ⟨⟨h0, h1, h2, h3⟩, ⟨h4, h5⟩, h6, _⟩ := h
 obtain ⟨a1, a2, a3⟩ := P3 (by omega) h1
 obtain ⟨b1, b2, _⟩ := P3 (by omega) h2
 obtain ⟨c1, c2, _⟩ := P3 (by omega) h3
 unfold ZL at h4 h5
 rw [Bool.and_eq_true, JO, decide_eq_true_eq] at h4 h5
 rw [List.all_eq_true] at h6
 exact { ne := by omega, WS := ⟨a1, b1, c1, by omega, by omega⟩, I0 := a2, fO := b2, mX := c2, YF := h4.1.1, Od := h5.1.1, nodup := a3, cG := fun t ht => by have := h6 t ht; rw [Bool.and_eq_true, Bool.not_eq_true'] at this; exact this, nX := h4.1.2.1, nV := h5.1.2.1 }
theorem Wf {p : AQ} {f : Be} (h : Gu p = some f) (h0 : (f.Code == 0) = true) : Jz p := by
 have hh := Wg h h0
 obtain ⟨a1, a2, a3, a4, a5, a6⟩ := UM hh
 have e0 : f.Code = 0 := by simpa using h0
 have hp : Hu p (HN p) = some f := by
  unfold Gu at h
  rw [hh] at h
  exact h
 unfold Hu at hp
 rcases Dq hp with ⟨i, _, h⟩ | ⟨n1, h1⟩
 ·obtain ⟨_, rfl⟩ := FK h
  exact absurd (show (2 : Int) = 0 from e0) (by decide)
 unfold QV at h1
 rcases Dq h1 with ⟨i, _, h⟩ | ⟨n2, h2⟩
 ·obtain ⟨_, rfl⟩ := FK h
  exact absurd (show (3 : Int) = 0 from e0) (by decide)
 cases hb : ((p.BX.length : Int) != (p.A5.length : Int)) with
 | true =>
  rw [hb] at h2
  cases h2
  exact absurd (show (4 : Int) = 0 from e0) (by decide)
 | false =>
  rw [hb] at h2
  have h2 : LN p (HN p) = some f := h2
  unfold LN at h2
  rcases Dq h2 with ⟨i, _, h⟩ | ⟨n3, h3⟩
  ·obtain ⟨_, rfl⟩ := FK h
   exact absurd (show (4 : Int) = 0 from e0) (by decide)
  unfold HN at h3
  rcases Dq h3 with ⟨i, _, h⟩ | ⟨n4, h4⟩
  ·obtain ⟨_, rfl⟩ := FK h
   exact absurd (show (5 : Int) = 0 from e0) (by decide)
  have hbl : p.BX.length = p.A5.length := by rw [bne_eq_false_iff_eq] at hb; omega
  refine { I0 := ⟨a1, a2⟩, bM := a3, V6 := a4, hold := ⟨a5, a6⟩, sw := fun i c hc => ?_, dK := fun i w hw => ?_, bl := hbl, rows := fun i hi => ?_, sym := fun i k hi hk => ?_ }
  ·have := FJ (n1 i (Bs hc))
   rw [hc, Option.any_some] at this
   simpa using this
  ·have := FJ (n2 i (Bs hw))
   rw [hw, Option.any_some] at this
   exact Z3 ⟨a1, a2⟩ (by simpa using this)
  ·have hlt : i < p.BX.length := by omega
   have := FJ (n3 i hlt)
   rw [List.getElem?_eq_getElem hlt, Option.any_some, bne_eq_false_iff_eq] at this
   exact ⟨_, List.getElem?_eq_getElem hlt, by omega⟩
  ·have := FJ (n4 i hi)
   rw [List.any_eq_false] at this
   have h7 := this k (List.mem_range.2 hk)
   by_cases hq : Ge p i k = Ge p k i
   ·exact hq
   ·refine absurd ?_ h7
    unfold Pk
    rw [beq_eq_false_iff_ne.2 hq]
    rfl
theorem Qu {p : AQ} (G : Jz p) {i k : Nat} (hi : i < p.A5.length) (hk : k < p.A5.length) : ∃ r, p.BX[i]? = some r ∧ r[k]? = some (Ge p i k) := by
 obtain ⟨r, h1, h2⟩ := G.rows i hi
 have h3 := List.getElem?_eq_getElem (show k < r.length by omega)
 exact ⟨r, h1, by unfold Ge; rw [h1, Option.bind_some, h3]; rfl⟩
structure HG (h : AH) (w : Bu) : Prop where
 st : 0 ≤ h.State ∧ h.State ≤ 4
 SI : h.Ab.length = w.A0.length
 gone : 0 ≤ h.Ac ∧ h.Ac < w.A0.length
def WG (p : AQ) (ws : List AH) : Prop := ws.length = p.A5.length ∧ ∀ (i : Nat) (h : AH) (w : Bu), ws[i]? = some h → p.A5[i]? = some w → HG h w
structure dN (p : AQ) (f : AE) : Prop where
 kD : (f.C9.length : Int) = p.A0
 Ph : f.A8.length = p.A7.length
 ways : WG p f.A5
theorem Eu {α ρ : Type} (xs : List α) (q : α → Bool) (r : ρ) (e : Option ρ) : BZ xs.length (fun i => bif (xs[i]?).any q then some r else none) e = bif xs.any q then some r else e := by rw [Dp, De, List.take_length]
theorem Nk {xs : List Bool} (hl : xs.length ≤ 1048576) (v : Bool) : WI xs v = some (xs.any fun y => v == y) := by
 unfold WI
 have h1 : Xg xs v = BZ xs.length (fun i => bif (xs[i]?).any (fun y => v == y) then some (i : Int) else none) (some (-1)) := by
  unfold Xg
  refine B6 xs.length (fun i => (i : Int)) _ _ (fun i hi _ => ?_) (fun _ => ?_)
  ·unfold NI
   simp only [Bi hi, cond_true, AK, List.getElem?_eq_getElem hi, Option.bind_some, Option.any_some, AS (show i < 9223372036854775807 by omega)]
   cases (v == xs[i]) <;> rfl
  ·unfold NI
   simp only [Bd, cond_false]
 rw [h1]
 exact GX xs _ _ rfl
def TR (p : AQ) (h : AH) : Bool := bif (h.State == 3) then (bif h.Shown then (decide (h.Timer ≥ 1) && decide (h.Timer ≤ p.ED)) else false) else (((h.Timer == (0:Int)) && ((h.State != (0:Int)) || !h.Shown)) && ((h.State != (2:Int)) || h.Shown))
theorem Wq (p : AQ) (h : AH) : Kk p h = some (TR p h) := by
 unfold Kk N8 TR
 simp only [ER, Option.bind_some]
 by_cases h3 : h.State = 3
 ·simp only [h3, beq_self_eq_true, cond_true, show ((3 : Int) == 0) = false from rfl, show ((3 : Int) == 2) = false from rfl]
  cases h.Shown <;> cases (decide (h.Timer ≥ 1) && decide (h.Timer ≤ p.ED)) <;> rfl
 ·rw [beq_eq_false_iff_ne.2 h3, show (h.State != 0) = !(h.State == 0) from rfl, show (h.State != 2) = !(h.State == 2) from rfl, show (h.Timer != 0) = !(h.Timer == 0) from rfl]
  cases (h.State == 0) <;> cases (h.State == 2) <;> cases h.Shown <;> cases (h.Timer == 0) <;> rfl
theorem Qi {p : AQ} {h : AH} {g : Nat} (hg : h.Ac = (g : Int)) (hl : g ≤ h.Ab.length) (hm : h.Ab.length ≤ 1048576) : Lv p h = some (bif (h.Ab.take g).any (fun b => !b) then false else TR p h) := by
 unfold Lv
 have h1 : AJ (OM p h) (((0 : Nat)) : Int) = BZ g (fun i => bif (h.Ab[i]?).any (fun b => !b) then some false else none) (some (TR p h)) := by
  refine B6 g (fun i => (i : Int)) _ _ (fun i hi _ => ?_) (fun _ => ?_)
  ·unfold OM
   simp only [hg, Bi hi, cond_true, AK, List.getElem?_eq_getElem (show i < h.Ab.length by omega), Option.bind_some, Option.any_some, AS (show i < 9223372036854775807 by omega)]
   cases h.Ab[i] <;> rfl
  ·unfold OM TR
   simp only [hg, Bd, cond_false, JF, Option.bind_some]
   cases (h.State == 3) <;> cases h.Shown <;> rfl
 rw [show (0 : Int) = (((0 : Nat)) : Int) from rfl, h1, Dp, De]
 cases (h.Ab.take g).any (fun b => !b) <;> rfl
theorem M9 {p : AQ} {f : AE} {i : Nat} {h : AH} {w : Bu} (hf : f.A5[i]? = some h) (hw : p.A5[i]? = some w) (h1 : h.Ab.length ≤ 1048576) (h2 : w.A0.length ≤ 1048576) : ∃ r, gW p f (i : Int) = some r ∧ XO p h w = some r ∧ (r = true → HG h w) := by
 unfold gW XO
 simp only [AK, hf, hw, Option.bind_some, JF, ER]
 cases hA : (decide (h.State ≥ 0) && decide (h.State ≤ 4)) with
 | false => exact ⟨false, rfl, rfl, fun h => by cases h⟩
 | true =>
  cases hB : ((h.Ab.length : Int) != (w.A0.length : Int)) with
  | true => exact ⟨false, rfl, rfl, fun h => by cases h⟩
  | false =>
   simp only [Bool.not_true, Bool.or_false, cond_false, Option.bind_some]
   rw [LB (by omega)]
   cases hC : (decide (h.Ac ≥ 0) && decide (h.Ac < (w.A0.length : Int))) with
   | false => exact ⟨false, rfl, rfl, fun h => by cases h⟩
   | true =>
    simp only [Bool.and_eq_true, decide_eq_true_eq] at hA hC
    rw [bne_eq_false_iff_eq] at hB
    have hG : HG h w := ⟨⟨hA.1, hA.2⟩, by omega, ⟨hC.1, hC.2⟩⟩
    obtain ⟨g, hg⟩ : ∃ g : Nat, h.Ac = (g : Int) := ⟨h.Ac.toNat, by omega⟩
    have hgl : g ≤ h.Ab.length := by omega
    simp only [Bool.not_true, cond_false]
    rw [Wq, Qi hg hgl h1]
    cases h4 : (h.State != 4) with
    | true =>
     have h3 : AJ (ON p h) (((0 : Nat)) : Int) = BZ h.Ab.length (fun i => bif (h.Ab[i]?).any (fun b => true == b) then some false else none) (bif (h.Ac != (0:Int)) then some false else Lv p h) := by
      refine B6 h.Ab.length (fun i => (i : Int)) _ _ (fun i hi _ => ?_) (fun _ => ?_)
      ·unfold ON
       simp only [Bi hi, cond_true, AK, List.getElem?_eq_getElem hi, Option.bind_some, Option.any_some, AS (show i < 9223372036854775807 by omega)]
       cases h.Ab[i] <;> rfl
      ·unfold ON
       simp only [Bd, cond_false]
     rw [Eu, Qi hg hgl h1] at h3
     rw [show (0 : Int) = (((0 : Nat)) : Int) from rfl, Nk h1]
     simp only [cond_true, h3, Option.bind_some]
     by_cases hz : h.Ac = 0
     ·have g0 : g = 0 := by omega
      subst g0
      have z1 : ((0 : Int) != (0 : Int)) = false := rfl
      have z2 : ((0 : Int) != ((0 : Nat) : Int)) = false := rfl
      rw [hz]
      simp only [z1, z2, List.take_zero, List.any_nil, cond_false]
      cases (h.Ab.any fun y => true == y) with
      | true => exact ⟨false, rfl, rfl, fun h => by cases h⟩
      | false => exact ⟨_, rfl, rfl, fun _ => hG⟩
     ·have z1 : (h.Ac != (0 : Int)) = true := bne_iff_ne.2 hz
      have z2 : (h.Ac != ((0 : Nat) : Int)) = true := bne_iff_ne.2 hz
      simp only [z1, z2]
      cases (h.Ab.any fun y => true == y) <;> exact ⟨false, rfl, rfl, fun h => by cases h⟩
    | false =>
     rw [show h.Ac = (g : Int) from hg, Qe hgl]
     simp only [cond_false, Option.bind_some]
     rw [Nk (by rw [List.length_take]; omega)]
     rw [show (fun y : Bool => false == y) = (fun y => !y) from funext fun y => by cases y <;> rfl]
     simp only [Option.bind_some]
     cases ((h.Ab.take g).any fun y => !y) with
     | true => exact ⟨false, rfl, rfl, fun h => by cases h⟩
     | false => exact ⟨_, rfl, rfl, fun _ => hG⟩
theorem G6 {σ σ' ρ ρ' : Type} {F : σ → Option (σ ⊕ ρ)} {F' : σ' → Option (σ' ⊕ ρ')} (n : Nat) (Inv : Nat → σ → σ' → Prop) (R : ρ → ρ' → Prop) {s0 : σ} {s0' : σ'} (h0 : Inv 0 s0 s0')
  (h : ∀ i s s', i < n → Inv i s s' → (∃ t t', F s = some (.inl t) ∧ F' s' = some (.inl t') ∧ Inv (i + 1) t t') ∨ (∃ r r', F s = some (.inr r) ∧ F' s' = some (.inr r') ∧ R r r'))
  (hend : ∀ s s', Inv n s s' → ∃ r r', F s = some (.inr r) ∧ F' s' = some (.inr r') ∧ R r r') : ∃ r r', AJ F s0 = some r ∧ AJ F' s0' = some r' ∧ R r r' := by
 have key : ∀ k i s s', i + k = n → Inv i s s' → ∃ r r', AJ F s = some r ∧ AJ F' s' = some r' ∧ R r r' := by
  intro k
  induction k with
  | zero =>
   intro i s s' hi hs
   have : i = n := by omega
   subst this
   obtain ⟨r, r', e1, e2, e3⟩ := hend s s' hs
   exact ⟨r, r', by rw [Bn, e1]; rfl, by rw [Bn, e2]; rfl, e3⟩
  | succ k ih =>
   intro i s s' hi hs
   rcases h i s s' (by omega) hs with ⟨t, t', e1, e2, e3⟩ | ⟨r, r', e1, e2, e3⟩
   ·obtain ⟨r, r', f1, f2, f3⟩ := ih (i + 1) t t' (by omega) e3
    exact ⟨r, r', by rw [Bn, e1]; exact f1, by rw [Bn, e2]; exact f2, f3⟩
   ·exact ⟨r, r', by rw [Bn, e1]; rfl, by rw [Bn, e2]; rfl, e3⟩
 exact key n 0 s0 s0' (by omega) h0
theorem Ra {α : Type} {ws : List α} {i : Nat} (h : i < ws.length) (x : α) : (ws.set i x)[i]? = some x := by rw [List.getElem?_set, if_pos rfl, if_pos h]
theorem Uv {α : Type} {ws : List α} {i : Nat} {x : α} (h : ws[i]? = some x) : ws.set i x = ws := by
 have hl := Bs h
 have : ws[i] = x := by rw [List.getElem?_eq_getElem hl] at h; exact Option.some.inj h
 rw [← this, List.set_getElem_self]
theorem Mb {p : AQ} {ws : List AH} {i : Nat} {w : Bu} {x : AH} (H : WG p ws) (hw : p.A5[i]? = some w) (hx : HG x w) : WG p (ws.set i x) := by
 refine ⟨by rw [List.length_set]; exact H.1, fun k a b ha hb => ?_⟩
 rw [List.getElem?_set] at ha
 by_cases hk : i = k
 ·subst hk
  rw [if_pos rfl] at ha
  split at ha
  ·cases ha
   rw [hw] at hb
   cases hb
   exact hx
  ·cases ha
 ·rw [if_neg hk] at ha
  exact H.2 k a b ha hb
theorem W8 {f : AE} (hs : Eo f) : eM f = some f := by
 have h1 := hs.1.1
 have h2 := hs.2.1.1
 have h3 := hs.2.2.1
 unfold eM
 rw [DA (by simp only [List.length_nil]; omega), Option.bind_some, DA (by simp only [List.length_nil]; omega), Option.bind_some]
 simp only [List.nil_append]
 refine fE (F := OI f) (fun ws i => (f.C9, f.A8, ws, i)) f.A5 id (r := f) (fun ws i x hx hi => ?_) ?_
 ·have hlt := Bs hx
  have hb : x.Ab.length ≤ 1048576 := (hs.2.2.2 x (List.mem_of_getElem? hx)).1
  unfold OI
  simp only [Bi hlt, cond_true, AK, hx, Option.bind_some]
  rw [DA (by simp only [List.length_nil]; omega), Option.bind_some, DA (by simp only [List.length_singleton]; omega), Option.bind_some, AS (by omega)]
  rfl
 ·unfold OI
  simp only [Bd, cond_false, List.map_id]
  rfl
theorem W7 {f : AE} (hs : Eo f) : fA f = some f := by
 have h1 := hs.1.1
 have h2 := hs.2.1.1
 have h3 := hs.2.2.1
 unfold fA
 rw [DA (by simp only [List.length_nil]; omega), Option.bind_some, DA (by simp only [List.length_nil]; omega), Option.bind_some, DA (by simp only [List.length_nil]; omega), Option.bind_some]
 simp only [List.nil_append]
 refine Fj (F := OZ f f.C9 f.A8) f.A5.length (fun i => (i : Int)) (fun i hi => ?_) ?_
 ·have hb : f.A5[i].Ab.length ≤ 1048576 := (hs.2.2.2 _ (List.getElem_mem hi)).1
  unfold OZ
  simp only [Bi hi, cond_true, AK, List.getElem?_eq_getElem hi, Option.bind_some]
  rw [DA (by simp only [List.length_nil]; omega), Option.bind_some, AS (by omega)]
 ·unfold OZ
  simp only [Bd, cond_false]
  rfl
def ZK (f : AE) (t : Aa) : Bool := match AL f.A8 t.Switch with | some x => (x.Want == t.EZ) && (x.AO == t.EZ) | none => false
def Ec (f : AE) (s : Int) : Bool := (AL f.C9 s).getD false
def LO (f : AE) (w : Bu) : Bool := bif (w.AO ++ w.AB).any (fun t => !ZK f t) then false else !(w.A0.any (Ec f)) && !(w.BY.any (Ec f))
theorem IU {p : AQ} {f : AE} (ho : (f.C9.length : Int) = p.A0) {s : Int} (h : 0 ≤ s ∧ s < p.A0) : AL f.C9 s = some (Ec f s) := by
 obtain ⟨k, rfl⟩ : ∃ k : Nat, s = (k : Int) := ⟨s.toNat, by omega⟩
 unfold Ec
 rw [RZ (show k < f.C9.length by omega)]
 rfl
theorem Yb {p : AQ} {f : AE} (ho : f.A8.length = p.A7.length) (hp : p.A7.length ≤ 1048576) {t : Aa} (h : tB p t = true) : ∃ x, AL f.A8 t.Switch = some x ∧ ZK f t = ((x.Want == t.EZ) && (x.AO == t.EZ)) := by
 obtain ⟨k, c, e1, e2, e3⟩ := Pe hp h
 have := RZ (show k < f.A8.length by have := Bs e2; omega)
 exact ⟨_, by rw [e1]; exact this, by unfold ZK; rw [e1, this]⟩
theorem Qc {p : AQ} {f : AE} (ho : (f.C9.length : Int) = p.A0) {l : List Int} (hl : l.length ≤ 30) (h : ∀ x ∈ l, 0 ≤ x ∧ x < p.A0) : gY f l = some (l.any (Ec f)) := by
 unfold gY Kq
 have h1 : J7 l f = BZ l.length (fun i => bif (l[i]?).any (Ec f) then some (i : Int) else none) (some (-1)) := by
  unfold J7
  refine B6 l.length (fun i => (i : Int)) _ _ (fun i hi _ => ?_) (fun _ => ?_)
  ·unfold HE ZT
   simp only [Bi hi, cond_true, AK, List.getElem?_eq_getElem hi, Option.bind_some, IU ho (h _ (List.getElem_mem hi)), Option.any_some, AS (show i < 9223372036854775807 by omega)]
   cases Ec f l[i] <;> rfl
  ·unfold HE
   simp only [Bd, cond_false]
 rw [h1]
 have := GX l (Ec f) (some (-1)) rfl
 rw [this]; rfl
theorem TD {p : AQ} {f : AE} {i : Nat} {w : Bu} (hp : p.A7.length ≤ 1048576) (G : Pj p w) (hw : p.A5[i]? = some w) (ho : (f.C9.length : Int) = p.A0) (hq : f.A8.length = p.A7.length) : XT p f (i : Int) = some (LO f w) := by
 obtain ⟨l1, l2, _, l3, l4⟩ := G.WS
 unfold XT eZ
 simp only [AK, hw, Option.bind_some]
 rw [DA (by simp only [List.length_nil]; omega), Option.bind_some, List.nil_append, DA (by omega)]
 simp only [Option.bind_some]
 have hlen : (w.AO ++ w.AB).length ≤ 60 := by rw [List.length_append]; omega
 have h1 : AJ (Kr f w (w.AO ++ w.AB)) (((0 : Nat)) : Int) = BZ (w.AO ++ w.AB).length (fun k => bif ((w.AO ++ w.AB)[k]?).any (fun t => !ZK f t) then some false else none) (some (!(w.A0.any (Ec f)) && !(w.BY.any (Ec f)))) := by
  refine B6 (w.AO ++ w.AB).length (fun k => (k : Int)) _ _ (fun k hk _ => ?_) (fun _ => ?_)
  ·have hm : tB p (w.AO ++ w.AB)[k] = true := by
    rcases List.mem_append.1 (List.getElem_mem hk) with h | h
    ·exact G.YF _ h
    ·exact G.Od _ h
   obtain ⟨x, e1, e2⟩ := Yb hq hp hm
   unfold Kr
   simp only [Bi hk, cond_true, AK, List.getElem?_eq_getElem hk, Option.bind_some, e1, Option.any_some, e2, AS (show k < 9223372036854775807 by omega)]
   cases (x.Want == (w.AO ++ w.AB)[k].EZ) <;> cases (x.AO == (w.AO ++ w.AB)[k].EZ) <;> rfl
  ·unfold Kr
   simp only [Bd, cond_false, Qc ho l1 G.I0, Qc ho l2 G.fO, Option.bind_some]
   cases w.A0.any (Ec f) <;> rfl
 rw [show (0 : Int) = (((0 : Nat)) : Int) from rfl, h1, Eu]
 unfold LO
 cases (w.AO ++ w.AB).any (fun t => !ZK f t) <;> rfl
theorem TE {p : AQ} {f : AE} {i : Nat} {w : Bu} (hp : p.A7.length ≤ 1048576) (G : Pj p w) (hw : p.A5[i]? = some w) (ho : (f.C9.length : Int) = p.A0) (hq : f.A8.length = p.A7.length) : jW p f (i : Int) = some (LO f w) := by
 obtain ⟨l1, l2, _, l3, l4⟩ := G.WS
 unfold jW
 simp only [AK, hw, Option.bind_some]
 have h3 : AJ (Lx f w) (((0 : Nat)) : Int) = BZ ([w.A0, w.BY] : List (List Int)).length (fun k => bif (([w.A0, w.BY] : List (List Int))[k]?).any (fun l => l.any (Ec f)) then some false else none) (some true) := by
  refine B6 ([w.A0, w.BY] : List (List Int)).length (fun k => (k : Int)) _ _ (fun k hk _ => ?_) (fun _ => ?_)
  ·obtain ⟨l, hl⟩ : ∃ l, ([w.A0, w.BY] : List (List Int))[k]? = some l := ⟨_, List.getElem?_eq_getElem hk⟩
   have hm : l.length ≤ 30 ∧ ∀ x ∈ l, 0 ≤ x ∧ x < p.A0 := by
    have := List.mem_of_getElem? hl
    simp only [List.mem_cons, List.not_mem_nil, or_false] at this
    rcases this with rfl | rfl
    ·exact ⟨l1, G.I0⟩
    ·exact ⟨l2, G.fO⟩
   have hk2 : k < 2 := hk
   unfold Lx
   simp only [Bi hk, cond_true, AK, hl, Option.bind_some, Option.any_some]
   have h4 := B6 (F := OX f (k : Int) l) l.length (fun j => (j : Int)) (fun j => bif (l[j]?).any (Ec f) then some (.inr false) else none) (some (.inl ((k + 1 : Nat) : Int))) (fun j hj _ => by
    unfold OX
    simp only [Bi hj, cond_true, AK, List.getElem?_eq_getElem hj, Option.bind_some, IU ho (hm.2 _ (List.getElem_mem hj)), Option.any_some, AS (show j < 9223372036854775807 by omega)]
    cases Ec f l[j] <;> rfl) (fun _ => by
    unfold OX
    simp only [Bd, cond_false, AS (show k < 9223372036854775807 by omega)])
   rw [Eu] at h4
   rw [show (0 : Int) = (((0 : Nat)) : Int) from rfl]
   refine h4.trans ?_
   cases l.any (Ec f) <;> rfl
  ·unfold Lx
   simp only [Bd, cond_false]
 have h1 : AJ (OV f w) (((0 : Nat)) : Int) = BZ ([w.AO, w.AB] : List (List Aa)).length (fun k => bif (([w.AO, w.AB] : List (List Aa))[k]?).any (fun l => l.any (fun t => !ZK f t)) then some false else none) (AJ (Lx f w) (((0 : Nat)) : Int)) := by
  refine B6 ([w.AO, w.AB] : List (List Aa)).length (fun k => (k : Int)) _ _ (fun k hk _ => ?_) (fun _ => ?_)
  ·obtain ⟨l, hl⟩ : ∃ l, ([w.AO, w.AB] : List (List Aa))[k]? = some l := ⟨_, List.getElem?_eq_getElem hk⟩
   have hm : l.length ≤ 30 ∧ ∀ x ∈ l, tB p x = true := by
    have := List.mem_of_getElem? hl
    simp only [List.mem_cons, List.not_mem_nil, or_false] at this
    rcases this with rfl | rfl
    ·exact ⟨l3, G.YF⟩
    ·exact ⟨l4, G.Od⟩
   have hk2 : k < 2 := hk
   unfold OV
   simp only [Bi hk, cond_true, AK, hl, Option.bind_some, Option.any_some]
   have h4 := B6 (F := OW f (k : Int) l) l.length (fun j => (j : Int)) (fun j => bif (l[j]?).any (fun t => !ZK f t) then some (.inr false) else none) (some (.inl ((k + 1 : Nat) : Int))) (fun j hj _ => by
    obtain ⟨x, e1, e2⟩ := Yb hq hp (hm.2 _ (List.getElem_mem hj))
    unfold OW
    simp only [Bi hj, cond_true, AK, List.getElem?_eq_getElem hj, Option.bind_some, e1, Option.any_some, e2, AS (show j < 9223372036854775807 by omega)]
    rw [show (x.Want != l[j].EZ) = !(x.Want == l[j].EZ) from rfl, show (x.AO != l[j].EZ) = !(x.AO == l[j].EZ) from rfl]
    cases (x.Want == l[j].EZ) <;> cases (x.AO == l[j].EZ) <;> rfl) (fun _ => by
    unfold OW
    simp only [Bd, cond_false, AS (show k < 9223372036854775807 by omega)])
   rw [Eu] at h4
   rw [show (0 : Int) = (((0 : Nat)) : Int) from rfl]
   refine h4.trans ?_
   cases l.any (fun t => !ZK f t) <;> rfl
  ·unfold OV
   simp only [Bd, cond_false]
   rfl
 rw [show (0 : Int) = (((0 : Nat)) : Int) from rfl, h1, h3, Eu, Eu]
 unfold LO
 rw [List.any_append]
 simp only [List.any_cons, List.any_nil, Bool.or_false]
 cases w.AO.any (fun t => !ZK f t) <;> cases w.AB.any (fun t => !ZK f t) <;> cases w.A0.any (Ec f) <;> cases w.BY.any (Ec f) <;> rfl
abbrev Q7 (f : AE) (ws : List AH) : AE := { Ok := f.Ok, C9 := f.C9, A8 := f.A8, A5 := ws }
theorem WQ {p : AQ} {f : AE} {i : Nat} {w : Bu} {ws : List AH} {h : AH} (G : Pj p w) (ho : (f.C9.length : Int) = p.A0) (hi : i < 1048576) (hW : WG p ws) (hw : p.A5[i]? = some w) (hh : ws[i]? = some h) (ws0 : List AH) :
  ∃ ws', AJ (KK f (i : Int) w) (ws, h) = some (.inl (ws', ((i + 1 : Nat) : Int))) ∧ AJ (KJ w (Q7 f ws0) (i : Int)) (ws, h) = some (Q7 f ws') ∧ WG p ws' := by
 have hg := hW.2 i h w hh hw
 obtain ⟨g0, hg0⟩ : ∃ g : Nat, h.Ac = (g : Int) := ⟨h.Ac.toNat, by have := hg.gone; omega⟩
 have hgn := hg.gone
 have hne := G.ne
 have h30 := G.WS.1
 have hbl := hg.SI
 have hil := Bs hh
 have hH : ∀ j : Nat, g0 + j < w.A0.length → HG { h with Ac := ((g0 + j : Nat) : Int) } w := fun j hj => ⟨hg.st, hg.SI, ⟨by show (0 : Int) ≤ ((g0 + j : Nat) : Int); omega, by show ((g0 + j : Nat) : Int) < _; omega⟩⟩
 have hn1 : BV ((w.A0.length : Int) - 1) = ((w.A0.length - 1 : Nat) : Int) := by rw [Kc ⟨by omega, by omega⟩]; omega
 refine (G6 (F := KK f (i : Int) w) (F' := KJ w (Q7 f ws0) (i : Int)) (w.A0.length - g0) (fun j s s' => s = s' ∧ s = (ws.set i { h with Ac := ((g0 + j : Nat) : Int) }, { h with Ac := ((g0 + j : Nat) : Int) })) (fun r r' => ∃ ws', r = .inl (ws', ((i + 1 : Nat) : Int)) ∧ r' = Q7 f ws' ∧ WG p ws') (s0 := (ws, h)) (s0' := (ws, h)) ⟨rfl, by
   have : ({ h with Ac := ((g0 + 0 : Nat) : Int) } : AH) = h := by
    cases h
    simp only [] at hg0
    rw [hg0]
    rfl
   rw [this, Uv hh]⟩ (fun j s s' hj hs => ?_) (fun s s' hs => ?_)).elim fun r hr => ?_
 ·obtain ⟨rfl, rfl⟩ := hs
  have hlt : g0 + j < w.A0.length := by omega
  have hb := List.getElem?_eq_getElem (show g0 + j < h.Ab.length by omega)
  have hsec := List.getElem?_eq_getElem hlt
  have hocc := IU ho (G.I0 _ (List.getElem_mem hlt))
  have e3 : (((g0 + j : Nat) : Int) == (w.A0.length : Int)) = false := by rw [beq_eq_false_iff_ne]; omega
  have hset : ∀ y : AH, (ws.set i { h with Ac := ((g0 + j : Nat) : Int) }).set i y = ws.set i y := fun y => List.set_set ..
  obtain ⟨c, k1, k2⟩ : ∃ c : Bool, KK f (i : Int) w (ws.set i { h with Ac := ((g0 + j : Nat) : Int) }, { h with Ac := ((g0 + j : Nat) : Int) }) = some (bif c then .inl (ws.set i { h with Ac := ((g0 + (j + 1) : Nat) : Int) }, { h with Ac := ((g0 + (j + 1) : Nat) : Int) }) else .inr (.inl (ws.set i { h with Ac := ((g0 + j : Nat) : Int) }, ((i + 1 : Nat) : Int)))) ∧ KJ w (Q7 f ws0) (i : Int) (ws.set i { h with Ac := ((g0 + j : Nat) : Int) }, { h with Ac := ((g0 + j : Nat) : Int) }) = some (bif c then .inl (ws.set i { h with Ac := ((g0 + (j + 1) : Nat) : Int) }, { h with Ac := ((g0 + (j + 1) : Nat) : Int) }) else .inr (Q7 f (ws.set i { h with Ac := ((g0 + j : Nat) : Int) }))) := by
   unfold KK KJ Gk
   simp only [Bi hlt, cond_true, AK, hb, hsec, Option.bind_some, hocc, hn1, e3, AS (show g0 + j < 9223372036854775807 by omega), AS (show i < 9223372036854775807 by omega), Int.toNat_natCast, hset]
   by_cases hl : g0 + j = w.A0.length - 1
   ·rw [show (((g0 + j : Nat) : Int) == ((w.A0.length - 1 : Nat) : Int)) = true by rw [beq_iff_eq, hl], show decide (((g0 + j : Nat) : Int) < ((w.A0.length - 1 : Nat) : Int)) = false by rw [hl]; exact Bd _]
    cases h.Ab[g0 + j]'(by omega) with
    | false => exact ⟨false, rfl, rfl⟩
    | true =>
     cases Ec f w.A0[g0 + j] with
     | true => exact ⟨false, rfl, rfl⟩
     | false => exact ⟨true, rfl, rfl⟩
   ·have hb2 := List.getElem?_eq_getElem (show g0 + j + 1 < h.Ab.length by omega)
    rw [show (((g0 + j : Nat) : Int) == ((w.A0.length - 1 : Nat) : Int)) = false by rw [beq_eq_false_iff_ne]; omega, Bi (show g0 + j < w.A0.length - 1 by omega)]
    simp only [hb2, Option.bind_some]
    cases h.Ab[g0 + j]'(by omega) with
    | false => exact ⟨false, rfl, rfl⟩
    | true =>
     cases Ec f w.A0[g0 + j] with
     | true => exact ⟨false, rfl, rfl⟩
     | false =>
      cases h.Ab[g0 + j + 1]'(by omega) with
      | false => exact ⟨false, rfl, rfl⟩
      | true => exact ⟨true, rfl, rfl⟩
  cases c with
  | true => exact .inl ⟨_, _, k1, k2, rfl, rfl⟩
  | false => exact .inr ⟨_, _, k1, k2, _, rfl, rfl, Mb hW hw (hH j hlt)⟩
 ·obtain ⟨rfl, rfl⟩ := hs
  have hgn2 : g0 + (w.A0.length - g0) = w.A0.length := by omega
  simp only [hgn2]
  have hidle : HG { State := 0, Ac := 0, Ab := List.replicate w.A0.length false, Shown := false, Timer := 0 } w := ⟨⟨by show (0 : Int) ≤ 0; omega, by show (0 : Int) ≤ 4; omega⟩, by show (List.replicate _ _).length = _; rw [List.length_replicate], ⟨by show (0 : Int) ≤ 0; omega, by show (0 : Int) < _; omega⟩⟩
  have hm : GK 1 (w.A0.length : Int) = some w.A0.length := G7 (by omega)
  have hset : ∀ y : AH, (ws.set i { h with Ac := (w.A0.length : Int) }).set i y = ws.set i y := fun y => List.set_set ..
  unfold KK KJ Gk lX lS
  simp only [Bd, cond_false, Option.bind_some, beq_self_eq_true, cond_true, hm, AK, Ra hil, hbl, AS (show i < 9223372036854775807 by omega), Int.toNat_natCast, hset]
  exact ⟨_, _, rfl, rfl, _, rfl, rfl, Mb hW hw hidle⟩
 ·obtain ⟨r', e1, e2, ws', rfl, rfl, e3⟩ := hr
  exact ⟨ws', e1, e2, e3⟩
theorem We {p : AQ} {f : AE} {i : Nat} {w : Bu} {ws : List AH} {h : AH} (G : Pj p w) (ho : (f.C9.length : Int) = p.A0) (hi : i < 1048576) (hW : WG p ws) (hw : p.A5[i]? = some w) (hh : ws[i]? = some h) :
  ∃ ws', AJ (Ly f (i : Int) w) (ws, h, (0 : Int)) = some (.inl (ws', ((i + 1 : Nat) : Int))) ∧ jX w (Q7 f ws) (i : Int) = some (Q7 f ws') ∧ WG p ws' := by
 have h30 := G.WS.1
 unfold jX
 simp only [AK, hh, Option.bind_some]
 refine (G6 (F := Ly f (i : Int) w) (F' := OY w (Q7 f ws) (i : Int)) w.A0.length (fun k s s' => s = s' ∧ ∃ v x, s = (v, x, (k : Int)) ∧ WG p v ∧ v[i]? = some x) (fun r r' => ∃ ws', r = .inl (ws', ((i + 1 : Nat) : Int)) ∧ r' = Q7 f ws' ∧ WG p ws') (s0 := (ws, h, (0 : Int))) (s0' := (ws, h, (0 : Int))) ⟨rfl, ws, h, rfl, hW, hh⟩ (fun k s s' hk hs => ?_) (fun s s' hs => ?_)).elim fun r hr => ?_
 ·obtain ⟨rfl, v, x, rfl, hv, hx⟩ := hs
  have hg := hv.2 i x w hx hw
  have hkb : k < x.Ab.length := by have := hg.SI; omega
  have hsec := List.getElem?_eq_getElem hk
  have hb := List.getElem?_eq_getElem hkb
  have hocc := IU ho (G.I0 _ (List.getElem_mem hk))
  left
  unfold Ly OY RT
  simp only [Bi hk, cond_true, AK, hb, hsec, Option.bind_some, hocc, AS (show k < 9223372036854775807 by omega), Int.toNat_natCast]
  have hst : ∀ b : Bool, HG { x with Ab := x.Ab.set k b } w := fun b => ⟨hg.st, by show (x.Ab.set k b).length = _; rw [List.length_set]; exact hg.SI, hg.gone⟩
  have hil := Bs hx
  cases Ec f w.A0[k] with
  | true =>
   refine ⟨_, _, ?_, rfl, rfl, _, _, rfl, Mb hv hw (hst true), Ra hil _⟩
   cases x.Ab[k] <;> rfl
  | false =>
   refine ⟨(v, x, ((k + 1 : Nat) : Int)), _, ?_, rfl, rfl, _, _, rfl, hv, hx⟩
   have e : ({ x with Ab := x.Ab.set k x.Ab[k] } : AH) = x := by rw [Uv hb]
   have e4 : (bif x.Ab[k] then some true else some false) = some x.Ab[k] := by cases x.Ab[k] <;> rfl
   rw [e4, Option.bind_some, e, Uv hx]
 ·obtain ⟨rfl, v, x, rfl, hv, hx⟩ := hs
  obtain ⟨ws', f1, f2, f3⟩ := WQ G ho hi hv hw hx ws
  unfold Ly OY
  simp only [Bd, cond_false, f1, f2]
  exact ⟨_, _, rfl, rfl, ws', rfl, rfl, f3⟩
 ·obtain ⟨r', e1, e2, ws', rfl, rfl, e3⟩ := hr
  exact ⟨ws', e1, e2, e3⟩
theorem VX {p : AQ} {f : AE} {i : Nat} {w : Bu} {ws : List AH} {h : AH} (hp : p.A7.length ≤ 1048576) (G : Pj p w) (ho : (f.C9.length : Int) = p.A0) (hq : f.A8.length = p.A7.length) (hi : i < 1048576) (hW : WG p ws) (hw : p.A5[i]? = some w) (hh : ws[i]? = some h) :
  ∃ ws', OK p f.Ok f.C9 f.A8 (i : Int) w ws h = some (.inl (f.Ok, f.C9, f.A8, ws', ((i + 1 : Nat) : Int))) ∧ Lz p f (i : Int) w ws h = some (.inl (ws', ((i + 1 : Nat) : Int))) ∧ WG p ws' := by
 have hg := hW.2 i h w hh hw
 have e3 : Lz p f (i : Int) w ws h = Ob p f (i : Int) w ws h ((h.State == (1:Int)) || (h.State == (2:Int))) := by
  unfold Lz
  cases (h.State == (1:Int)) <;> rfl
 rw [e3]
 unfold OK Ob OL Lu Gk
 have hst : ∀ (s : Int) (b : Bool), 0 ≤ s ∧ s ≤ 4 → HG { h with State := s, Shown := b } w := fun s b hs => ⟨hs, hg.SI, hg.gone⟩
 cases hc : ((h.State == (1:Int)) || (h.State == (2:Int))) with
 | true =>
  simp only [cond_true]
  rw [TE (f := Q7 f (ws.set (i : Int).toNat { h with State := (1:Int) })) hp G hw ho hq, TD (f := Q7 f (ws.set (i : Int).toNat { h with State := (1:Int) })) hp G hw ho hq]
  simp only [Option.bind_some, Int.toNat_natCast, AS (show i < 9223372036854775807 by omega)]
  cases LO (Q7 f (ws.set i { h with State := (1:Int) })) w with
  | true =>
   refine ⟨_, rfl, rfl, ?_⟩
   rw [List.set_set, List.set_set]
   exact Mb hW hw (hst 2 true ⟨by omega, by omega⟩)
  | false => exact ⟨_, rfl, rfl, Mb hW hw (hst 1 h.Shown ⟨by omega, by omega⟩)⟩
 | false =>
  simp only [cond_false]
  cases (h.State == (4:Int)) with
  | true =>
   obtain ⟨ws', f1, f2, f3⟩ := We G ho hi hW hw hh
   simp only [cond_true, f1, f2, Option.bind_some, AS (show i < 9223372036854775807 by omega)]
   exact ⟨ws', rfl, rfl, f3⟩
  | false =>
   simp only [cond_false, AS (show i < 9223372036854775807 by omega)]
   exact ⟨ws, rfl, rfl, hW⟩
theorem TL {p : AQ} {f : AE} (G : Jz p) (F : dN p f) : ∃ ws', cM p f = some (Q7 f ws') ∧ cO p f = some (Q7 f ws') ∧ WG p ws' := by
 have hp : p.A7.length ≤ 1048576 := by have := G.bM; omega
 have h100 := G.V6
 have hfl := F.ways.1
 unfold cM cO
 refine (G6 (F := OJ p f) (F' := Oa p f) f.A5.length (fun i s s' => ∃ ws, s = (f.Ok, f.C9, f.A8, ws, (i : Int)) ∧ s' = (ws, (i : Int)) ∧ WG p ws) (fun r r' => ∃ ws', r = Q7 f ws' ∧ r' = Q7 f ws' ∧ WG p ws') (s0 := (f.Ok, f.C9, f.A8, f.A5, (0 : Int))) (s0' := (f.A5, (0 : Int))) ⟨f.A5, rfl, rfl, F.ways⟩ (fun i s s' hi hs => ?_) (fun s s' hs => ?_)).elim fun r hr => ?_
 ·obtain ⟨ws, rfl, rfl, hW⟩ := hs
  left
  have hlw : i < p.A5.length := by omega
  obtain ⟨w, hw⟩ : ∃ w, p.A5[i]? = some w := ⟨_, List.getElem?_eq_getElem hlw⟩
  obtain ⟨h, hh⟩ : ∃ h, ws[i]? = some h := ⟨_, List.getElem?_eq_getElem (show i < ws.length by have := hW.1; omega)⟩
  have GW := G.dK i w hw
  have hg := hW.2 i h w hh hw
  have hs0 := List.getElem?_eq_getElem GW.ne
  have hg0 : AL w.A0 (0 : Int) = some (w.A0[0]'GW.ne) := RZ GW.ne
  have hocc := IU F.kD (GW.I0 _ (List.getElem_mem GW.ne))
  have hil := Bs hh
  unfold OJ Oa
  simp only [Bi hi, cond_true, AK, hh, hw, Option.bind_some, hg0, hocc]
  cases (h.State == (0:Int)) with
  | true =>
   unfold Lu Gk
   simp only [cond_true, AS (show i < 9223372036854775807 by omega)]
   exact ⟨_, _, rfl, rfl, ws, rfl, rfl, hW⟩
  | false =>
   simp only [cond_false]
   have stay := VX hp GW F.kD F.Ph (show i < 1048576 by omega) hW hw hh
   cases (h.State != (4:Int)) with
   | false =>
    simp only [cond_false, Option.bind_some]
    obtain ⟨ws', f1, f2, f3⟩ := stay
    exact ⟨_, _, f1, f2, ws', rfl, rfl, f3⟩
   | true =>
    simp only [cond_true, Option.bind_some]
    cases Ec f (w.A0[0]'GW.ne) with
    | false =>
     simp only [cond_false]
     obtain ⟨ws', f1, f2, f3⟩ := stay
     exact ⟨_, _, f1, f2, ws', rfl, rfl, f3⟩
    | true =>
     simp only [cond_true, Int.toNat_natCast]
     have hx : HG { h with State := (4:Int), Timer := (0:Int) } w := ⟨⟨by show (0 : Int) ≤ 4; omega, by show (4 : Int) ≤ 4; omega⟩, hg.SI, hg.gone⟩
     obtain ⟨ws', f1, f2, f3⟩ := VX (h := { h with State := (4:Int), Timer := (0:Int) }) hp GW F.kD F.Ph (show i < 1048576 by omega) (ws := (ws.set i { h with State := (4:Int) }).set i { h with State := (4:Int), Timer := (0:Int) }) (by rw [List.set_set]; exact Mb hW hw hx) hw (Ra (by rw [List.length_set]; exact hil) _)
     exact ⟨_, _, f1, f2, ws', rfl, rfl, f3⟩
 ·obtain ⟨ws, rfl, rfl, hW⟩ := hs
  unfold OJ Oa
  simp only [Bd, cond_false]
  exact ⟨_, _, rfl, rfl, ws, rfl, rfl, hW⟩
 ·obtain ⟨r', e1, e2, ws', rfl, rfl, e3⟩ := hr
  exact ⟨ws', e1, e2, e3⟩
def JW (a b : List Bool) (k : Nat) : Bool := (a[k]?).getD false == (b[k]?).getD false
theorem XG {a b : List Bool} (hl : a.length = b.length) (hm : a.length ≤ 1048576) : WJ a b = some ((List.range a.length).all (JW a b)) := by
 unfold WJ
 rw [show ((a.length : Int) != (b.length : Int)) = false by rw [bne_eq_false_iff_eq]; omega]
 simp only [cond_false]
 rw [Gs a.length (JW a b) true (by omega) (fun i hi _ => ?_) (fun _ => ?_), Bool.and_true]
 ·unfold NA JW
  simp only [Bi hi, cond_true, AK, List.getElem?_eq_getElem hi, List.getElem?_eq_getElem (show i < b.length by omega), Option.bind_some, Option.getD_some, AS (show i < 9223372036854775807 by omega)]
  cases (a[i] == b[i]) <;> rfl
 ·unfold NA
  simp only [Bd, cond_false, Option.map_some]
theorem dS {a : List Am} (hm : a.length ≤ 1048576) : Xc a a = some true := by
 unfold Xc
 rw [show ((a.length : Int) != (a.length : Int)) = false by rw [bne_eq_false_iff_eq]]
 simp only [cond_false]
 rw [Gs a.length (fun _ => true) true (by omega) (fun i hi _ => ?_) (fun _ => ?_)]
 ·simp
 ·unfold NB
  simp only [Bi hi, cond_true, AK, List.getElem?_eq_getElem hi, Option.bind_some, beq_self_eq_true, Bool.and_self, Bool.not_true, cond_false, AS (show i < 9223372036854775807 by omega)]
 ·unfold NB
  simp only [Bd, cond_false, Option.map_some]
theorem Y2 {x y : AH} (h1 : x.State = y.State) (h2 : x.Ac = y.Ac) (h3 : x.Ab = y.Ab) (h4 : x.Shown = y.Shown) (h5 : x.Timer = y.Timer) : x = y := by
 cases x
 cases y
 simp only [] at h1 h2 h3 h4 h5
 subst h1 h2 h3 h4 h5
 rfl
theorem Uu {a b : List Bool} (hl : a.length = b.length) (h : (List.range a.length).all (JW a b) = true) : a = b := by
 refine List.ext_getElem hl fun k h1 h2 => ?_
 rw [List.all_eq_true] at h
 have := h k (List.mem_range.2 h1)
 unfold JW at this
 rw [List.getElem?_eq_getElem h1, List.getElem?_eq_getElem h2, Option.getD_some, Option.getD_some, beq_iff_eq] at this
 exact this
theorem Wn {p : AQ} {f : AE} {ws : List AH} (hs : Eo f) (F : dN p f) (hW : WG p ws) : ∃ r, eQ f (Q7 f ws) = some r ∧ Tx f (Q7 f ws) = some r ∧ (r = true → ws = f.A5) := by
 have h1 := hs.1.1
 have h2 := hs.2.1.1
 have h3 := hs.2.2.1
 have hself : (List.range f.C9.length).all (JW f.C9 f.C9) = true := by
  rw [List.all_eq_true]
  intro k _
  unfold JW
  exact beq_self_eq_true _
 have hfl := F.ways.1
 have hwl := hW.1
 unfold eQ Tx
 simp only [XG rfl h1, hself, dS h2, Option.bind_some, Bool.not_true, cond_false, Bool.false_or]
 rw [show ((f.A5.length : Int) != (ws.length : Int)) = false by rw [bne_eq_false_iff_eq]; omega]
 simp only [cond_false]
 refine (G6 (F := OO f (Q7 f ws)) (F' := Kl f (Q7 f ws)) f.A5.length (fun i s s' => s = (i : Int) ∧ s' = (i : Int) ∧ ∀ k, k < i → ws[k]? = f.A5[k]?) (fun r r' => r = r' ∧ (r = true → ws = f.A5)) (s0 := (0 : Int)) (s0' := (0 : Int)) ⟨rfl, rfl, fun k hk => by omega⟩ (fun i s s' hi hs' => ?_) (fun s s' hs' => ?_)).elim fun r hr => ?_
 ·obtain ⟨rfl, rfl, hinv⟩ := hs'
  obtain ⟨x, hx⟩ : ∃ x, f.A5[i]? = some x := ⟨_, List.getElem?_eq_getElem hi⟩
  obtain ⟨y, hy⟩ : ∃ y, ws[i]? = some y := ⟨_, List.getElem?_eq_getElem (show i < ws.length by omega)⟩
  obtain ⟨w, hw⟩ : ∃ w, p.A5[i]? = some w := ⟨_, List.getElem?_eq_getElem (show i < p.A5.length by omega)⟩
  have hbl : x.Ab.length = y.Ab.length := by rw [(F.ways.2 i x w hx hw).SI, (hW.2 i y w hy hw).SI]
  have hbm : x.Ab.length ≤ 1048576 := (hs.2.2.2 x (List.mem_of_getElem? hx)).1
  have hL : AJ (OP (i : Int) x y) (0 : Int) = some (bif (List.range x.Ab.length).any (fun k => !JW x.Ab y.Ab k) then .inr false else .inl ((i + 1 : Nat) : Int)) := by
   refine Ht (n := x.Ab.length) (fun k => !JW x.Ab y.Ab k) false (fun k hk => ?_) ?_
   ·unfold OP JW
    simp only [Bi hk, cond_true, AK, List.getElem?_eq_getElem hk, List.getElem?_eq_getElem (show k < y.Ab.length by omega), Option.bind_some, Option.getD_some, AS (show k < 9223372036854775807 by omega)]
    cases (x.Ab[k] == y.Ab[k]'(by omega)) <;> rfl
   ·unfold OP
    simp only [Bd, cond_false, AS (show i < 9223372036854775807 by omega)]
    rfl
  unfold OO Kl
  simp only [Bi hi, cond_true, AK, hx, hy, Option.bind_some, XG hbl hbm, hL, AS (show i < 9223372036854775807 by omega)]
  rw [← List.not_all_eq_any_not]
  cases hc : ((((x.State != y.State) || (x.Ac != y.Ac)) || !(x.Shown == y.Shown)) || (x.Timer != y.Timer)) with
  | true => exact .inr ⟨_, _, rfl, rfl, rfl, fun h => by cases h⟩
  | false =>
   cases ha : (List.range x.Ab.length).all (JW x.Ab y.Ab) with
   | true =>
    refine .inl ⟨_, _, rfl, rfl, rfl, rfl, fun k hk => ?_⟩
    rcases Nat.lt_or_ge k i with hl | hl
    ·exact hinv k hl
    ·have : k = i := by omega
     subst this
     simp only [Bool.or_eq_false_iff, bne_eq_false_iff_eq, Bool.not_eq_false', beq_iff_eq] at hc
     rw [hx, hy, Y2 hc.1.1.1 hc.1.1.2 (Uu hbl ha) hc.1.2 hc.2]
   | false => exact .inr ⟨_, _, rfl, rfl, rfl, fun h => by cases h⟩
 ·obtain ⟨rfl, rfl, hinv⟩ := hs'
  unfold OO Kl
  simp only [Bd, cond_false]
  refine ⟨_, _, rfl, rfl, rfl, fun _ => ?_⟩
  apply List.ext_getElem?
  intro k
  rcases Nat.lt_or_ge k f.A5.length with hl | hl
  ·exact hinv k hl
  ·rw [List.getElem?_eq_none hl, List.getElem?_eq_none (by omega)]
 ·obtain ⟨r', e1, e2, rfl, e3⟩ := hr
  exact ⟨r, e1, e2, e3⟩
def TF (x : Am) : Bool := !(decide (x.Want ≥ (1:Int)) && decide (x.Want ≤ (2:Int))) || !(decide (x.AO ≥ (0:Int)) && decide (x.AO ≤ (2:Int)))
def Yj (f : AE) (i : Nat) : Bool := ((f.A5[i]?).map fun h => h.State != (0:Int)).getD false
def Oy (p : AQ) (f : AE) (i : Nat) : Bool := (gW p f (i : Int)).getD false
def J0 (p : AQ) (f : AE) (i k : Nat) : Bool := Ge p i k && (Yj f i && Yj f k)
def Qt (p : AQ) (f : AE) (i : Nat) : Bool := !Oy p f i || (List.range p.A5.length).any fun k => !decide (i = k) && J0 p f i k
def SH (p : AQ) (f : AE) (i : Nat) : Bool := !Oy p f i || (List.range i).any fun k => J0 p f i k
theorem XA {p : AQ} (f : AE) (G : Jz p) : (List.range p.A5.length).any (Qt p f) = (List.range p.A5.length).any (SH p f) := by
 rw [Bool.eq_iff_iff, List.any_eq_true, List.any_eq_true]
 have sy : ∀ i k : Nat, i < p.A5.length → k < p.A5.length → J0 p f i k = J0 p f k i := fun i k hi hk => by unfold J0; rw [G.sym i k hi hk, Bool.and_comm (Yj f i)]
 constructor
 ·rintro ⟨i, hi, h⟩
  have hi' := List.mem_range.1 hi
  unfold Qt at h
  rw [Bool.or_eq_true, List.any_eq_true] at h
  rcases h with h | ⟨k, hk, h⟩
  ·exact ⟨i, hi, by unfold SH; rw [h]; rfl⟩
  ·have hk' := List.mem_range.1 hk
   simp only [Bool.and_eq_true, Bool.not_eq_true', decide_eq_false_iff_not] at h
   rcases Nat.lt_or_gt_of_ne h.1 with hl | hl
   ·exact ⟨k, hk, by unfold SH; rw [Bool.or_eq_true, List.any_eq_true]; exact .inr ⟨i, List.mem_range.2 hl, by rw [sy k i hk' hi']; exact h.2⟩⟩
   ·exact ⟨i, hi, by unfold SH; rw [Bool.or_eq_true, List.any_eq_true]; exact .inr ⟨k, List.mem_range.2 hl, h.2⟩⟩
 ·rintro ⟨i, hi, h⟩
  have hi' := List.mem_range.1 hi
  unfold SH at h
  rw [Bool.or_eq_true, List.any_eq_true] at h
  rcases h with h | ⟨k, hk, h⟩
  ·exact ⟨i, hi, by unfold Qt; rw [h]; rfl⟩
  ·have hk' := List.mem_range.1 hk
   refine ⟨i, hi, ?_⟩
   unfold Qt
   rw [Bool.or_eq_true, List.any_eq_true]
   exact .inr ⟨k, List.mem_range.2 (by omega), by rw [h, decide_eq_false (show ¬ i = k by omega)]; rfl⟩
theorem Wu {p : AQ} {f : AE} (G : Jz p) (hs : Eo f) (hl : f.A5.length = p.A5.length) : AJ (KE p f) (0 : Int) = bif (List.range p.A5.length).any (Qt p f) then some false else ((eM f).bind fun v => ((cM p v).bind fun z => ((eQ f z).bind fun r => some r))) := by
 have h100 := G.V6
 have h1 : AJ (KE p f) (((0 : Nat)) : Int) = BZ p.A5.length (fun i => bif Qt p f i then some false else none) ((eM f).bind fun v => ((cM p v).bind fun z => ((eQ f z).bind fun r => some r))) := by
  refine B6 p.A5.length (fun i => (i : Int)) _ _ (fun i hi _ => ?_) (fun _ => ?_)
  ·obtain ⟨w, hw⟩ : ∃ w, p.A5[i]? = some w := ⟨_, List.getElem?_eq_getElem hi⟩
   obtain ⟨h, hh⟩ : ∃ h, f.A5[i]? = some h := ⟨_, List.getElem?_eq_getElem (show i < f.A5.length by omega)⟩
   obtain ⟨r, e1, _, _⟩ := M9 hh hw (hs.2.2.2 h (List.mem_of_getElem? hh)).1 (by have := (G.dK i w hw).WS.1; omega)
   unfold KE Qt
   rw [show Oy p f i = r by unfold Oy; rw [e1]; rfl]
   simp only [hl, Bi hi, cond_true, e1, Option.bind_some]
   cases r with
   | false => rfl
   | true =>
    simp only [Bool.not_true, cond_false, Bool.false_or]
    rw [Ht (n := p.A5.length) (fun k => !decide (i = k) && J0 p f i k) false (i' := ((i + 1 : Nat) : Int)) (fun k hk => ?_) ?_]
    ·cases (List.range p.A5.length).any (fun k => !decide (i = k) && J0 p f i k) <;> rfl
    rotate_left
    ·obtain ⟨y, hy⟩ : ∃ y, f.A5[k]? = some y := ⟨_, List.getElem?_eq_getElem (show k < f.A5.length by omega)⟩
     obtain ⟨row, b1, b2⟩ := Qu G hi hk
     unfold RD J0
     rw [show Yj f i = (h.State != (0:Int)) by unfold Yj; rw [hh]; rfl, show Yj f k = (y.State != (0:Int)) by unfold Yj; rw [hy]; rfl]
     simp only [hl, Bi hk, cond_true, PJ, AK, b1, b2, hh, hy, Option.bind_some, AS (show k < 9223372036854775807 by omega)]
     cases decide (i = k) <;> cases Ge p i k <;> cases (h.State != (0:Int)) <;> cases (y.State != (0:Int)) <;> rfl
    ·unfold RD
     simp only [hl, Bd, cond_false, AS (show i < 9223372036854775807 by omega)]
     rfl
  ·unfold KE
   simp only [hl, Bd, cond_false]
 rw [show (0 : Int) = (((0 : Nat)) : Int) from rfl, h1, Dp]
theorem Wt {p : AQ} {f : AE} (G : Jz p) (hs : Eo f) (hl : f.A5.length = p.A5.length) : AJ (KI p f) (0 : Int) = bif (List.range p.A5.length).any (SH p f) then some false else ((fA f).bind fun v => ((cO p v).bind fun z => ((Tx f z).bind fun r => some r))) := by
 have h100 := G.V6
 have h1 : AJ (KI p f) (((0 : Nat)) : Int) = BZ p.A5.length (fun i => bif SH p f i then some false else none) ((fA f).bind fun v => ((cO p v).bind fun z => ((Tx f z).bind fun r => some r))) := by
  refine B6 p.A5.length (fun i => (i : Int)) _ _ (fun i hi _ => ?_) (fun _ => ?_)
  ·obtain ⟨w, hw⟩ : ∃ w, p.A5[i]? = some w := ⟨_, List.getElem?_eq_getElem hi⟩
   obtain ⟨h, hh⟩ : ∃ h, f.A5[i]? = some h := ⟨_, List.getElem?_eq_getElem (show i < f.A5.length by omega)⟩
   obtain ⟨r, e1, e2, _⟩ := M9 hh hw (hs.2.2.2 h (List.mem_of_getElem? hh)).1 (by have := (G.dK i w hw).WS.1; omega)
   unfold KI SH
   rw [show Oy p f i = r by unfold Oy; rw [e1]; rfl]
   simp only [hl, Bi hi, cond_true, AK, hh, hw, e2, Option.bind_some]
   cases r with
   | false => rfl
   | true =>
    simp only [Bool.not_true, cond_false, Bool.false_or]
    rw [Ht (n := i) (fun k => J0 p f i k) false (i' := ((i + 1 : Nat) : Int)) (fun k hk => ?_) ?_]
    ·cases (List.range i).any (fun k => J0 p f i k) <;> rfl
    rotate_left
    ·obtain ⟨y, hy⟩ : ∃ y, f.A5[k]? = some y := ⟨_, List.getElem?_eq_getElem (show k < f.A5.length by omega)⟩
     obtain ⟨row, b1, b2⟩ := Qu G hi (show k < p.A5.length by omega)
     unfold RQ J0
     rw [show Yj f i = (h.State != (0:Int)) by unfold Yj; rw [hh]; rfl, show Yj f k = (y.State != (0:Int)) by unfold Yj; rw [hy]; rfl]
     simp only [Bi hk, cond_true, AK, b1, b2, hy, Option.bind_some, AS (show k < 9223372036854775807 by omega)]
     cases Ge p i k <;> cases (h.State != (0:Int)) <;> cases (y.State != (0:Int)) <;> rfl
    ·unfold RQ
     simp only [Bd, cond_false, AS (show i < 9223372036854775807 by omega)]
     rfl
  ·unfold KI
   simp only [hl, Bd, cond_false]
 rw [show (0 : Int) = (((0 : Nat)) : Int) from rfl, h1, Dp]
theorem UB {p : AQ} {f : AE} (hs : Fo p) (hsf : Eo f) : ∃ r, iY p f = some r ∧ jB p f = some r ∧ (r = true → Jz p ∧ dN p f ∧ cM p f = some f ∧ cO p f = some f) := by
 obtain ⟨q, hq⟩ := TB p
 unfold iY jB lT
 simp only [bB hs hq, bA hs hq, Option.bind_some]
 cases hc : (q.Code == 0) with
 | false => exact ⟨false, rfl, rfl, fun h => by cases h⟩
 | true =>
  have G := Wf hq hc
  simp only [Bool.not_true, Bool.false_or, cond_true]
  cases hd : (((!f.Ok || ((f.C9.length : Int) != p.A0)) || ((f.A8.length : Int) != (p.A7.length : Int))) || ((f.A5.length : Int) != (p.A5.length : Int))) with
  | true => exact ⟨false, rfl, rfl, fun h => by cases h⟩
  | false =>
   simp only [Bool.or_eq_false_iff, bne_eq_false_iff_eq] at hd
   obtain ⟨⟨⟨_, d1⟩, d2⟩, d3⟩ := hd
   have d3 : f.A5.length = p.A5.length := by omega
   have hpl := hsf.2.1.1
   have hS : AJ (Nx p f) (((0 : Nat)) : Int) = BZ f.A8.length (fun i => bif (f.A8[i]?).any TF then some false else none) (AJ (KE p f) (0 : Int)) := by
    refine B6 f.A8.length (fun i => (i : Int)) _ _ (fun i hi _ => ?_) (fun _ => ?_)
    ·unfold Nx TF
     simp only [Bi hi, cond_true, AK, List.getElem?_eq_getElem hi, Option.bind_some, JF, Option.any_some, AS (show i < 9223372036854775807 by omega)]
     cases (decide (f.A8[i].Want ≥ (1:Int)) && decide (f.A8[i].Want ≤ (2:Int))) <;> cases (decide (f.A8[i].AO ≥ (0:Int)) && decide (f.A8[i].AO ≤ (2:Int))) <;> rfl
    ·unfold Nx
     simp only [Bd, cond_false]
   have hI : AJ (OQ p f) (((0 : Nat)) : Int) = BZ f.A8.length (fun i => bif (f.A8[i]?).any TF then some false else none) (AJ (KI p f) (0 : Int)) := by
    refine B6 f.A8.length (fun i => (i : Int)) _ _ (fun i hi _ => ?_) (fun _ => ?_)
    ·unfold OQ TF
     simp only [Bi hi, cond_true, AK, List.getElem?_eq_getElem hi, Option.bind_some, ER, Option.any_some, AS (show i < 9223372036854775807 by omega)]
     cases (decide (f.A8[i].Want ≥ (1:Int)) && decide (f.A8[i].Want ≤ (2:Int))) <;> cases (decide (f.A8[i].AO ≥ (0:Int)) && decide (f.A8[i].AO ≤ (2:Int))) <;> rfl
    ·unfold OQ
     simp only [Bd, cond_false]
   rw [Eu] at hS hI
   simp only [cond_false]
   rw [show (0 : Int) = (((0 : Nat)) : Int) from rfl, hS, hI, Wu G hsf d3, Wt G hsf d3, ← XA f G, W8 hsf, W7 hsf]
   cases f.A8.any TF with
   | true => exact ⟨false, rfl, rfl, fun h => by cases h⟩
   | false =>
    cases hb : (List.range p.A5.length).any (Qt p f) with
    | true => exact ⟨false, rfl, rfl, fun h => by cases h⟩
    | false =>
     have F : dN p f := ⟨d1, by omega, d3, fun i h w hh hw => by
      obtain ⟨r, e1, _, e2⟩ := M9 hh hw (hsf.2.2.2 h (List.mem_of_getElem? hh)).1 (by have := (G.dK i w hw).WS.1; omega)
      refine e2 ?_
      rw [List.any_eq_false] at hb
      have := hb i (List.mem_range.2 (Bs hw))
      unfold Qt Oy at this
      rw [e1] at this
      cases r with
      | true => rfl
      | false => exact absurd rfl this⟩
     obtain ⟨ws, s1, s2, s3⟩ := TL G F
     obtain ⟨r, t1, t2, t3⟩ := Wn hsf F s3
     simp only [cond_false, Option.bind_some, s1, s2, t1, t2]
     refine ⟨r, rfl, rfl, fun hr => ?_⟩
     have e := t3 hr
     subst e
     exact ⟨G, F, rfl, rfl⟩
def K3 (I0 : List Int) (g s : Int) : Bool := (List.range I0.length).any fun k => (I0[k]?).any (fun y => y == s) && decide ((k : Int) ≥ g)
theorem YP {xs : List Int} (h : xs.Nodup) {i k : Nat} {v : Int} (hi : xs[i]? = some v) (hk : xs[k]? = some v) : i = k := by
 have h1 := Bs hi
 have h2 := Bs hk
 rw [List.getElem?_eq_getElem h1] at hi
 rw [List.getElem?_eq_getElem h2] at hk
 exact (List.getElem_inj h).1 (by rw [Option.some.inj hi, Option.some.inj hk])
theorem UN {I0 : List Int} (h : I0.Nodup) (hl : I0.length ≤ 1048576) {g : Int} (hg : 0 ≤ g) (s : Int) : ∃ r, eV I0 s = some r ∧ decide (r ≥ g) = K3 I0 g s := by
 rw [Y4 hl]
 obtain ⟨r, hr⟩ := Ez I0.length (fun i => bif (I0[i]?).any (fun y => decide (s = y)) then some (i : Int) else none) (e := some (-1)) ⟨_, rfl⟩
 refine ⟨r, hr, ?_⟩
 rw [Bool.eq_iff_iff, decide_eq_true_eq]
 unfold K3
 rw [List.any_eq_true]
 rcases Dq hr with ⟨i, hi, h1⟩ | ⟨h1, h2⟩
 ·obtain ⟨h3, rfl⟩ := FK h1
  have hx := List.getElem?_eq_getElem hi
  rw [hx, Option.any_some, decide_eq_true_eq] at h3
  constructor
  ·intro hgi
   exact ⟨i, List.mem_range.2 hi, by rw [hx, Option.any_some, ← h3, beq_self_eq_true, decide_eq_true hgi]; rfl⟩
  ·rintro ⟨k, hk, h4⟩
   have hk := List.mem_range.1 hk
   rw [List.getElem?_eq_getElem hk, Option.any_some, Bool.and_eq_true, beq_iff_eq, decide_eq_true_eq] at h4
   have : i = k := YP h (v := s) (by rw [hx, ← h3]) (by rw [List.getElem?_eq_getElem hk, h4.1])
   subst this
   exact h4.2
 ·have : r = -1 := by simpa using h2.symm
  subst this
  constructor
  ·intro h; omega
  ·rintro ⟨k, hk, h4⟩
   have hk := List.mem_range.1 hk
   have h5 := FJ (h1 k hk)
   rw [List.getElem?_eq_getElem hk, Option.any_some] at h4 h5
   rw [Bool.and_eq_true, beq_iff_eq] at h4
   rw [decide_eq_false_iff_not] at h5
   exact absurd h4.1.symm h5
theorem Y3 {p : AQ} {f : AE} {i : Nat} {w : Bu} {h : AH} (hw : p.A5[i]? = some w) (hh : f.A5[i]? = some h) (hl : w.A0.length ≤ 1048576) (s : Int) : XK p f (i : Int) s = some (!(h.State == 0) && K3 w.A0 h.Ac s) := by
 unfold XK
 simp only [AK, hw, hh, Option.bind_some]
 cases (h.State == 0) with
 | true => rfl
 | false =>
  simp only [cond_false, Bool.not_false, Bool.true_and]
  have h1 := B6 (F := Ki f (i : Int) s w) w.A0.length (fun k => (k : Int)) (fun k => bif ((w.A0[k]?).any (fun y => y == s) && decide ((k : Int) ≥ h.Ac)) then some true else none) (some false) (fun k hk _ => by
   unfold Ki
   simp only [Bi hk, cond_true, AK, List.getElem?_eq_getElem hk, hh, Option.bind_some, Option.any_some, AS (show k < 9223372036854775807 by omega)]
   cases (w.A0[k] == s) <;> cases decide ((k : Int) ≥ h.Ac) <;> rfl) (fun _ => by
   unfold Ki
   simp only [Bd, cond_false])
  rw [Dp] at h1
  refine (show _ = _ from h1).trans ?_
  unfold K3
  cases (List.range w.A0.length).any (fun k => (w.A0[k]?).any (fun y => y == s) && decide ((k : Int) ≥ h.Ac)) <;> rfl
theorem iH {l : List Aa} (hl : l.length ≤ 1048576) (k : Int) : OR l k = some (l.any fun t => t.Switch == k) := by
 unfold OR
 have h1 : Km l k = BZ l.length (fun i => bif (l[i]?).any (fun t => t.Switch == k) then some (i : Int) else none) (some (-1)) := by
  unfold Km
  refine B6 l.length (fun i => (i : Int)) _ _ (fun i hi _ => ?_) (fun _ => ?_)
  ·unfold I9 lU
   simp only [Bi hi, cond_true, AK, List.getElem?_eq_getElem hi, Option.bind_some, Option.any_some, AS (show i < 9223372036854775807 by omega)]
   cases (l[i].Switch == k) <;> rfl
  ·unfold I9
   simp only [Bd, cond_false]
 rw [h1]
 exact GX l _ _ rfl
theorem iI {l : List Aa} (hl : l.length ≤ 1048576) (k : Int) : OS l k = some (l.any fun t => t.Switch == k) := by
 unfold OS
 have h1 : Kn l k = BZ l.length (fun i => bif (l[i]?).any (fun t => t.Switch == k) then some (i : Int) else none) (some (-1)) := by
  unfold Kn
  refine B6 l.length (fun i => (i : Int)) _ _ (fun i hi _ => ?_) (fun _ => ?_)
  ·unfold IA lV
   simp only [Bi hi, cond_true, AK, List.getElem?_eq_getElem hi, Option.bind_some, Option.any_some, AS (show i < 9223372036854775807 by omega)]
   cases (l[i].Switch == k) <;> rfl
  ·unfold IA
   simp only [Bd, cond_false]
 rw [h1]
 exact GX l _ _ rfl
def Pf (w : Bu) (h : AH) (c k : Int) : Bool := !(h.State == 0) && ((w.AB.any fun t => t.Switch == k) || ((w.AO.any fun t => t.Switch == k) && K3 w.A0 h.Ac c))
theorem NP {p : AQ} {t : Aa} (h : tB p t = true) : 1 ≤ t.EZ ∧ t.EZ ≤ 2 := by
 unfold tB at h
 simp only [Bool.and_eq_true, decide_eq_true_eq] at h
 exact ⟨h.2.1, h.2.2⟩
theorem Z2 {p : AQ} {f : AE} {i : Nat} {w : Bu} {h : AH} {k : Nat} {c : Int} (G : Pj p w) (hw : p.A5[i]? = some w) (hh : f.A5[i]? = some h) (hc : p.A7[k]? = some c) : ∃ r, jN p f (i : Int) (k : Int) = some r ∧ decide (r > 0) = Pf w h c (k : Int) := by
 obtain ⟨l1, _, _, l3, l4⟩ := G.WS
 unfold jN
 simp only [AK, hw, hh, Option.bind_some]
 unfold Pf
 cases hst : (h.State == 0) with
 | true => exact ⟨0, rfl, rfl⟩
 | false =>
  simp only [cond_false, Bool.not_false, Bool.true_and]
  have hL := B6 (F := KH p f (i : Int) (k : Int) w) w.AO.length (fun j => (j : Int)) (fun j => (w.AO[j]?).bind fun t => bif ((t.Switch == (k : Int)) && K3 w.A0 h.Ac c) then some t.EZ else none) (some (0 : Int)) (fun j hj _ => by
   unfold KH
   simp only [Bi hj, cond_true, AK, List.getElem?_eq_getElem hj, hc, Option.bind_some, Y3 hw hh (show w.A0.length ≤ 1048576 by omega) c, hst, Bool.not_false, Bool.true_and, AS (show j < 9223372036854775807 by omega)]
   cases (w.AO[j].Switch == (k : Int)) <;> cases K3 w.A0 h.Ac c <;> rfl) (fun _ => by
   unfold KH
   simp only [Bd, cond_false])
  have hF := B6 (F := Lw p f (i : Int) (k : Int) w) w.AB.length (fun j => (j : Int)) (fun j => (w.AB[j]?).bind fun t => bif (t.Switch == (k : Int)) then some t.EZ else none) (AJ (KH p f (i : Int) (k : Int) w) (0 : Int)) (fun j hj _ => by
   unfold Lw
   simp only [Bi hj, cond_true, AK, List.getElem?_eq_getElem hj, Option.bind_some, AS (show j < 9223372036854775807 by omega)]
   cases (w.AB[j].Switch == (k : Int)) <;> rfl) (fun _ => by
   unfold Lw
   simp only [Bd, cond_false, AK, hw, Option.bind_some])
  have hF : AJ (Lw p f (i : Int) (k : Int) w) (0 : Int) = _ := hF
  rw [hF]
  have hL : AJ (KH p f (i : Int) (k : Int) w) (0 : Int) = _ := hL
  rw [hL]
  have h0 := Ez w.AO.length (fun j => (w.AO[j]?).bind fun t => bif ((t.Switch == (k : Int)) && K3 w.A0 h.Ac c) then some t.EZ else none) (e := some (0 : Int)) ⟨_, rfl⟩
  obtain ⟨r, hr⟩ := Ez w.AB.length (fun j => (w.AB[j]?).bind fun t => bif (t.Switch == (k : Int)) then some t.EZ else none) h0
  refine ⟨r, hr, ?_⟩
  rcases Dq hr with ⟨j, hj, h1⟩ | ⟨h1, h2⟩
  ·rw [List.getElem?_eq_getElem hj, Option.bind_some] at h1
   obtain ⟨h3, rfl⟩ := FK h1
   have hm := List.getElem_mem hj
   have hp := NP (G.Od _ hm)
   rw [show (w.AB.any fun t => t.Switch == (k : Int)) = true from List.any_eq_true.2 ⟨_, hm, h3⟩, Bool.true_or, decide_eq_true_eq]
   omega
  ·have hno : (w.AB.any fun t => t.Switch == (k : Int)) = false := by
    rw [List.any_eq_false]
    intro t ht
    obtain ⟨j, hj, rfl⟩ := List.getElem_of_mem ht
    have h3 := h1 j hj
    rw [List.getElem?_eq_getElem hj, Option.bind_some] at h3
    rw [FJ h3]
    exact Bool.false_ne_true
   rw [hno, Bool.false_or]
   rcases Dq h2 with ⟨j, hj, h3⟩ | ⟨h3, h4⟩
   ·rw [List.getElem?_eq_getElem hj, Option.bind_some] at h3
    obtain ⟨h5, rfl⟩ := FK h3
    rw [Bool.and_eq_true] at h5
    have hm := List.getElem_mem hj
    have hp := NP (G.YF _ hm)
    rw [show (w.AO.any fun t => t.Switch == (k : Int)) = true from List.any_eq_true.2 ⟨_, hm, h5.1⟩, h5.2, Bool.true_and, decide_eq_true_eq]
    omega
   ·have : r = 0 := by simpa using h4.symm
    subst this
    cases hb : K3 w.A0 h.Ac c with
    | false => rw [Bool.and_false]; rfl
    | true =>
     have hno2 : (w.AO.any fun t => t.Switch == (k : Int)) = false := by
      rw [List.any_eq_false]
      intro t ht
      obtain ⟨j, hj, rfl⟩ := List.getElem_of_mem ht
      have h6 := h3 j hj
      rw [List.getElem?_eq_getElem hj, Option.bind_some] at h6
      have h7 := FJ h6
      rw [hb, Bool.and_true] at h7
      rw [h7]
      exact Bool.false_ne_true
     rw [hno2]; rfl
theorem Um {p : AQ} {f : AE} (G : Jz p) (F : dN p f) {k : Nat} {c : Int} (hc : p.A7[k]? = some c) : ∃ r, iZ p f (k : Int) = some r ∧ jC p f (k : Int) = some r ∧ r.length ≤ p.A5.length := by
 have h100 := G.V6
 have hfl : f.A5.length = p.A5.length := F.ways.1
 unfold iZ jC
 refine (G6 (F := Ln p f (k : Int)) (F' := Lo p f (k : Int)) p.A5.length (fun i s s' => ∃ acc : List Int, s = (acc, (i : Int)) ∧ s' = (acc, (i : Int)) ∧ acc.length ≤ i) (fun r r' => r = r' ∧ r.length ≤ p.A5.length) (s0 := (([] : List Int), (0 : Int))) (s0' := (([] : List Int), (0 : Int))) ⟨[], rfl, rfl, Nat.le_refl _⟩ (fun i s s' hi hs => ?_) (fun s s' hs => ?_)).elim fun r hr => ?_
 ·obtain ⟨acc, rfl, rfl, hacc⟩ := hs
  left
  obtain ⟨w, hw⟩ : ∃ w, p.A5[i]? = some w := ⟨_, List.getElem?_eq_getElem hi⟩
  obtain ⟨h, hh⟩ : ∃ h, f.A5[i]? = some h := ⟨_, List.getElem?_eq_getElem (show i < f.A5.length by omega)⟩
  have GW := G.dK i w hw
  obtain ⟨l1, _, _, l3, l4⟩ := GW.WS
  obtain ⟨r, q1, q2⟩ := Z2 GW hw hh hc
  obtain ⟨r2, q3, q4⟩ := UN GW.nodup (show w.A0.length ≤ 1048576 by omega) (F.ways.2 i h w hh hw).gone.1 c
  have hap : D5 8 acc [(i : Int)] = some (acc ++ [(i : Int)]) := DA (by simp only [List.length_singleton]; omega)
  have e1 : Ln p f (k : Int) (acc, (i : Int)) = some (.inl (bif Pf w h c (k : Int) then acc ++ [(i : Int)] else acc, ((i + 1 : Nat) : Int))) := by
   unfold Ln RE
   simp only [Bi hi, cond_true, q1, Option.bind_some, q2, hap, AS (show i < 9223372036854775807 by omega)]
   cases Pf w h c (k : Int) <;> rfl
  have e2 : Lo p f (k : Int) (acc, (i : Int)) = some (.inl (bif Pf w h c (k : Int) then acc ++ [(i : Int)] else acc, ((i + 1 : Nat) : Int))) := by
   unfold Lo RH O5 Pf
   simp only [hfl, Bi hi, cond_true, AK, hw, hh, hc, Option.bind_some, iH (show w.AB.length ≤ 1048576 by omega), iI (show w.AO.length ≤ 1048576 by omega), q3, q4, hap, AS (show i < 9223372036854775807 by omega)]
   cases (h.State == 0) <;> cases (w.AB.any fun t => t.Switch == (k : Int)) <;> cases (w.AO.any fun t => t.Switch == (k : Int)) <;> cases K3 w.A0 h.Ac c <;> rfl
  refine ⟨_, _, e1, e2, _, rfl, rfl, ?_⟩
  cases Pf w h c (k : Int) with
  | true => simp only [cond_true, List.length_append, List.length_singleton]; omega
  | false => simp only [cond_false]; omega
 ·obtain ⟨acc, rfl, rfl, hacc⟩ := hs
  unfold Ln Lo
  simp only [hfl, Bd, cond_false]
  exact ⟨_, _, rfl, rfl, rfl, hacc⟩
 ·obtain ⟨r', e1, e2, rfl, e3⟩ := hr
  exact ⟨r, e1, e2, e3⟩
def Is (l : List Aa) (k a : Int) : Int := l.foldl (fun a t => bif t.Switch == k then t.EZ else a) a
theorem P6 {k : Int} : ∀ {l : List Aa} (a : Int), (∀ t ∈ l, t.Switch ≠ k) → Is l k a = a
 | [], _, _ => rfl
 | t :: r, a, h => by
  unfold Is
  rw [List.foldl_cons, beq_eq_false_iff_ne.2 (h t (List.mem_cons_self ..))]
  exact P6 a (fun t ht => h t (List.mem_cons_of_mem _ ht))
theorem YE {k : Int} : ∀ {l : List Aa} (a : Int), (l.map Aa.Switch).Nodup → ∀ t ∈ l, t.Switch = k → Is l k a = t.EZ
 | [], _, _, _, h, _ => by cases h
 | x :: r, a, nd, t, ht, hk => by
  rw [List.map_cons, List.nodup_cons] at nd
  unfold Is
  rw [List.foldl_cons]
  rcases List.mem_cons.1 ht with rfl | ht
  ·rw [beq_iff_eq.2 hk]
   refine P6 _ fun y hy e => nd.1 ?_
   rw [hk, ← e]
   exact List.mem_map_of_mem hy
  ·exact YE _ nd.2 t ht hk
theorem T5 {p : AQ} {w : Bu} (G : Pj p w) : ((w.AO ++ w.AB).map Aa.Switch).Nodup := by
 rw [List.map_append, List.nodup_append]
 refine ⟨G.nX, G.nV, fun a ha b hb e => ?_⟩
 obtain ⟨t, ht, rfl⟩ := List.mem_map.1 ha
 obtain ⟨y, hy, rfl⟩ := List.mem_map.1 hb
 have := (G.cG t ht).1
 unfold HT at this
 rw [List.any_eq_false] at this
 exact this y hy (decide_eq_true e)
def Me (n : Nat) : Int := bif decide (0 < n) then 3 else 0
def Gg (n m : Nat) : Int := bif decide (0 < n) then 3 else (bif decide (0 < m) then 4 else 0)
def K0 (n m : Nat) : Int := bif decide (0 < n) then 5 else (bif decide (0 < m) then 6 else 0)
def Nj (x : BE) (a b : List Int) : Int := bif (Gg x.A5.length x.A0.length == 0) then K0 a.length b.length else Gg x.A5.length x.A0.length
structure gM where
 Ph : List Int
 H4 : List Int
 PY : List Int
def Le (k : Int) (a b : Bool) (s : gM) : gM := ⟨bif a || b then s.Ph ++ [k] else s.Ph, bif a then s.H4 ++ [k] else s.H4, bif b then s.PY ++ [k] else s.PY⟩
theorem LC (b : Bool) (xs : List Int) (k : Int) (n : Nat) (h : xs.length ≤ n) : (bif b then xs ++ [k] else xs).length ≤ n + 1 := by
 cases b with
 | true => simp only [cond_true, List.length_append, List.length_singleton]; omega
 | false => simp only [cond_false]; omega
theorem W6 (k : Int) (a b : Bool) (s : gM) : K0 (Le k a b s).H4.length (Le k a b s).PY.length = bif a then 5 else (bif b then (bif (K0 s.H4.length s.PY.length == 0) then 6 else K0 s.H4.length s.PY.length) else K0 s.H4.length s.PY.length) := by
 unfold Le K0
 cases a with
 | true => simp
 | false =>
  cases b with
  | false => rfl
  | true =>
   simp only [cond_false, cond_true, Bool.or_true, List.length_append, List.length_singleton]
   rw [show decide (0 < s.PY.length + 1) = true by rw [decide_eq_true_eq]; omega]
   cases decide (0 < s.H4.length) <;> cases decide (0 < s.PY.length) <;> rfl
theorem TM {p : AQ} {f : AE} {w : Bu} (l3 : w.AO.length ≤ 30) (l4 : w.AB.length ≤ 30) (held k : Int) (ws ss ps : List Int) {r : ((List Int) × (List Int) × (List Int) × Int × Int) ⊕ (BE × Int)}
  (hend : Gj p f w held k (ws, ss, ps, Is (w.AO ++ w.AB) k 0, ((2 : Nat) : Int)) = some (.inr r)) : AJ (Gj p f w held k) (ws, ss, ps, (0 : Int), (0 : Int)) = some r := by
 have hin : ∀ (j : Nat) (l : List Aa) (a : Int), j < 2 → l.length ≤ 30 → AJ (Lr k (j : Int) l) (ws, ss, ps, a, (0 : Int)) = some (.inl (ws, ss, ps, Is l k a, ((j + 1 : Nat) : Int))) := fun j l a hj hl => by
  have := Fj (F := Lr k (j : Int) l) l.length (fun i => (ws, ss, ps, Is (l.take i) k a, (i : Int))) (r := .inl (ws, ss, ps, Is l k a, ((j + 1 : Nat) : Int))) (fun i hi => ?_) ?_
  ·exact this
  ·unfold Lr RL
   simp only [Bi hi, cond_true, AK, List.getElem?_eq_getElem hi, Option.bind_some, AS (show i < 9223372036854775807 by omega)]
   rw [show Is (l.take (i + 1)) k a = (bif l[i].Switch == k then l[i].EZ else Is (l.take i) k a) from UA _ _ (List.getElem?_eq_getElem hi)]
   cases (l[i].Switch == k) <;> rfl
  ·unfold Lr
   simp only [Bd, cond_false, List.take_length, AS (show j < 9223372036854775807 by omega)]
   rfl
 rw [Bn]
 have s0 : Gj p f w held k (ws, ss, ps, (0 : Int), (0 : Int)) = some (.inl (ws, ss, ps, Is w.AO k 0, ((1 : Nat) : Int))) := by
  unfold Gj
  have h0 := hin 0 w.AO 0 (by omega) l3
  simp only [show decide ((0 : Int) < ((([w.AO, w.AB] : List (List Aa)).length : Nat) : Int)) = true from rfl, cond_true, show AL ([w.AO, w.AB] : List (List Aa)) (0 : Int) = some w.AO from rfl, Option.bind_some]
  exact h0
 rw [s0]
 simp only [Option.bind_some]
 rw [Bn]
 have s1 : Gj p f w held k (ws, ss, ps, Is w.AO k 0, ((1 : Nat) : Int)) = some (.inl (ws, ss, ps, Is (w.AO ++ w.AB) k 0, ((2 : Nat) : Int))) := by
  unfold Gj
  have h0 := hin 1 w.AB (Is w.AO k 0) (by omega) l4
  rw [show Is w.AB k (Is w.AO k 0) = Is (w.AO ++ w.AB) k 0 by unfold Is; rw [List.foldl_append]] at h0
  simp only [show decide (((1 : Nat) : Int) < ((([w.AO, w.AB] : List (List Aa)).length : Nat) : Int)) = true from rfl, cond_true, show AL ([w.AO, w.AB] : List (List Aa)) ((1 : Nat) : Int) = some w.AB from rfl, Option.bind_some]
  exact h0
 rw [s1]
 simp only [Option.bind_some]
 rw [Bn, hend]
 rfl
theorem Yk {p : AQ} {f : AE} {w : Bu} (G : Jz p) (F : dN p f) (GW : Pj p w) {k : Nat} (hk : k < p.A7.length) (ws ss : List Int) (s : gM) (hl : s.Ph.length ≤ k ∧ s.H4.length ≤ k ∧ s.PY.length ≤ k) :
  ∃ s' : gM, AJ (Gj p f w (K0 s.H4.length s.PY.length) (k : Int)) (ws, ss, s.Ph, (0 : Int), (0 : Int)) = some (.inl (ws, ss, s'.Ph, K0 s'.H4.length s'.PY.length, ((k + 1 : Nat) : Int))) ∧ AJ (IE p f (k : Int) (w.AO ++ w.AB)) (ws, ss, s.Ph, s.H4, s.PY, (0 : Int)) = some (.inl (ws, ss, s'.Ph, s'.H4, s'.PY, ((k + 1 : Nat) : Int))) ∧ s'.Ph.length ≤ k + 1 ∧ s'.H4.length ≤ k + 1 ∧ s'.PY.length ≤ k + 1 := by
 have h40 := G.bM
 obtain ⟨_, _, _, l3, l4⟩ := GW.WS
 have hlen : (w.AO ++ w.AB).length ≤ 60 := by rw [List.length_append]; omega
 obtain ⟨c, hc⟩ : ∃ c, p.A7[k]? = some c := ⟨_, List.getElem?_eq_getElem hk⟩
 obtain ⟨pt, hpt⟩ : ∃ pt, f.A8[k]? = some pt := ⟨_, List.getElem?_eq_getElem (show k < f.A8.length by have := F.Ph; omega)⟩
 obtain ⟨lk, p1, p2, p3⟩ := Um G F hc
 have hcin : 0 ≤ c ∧ c < p.A0 := by
  have := G.sw k c hc
  have hsec := G.I0
  unfold Rg at this
  rw [LB (by omega), Bool.and_eq_true, decide_eq_true_eq, decide_eq_true_eq] at this
  exact ⟨this.1, this.2⟩
 have hocc := IU F.kD hcin
 have hap : ∀ xs : List Int, xs.length ≤ k → D5 8 xs [(k : Int)] = some (xs ++ [(k : Int)]) := fun xs hx => DA (by simp only [List.length_singleton]; omega)
 have nd := T5 GW
 have h2f : decide ((((2 : Nat)) : Int) < ((([w.AO, w.AB] : List (List Aa)).length : Nat) : Int)) = false := rfl
 by_cases hno : ∀ t ∈ w.AO ++ w.AB, t.Switch ≠ (k : Int)
 ·refine ⟨s, TM l3 l4 _ _ _ _ _ ?_, ?_, by omega, by omega, by omega⟩
  ·unfold Gj J8
   rw [P6 0 hno]
   simp only [h2f, cond_false, beq_self_eq_true, cond_true, Option.bind_some, AS (show k < 9223372036854775807 by omega)]
   rfl
  ·refine Fj (F := IE p f (k : Int) (w.AO ++ w.AB)) (w.AO ++ w.AB).length (fun j => (ws, ss, s.Ph, s.H4, s.PY, (j : Int))) (fun j hj => ?_) ?_
   ·unfold IE J9
    simp only [Bi hj, cond_true, AK, List.getElem?_eq_getElem hj, Option.bind_some, bne_iff_ne.2 (hno _ (List.getElem_mem hj)), AS (show j < 9223372036854775807 by omega)]
   ·unfold IE
    simp only [Bd, cond_false, AS (show k < 9223372036854775807 by omega)]
    rfl
 ·have : ∃ t, t ∈ w.AO ++ w.AB ∧ t.Switch = (k : Int) := by
   refine Classical.byContradiction fun hx => hno fun t ht e => hx ⟨t, ht, e⟩
  obtain ⟨t, ht, htk⟩ := this
  obtain ⟨j0, hj0, hjt⟩ := List.getElem_of_mem ht
  have hlie := YE 0 nd t ht htk
  have hpos : 1 ≤ t.EZ ∧ t.EZ ≤ 2 := by
   rcases List.mem_append.1 ht with h | h
   ·exact NP (GW.YF _ h)
   ·exact NP (GW.Od _ h)
  have hother : ∀ j, (hj : j < (w.AO ++ w.AB).length) → j ≠ j0 → ((w.AO ++ w.AB)[j].Switch != (k : Int)) = true := fun j hj hne => by
   rw [bne_iff_ne]
   intro e
   apply hne
   have e1 : ((w.AO ++ w.AB).map Aa.Switch)[j]'(by rw [List.length_map]; exact hj) = ((w.AO ++ w.AB).map Aa.Switch)[j0]'(by rw [List.length_map]; exact hj0) := by
    rw [List.getElem_map, List.getElem_map, e, hjt, htk]
   exact (List.getElem_inj nd).1 e1
  have hat : (t.Switch != (k : Int)) = false := by rw [bne_eq_false_iff_eq]; exact htk
  have hz : (t.EZ == 0) = false := by rw [beq_eq_false_iff_ne]; omega
  obtain ⟨go, hgo⟩ : ∃ go : Bool, go = (pt.Want == t.EZ) := ⟨_, rfl⟩
  have hgo2 : (t.EZ == pt.Want) = go := by rw [hgo, Bool.eq_iff_iff, beq_iff_eq, beq_iff_eq]; exact eq_comm
  refine ⟨bif go then s else Le (k : Int) (decide (((lk.length : Nat) : Int) > 0)) (Ec f c) s, TM l3 l4 _ _ _ _ _ ?_, ?_, ?_⟩
  ·unfold Gj J8
   rw [hlie]
   simp only [h2f, cond_false, hz, AK, hpt, hc, Option.bind_some, hgo2, p1, hocc, hap s.Ph hl.1, AS (show k < 9223372036854775807 by omega)]
   cases go with
   | true => rfl
   | false =>
    simp only [cond_false]
    rw [W6]
    unfold Le
    cases decide (((lk.length : Nat) : Int) > 0) with
    | true => rfl
    | false =>
     cases Ec f c with
     | false => rfl
     | true =>
      simp only [cond_false, cond_true, Bool.or_true]
      cases (K0 s.H4.length s.PY.length == 0) <;> rfl
  ·have hrun := Fj (F := IE p f (k : Int) (w.AO ++ w.AB)) (w.AO ++ w.AB).length (fun j => (ws, ss, (bif decide (j ≤ j0) then s else (bif go then s else Le (k : Int) (decide (((lk.length : Nat) : Int) > 0)) (Ec f c) s)).Ph, (bif decide (j ≤ j0) then s else (bif go then s else Le (k : Int) (decide (((lk.length : Nat) : Int) > 0)) (Ec f c) s)).H4, (bif decide (j ≤ j0) then s else (bif go then s else Le (k : Int) (decide (((lk.length : Nat) : Int) > 0)) (Ec f c) s)).PY, (j : Int))) (r := .inl (ws, ss, (bif go then s else Le (k : Int) (decide (((lk.length : Nat) : Int) > 0)) (Ec f c) s).Ph, (bif go then s else Le (k : Int) (decide (((lk.length : Nat) : Int) > 0)) (Ec f c) s).H4, (bif go then s else Le (k : Int) (decide (((lk.length : Nat) : Int) > 0)) (Ec f c) s).PY, ((k + 1 : Nat) : Int))) (fun j hj => ?_) ?_
   ·exact hrun
   ·unfold IE
    by_cases hjj : j = j0
    ·subst hjj
     rw [show decide (j ≤ j) = true from decide_eq_true (Nat.le_refl _), show decide (j + 1 ≤ j) = false from decide_eq_false (by omega)]
     simp only [Bi hj, cond_true, cond_false, AK, List.getElem?_eq_getElem hj, hpt, hc, Option.bind_some, hat, hjt, p2, hocc, ← hgo, hap s.H4 hl.2.1]
     cases go with
     | true =>
      unfold J9
      simp only [cond_true, AS (show j < 9223372036854775807 by omega)]
     | false =>
      unfold RO RP J9 Le
      simp only [cond_false, hap s.Ph hl.1, hap s.PY hl.2.2, Option.bind_some, AS (show j < 9223372036854775807 by omega)]
      cases decide (((lk.length : Nat) : Int) > 0) <;> cases Ec f c <;> rfl
    ·unfold J9
     simp only [Bi hj, cond_true, AK, List.getElem?_eq_getElem hj, Option.bind_some, hother j hj hjj, AS (show j < 9223372036854775807 by omega)]
     rw [show decide (j ≤ j0) = decide (j + 1 ≤ j0) by congr 1; apply propext; omega]
   ·unfold IE
    rw [show decide ((w.AO ++ w.AB).length ≤ j0) = false from decide_eq_false (by omega)]
    simp only [Bd, cond_false, AS (show k < 9223372036854775807 by omega)]
    rfl
  ·cases go with
   | true => simp only [cond_true]; omega
   | false =>
    simp only [cond_false]
    unfold Le
    exact ⟨LC _ _ _ _ hl.1, LC _ _ _ _ hl.2.1, LC _ _ _ _ hl.2.2⟩
theorem Uz {p : AQ} {f : AE} (G : Jz p) (F : dN p f) {i : Nat} {w : Bu} (hw : p.A5[i]? = some w) :
  ∃ x a b, gS p f (i : Int) = some (x, Nj x a b) ∧ gT p f (i : Int) = some (x, a, b) ∧ x.A5.length ≤ 1048576 ∧ x.A0.length ≤ 1048576 ∧ x.A8.length ≤ 1048576 := by
 have h100 := G.V6
 have h40 := G.bM
 have h60 := G.I0
 have GW := G.dK i w hw
 have hi := Bs hw
 obtain ⟨l1, l2, _, l3, l4⟩ := GW.WS
 have hfl : f.A5.length = p.A5.length := F.ways.1
 obtain ⟨n, hn⟩ : ∃ n : Nat, p.A0 = (n : Int) := ⟨p.A0.toNat, by omega⟩
 have hneeds : eZ w = some (w.AO ++ w.AB) := by
  unfold eZ
  rw [DA (by simp only [List.length_nil]; omega), Option.bind_some, List.nil_append, DA (by omega)]
  rfl
 have h5 : ∀ ws ss : List Int, ws.length ≤ 100 → ss.length ≤ 60 → ∃ x a b, AJ (Lq p f w (Gg ws.length ss.length)) (ws, ss, ([] : List Int), (0 : Int), (0 : Int)) = some (x, Nj x a b) ∧ AJ (Lt p f w) (ws, ss, ([] : List Int), ([] : List Int), ([] : List Int), (0 : Int)) = some (x, a, b) ∧ x.A5.length ≤ 1048576 ∧ x.A0.length ≤ 1048576 ∧ x.A8.length ≤ 1048576 := fun ws ss hwl hsl => by
  refine (G6 (F := Lq p f w (Gg ws.length ss.length)) (F' := Lt p f w) p.A7.length (fun k s s' => ∃ z : gM, s = (ws, ss, z.Ph, K0 z.H4.length z.PY.length, (k : Int)) ∧ s' = (ws, ss, z.Ph, z.H4, z.PY, (k : Int)) ∧ z.Ph.length ≤ k ∧ z.H4.length ≤ k ∧ z.PY.length ≤ k) (fun r r' => ∃ x a b, r = (x, Nj x a b) ∧ r' = (x, a, b) ∧ x.A5.length ≤ 1048576 ∧ x.A0.length ≤ 1048576 ∧ x.A8.length ≤ 1048576) (s0 := (ws, ss, ([] : List Int), (0 : Int), (0 : Int))) (s0' := (ws, ss, ([] : List Int), ([] : List Int), ([] : List Int), (0 : Int))) ⟨⟨[], [], []⟩, rfl, rfl, Nat.le_refl _, Nat.le_refl _, Nat.le_refl _⟩ (fun k s s' hk hs => ?_) (fun s s' hs => ?_)).elim fun r hr => ?_
  ·obtain ⟨z, rfl, rfl, hz⟩ := hs
   left
   obtain ⟨z', f1, f2, f3⟩ := Yk G F GW hk ws ss z hz
   unfold Lq Lt
   simp only [Bi hk, cond_true, hneeds, Option.bind_some, f1, f2]
   exact ⟨_, _, rfl, rfl, z', rfl, rfl, f3⟩
  ·obtain ⟨z, rfl, rfl, hz⟩ := hs
   unfold Lq Lt NL
   simp only [Bd, cond_false, Fg, Option.map_some]
   refine ⟨_, _, rfl, rfl, ⟨ws, ss, z.Ph⟩, z.H4, z.PY, ?_, rfl, by show ws.length ≤ _; omega, by show ss.length ≤ _; omega, by show z.Ph.length ≤ _; omega⟩
   unfold Nj
   cases (Gg ws.length ss.length == 0) <;> rfl
  ·obtain ⟨r', e1, e2, x, a, b, rfl, rfl, e3⟩ := hr
   exact ⟨x, a, b, e1, e2, e3⟩
 have h3 : ∀ ws : List Int, ws.length ≤ 100 → ∃ x a b, AJ (KF p f w) (ws, ([] : List Int), Me ws.length, (0 : Int)) = some (x, Nj x a b) ∧ AJ (KG p f w) (ws, ([] : List Int), (0 : Int)) = some (x, a, b) ∧ x.A5.length ≤ 1048576 ∧ x.A0.length ≤ 1048576 ∧ x.A8.length ≤ 1048576 := fun ws hwl => by
  refine (G6 (F := KF p f w) (F' := KG p f w) n (fun k s s' => ∃ ss : List Int, s = (ws, ss, Gg ws.length ss.length, (k : Int)) ∧ s' = (ws, ss, (k : Int)) ∧ ss.length ≤ k) (fun r r' => ∃ x a b, r = (x, Nj x a b) ∧ r' = (x, a, b) ∧ x.A5.length ≤ 1048576 ∧ x.A0.length ≤ 1048576 ∧ x.A8.length ≤ 1048576) (s0 := (ws, ([] : List Int), Me ws.length, (0 : Int))) (s0' := (ws, ([] : List Int), (0 : Int))) ⟨[], by unfold Me Gg; cases decide (0 < ws.length) <;> rfl, rfl, Nat.le_refl _⟩ (fun k s s' hk hs => ?_) (fun s s' hs => ?_)).elim fun r hr => ?_
  ·obtain ⟨ss, rfl, rfl, hss⟩ := hs
   left
   have hocc := IU F.kD (s := (k : Int)) (by omega)
   have hap : D5 8 ss [(k : Int)] = some (ss ++ [(k : Int)]) := DA (by simp only [List.length_singleton]; omega)
   obtain ⟨t, ht⟩ : ∃ t : Bool, t = (Ec f (k : Int) && ((w.A0.any fun y => decide ((k : Int) = y)) || (w.BY.any fun y => decide ((k : Int) = y)))) := ⟨_, rfl⟩
   have f1 : KF p f w (ws, ss, Gg ws.length ss.length, (k : Int)) = some (.inl (ws, (bif t then ss ++ [(k : Int)] else ss), Gg ws.length (bif t then ss ++ [(k : Int)] else ss).length, ((k + 1 : Nat) : Int))) := by
    unfold KF OH
    simp only [hn, Bi hk, cond_true, hocc, Option.bind_some, IS [(k : Int)] w.A0 (by simp only [List.length_singleton]; omega) (by omega), IS [(k : Int)] w.BY (by simp only [List.length_singleton]; omega) (by omega), List.any_cons, List.any_nil, Bool.or_false, hap, AS (show k < 9223372036854775807 by omega), ht]
    have hc4 : Gg ws.length (ss ++ [(k : Int)]).length = bif (Gg ws.length ss.length == 0) then 4 else Gg ws.length ss.length := by
     unfold Gg
     rw [show decide (0 < (ss ++ [(k : Int)]).length) = true by rw [decide_eq_true_eq, List.length_append, List.length_singleton]; omega]
     cases decide (0 < ws.length) <;> cases decide (0 < ss.length) <;> rfl
    cases Ec f (k : Int) with
    | false => rfl
    | true =>
     cases (w.A0.any fun y => decide ((k : Int) = y)) with
     | true =>
      simp only [cond_true, Bool.true_or, Bool.true_and, Option.bind_some, hc4]
      cases (Gg ws.length ss.length == 0) <;> rfl
     | false =>
      cases (w.BY.any fun y => decide ((k : Int) = y)) with
      | true =>
       simp only [cond_true, cond_false, Bool.false_or, Bool.true_and, Option.bind_some, hc4]
       cases (Gg ws.length ss.length == 0) <;> rfl
      | false => rfl
   have f2 : KG p f w (ws, ss, (k : Int)) = some (.inl (ws, (bif t then ss ++ [(k : Int)] else ss), ((k + 1 : Nat) : Int))) := by
    unfold KG RN
    simp only [hn, Bi hk, cond_true, hocc, Option.bind_some, Hi (show w.A0.length ≤ 1048576 by omega), Hi (show w.BY.length ≤ 1048576 by omega), hap, AS (show k < 9223372036854775807 by omega), ht]
    cases Ec f (k : Int) <;> cases (w.A0.any fun y => decide ((k : Int) = y)) <;> cases (w.BY.any fun y => decide ((k : Int) = y)) <;> rfl
   exact ⟨_, _, f1, f2, _, rfl, rfl, LC _ _ _ _ hss⟩
  ·obtain ⟨ss, rfl, rfl, hss⟩ := hs
   obtain ⟨x, a, b, f1, f2, f3⟩ := h5 ws ss hwl (by omega)
   unfold KF KG
   simp only [hn, Bd, cond_false, f1, f2]
   exact ⟨_, _, rfl, rfl, x, a, b, rfl, rfl, f3⟩
  ·obtain ⟨r', e1, e2, x, a, b, rfl, rfl, e3⟩ := hr
   exact ⟨x, a, b, e1, e2, e3⟩
 unfold gS gT
 simp only [AK, hw, Option.bind_some]
 refine (G6 (F := Lp p f (i : Int) w) (F' := Ls p f (i : Int) w) p.A5.length (fun k s s' => ∃ ws : List Int, s = (ws, Me ws.length, (k : Int)) ∧ s' = (ws, (k : Int)) ∧ ws.length ≤ k) (fun r r' => ∃ x a b, r = (x, Nj x a b) ∧ r' = (x, a, b) ∧ x.A5.length ≤ 1048576 ∧ x.A0.length ≤ 1048576 ∧ x.A8.length ≤ 1048576) (s0 := (([] : List Int), (0 : Int), (0 : Int))) (s0' := (([] : List Int), (0 : Int))) ⟨[], rfl, rfl, Nat.le_refl _⟩ (fun k s s' hk hs => ?_) (fun s s' hs => ?_)).elim fun r hr => ?_
 ·obtain ⟨ws, rfl, rfl, hws⟩ := hs
  left
  obtain ⟨y, hy⟩ : ∃ y, p.A5[k]? = some y := ⟨_, List.getElem?_eq_getElem hk⟩
  obtain ⟨h, hh⟩ : ∃ h, f.A5[k]? = some h := ⟨_, List.getElem?_eq_getElem (show k < f.A5.length by omega)⟩
  obtain ⟨m1, m2, _, _, _⟩ := (G.dK k y hy).WS
  obtain ⟨row, b1, b2⟩ := Qu G hi hk
  have hap : D5 8 ws [(k : Int)] = some (ws ++ [(k : Int)]) := DA (by simp only [List.length_singleton]; omega)
  have hc3 : Me (ws ++ [(k : Int)]).length = 3 := by
   unfold Me
   rw [show decide (0 < (ws ++ [(k : Int)]).length) = true by rw [decide_eq_true_eq, List.length_append, List.length_singleton]; omega]
   rfl
  obtain ⟨t, ht⟩ : ∃ t : Bool, t = (((!decide (k = i)) && (h.State != (0:Int))) && (Ge p i k || ((w.A0.any fun x => y.BY.any fun z => decide (x = z)) || (w.BY.any fun x => y.A0.any fun z => decide (x = z))))) := ⟨_, rfl⟩
  have f1 : Lp p f (i : Int) w (ws, Me ws.length, (k : Int)) = some (.inl ((bif t then ws ++ [(k : Int)] else ws), Me (bif t then ws ++ [(k : Int)] else ws).length, ((k + 1 : Nat) : Int))) := by
   unfold Lp RK
   simp only [Bi hk, cond_true, PJ, AK, hy, hh, b1, b2, Option.bind_some, IS w.A0 y.BY (by omega) (by omega), IS w.BY y.A0 (by omega) (by omega), hap, AS (show k < 9223372036854775807 by omega), ht]
   cases decide (k = i) <;> cases (h.State != (0:Int)) <;> cases Ge p i k <;> cases (w.A0.any fun x => y.BY.any fun z => decide (x = z)) <;> cases (w.BY.any fun x => y.A0.any fun z => decide (x = z)) <;> first | rfl | (simp only [Bool.not_false, Bool.and_self, Bool.or_self, Bool.or_true, Bool.true_or, Bool.true_and, cond_true, cond_false, Option.bind_some, hc3])
  have f2 : Ls p f (i : Int) w (ws, (k : Int)) = some (.inl ((bif t then ws ++ [(k : Int)] else ws), ((k + 1 : Nat) : Int))) := by
   unfold Ls RM
   simp only [hfl, Bi hk, cond_true, PJ, AK, hy, hh, b1, b2, Option.bind_some, Jd w.A0 y.BY (by omega) (by omega), Jd w.BY y.A0 (by omega) (by omega), hap, AS (show k < 9223372036854775807 by omega), ht]
   cases decide (k = i) <;> cases (h.State != (0:Int)) <;> cases Ge p i k <;> cases (w.A0.any fun x => y.BY.any fun z => decide (x = z)) <;> cases (w.BY.any fun x => y.A0.any fun z => decide (x = z)) <;> rfl
  exact ⟨_, _, f1, f2, _, rfl, rfl, LC _ _ _ _ hws⟩
 ·obtain ⟨ws, rfl, rfl, hws⟩ := hs
  obtain ⟨x, a, b, f1, f2, f3⟩ := h3 ws (by omega)
  unfold Lp Ls
  simp only [hfl, Bd, cond_false, f1, f2]
  exact ⟨_, _, rfl, rfl, x, a, b, rfl, rfl, f3⟩
 ·obtain ⟨r', e1, e2, x, a, b, rfl, rfl, e3⟩ := hr
  exact ⟨x, a, b, e1, e2, e3⟩
theorem k9 {p : AQ} {f : AE} {k : Int} (hx : NN p) (hxf : Kx f) (hxk : FO k) (hs : Fo p) (hsf : Eo f) : ∃ r, iS p f k = some r ∧ gQ p f k = some r ∧ Js r := by
 have nil : Js ⟨[], [], []⟩ := ⟨⟨by simp, fun _ _ => trivial⟩, ⟨by simp, fun _ _ => trivial⟩, ⟨by simp, fun _ _ => trivial⟩⟩
 obtain ⟨r, e1, e2, e3⟩ := UB hs hsf
 unfold iS gQ
 simp only [e1, e2, Option.bind_some, JF, ER]
 cases r with
 | false => exact ⟨_, rfl, rfl, nil⟩
 | true =>
  obtain ⟨G, F, _, _⟩ := e3 rfl
  have h100 := G.V6
  simp only [Bool.not_true, cond_false, Option.bind_some]
  rw [LB (by omega)]
  cases hc : (decide (k ≥ 0) && decide (k < (p.A5.length : Int))) with
  | false => exact ⟨_, rfl, rfl, nil⟩
  | true =>
   simp only [Bool.and_eq_true, decide_eq_true_eq] at hc
   obtain ⟨i, rfl⟩ : ∃ i : Nat, k = (i : Int) := ⟨k.toNat, by omega⟩
   obtain ⟨w, hw⟩ : ∃ w, p.A5[i]? = some w := ⟨_, List.getElem?_eq_getElem (show i < p.A5.length by omega)⟩
   obtain ⟨x, a, b, q1, q2, q3, q4, q5⟩ := Uz G F hw
   rw [q1, q2]
   exact ⟨x, rfl, rfl, ⟨q3, fun _ _ => trivial⟩, ⟨q4, fun _ _ => trivial⟩, ⟨q5, fun _ _ => trivial⟩⟩
def NS (x : Aa) (k : Int) : Aa := { Switch := k, EZ := k + 1 }
def CL (x : Aa) : Nat := 1 + (1)
def UX (x : Bu) (k : Int) : Bu := { A0 := BM VY (fun _ => 1) x.A0 k, AO := BM NS CL x.AO (k + ((Ar (fun _ => 1) x.A0 : Nat) : Int)), AB := BM NS CL x.AB (k + ((Ar (fun _ => 1) x.A0 : Nat) : Int) + ((Ar CL x.AO : Nat) : Int)), BY := BM VY (fun _ => 1) x.BY (k + ((Ar (fun _ => 1) x.A0 : Nat) : Int) + ((Ar CL x.AO : Nat) : Int) + ((Ar CL x.AB : Nat) : Int)), DF := BM VY (fun _ => 1) x.DF (k + ((Ar (fun _ => 1) x.A0 : Nat) : Int) + ((Ar CL x.AO : Nat) : Int) + ((Ar CL x.AB : Nat) : Int) + ((Ar (fun _ => 1) x.BY : Nat) : Int)) }
def Fe (x : Bu) : Nat := Ar (fun _ => 1) x.A0 + (Ar CL x.AO + (Ar CL x.AB + (Ar (fun _ => 1) x.BY + (Ar (fun _ => 1) x.DF))))
def aY (x : AQ) (k : Int) : AQ := { A0 := x.A0, A7 := BM VY (fun _ => 1) x.A7 k, A5 := BM UX Fe x.A5 (k + ((Ar (fun _ => 1) x.A7 : Nat) : Int)), BX := BM (BM fN (fun _ => 1)) (Ar (fun _ => 1)) x.BX (k + ((Ar (fun _ => 1) x.A7 : Nat) : Int) + ((Ar Fe x.A5 : Nat) : Int)), ED := x.ED }
def FN (x : AQ) : Nat := Ar (fun _ => 1) x.A7 + (Ar Fe x.A5 + (Ar (Ar (fun _ => 1)) x.BX))
theorem Gi {x : List Int} {k : Int} (hx : (Fu (fun _ => True)) x) (h0 : 0 ≤ k) (hb : k + ((Ar (fun _ => 1) x : Nat) : Int) ≤ 4611686018427387904) : Xk x k = some (BM VY (fun _ => 1) x k, k + ((Ar (fun _ => 1) x : Nat) : Int)) := by
 have hl := hx.1
 unfold Xk
 refine F7 (F := Nu) (fun xs k i => (xs, k, i)) VY (fun _ => 1) (fun _ => True) x.length (fun pre y post k hp h0 hb hn => ?_) (fun ys k hn => ?_) x [] k hx.2 h0 hb rfl
 ·have hlen := IP hn
  have hb' : k + ((1 : Nat) : Int) ≤ 4611686018427387904 := hb
  unfold Nu
  simp (disch := omega) only [KR, cond_true, Gp, IY, Option.bind_some, Ja]
  rw [show k + (((fun _ => 1) y : Nat) : Int) = k + 1 from by show k + ((1 : Nat) : Int) = _; omega]
  rfl
 ·unfold Nu
  simp only [← hn, Bd, cond_false, Option.map_some]
theorem Se {x : List Aa} {k : Int} (hx : (Fu (fun _ => True)) x) (h0 : 0 ≤ k) (hb : k + ((Ar CL x : Nat) : Int) ≤ 4611686018427387904) : gX x k = some (BM NS CL x k, k + ((Ar CL x : Nat) : Int)) := by
 have hl := hx.1
 unfold gX
 refine F7 (F := OT) (fun xs k i => (xs, k, i)) NS CL (fun _ => True) x.length (fun pre y post k hp h0 hb hn => ?_) (fun ys k hn => ?_) x [] k hx.2 h0 hb rfl
 ·have hlen := IP hn
  have hb' : k + ((1 + (1) : Nat) : Int) ≤ 4611686018427387904 := hb
  unfold OT
  simp (disch := omega) only [KR, cond_true, Gp, IY, Option.bind_some, Ja]
  rw [show k + ((CL y : Nat) : Int) = k + 1 + 1 from by show k + ((1 + (1) : Nat) : Int) = _; omega]
  rfl
 ·unfold OT
  simp only [← hn, Bd, cond_false, Option.map_some]
theorem Xn {x : List Bu} {k : Int} (hx : (Fu I1) x) (h0 : 0 ≤ k) (hb : k + ((Ar Fe x : Nat) : Int) ≤ 4611686018427387904) : jH x k = some (BM UX Fe x k, k + ((Ar Fe x : Nat) : Int)) := by
 have hl := hx.1
 unfold jH
 refine F7 (F := OB) (fun xs k i => (xs, k, i)) UX Fe I1 x.length (fun pre y post k hp h0 hb hn => ?_) (fun ys k hn => ?_) x [] k hx.2 h0 hb rfl
 ·have hlen := IP hn
  have hb' : k + ((Ar (fun _ => 1) y.A0 + (Ar CL y.AO + (Ar CL y.AB + (Ar (fun _ => 1) y.BY + (Ar (fun _ => 1) y.DF)))) : Nat) : Int) ≤ 4611686018427387904 := hb
  unfold OB
  simp (disch := omega) only [KR, cond_true, Gp, IY, Option.bind_some, Ja, Gi (x := y.A0) hp.1, Se (x := y.AO) hp.2.1, Se (x := y.AB) hp.2.2.1, Gi (x := y.BY) hp.2.2.2.1, Gi (x := y.DF) hp.2.2.2.2]
  rw [show k + ((Fe y : Nat) : Int) = k + ((Ar (fun _ => 1) y.A0 : Nat) : Int) + ((Ar CL y.AO : Nat) : Int) + ((Ar CL y.AB : Nat) : Int) + ((Ar (fun _ => 1) y.BY : Nat) : Int) + ((Ar (fun _ => 1) y.DF : Nat) : Int) from by show k + ((Ar (fun _ => 1) y.A0 + (Ar CL y.AO + (Ar CL y.AB + (Ar (fun _ => 1) y.BY + (Ar (fun _ => 1) y.DF)))) : Nat) : Int) = _; omega]
  rfl
 ·unfold OB
  simp only [← hn, Bd, cond_false, Option.map_some]
theorem OE {x : List Bool} {k : Int} (hx : (Fu (fun _ => True)) x) (h0 : 0 ≤ k) (hb : k + ((Ar (fun _ => 1) x : Nat) : Int) ≤ 4611686018427387904) : eL x k = some (BM fN (fun _ => 1) x k, k + ((Ar (fun _ => 1) x : Nat) : Int)) := by
 have hl := hx.1
 unfold eL
 refine F7 (F := OD) (fun xs k i => (xs, k, i)) fN (fun _ => 1) (fun _ => True) x.length (fun pre y post k hp h0 hb hn => ?_) (fun ys k hn => ?_) x [] k hx.2 h0 hb rfl
 ·have hlen := IP hn
  have hb' : k + ((1 : Nat) : Int) ≤ 4611686018427387904 := hb
  unfold OD
  simp (disch := omega) only [KR, cond_true, Gp, IY, Option.bind_some, Ja]
  rw [show k + (((fun _ => 1) y : Nat) : Int) = k + 1 from by show k + ((1 : Nat) : Int) = _; omega]
  rfl
 ·unfold OD
  simp only [← hn, Bd, cond_false, Option.map_some]
theorem Xo {x : List (List Bool)} {k : Int} (hx : (Fu (Fu (fun _ => True))) x) (h0 : 0 ≤ k) (hb : k + ((Ar (Ar (fun _ => 1)) x : Nat) : Int) ≤ 4611686018427387904) : jI x k = some (BM (BM fN (fun _ => 1)) (Ar (fun _ => 1)) x k, k + ((Ar (Ar (fun _ => 1)) x : Nat) : Int)) := by
 have hl := hx.1
 unfold jI
 refine F7 (F := OC) (fun xs k i => (xs, k, i)) (BM fN (fun _ => 1)) (Ar (fun _ => 1)) (Fu (fun _ => True)) x.length (fun pre y post k hp h0 hb hn => ?_) (fun ys k hn => ?_) x [] k hx.2 h0 hb rfl
 ·have hlen := IP hn
  have hb' : k + ((Ar (fun _ => 1) y : Nat) : Int) ≤ 4611686018427387904 := hb
  unfold OC
  simp (disch := omega) only [KR, cond_true, Gp, IY, Option.bind_some, Ja, OE (x := y) hp]
  rw [show k + (((Ar (fun _ => 1)) y : Nat) : Int) = k + ((Ar (fun _ => 1) y : Nat) : Int) from by show k + ((Ar (fun _ => 1) y : Nat) : Int) = _; omega]
  rfl
 ·unfold OC
  simp only [← hn, Bd, cond_false, Option.map_some]
theorem Xi {x : AQ} {k : Int} (hx : Fo x) (h0 : 0 ≤ k) (hb : k + ((FN x : Nat) : Int) ≤ 4611686018427387904) : iQ x k = some (aY x k, k + ((FN x : Nat) : Int)) := by
 unfold FN at hb
 unfold iQ
 rw [Gi (x := x.A7) (k := k) hx.1 (by omega) (by omega), Option.bind_some]
 dsimp only
 rw [Xn (x := x.A5) (k := k + ((Ar (fun _ => 1) x.A7 : Nat) : Int)) hx.2.1 (by omega) (by omega), Option.bind_some]
 dsimp only
 rw [Xo (x := x.BX) (k := k + ((Ar (fun _ => 1) x.A7 : Nat) : Int) + ((Ar Fe x.A5 : Nat) : Int)) hx.2.2 (by omega) (by omega), Option.bind_some]
 dsimp only
 rw [show k + ((FN x : Nat) : Int) = k + ((Ar (fun _ => 1) x.A7 : Nat) : Int) + ((Ar Fe x.A5 : Nat) : Int) + ((Ar (Ar (fun _ => 1)) x.BX : Nat) : Int) from by unfold FN; omega]
 rfl
theorem Nf (x : Aa) (hx : (fun _ => True) x) : CL x ≤ 2 := by
 unfold CL
 omega
theorem W4 (x : Bu) (hx : I1 x) : Fe x ≤ 7340032 := by
 unfold Fe
 have h0 : (Ar (fun _ => 1)) x.A0 ≤ 1048576 := by
  have h := (fun _ hx => DV (p := (fun _ => True)) (fun _ _ => Nat.le_refl 1) hx.1 hx.2) x.A0 hx.1
  exact h
 have h1 : (Ar CL) x.AO ≤ 2097152 := by
  have h := (fun _ hx => DV (p := (fun _ => True)) Nf hx.1 hx.2) x.AO hx.2.1
  exact h
 have h2 : (Ar CL) x.AB ≤ 2097152 := by
  have h := (fun _ hx => DV (p := (fun _ => True)) Nf hx.1 hx.2) x.AB hx.2.2.1
  exact h
 have h3 : (Ar (fun _ => 1)) x.BY ≤ 1048576 := by
  have h := (fun _ hx => DV (p := (fun _ => True)) (fun _ _ => Nat.le_refl 1) hx.1 hx.2) x.BY hx.2.2.2.1
  exact h
 have h4 : (Ar (fun _ => 1)) x.DF ≤ 1048576 := by
  have h := (fun _ hx => DV (p := (fun _ => True)) (fun _ _ => Nat.le_refl 1) hx.1 hx.2) x.DF hx.2.2.2.2
  exact h
 omega
theorem Tp (x : AQ) (hx : Fo x) : FN x ≤ 8796094070784 := by
 unfold FN
 have h0 : (Ar (fun _ => 1)) x.A7 ≤ 1048576 := by
  have h := (fun _ hx => DV (p := (fun _ => True)) (fun _ _ => Nat.le_refl 1) hx.1 hx.2) x.A7 hx.1
  exact h
 have h1 : (Ar Fe) x.A5 ≤ 7696581394432 := by
  have h := (fun _ hx => DV (p := I1) W4 hx.1 hx.2) x.A5 hx.2.1
  exact h
 have h2 : (Ar (Ar (fun _ => 1))) x.BX ≤ 1099511627776 := by
  have h := (fun _ hx => DV (p := (Fu (fun _ => True))) (fun _ hx => DV (p := (fun _ => True)) (fun _ _ => Nat.le_refl 1) hx.1 hx.2) hx.1 hx.2) x.BX hx.2.2
  exact h
 omega
def PG (x : Am) (k : Int) : Am := { Want := k, AO := k + 1 }
def DZ (x : Am) : Nat := 1 + (1)
def Rp (x : AH) (k : Int) : AH := { State := k, Ac := k + 1, Ab := BM fN (fun _ => 1) x.Ab (k + 1 + 1), Shown := (Int.tmod (k + 1 + 1 + ((Ar (fun _ => 1) x.Ab : Nat) : Int)) 3 == 0), Timer := k + 1 + 1 + ((Ar (fun _ => 1) x.Ab : Nat) : Int) + 1 }
def FL (x : AH) : Nat := 1 + (1 + (Ar (fun _ => 1) x.Ab + (1 + (1))))
def YM (x : AE) (k : Int) : AE := { Ok := x.Ok, C9 := BM fN (fun _ => 1) x.C9 k, A8 := BM PG DZ x.A8 (k + ((Ar (fun _ => 1) x.C9 : Nat) : Int)), A5 := BM Rp FL x.A5 (k + ((Ar (fun _ => 1) x.C9 : Nat) : Int) + ((Ar DZ x.A8 : Nat) : Int)) }
def FM (x : AE) : Nat := Ar (fun _ => 1) x.C9 + (Ar DZ x.A8 + (Ar FL x.A5))
theorem Xp {x : List Am} {k : Int} (hx : (Fu (fun _ => True)) x) (h0 : 0 ≤ k) (hb : k + ((Ar DZ x : Nat) : Int) ≤ 4611686018427387904) : jJ x k = some (BM PG DZ x k, k + ((Ar DZ x : Nat) : Int)) := by
 have hl := hx.1
 unfold jJ
 refine F7 (F := OF) (fun xs k i => (xs, k, i)) PG DZ (fun _ => True) x.length (fun pre y post k hp h0 hb hn => ?_) (fun ys k hn => ?_) x [] k hx.2 h0 hb rfl
 ·have hlen := IP hn
  have hb' : k + ((1 + (1) : Nat) : Int) ≤ 4611686018427387904 := hb
  unfold OF
  simp (disch := omega) only [KR, cond_true, Gp, IY, Option.bind_some, Ja]
  rw [show k + ((DZ y : Nat) : Int) = k + 1 + 1 from by show k + ((1 + (1) : Nat) : Int) = _; omega]
  rfl
 ·unfold OF
  simp only [← hn, Bd, cond_false, Option.map_some]
theorem Xq {x : List AH} {k : Int} (hx : (Fu GH) x) (h0 : 0 ≤ k) (hb : k + ((Ar FL x : Nat) : Int) ≤ 4611686018427387904) : jK x k = some (BM Rp FL x k, k + ((Ar FL x : Nat) : Int)) := by
 have hl := hx.1
 unfold jK
 refine F7 (F := OG) (fun xs k i => (xs, k, i)) Rp FL GH x.length (fun pre y post k hp h0 hb hn => ?_) (fun ys k hn => ?_) x [] k hx.2 h0 hb rfl
 ·have hlen := IP hn
  have hb' : k + ((1 + (1 + (Ar (fun _ => 1) y.Ab + (1 + (1)))) : Nat) : Int) ≤ 4611686018427387904 := hb
  unfold OG
  simp (disch := omega) only [KR, cond_true, Gp, IY, Option.bind_some, Ja, OE (x := y.Ab) hp]
  rw [show k + ((FL y : Nat) : Int) = k + 1 + 1 + ((Ar (fun _ => 1) y.Ab : Nat) : Int) + 1 + 1 from by show k + ((1 + (1 + (Ar (fun _ => 1) y.Ab + (1 + (1)))) : Nat) : Int) = _; omega]
  rfl
 ·unfold OG
  simp only [← hn, Bd, cond_false, Option.map_some]
theorem Xj {x : AE} {k : Int} (hx : Eo x) (h0 : 0 ≤ k) (hb : k + ((FM x : Nat) : Int) ≤ 4611686018427387904) : iR x k = some (YM x k, k + ((FM x : Nat) : Int)) := by
 unfold FM at hb
 unfold iR
 rw [OE (x := x.C9) (k := k) hx.1 (by omega) (by omega), Option.bind_some]
 dsimp only
 rw [Xp (x := x.A8) (k := k + ((Ar (fun _ => 1) x.C9 : Nat) : Int)) hx.2.1 (by omega) (by omega), Option.bind_some]
 dsimp only
 rw [Xq (x := x.A5) (k := k + ((Ar (fun _ => 1) x.C9 : Nat) : Int) + ((Ar DZ x.A8 : Nat) : Int)) hx.2.2 (by omega) (by omega), Option.bind_some]
 dsimp only
 rw [show k + ((FM x : Nat) : Int) = k + ((Ar (fun _ => 1) x.C9 : Nat) : Int) + ((Ar DZ x.A8 : Nat) : Int) + ((Ar FL x.A5 : Nat) : Int) from by unfold FM; omega]
 rfl
theorem SL (x : Am) (hx : (fun _ => True) x) : DZ x ≤ 2 := by
 unfold DZ
 omega
theorem Tm (x : AH) (hx : GH x) : FL x ≤ 1048580 := by
 unfold FL
 have h0 : (Ar (fun _ => 1)) x.Ab ≤ 1048576 := by
  have h := (fun _ hx => DV (p := (fun _ => True)) (fun _ _ => Nat.le_refl 1) hx.1 hx.2) x.Ab hx
  exact h
 omega
theorem SM (x : AE) (hx : Eo x) : FM x ≤ 1099518967808 := by
 unfold FM
 have h0 : (Ar (fun _ => 1)) x.C9 ≤ 1048576 := by
  have h := (fun _ hx => DV (p := (fun _ => True)) (fun _ _ => Nat.le_refl 1) hx.1 hx.2) x.C9 hx.1
  exact h
 have h1 : (Ar DZ) x.A8 ≤ 2097152 := by
  have h := (fun _ hx => DV (p := (fun _ => True)) SL hx.1 hx.2) x.A8 hx.2.1
  exact h
 have h2 : (Ar FL) x.A5 ≤ 1099515822080 := by
  have h := (fun _ hx => DV (p := GH) Tm hx.1 hx.2) x.A5 hx.2.2
  exact h
 omega
def PH (x : BE) (k : Int) : BE := { A5 := BM VY (fun _ => 1) x.A5 k, A0 := BM VY (fun _ => 1) x.A0 (k + ((Ar (fun _ => 1) x.A5 : Nat) : Int)), A8 := BM VY (fun _ => 1) x.A8 (k + ((Ar (fun _ => 1) x.A5 : Nat) : Int) + ((Ar (fun _ => 1) x.A0 : Nat) : Int)) }
def DH (x : BE) : Nat := Ar (fun _ => 1) x.A5 + (Ar (fun _ => 1) x.A0 + (Ar (fun _ => 1) x.A8))
theorem Xl {x : BE} {k : Int} (hx : Js x) (h0 : 0 ≤ k) (hb : k + ((DH x : Nat) : Int) ≤ 4611686018427387904) : iT x k = some (PH x k, k + ((DH x : Nat) : Int)) := by
 unfold DH at hb
 unfold iT
 rw [Gi (x := x.A5) (k := k) hx.1 (by omega) (by omega), Option.bind_some]
 dsimp only
 rw [Gi (x := x.A0) (k := k + ((Ar (fun _ => 1) x.A5 : Nat) : Int)) hx.2.1 (by omega) (by omega), Option.bind_some]
 dsimp only
 rw [Gi (x := x.A8) (k := k + ((Ar (fun _ => 1) x.A5 : Nat) : Int) + ((Ar (fun _ => 1) x.A0 : Nat) : Int)) hx.2.2 (by omega) (by omega), Option.bind_some]
 dsimp only
 rw [show k + ((DH x : Nat) : Int) = k + ((Ar (fun _ => 1) x.A5 : Nat) : Int) + ((Ar (fun _ => 1) x.A0 : Nat) : Int) + ((Ar (fun _ => 1) x.A8 : Nat) : Int) from by unfold DH; omega]
 rfl
theorem SN (x : BE) (hx : Js x) : DH x ≤ 3145728 := by
 unfold DH
 have h0 : (Ar (fun _ => 1)) x.A5 ≤ 1048576 := by
  have h := (fun _ hx => DV (p := (fun _ => True)) (fun _ _ => Nat.le_refl 1) hx.1 hx.2) x.A5 hx.1
  exact h
 have h1 : (Ar (fun _ => 1)) x.A0 ≤ 1048576 := by
  have h := (fun _ hx => DV (p := (fun _ => True)) (fun _ _ => Nat.le_refl 1) hx.1 hx.2) x.A0 hx.2.1
  exact h
 have h2 : (Ar (fun _ => 1)) x.A8 ≤ 1048576 := by
  have h := (fun _ hx => DV (p := (fun _ => True)) (fun _ _ => Nat.le_refl 1) hx.1 hx.2) x.A8 hx.2.2
  exact h
 omega
theorem Nw {x : List Int} {k : Int} (hx : (Fu (fun _ => True)) x) (h0 : 0 ≤ k) (hb : k + ((Ar (fun _ => 1) x : Nat) : Int) ≤ 4611686018427387904) : dX (BM VY (fun _ => 1) x k) k = some (k + ((Ar (fun _ => 1) x : Nat) : Int)) := by
 have hl := hx.1
 unfold dX
 refine QH (F := Nv (BM VY (fun _ => 1) x k)) (fun k i => (k, i)) VY (fun _ => 1) (fun _ => True) (BM VY (fun _ => 1) x k) (fun i y k hp h0 hb hy => ?_) (fun k2 => ?_) x [] k rfl hx.2 h0 hb
 ·have hlen := Bs hy
  have hlt := Bi hlen
  rw [Mm] at hlen
  have hb' : k + ((1 : Nat) : Int) ≤ 4611686018427387904 := hb
  unfold Nv
  simp (disch := omega) only [hlt, cond_true, AK, hy, Option.bind_some, VY, bne_self_eq_false, beq_self_eq_true, Bool.not_true, cond_false, Ja, fL]
  rw [show k + (((fun _ => 1) y : Nat) : Int) = k + 1 from by show k + ((1 : Nat) : Int) = _; omega]
  rfl
 ·unfold Nv
  simp only [Bd, cond_false, Option.map_some]
theorem Xm {x : BE} {k : Int} (hx : Js x) (h0 : 0 ≤ k) (hb : k + ((DH x : Nat) : Int) ≤ 4611686018427387904) : gR (PH x k) k = some (k + ((DH x : Nat) : Int)) := by
 unfold DH at hb
 unfold gR PH
 dsimp only
 rw [Nw (x := x.A5) (k := k) hx.1 (by omega) (by omega), Option.bind_some, fL (by omega), cond_false]
 rw [Nw (x := x.A0) (k := k + ((Ar (fun _ => 1) x.A5 : Nat) : Int)) hx.2.1 (by omega) (by omega), Option.bind_some, fL (by omega), cond_false]
 rw [Nw (x := x.A8) (k := k + ((Ar (fun _ => 1) x.A5 : Nat) : Int) + ((Ar (fun _ => 1) x.A0 : Nat) : Int)) hx.2.2 (by omega) (by omega), Option.bind_some, fL (by omega), cond_false]
 rw [show k + ((DH x : Nat) : Int) = k + ((Ar (fun _ => 1) x.A5 : Nat) : Int) + ((Ar (fun _ => 1) x.A0 : Nat) : Int) + ((Ar (fun _ => 1) x.A8 : Nat) : Int) from by unfold DH; omega]
theorem mQ (aAP0 : AQ) (aAF1 : AE) (aAWay2 : Int) (haAP0 : NN aAP0) (haAF1 : Kx aAF1) (haAWay2 : FO aAWay2) : f4 aAP0 aAF1 aAWay2 = some true := by
 unfold f4
 obtain ⟨v0, e0, a0, b0⟩ := jL (x := aAP0) (left := 1048576) (by omega) (by omega) haAP0
 rw [e0, Option.bind_some]
 rcases Bool.eq_false_or_eq_true (decide (v0 < (0 : Int))) with hb0 | hb0
 ·rw [hb0]; rfl
 rw [hb0, cond_false]; simp only [decide_eq_false_iff_not] at hb0
 have saAP0 := b0.resolve_left hb0
 obtain ⟨v1, e1, a1, b1⟩ := jS (x := aAF1) (left := v0) (by omega) (by omega) haAF1
 rw [e1, Option.bind_some]
 rcases Bool.eq_false_or_eq_true (decide (v1 < (0 : Int))) with hb1 | hb1
 ·rw [hb1]; rfl
 rw [hb1, cond_false]; simp only [decide_eq_false_iff_not] at hb1
 have saAF1 := b1.resolve_left hb1
 obtain ⟨r, m1, m2, m3⟩ := k9 haAP0 haAF1 haAWay2 saAP0 saAF1
 have u0 : FN aAP0 ≤ 8796094070784 := by
  have h := Tp aAP0 saAP0
  exact h
 have k0 := Xi (x := aAP0) (k := (1 : Int)) saAP0 (by omega) (by omega)
 have u1 : FM aAF1 ≤ 1099518967808 := by
  have h := SM aAF1 saAF1
  exact h
 have k1 := Xj (x := aAF1) (k := (1 : Int) + ((FN aAP0 : Nat) : Int)) saAF1 (by omega) (by omega)
 have u2 : DH r ≤ 3145728 := by
  have h := SN r m3
  exact h
 have k2 := Xl (x := r) (k := (1 : Int)) m3 (by omega) (by omega)
 have j2 := Xm (x := r) (k := (1 : Int)) m3 (by omega) (by omega)
 simp only [jY (x := aAP0) saAP0, dU (x := aAF1) saAF1, dV (x := aAP0) saAP0, dW (x := aAF1) saAF1, dZ (x := r) m3, k0, fL (show (0:Int) ≤ (1 : Int) + ((FN aAP0 : Nat) : Int) by omega), k1, fL (show (0:Int) ≤ (1 : Int) + ((FN aAP0 : Nat) : Int) + ((FM aAF1 : Nat) : Int) by omega), k2, fL (show (0:Int) ≤ (1 : Int) + ((DH r : Nat) : Int) by omega), j2, Option.bind_some, m1, m2, bne_self_eq_false, beq_self_eq_true, Bool.not_true, cond_false]
end
end Go.Proofs.YtphpkphklegfeaaGreat.K

