/-
 The plain part of the law FnExactPointLock: on typed values it returns true at every input. No conditions.
-/
import Derived.Test.YtphpkphklegfeaaGreatDPt
set_option linter.unusedVariables false
set_option linter.unusedSimpArgs false
set_option maxRecDepth 100000
namespace Go.Proofs.YtphpkphklegfeaaGreat.K
noncomputable section
open Go.ChangeShapes Go.WideShapes Go.ChangeAt Go.RowKit
abbrev KZ (x : Ae) : Prop := FJ x.Switch ∧ FJ x.FC
abbrev LS (x : Bq) : Prop := (Co FJ) x.A0 ∧ (Co KZ) x.AQ ∧ (Co KZ) x.AH ∧ (Co FJ) x.Bt ∧ (Co FJ) x.DB
abbrev Hl (x : Bq) : Prop := (Fz (fun _ => True)) x.A0 ∧ (Fz (fun _ => True)) x.AQ ∧ (Fz (fun _ => True)) x.AH ∧ (Fz (fun _ => True)) x.Bt ∧ (Fz (fun _ => True)) x.DB
abbrev Mm (x : AP) : Prop := FJ x.A0 ∧ (Co FJ) x.A6 ∧ (Co LS) x.A7 ∧ (Co (Co (fun _ => True))) x.BV ∧ FJ x.E8
abbrev Fg (x : AP) : Prop := (Fz (fun _ => True)) x.A6 ∧ (Fz Hl) x.A7 ∧ (Fz (Fz (fun _ => True))) x.BV
abbrev KY (x : Al) : Prop := FJ x.Want ∧ FJ x.AQ
abbrev JO (x : AG) : Prop := FJ x.State ∧ FJ x.Ab ∧ (Co (fun _ => True)) x.Aa ∧ (fun _ => True) x.Shown ∧ FJ x.Timer
abbrev KX (x : AD) : Prop := (fun _ => True) x.Ok ∧ (Co (fun _ => True)) x.C5 ∧ (Co KY) x.AF ∧ (Co JO) x.A7
abbrev GA (x : AG) : Prop := (Fz (fun _ => True)) x.Aa
abbrev Eh (x : AD) : Prop := (Fz (fun _ => True)) x.C5 ∧ (Fz (fun _ => True)) x.AF ∧ (Fz GA) x.A7
theorem Xx : FD Tryz.prog 3 Int FJ := Vu Tryz.underlying3
theorem Zw : FD Tryz.prog 22 (List Int) (Co FJ) := EH Tryz.underlying22 rfl Xx
theorem jD : FD Tryz.prog 151 Ae KZ := by
 intro K enc W sp fuel cs d ps h
 obtain ⟨fu, hl, hf⟩ := Ez Tryz.underlying151 h
 have hl : cs.length = 2 := hl
 obtain ⟨_, _, h0⟩ := hf _ (List.Mem.head _)
 obtain ⟨x0, r0, g0⟩ := Xx _ _ _ _ _ _ _ h0
 obtain ⟨_, _, h1⟩ := hf _ (List.Mem.tail _ (List.Mem.head _))
 obtain ⟨x1, r1, g1⟩ := Xx _ _ _ _ _ _ _ h1
 exact ⟨⟨x0, x1⟩, Rs (off := 0) (sz := 1) r0 (JP (sz := 1) hl r1), g0, g1⟩
theorem bI : FD Tryz.prog 105 (List Ae) (Co KZ) := EH Tryz.underlying105 rfl jD
theorem jA : FD Tryz.prog 107 Bq LS := by
 intro K enc W sp fuel cs d ps h
 obtain ⟨fu, hl, hf⟩ := Ez Tryz.underlying107 h
 have hl : cs.length = 5 := hl
 obtain ⟨_, _, h0⟩ := hf _ (List.Mem.head _)
 obtain ⟨x0, r0, g0⟩ := Zw _ _ _ _ _ _ _ h0
 obtain ⟨_, _, h1⟩ := hf _ (List.Mem.tail _ (List.Mem.head _))
 obtain ⟨x1, r1, g1⟩ := bI _ _ _ _ _ _ _ h1
 obtain ⟨_, _, h2⟩ := hf _ (List.Mem.tail _ (List.Mem.tail _ (List.Mem.head _)))
 obtain ⟨x2, r2, g2⟩ := bI _ _ _ _ _ _ _ h2
 obtain ⟨_, _, h3⟩ := hf _ (List.Mem.tail _ (List.Mem.tail _ (List.Mem.tail _ (List.Mem.head _))))
 obtain ⟨x3, r3, g3⟩ := Zw _ _ _ _ _ _ _ h3
 obtain ⟨_, _, h4⟩ := hf _ (List.Mem.tail _ (List.Mem.tail _ (List.Mem.tail _ (List.Mem.tail _ (List.Mem.head _)))))
 obtain ⟨x4, r4, g4⟩ := Zw _ _ _ _ _ _ _ h4
 exact ⟨⟨x0, x1, x2, x3, x4⟩, Rs (off := 0) (sz := 1) r0 (Rs (off := 1) (sz := 1) r1 (Rs (off := 2) (sz := 1) r2 (Rs (off := 3) (sz := 1) r3 (JP (sz := 1) hl r4)))), g0, g1, g2, g3, g4⟩
theorem lN : FD Tryz.prog 23 (List Bq) (Co LS) := EH Tryz.underlying23 rfl jA
theorem lT : FD Tryz.prog 4 Bool (fun _ => True) := U1 Tryz.underlying4
theorem e9 : FD Tryz.prog 27 (List Bool) (Co (fun _ => True)) := EH Tryz.underlying27 rfl lT
theorem lO : FD Tryz.prog 24 (List (List Bool)) (Co (Co (fun _ => True))) := EH Tryz.underlying24 rfl e9
theorem lP : FD Tryz.prog 26 AP Mm := by
 intro K enc W sp fuel cs d ps h
 obtain ⟨fu, hl, hf⟩ := Ez Tryz.underlying26 h
 have hl : cs.length = 5 := hl
 obtain ⟨_, _, h0⟩ := hf _ (List.Mem.head _)
 obtain ⟨x0, r0, g0⟩ := Xx _ _ _ _ _ _ _ h0
 obtain ⟨_, _, h1⟩ := hf _ (List.Mem.tail _ (List.Mem.head _))
 obtain ⟨x1, r1, g1⟩ := Zw _ _ _ _ _ _ _ h1
 obtain ⟨_, _, h2⟩ := hf _ (List.Mem.tail _ (List.Mem.tail _ (List.Mem.head _)))
 obtain ⟨x2, r2, g2⟩ := lN _ _ _ _ _ _ _ h2
 obtain ⟨_, _, h3⟩ := hf _ (List.Mem.tail _ (List.Mem.tail _ (List.Mem.tail _ (List.Mem.head _))))
 obtain ⟨x3, r3, g3⟩ := lO _ _ _ _ _ _ _ h3
 obtain ⟨_, _, h4⟩ := hf _ (List.Mem.tail _ (List.Mem.tail _ (List.Mem.tail _ (List.Mem.tail _ (List.Mem.head _)))))
 obtain ⟨x4, r4, g4⟩ := Xx _ _ _ _ _ _ _ h4
 exact ⟨⟨x0, x1, x2, x3, x4⟩, Rs (off := 0) (sz := 1) r0 (Rs (off := 1) (sz := 1) r1 (Rs (off := 2) (sz := 1) r2 (Rs (off := 3) (sz := 1) r3 (JP (sz := 1) hl r4)))), g0, g1, g2, g3, g4⟩
theorem jC : FD Tryz.prog 118 Al KY := by
 intro K enc W sp fuel cs d ps h
 obtain ⟨fu, hl, hf⟩ := Ez Tryz.underlying118 h
 have hl : cs.length = 2 := hl
 obtain ⟨_, _, h0⟩ := hf _ (List.Mem.head _)
 obtain ⟨x0, r0, g0⟩ := Xx _ _ _ _ _ _ _ h0
 obtain ⟨_, _, h1⟩ := hf _ (List.Mem.tail _ (List.Mem.head _))
 obtain ⟨x1, r1, g1⟩ := Xx _ _ _ _ _ _ _ h1
 exact ⟨⟨x0, x1⟩, Rs (off := 0) (sz := 1) r0 (JP (sz := 1) hl r1), g0, g1⟩
theorem lQ : FD Tryz.prog 28 (List Al) (Co KY) := EH Tryz.underlying28 rfl jC
theorem jB : FD Tryz.prog 109 AG JO := by
 intro K enc W sp fuel cs d ps h
 obtain ⟨fu, hl, hf⟩ := Ez Tryz.underlying109 h
 have hl : cs.length = 5 := hl
 obtain ⟨_, _, h0⟩ := hf _ (List.Mem.head _)
 obtain ⟨x0, r0, g0⟩ := Xx _ _ _ _ _ _ _ h0
 obtain ⟨_, _, h1⟩ := hf _ (List.Mem.tail _ (List.Mem.head _))
 obtain ⟨x1, r1, g1⟩ := Xx _ _ _ _ _ _ _ h1
 obtain ⟨_, _, h2⟩ := hf _ (List.Mem.tail _ (List.Mem.tail _ (List.Mem.head _)))
 obtain ⟨x2, r2, g2⟩ := e9 _ _ _ _ _ _ _ h2
 obtain ⟨_, _, h3⟩ := hf _ (List.Mem.tail _ (List.Mem.tail _ (List.Mem.tail _ (List.Mem.head _))))
 obtain ⟨x3, r3, g3⟩ := lT _ _ _ _ _ _ _ h3
 obtain ⟨_, _, h4⟩ := hf _ (List.Mem.tail _ (List.Mem.tail _ (List.Mem.tail _ (List.Mem.tail _ (List.Mem.head _)))))
 obtain ⟨x4, r4, g4⟩ := Xx _ _ _ _ _ _ _ h4
 exact ⟨⟨x0, x1, x2, x3, x4⟩, Rs (off := 0) (sz := 1) r0 (Rs (off := 1) (sz := 1) r1 (Rs (off := 2) (sz := 1) r2 (Rs (off := 3) (sz := 1) r3 (JP (sz := 1) hl r4)))), g0, g1, g2, g3, g4⟩
theorem lR : FD Tryz.prog 29 (List AG) (Co JO) := EH Tryz.underlying29 rfl jB
theorem lS : FD Tryz.prog 31 AD KX := by
 intro K enc W sp fuel cs d ps h
 obtain ⟨fu, hl, hf⟩ := Ez Tryz.underlying31 h
 have hl : cs.length = 4 := hl
 obtain ⟨_, _, h0⟩ := hf _ (List.Mem.head _)
 obtain ⟨x0, r0, g0⟩ := lT _ _ _ _ _ _ _ h0
 obtain ⟨_, _, h1⟩ := hf _ (List.Mem.tail _ (List.Mem.head _))
 obtain ⟨x1, r1, g1⟩ := e9 _ _ _ _ _ _ _ h1
 obtain ⟨_, _, h2⟩ := hf _ (List.Mem.tail _ (List.Mem.tail _ (List.Mem.head _)))
 obtain ⟨x2, r2, g2⟩ := lQ _ _ _ _ _ _ _ h2
 obtain ⟨_, _, h3⟩ := hf _ (List.Mem.tail _ (List.Mem.tail _ (List.Mem.tail _ (List.Mem.head _))))
 obtain ⟨x3, r3, g3⟩ := lR _ _ _ _ _ _ _ h3
 exact ⟨⟨x0, x1, x2, x3⟩, Rs (off := 0) (sz := 1) r0 (Rs (off := 1) (sz := 1) r1 (Rs (off := 2) (sz := 1) r2 (JP (sz := 1) hl r3))), g0, g1, g2, g3⟩
theorem QM {x : List Int} {left : Int} (h0 : 0 ≤ left) (h1 : left ≤ 1048576) (hx : (Co FJ) x) : ∃ v, aT x left = some v ∧ v ≤ left ∧ (v < 0 ∨ (Fz (fun _ => True)) x) := by
 unfold aT
 obtain ⟨v, e1, e2, e3⟩ := Mv (xs := x) h0 h1 hx.1
 exact ⟨v, e1, e2, e3.imp id fun h => ⟨h.1, fun _ _ => trivial⟩⟩
theorem US {x : List Ae} {left : Int} (h0 : 0 ≤ left) (h1 : left ≤ 1048576) (hx : (Co KZ) x) : ∃ v, VO x left = some v ∧ v ≤ left ∧ (v < 0 ∨ (Fz (fun _ => True)) x) := by
 unfold VO
 obtain ⟨v, e1, e2, e3⟩ := Mv (xs := x) h0 h1 hx.1
 exact ⟨v, e1, e2, e3.imp id fun h => ⟨h.1, fun _ _ => trivial⟩⟩
theorem cX {x : Bq} {left : Int} (h0 : 0 ≤ left) (h1 : left ≤ 1048576) (hx : LS x) : ∃ v, eZ x left = some v ∧ v ≤ left ∧ (v < 0 ∨ Hl x) := by
 unfold eZ
 obtain ⟨v0, e0, a0, b0⟩ := QM (x := x.A0) (left := left) (by omega) (by omega) hx.1
 rw [e0, Option.bind_some]
 rcases Bool.eq_false_or_eq_true (decide (v0 < (0 : Int))) with hb0 | hb0
 ·rw [hb0]; exact ⟨_, rfl, by omega, .inl (by decide)⟩
 rw [hb0, cond_false]; simp only [decide_eq_false_iff_not] at hb0
 obtain ⟨v1, e1, a1, b1⟩ := US (x := x.AQ) (left := v0) (by omega) (by omega) hx.2.1
 rw [e1, Option.bind_some]
 rcases Bool.eq_false_or_eq_true (decide (v1 < (0 : Int))) with hb1 | hb1
 ·rw [hb1]; exact ⟨_, rfl, by omega, .inl (by decide)⟩
 rw [hb1, cond_false]; simp only [decide_eq_false_iff_not] at hb1
 obtain ⟨v2, e2, a2, b2⟩ := US (x := x.AH) (left := v1) (by omega) (by omega) hx.2.2.1
 rw [e2, Option.bind_some]
 rcases Bool.eq_false_or_eq_true (decide (v2 < (0 : Int))) with hb2 | hb2
 ·rw [hb2]; exact ⟨_, rfl, by omega, .inl (by decide)⟩
 rw [hb2, cond_false]; simp only [decide_eq_false_iff_not] at hb2
 obtain ⟨v3, e3, a3, b3⟩ := QM (x := x.Bt) (left := v2) (by omega) (by omega) hx.2.2.2.1
 rw [e3, Option.bind_some]
 rcases Bool.eq_false_or_eq_true (decide (v3 < (0 : Int))) with hb3 | hb3
 ·rw [hb3]; exact ⟨_, rfl, by omega, .inl (by decide)⟩
 rw [hb3, cond_false]; simp only [decide_eq_false_iff_not] at hb3
 obtain ⟨v4, e4, a4, b4⟩ := QM (x := x.DB) (left := v3) (by omega) (by omega) hx.2.2.2.2
 rw [e4, Option.bind_some]
 rcases Bool.eq_false_or_eq_true (decide (v4 < (0 : Int))) with hb4 | hb4
 ·rw [hb4]; exact ⟨_, rfl, by omega, .inl (by decide)⟩
 rw [hb4, cond_false]; simp only [decide_eq_false_iff_not] at hb4
 exact ⟨_, rfl, by omega, .inr ⟨b0.resolve_left hb0, b1.resolve_left hb1, b2.resolve_left hb2, b3.resolve_left hb3, b4.resolve_left hb4⟩⟩
theorem cF {x : List Bq} {left : Int} (h0 : 0 ≤ left) (h1 : left ≤ 1048576) (hx : (Co LS) x) : ∃ v, gD x left = some v ∧ v ≤ left ∧ (v < 0 ∨ (Fz Hl) x) := by
 unfold gD
 refine RL (g := eZ) (fit := LS) (sm := Hl) (fun x l a b c => cX b c a) (fun l i x hi => ?_) (fun l => ?_) h0 h1 hx
 ·unfold QN
  simp only [Bs (Bo hi), cond_true, AM, hi, Option.bind_some, Option.map_some]
 ·unfold QN
  simp only [Bh, cond_false, Option.map_some]
theorem TC {x : List Bool} {left : Int} (h0 : 0 ≤ left) (h1 : left ≤ 1048576) (hx : (Co (fun _ => True)) x) : ∃ v, aU x left = some v ∧ v ≤ left ∧ (v < 0 ∨ (Fz (fun _ => True)) x) := by
 unfold aU
 obtain ⟨v, e1, e2, e3⟩ := Mv (xs := x) h0 h1 hx.1
 exact ⟨v, e1, e2, e3.imp id fun h => ⟨h.1, fun _ _ => trivial⟩⟩
theorem cG {x : List (List Bool)} {left : Int} (h0 : 0 ≤ left) (h1 : left ≤ 1048576) (hx : (Co (Co (fun _ => True))) x) : ∃ v, gE x left = some v ∧ v ≤ left ∧ (v < 0 ∨ (Fz (Fz (fun _ => True))) x) := by
 unfold gE
 refine RL (g := aU) (fit := (Co (fun _ => True))) (sm := (Fz (fun _ => True))) (fun x l a b c => TC b c a) (fun l i x hi => ?_) (fun l => ?_) h0 h1 hx
 ·unfold QO
  simp only [Bs (Bo hi), cond_true, AM, hi, Option.bind_some, Option.map_some]
 ·unfold QO
  simp only [Bh, cond_false, Option.map_some]
theorem gV {x : AP} {left : Int} (h0 : 0 ≤ left) (h1 : left ≤ 1048576) (hx : Mm x) : ∃ v, f6 x left = some v ∧ v ≤ left ∧ (v < 0 ∨ Fg x) := by
 unfold f6
 obtain ⟨v0, e0, a0, b0⟩ := QM (x := x.A6) (left := left) (by omega) (by omega) hx.2.1
 rw [e0, Option.bind_some]
 rcases Bool.eq_false_or_eq_true (decide (v0 < (0 : Int))) with hb0 | hb0
 ·rw [hb0]; exact ⟨_, rfl, by omega, .inl (by decide)⟩
 rw [hb0, cond_false]; simp only [decide_eq_false_iff_not] at hb0
 obtain ⟨v1, e1, a1, b1⟩ := cF (x := x.A7) (left := v0) (by omega) (by omega) hx.2.2.1
 rw [e1, Option.bind_some]
 rcases Bool.eq_false_or_eq_true (decide (v1 < (0 : Int))) with hb1 | hb1
 ·rw [hb1]; exact ⟨_, rfl, by omega, .inl (by decide)⟩
 rw [hb1, cond_false]; simp only [decide_eq_false_iff_not] at hb1
 obtain ⟨v2, e2, a2, b2⟩ := cG (x := x.BV) (left := v1) (by omega) (by omega) hx.2.2.2.1
 rw [e2, Option.bind_some]
 rcases Bool.eq_false_or_eq_true (decide (v2 < (0 : Int))) with hb2 | hb2
 ·rw [hb2]; exact ⟨_, rfl, by omega, .inl (by decide)⟩
 rw [hb2, cond_false]; simp only [decide_eq_false_iff_not] at hb2
 exact ⟨_, rfl, by omega, .inr ⟨b0.resolve_left hb0, b1.resolve_left hb1, b2.resolve_left hb2⟩⟩
theorem cH {x : List Al} {left : Int} (h0 : 0 ≤ left) (h1 : left ≤ 1048576) (hx : (Co KY) x) : ∃ v, gF x left = some v ∧ v ≤ left ∧ (v < 0 ∨ (Fz (fun _ => True)) x) := by
 unfold gF
 obtain ⟨v, e1, e2, e3⟩ := Mv (xs := x) h0 h1 hx.1
 exact ⟨v, e1, e2, e3.imp id fun h => ⟨h.1, fun _ _ => trivial⟩⟩
theorem cY {x : AG} {left : Int} (h0 : 0 ≤ left) (h1 : left ≤ 1048576) (hx : JO x) : ∃ v, fA x left = some v ∧ v ≤ left ∧ (v < 0 ∨ GA x) := by
 unfold fA
 obtain ⟨v0, e0, a0, b0⟩ := TC (x := x.Aa) (left := left) (by omega) (by omega) hx.2.2.1
 rw [e0, Option.bind_some]
 rcases Bool.eq_false_or_eq_true (decide (v0 < (0 : Int))) with hb0 | hb0
 ·rw [hb0]; exact ⟨_, rfl, by omega, .inl (by decide)⟩
 rw [hb0, cond_false]; simp only [decide_eq_false_iff_not] at hb0
 exact ⟨_, rfl, by omega, .inr (b0.resolve_left hb0)⟩
theorem cI {x : List AG} {left : Int} (h0 : 0 ≤ left) (h1 : left ≤ 1048576) (hx : (Co JO) x) : ∃ v, gG x left = some v ∧ v ≤ left ∧ (v < 0 ∨ (Fz GA) x) := by
 unfold gG
 refine RL (g := fA) (fit := JO) (sm := GA) (fun x l a b c => cY b c a) (fun l i x hi => ?_) (fun l => ?_) h0 h1 hx
 ·unfold QQ
  simp only [Bs (Bo hi), cond_true, AM, hi, Option.bind_some, Option.map_some]
 ·unfold QQ
  simp only [Bh, cond_false, Option.map_some]
theorem hZ {x : AD} {left : Int} (h0 : 0 ≤ left) (h1 : left ≤ 1048576) (hx : KX x) : ∃ v, f7 x left = some v ∧ v ≤ left ∧ (v < 0 ∨ Eh x) := by
 unfold f7
 obtain ⟨v0, e0, a0, b0⟩ := TC (x := x.C5) (left := left) (by omega) (by omega) hx.2.1
 rw [e0, Option.bind_some]
 rcases Bool.eq_false_or_eq_true (decide (v0 < (0 : Int))) with hb0 | hb0
 ·rw [hb0]; exact ⟨_, rfl, by omega, .inl (by decide)⟩
 rw [hb0, cond_false]; simp only [decide_eq_false_iff_not] at hb0
 obtain ⟨v1, e1, a1, b1⟩ := cH (x := x.AF) (left := v0) (by omega) (by omega) hx.2.2.1
 rw [e1, Option.bind_some]
 rcases Bool.eq_false_or_eq_true (decide (v1 < (0 : Int))) with hb1 | hb1
 ·rw [hb1]; exact ⟨_, rfl, by omega, .inl (by decide)⟩
 rw [hb1, cond_false]; simp only [decide_eq_false_iff_not] at hb1
 obtain ⟨v2, e2, a2, b2⟩ := cI (x := x.A7) (left := v1) (by omega) (by omega) hx.2.2.2
 rw [e2, Option.bind_some]
 rcases Bool.eq_false_or_eq_true (decide (v2 < (0 : Int))) with hb2 | hb2
 ·rw [hb2]; exact ⟨_, rfl, by omega, .inl (by decide)⟩
 rw [hb2, cond_false]; simp only [decide_eq_false_iff_not] at hb2
 exact ⟨_, rfl, by omega, .inr ⟨b0.resolve_left hb0, b1.resolve_left hb1, b2.resolve_left hb2⟩⟩
theorem QT {x : List Int} (hx : (Fz (fun _ => True)) x) : aV x = some x := by
 have hl := hx.1
 unfold aV
 rw [Fx (by omega), Option.bind_some]
 have := TP x (fun y => y) (0 : Int) (F := NM x) (fun ys i y hi hy => ?_) (fun ys => ?_)
 ·rw [List.map_id'] at this; exact this
 ·have hlt := Bo hi
  unfold NM
  simp only [Bs (Bo hi), cond_true, AM, hi, Option.bind_some]
  rw [List.getElem?_eq_getElem (by omega), Option.bind_some, AZ (by omega)]
  rfl
 ·unfold NM
  simp only [Bh, cond_false, Option.map_some]
theorem Yp {x : Ae} (hx : (fun _ => True) x) : Wj x = some x := by
 unfold Wj
 rfl
theorem UT {x : List Ae} (hx : (Fz (fun _ => True)) x) : VP x = some x := by
 have hl := hx.1
 unfold VP
 rw [Fx (by omega), Option.bind_some]
 have := TP x (fun y => y) (⟨0, 0⟩ : Ae) (F := KH x) (fun ys i y hi hy => ?_) (fun ys => ?_)
 ·rw [List.map_id'] at this; exact this
 ·have hlt := Bo hi
  unfold KH
  have hg := Yp (x := y) (hx.2 _ (List.mem_of_getElem? hi))
  simp only [Bs (Bo hi), cond_true, AM, hi, Option.bind_some, hg]
  rw [List.getElem?_eq_getElem (by omega), Option.bind_some, AZ (by omega)]
  rfl
 ·unfold KH
  simp only [Bh, cond_false, Option.map_some]
theorem dA {x : Bq} (hx : Hl x) : gY x = some x := by
 unfold gY
 rw [QT (x := x.A0) hx.1, UT (x := x.AQ) hx.2.1, UT (x := x.AH) hx.2.2.1, QT (x := x.Bt) hx.2.2.2.1, QT (x := x.DB) hx.2.2.2.2]
 rfl
theorem cK {x : List Bq} (hx : (Fz Hl) x) : gI x = some x := by
 have hl := hx.1
 unfold gI
 rw [Fx (by omega), Option.bind_some]
 have := TP x (fun y => y) (⟨[], [], [], [], []⟩ : Bq) (F := NN x) (fun ys i y hi hy => ?_) (fun ys => ?_)
 ·rw [List.map_id'] at this; exact this
 ·have hlt := Bo hi
  unfold NN
  have hg := dA (x := y) (hx.2 _ (List.mem_of_getElem? hi))
  simp only [Bs (Bo hi), cond_true, AM, hi, Option.bind_some, hg]
  rw [List.getElem?_eq_getElem (by omega), Option.bind_some, AZ (by omega)]
  rfl
 ·unfold NN
  simp only [Bh, cond_false, Option.map_some]
theorem TE {x : List Bool} (hx : (Fz (fun _ => True)) x) : cM x = some x := by
 have hl := hx.1
 unfold cM
 rw [Fx (by omega), Option.bind_some]
 have := TP x (fun y => y) (false : Bool) (F := NP x) (fun ys i y hi hy => ?_) (fun ys => ?_)
 ·rw [List.map_id'] at this; exact this
 ·have hlt := Bo hi
  unfold NP
  simp only [Bs (Bo hi), cond_true, AM, hi, Option.bind_some]
  rw [List.getElem?_eq_getElem (by omega), Option.bind_some, AZ (by omega)]
  rfl
 ·unfold NP
  simp only [Bh, cond_false, Option.map_some]
theorem cL {x : List (List Bool)} (hx : (Fz (Fz (fun _ => True))) x) : gJ x = some x := by
 have hl := hx.1
 unfold gJ
 rw [Fx (by omega), Option.bind_some]
 have := TP x (fun y => y) ([] : List Bool) (F := NO x) (fun ys i y hi hy => ?_) (fun ys => ?_)
 ·rw [List.map_id'] at this; exact this
 ·have hlt := Bo hi
  unfold NO
  have hg := TE (x := y) (hx.2 _ (List.mem_of_getElem? hi))
  simp only [Bs (Bo hi), cond_true, AM, hi, Option.bind_some, hg]
  rw [List.getElem?_eq_getElem (by omega), Option.bind_some, AZ (by omega)]
  rfl
 ·unfold NO
  simp only [Bh, cond_false, Option.map_some]
theorem iG {x : AP} (hx : Fg x) : f9 x = some x := by
 unfold f9
 rw [QT (x := x.A6) hx.1, cK (x := x.A7) hx.2.1, cL (x := x.BV) hx.2.2]
 rfl
theorem dB {x : Al} (hx : (fun _ => True) x) : gZ x = some x := by
 unfold gZ
 rfl
theorem cN {x : List Al} (hx : (Fz (fun _ => True)) x) : gK x = some x := by
 have hl := hx.1
 unfold gK
 rw [Fx (by omega), Option.bind_some]
 have := TP x (fun y => y) (⟨0, 0⟩ : Al) (F := NQ x) (fun ys i y hi hy => ?_) (fun ys => ?_)
 ·rw [List.map_id'] at this; exact this
 ·have hlt := Bo hi
  unfold NQ
  have hg := dB (x := y) (hx.2 _ (List.mem_of_getElem? hi))
  simp only [Bs (Bo hi), cond_true, AM, hi, Option.bind_some, hg]
  rw [List.getElem?_eq_getElem (by omega), Option.bind_some, AZ (by omega)]
  rfl
 ·unfold NQ
  simp only [Bh, cond_false, Option.map_some]
theorem dC {x : AG} (hx : GA x) : hJ x = some x := by
 unfold hJ
 rw [TE (x := x.Aa) hx]
 rfl
theorem cO {x : List AG} (hx : (Fz GA) x) : gL x = some x := by
 have hl := hx.1
 unfold gL
 rw [Fx (by omega), Option.bind_some]
 have := TP x (fun y => y) (⟨0, 0, [], false, 0⟩ : AG) (F := NR x) (fun ys i y hi hy => ?_) (fun ys => ?_)
 ·rw [List.map_id'] at this; exact this
 ·have hlt := Bo hi
  unfold NR
  have hg := dC (x := y) (hx.2 _ (List.mem_of_getElem? hi))
  simp only [Bs (Bo hi), cond_true, AM, hi, Option.bind_some, hg]
  rw [List.getElem?_eq_getElem (by omega), Option.bind_some, AZ (by omega)]
  rfl
 ·unfold NR
  simp only [Bh, cond_false, Option.map_some]
theorem cC {x : AD} (hx : Eh x) : aS x = some x := by
 unfold aS
 rw [TE (x := x.C5) hx.1, cN (x := x.AF) hx.2.1, cO (x := x.A7) hx.2.2]
 rfl
theorem NH {x : List Int} (hx : (Fz (fun _ => True)) x) : Wg x x = some true := by
 unfold Wg
 simp only [bne_self_eq_false, cond_false]
 refine Jp (F := NG x x) hx.1 (fun i y hi => ?_) ?_
 ·unfold NG
  simp only [Bs (Bo hi), cond_true, AM, hi, Option.bind_some, bne_self_eq_false, beq_self_eq_true, Bool.not_true, cond_false]
 ·unfold NG
  simp only [Bh, cond_false, Option.map_some]
theorem Yq {x : Ae} (hx : (fun _ => True) x) : Wp x x = some true := by
 unfold Wp
 simp only [bne_self_eq_false, beq_self_eq_true, Bool.not_true, cond_false]
theorem UU {x : List Ae} (hx : (Fz (fun _ => True)) x) : VQ x x = some true := by
 unfold VQ
 simp only [bne_self_eq_false, cond_false]
 refine Jp (F := KM x x) hx.1 (fun i y hi => ?_) ?_
 ·unfold KM
  have hg := Yq (x := y) (hx.2 _ (List.mem_of_getElem? hi))
  simp only [Bs (Bo hi), cond_true, AM, hi, Option.bind_some, hg, Bool.not_true, cond_false]
 ·unfold KM
  simp only [Bh, cond_false, Option.map_some]
theorem dF {x : Bq} (hx : Hl x) : iA x x = some true := by
 unfold iA
 simp only [bne_self_eq_false, beq_self_eq_true, Bool.not_true, cond_false, NH (x := x.A0) hx.1, UU (x := x.AQ) hx.2.1, UU (x := x.AH) hx.2.2.1, NH (x := x.Bt) hx.2.2.2.1, NH (x := x.DB) hx.2.2.2.2, Option.bind_some]
theorem cP {x : List Bq} (hx : (Fz Hl) x) : gN x x = some true := by
 unfold gN
 simp only [bne_self_eq_false, cond_false]
 refine Jp (F := NT x x) hx.1 (fun i y hi => ?_) ?_
 ·unfold NT
  have hg := dF (x := y) (hx.2 _ (List.mem_of_getElem? hi))
  simp only [Bs (Bo hi), cond_true, AM, hi, Option.bind_some, hg, Bool.not_true, cond_false]
 ·unfold NT
  simp only [Bh, cond_false, Option.map_some]
theorem TG {x : List Bool} (hx : (Fz (fun _ => True)) x) : cR x x = some true := by
 unfold cR
 simp only [bne_self_eq_false, cond_false]
 refine Jp (F := NV x x) hx.1 (fun i y hi => ?_) ?_
 ·unfold NV
  simp only [Bs (Bo hi), cond_true, AM, hi, Option.bind_some, bne_self_eq_false, beq_self_eq_true, Bool.not_true, cond_false]
 ·unfold NV
  simp only [Bh, cond_false, Option.map_some]
theorem cQ {x : List (List Bool)} (hx : (Fz (Fz (fun _ => True))) x) : gO x x = some true := by
 unfold gO
 simp only [bne_self_eq_false, cond_false]
 refine Jp (F := NU x x) hx.1 (fun i y hi => ?_) ?_
 ·unfold NU
  have hg := TG (x := y) (hx.2 _ (List.mem_of_getElem? hi))
  simp only [Bs (Bo hi), cond_true, AM, hi, Option.bind_some, hg, Bool.not_true, cond_false]
 ·unfold NU
  simp only [Bh, cond_false, Option.map_some]
theorem cD {x : AP} (hx : Fg x) : fZ x x = some true := by
 unfold fZ
 simp only [bne_self_eq_false, beq_self_eq_true, Bool.not_true, cond_false, NH (x := x.A6) hx.1, cP (x := x.A7) hx.2.1, cQ (x := x.BV) hx.2.2, Option.bind_some]
theorem dG {x : Al} (hx : (fun _ => True) x) : iB x x = some true := by
 unfold iB
 simp only [bne_self_eq_false, beq_self_eq_true, Bool.not_true, cond_false]
theorem cS {x : List Al} (hx : (Fz (fun _ => True)) x) : gP x x = some true := by
 unfold gP
 simp only [bne_self_eq_false, cond_false]
 refine Jp (F := NW x x) hx.1 (fun i y hi => ?_) ?_
 ·unfold NW
  have hg := dG (x := y) (hx.2 _ (List.mem_of_getElem? hi))
  simp only [Bs (Bo hi), cond_true, AM, hi, Option.bind_some, hg, Bool.not_true, cond_false]
 ·unfold NW
  simp only [Bh, cond_false, Option.map_some]
theorem dH {x : AG} (hx : GA x) : iC x x = some true := by
 unfold iC
 simp only [bne_self_eq_false, beq_self_eq_true, Bool.not_true, cond_false, TG (x := x.Aa) hx, Option.bind_some]
theorem cT {x : List AG} (hx : (Fz GA) x) : gQ x x = some true := by
 unfold gQ
 simp only [bne_self_eq_false, cond_false]
 refine Jp (F := NX x x) hx.1 (fun i y hi => ?_) ?_
 ·unfold NX
  have hg := dH (x := y) (hx.2 _ (List.mem_of_getElem? hi))
  simp only [Bs (Bo hi), cond_true, AM, hi, Option.bind_some, hg, Bool.not_true, cond_false]
 ·unfold NX
  simp only [Bh, cond_false, Option.map_some]
theorem cE {x : AD} (hx : Eh x) : gA x x = some true := by
 unfold gA
 simp only [bne_self_eq_false, beq_self_eq_true, Bool.not_true, cond_false, TG (x := x.C5) hx.1, cS (x := x.AF) hx.2.1, cT (x := x.A7) hx.2.2, Option.bind_some]
def BW {ρ : Type} (n : Nat) (b : Nat → Option ρ) (e : Option ρ) : Option ρ := match (List.range n).findSome? b with | some r => some r | none => e
theorem Ft {ρ : Type} {n : Nat} {b : Nat → Option ρ} {e : Option ρ} (h : ∀ i, i < n → b i = none) : BW n b e = e := by
 unfold BW
 rw [List.findSome?_eq_none_iff.2 (fun x hx => h x (List.mem_range.1 hx))]
theorem Fu {ρ : Type} {n : Nat} {b : Nat → Option ρ} {e : Option ρ} {i : Nat} {r : ρ} (hi : i < n) (h : ∀ j, j < i → b j = none) (hr : b i = some r) : BW n b e = some r := by
 unfold BW
 have e1 : n = i + ((n - i - 1) + 1) := by omega
 have h0 : (List.range i).findSome? b = none := List.findSome?_eq_none_iff.2 fun x hx => h x (List.mem_range.1 hx)
 rw [e1, List.range_add, List.findSome?_append, h0, List.range_succ_eq_map]
 simp [hr]
theorem Ir {ρ : Type} (n : Nat) (b : Nat → Option ρ) : (∀ i, i < n → b i = none) ∨ ∃ i r, i < n ∧ (∀ j, j < i → b j = none) ∧ b i = some r := by
 induction n with
 | zero => exact .inl (fun i hi => by omega)
 | succ n ih =>
  rcases ih with h | ⟨i, r, h1, h2, h3⟩
  ·cases hb : b n with
   | none =>
    refine .inl (fun i hi => ?_)
    rcases Nat.lt_or_ge i n with hl | hl
    ·exact h i hl
    ·have : i = n := by omega
     subst this; exact hb
   | some r => exact .inr ⟨n, r, by omega, h, hb⟩
  ·exact .inr ⟨i, r, by omega, h2, h3⟩
theorem B5 {σ ρ : Type} {F : σ → Option (σ ⊕ ρ)} (n : Nat) (st : Nat → σ) (b : Nat → Option ρ) (e : Option ρ) (h : ∀ i, i < n → (∀ j, j < i → b j = none) → F (st i) = some ((b i).elim (.inl (st (i + 1))) .inr)) (hend : (∀ j, j < n → b j = none) → F (st n) = e.map .inr) : AJ F (st 0) = BW n b e := by
 have key : ∀ k i, i + k = n → (∀ j, j < i → b j = none) → AJ F (st i) = BW n b e := by
  intro k
  induction k with
  | zero =>
   intro i hi hb
   have : i = n := by omega
   subst this
   rw [Bz, hend hb, Ft hb]
   cases e <;> rfl
  | succ k ih =>
   intro i hi hb
   rw [Bz, h i (by omega) hb]
   cases hr : b i with
   | some r => rw [Fu (by omega) hb hr]; rfl
   | none =>
    simp only [Option.bind_some, Option.elim]
    refine ih (i + 1) (by omega) (fun j hj => ?_)
    rcases Nat.lt_or_ge j i with hl | hl
    ·exact hb j hl
    ·have : j = i := by omega
     subst this; exact hr
 exact key n 0 (by omega) (fun j hj => by omega)
section
variable {κ ν : Type} [DecidableEq κ]
theorem OT {k : κ} : ∀ {m : List (κ × ν)} {i : Nat}, DI k m i = none → ∀ j, DI k m j = none
 | [], _, _, _ => rfl
 | e :: m, i, h, j => by
  unfold DI at h ⊢
  split at h
  ·cases h
  ·rename_i hk; rw [if_neg hk]; exact OT h (j + 1)
theorem Fc (k : κ) (e : κ × ν) (m : List (κ × ν)) (z : ν) : J1 k (e :: m) z = if k = e.1 then e.2 else J1 k m z := by
 by_cases hk : k = e.1
 ·rw [if_pos hk]
  unfold J1 DI
  rw [if_pos hk]
 ·rw [if_neg hk]
  unfold J1
  have h0 : DI k (e :: m) 0 = DI k m (0 + 1) := by rw [DI, if_neg hk]
  rw [h0]
  have key : ∀ (m : List (κ × ν)) i j, (DI k m i).map (·.2) = (DI k m j).map (·.2) := by
   intro m
   induction m with
   | nil => intro i j; rfl
   | cons e m ih =>
    intro i j
    unfold DI
    split
    ·rfl
    ·exact ih _ _
  have := key m (0 + 1) 0
  cases h1 : DI k m (0 + 1) <;> cases h2 : DI k m 0 <;> rw [h1, h2] at this <;> simp_all
theorem ME (k k' : κ) (v : ν) (z : ν) : ∀ (m : List (κ × ν)), DI k' m 0 = none → J1 k (m ++ [(k', v)]) z = if k = k' then v else J1 k m z
 | [], _ => by rw [List.nil_append, Fc]
 | e :: m, h => by
  have h' : k' ≠ e.1 ∧ DI k' m 0 = none := by
   unfold DI at h
   split at h
   ·cases h
   ·rename_i hk; exact ⟨hk, OT h 0⟩
  rw [List.cons_append, Fc, ME k k' v z m h'.2, Fc]
  by_cases h1 : k = e.1
  ·rw [if_pos h1, if_pos h1, if_neg (fun (h2 : k = k') => h'.1 (h2 ▸ h1))]
  ·rw [if_neg h1, if_neg h1]
theorem OU (k k' : κ) (v : ν) (z : ν) : ∀ (m : List (κ × ν)) (n i : Nat) (x : ν), DI k' m n = some (n + i, x) → J1 k (m.set i (k', v)) z = if k = k' then v else J1 k m z
 | [], _, _, _, h => by cases h
 | e :: m, n, i, x, h => by
  unfold DI at h
  split at h
  ·rename_i hk
   simp only [Option.some.injEq, Prod.mk.injEq] at h
   have : i = 0 := by omega
   subst this
   rw [List.set_cons_zero, Fc, Fc, hk]
   by_cases h1 : k = e.1
   ·rw [if_pos h1, if_pos h1]
   ·rw [if_neg h1, if_neg h1, if_neg h1]
  ·rename_i hk
   have hi := (Pj h).1
   simp only [] at hi
   obtain ⟨i', rfl⟩ : ∃ i', i = i' + 1 := ⟨i - 1, by omega⟩
   rw [List.set_cons_succ, Fc, OU k k' v z m (n + 1) i' x (by rw [h]; congr 2; omega), Fc]
   by_cases h1 : k = e.1
   ·rw [if_pos h1, if_pos h1, if_neg (fun (h2 : k = k') => hk (h2 ▸ h1))]
   ·rw [if_neg h1, if_neg h1]
theorem Vf (k k' : κ) (v z : ν) (m : List (κ × ν)) : J1 k (PD k' v m) z = if k = k' then v else J1 k m z := by
 unfold PD
 cases h : DI k' m 0 with
 | none => exact ME k k' v z m h
 | some x =>
  obtain ⟨i, y⟩ := x
  exact OU k k' v z m 0 i y (by rw [h, Nat.zero_add])
end
theorem Di {ρ : Type} (n : Nat) (p : Nat → Bool) (r : ρ) (e : Option ρ) : BW n (fun i => bif p i then some r else none) e = bif (List.range n).any p then some r else e := by
 rcases Ir n (fun i => bif p i then some r else none) with h | ⟨i, r', hi, hj, hr⟩
 ·rw [Ft h]
  have : (List.range n).any p = false := by
   rw [List.any_eq_false]
   intro x hx
   have := h x (List.mem_range.1 hx)
   cases hp : p x <;> simp_all
  rw [this]; rfl
 ·rw [Fu hi hj hr]
  have hp : p i = true := by cases hp : p i <;> simp_all
  have : (List.range n).any p = true := List.any_eq_true.2 ⟨i, List.mem_range.2 hi, hp⟩
  rw [this]
  simp_all
theorem TQ (n : Nat) (p : Nat → Bool) (e : Bool) : BW n (fun i => bif p i then none else some false) (some e) = some ((List.range n).all p && e) := by
 have : (fun i => bif p i then (none : Option Bool) else some false) = fun i => bif !p i then some false else none := by funext i; cases p i <;> rfl
 rw [this, Di]
 have : ((List.range n).any fun i => !p i) = !((List.range n).all p) := by rw [List.not_all_eq_any_not]
 rw [this]
 cases (List.range n).all p <;> rfl
theorem Et {ρ : Type} (n : Nat) (b : Nat → Option ρ) {e : Option ρ} (h : ∃ r, e = some r) : ∃ r, BW n b e = some r := by
 unfold BW
 split
 ·exact ⟨_, rfl⟩
 ·exact h
theorem I2 {ρ : Type} {n : Nat} {b b' : Nat → Option ρ} {e e' : Option ρ} (h : ∀ i, i < n → b i = b' i) (he : (∀ i, i < n → b i = none) → e = e') : BW n b e = BW n b' e' := by
 rcases Ir n b with h1 | ⟨i, r, hi, hj, hr⟩
 ·rw [Ft h1, Ft (fun i hi => by rw [← h i hi]; exact h1 i hi)]; exact he h1
 ·rw [Fu hi hj hr, Fu hi (fun j hl => by rw [← h j (by omega)]; exact hj j hl) (by rw [← h i hi]; exact hr)]
theorem GQ {α : Type} (b : Bool) (x y : α) : (bif b then some x else some y) = some (bif b then x else y) := by cases b <;> rfl
theorem DZ {α : Type} (xs : List α) (g : α → Bool) : ∀ i, ((List.range i).any fun j => (xs[j]?).any g) = (xs.take i).any g
 | 0 => by simp
 | i + 1 => by
  rw [List.range_succ, List.any_append, DZ xs g i, List.take_add_one, List.any_append, List.any_cons, List.any_nil, Bool.or_false]
  cases xs[i]? <;> simp [Option.any]
theorem Dj {ρ : Type} {n : Nat} {b : Nat → Option ρ} {e : Option ρ} {r : ρ} (h : BW n b e = some r) : (∃ i, i < n ∧ b i = some r) ∨ ((∀ i, i < n → b i = none) ∧ e = some r) := by
 rcases Ir n b with h1 | ⟨i, r', hi, hj, hr⟩
 ·rw [Ft h1] at h; exact .inr ⟨h1, h⟩
 ·rw [Fu hi hj hr] at h; exact .inl ⟨i, hi, hr.trans h⟩
theorem FF {α : Type} {b : Bool} {x y : α} (h : (bif b then some x else none) = some y) : b = true ∧ x = y := by
 cases b
 ·cases h
 ·exact ⟨rfl, by simpa using h⟩
theorem FE {α : Type} {b : Bool} {x : α} (h : (bif b then some x else none) = none) : b = false := by
 cases b
 ·rfl
 ·cases h
theorem GR {α : Type} (xs : List α) (p : α → Bool) (e : Option Int) (he : e = some (-1)) : (BW xs.length (fun i => bif (xs[i]?).any p then some (i : Int) else none) e).bind (fun v => some (decide (v ≥ (0:Int)))) = some (xs.any p) := by
 subst he
 obtain ⟨r, hr⟩ := Et xs.length (fun i => bif (xs[i]?).any p then some (i : Int) else none) (e := some (-1)) ⟨_, rfl⟩
 rw [hr, Option.bind_some]
 have ht := DZ xs p xs.length
 rw [List.take_length] at ht
 rw [← ht]
 rcases Dj hr with ⟨i, hi, h⟩ | ⟨h, h2⟩
 ·obtain ⟨h3, rfl⟩ := FF h
  congr 1
  rw [Bool.eq_iff_iff, decide_eq_true_eq, List.any_eq_true]
  exact ⟨fun _ => ⟨i, List.mem_range.2 hi, h3⟩, fun _ => by omega⟩
 ·have : r = -1 := by simpa using h2.symm
  subst this
  congr 1
  rw [Bool.eq_iff_iff, decide_eq_true_eq, List.any_eq_true]
  constructor
  ·intro h; omega
  ·rintro ⟨i, hi, h3⟩
   have := FE (h i (List.mem_range.1 hi))
   rw [h3] at this; cases this
theorem XS {xs : List Int} (hl : xs.length ≤ 1048576) (v : Int) : dE xs v = BW xs.length (fun i => bif (xs[i]?).any (fun y => decide (v = y)) then some (i : Int) else none) (some (-1)) := by
 unfold dE
 refine B5 xs.length (fun i => (i : Int)) _ _ (fun i hi _ => ?_) (fun _ => ?_)
 ·unfold Qc
  simp only [Bs hi, cond_true, AM, List.getElem?_eq_getElem hi, Option.bind_some, Option.any_some, AZ (show i < 9223372036854775807 by omega)]
  by_cases hc : v = xs[i]
  ·rw [decide_eq_true hc, beq_iff_eq.2 hc]; rfl
  ·rw [decide_eq_false hc, beq_eq_false_iff_ne.2 hc]; rfl
 ·unfold Qc
  simp only [Bh, cond_false]
theorem LB {xs : List Int} (hl : xs.length ≤ 1048576) (v : Int) : ZZ xs v = some (xs.any fun y => decide (v = y)) := by
 unfold ZZ
 rw [XS hl]
 exact GR xs _ _ rfl
theorem Gh {F : Int → Option (Int ⊕ Bool)} (n : Nat) (p : Nat → Bool) (e : Bool) (hn : n < 9223372036854775807) (h : ∀ i, i < n → (∀ j, j < i → p j = true) → F (i : Int) = some (bif p i then .inl ((i + 1 : Nat) : Int) else .inr false)) (hend : (∀ j, j < n → p j = true) → F (n : Int) = some (.inr e)) : AJ F (0 : Int) = some ((List.range n).all p && e) := by
 have : AJ F (((0 : Nat)) : Int) = BW n (fun i => bif p i then none else some false) (some e) := by
  refine B5 n (fun i => (i : Int)) _ _ (fun i hi hj => ?_) (fun hj => ?_)
  ·rw [h i hi (fun j hl => by have := hj j hl; cases hp : p j <;> simp_all)]
   cases p i <;> rfl
  ·rw [hend (fun j hl => by have := hj j hl; cases hp : p j <;> simp_all)]; rfl
 rw [show (0 : Int) = (((0 : Nat)) : Int) from rfl, this, TQ]
theorem Po {α : Type} (xs : List α) (p : Nat → Bool) (q : α → Bool) (h : ∀ (i : Nat) (x : α), xs[i]? = some x → p i = q x) : (List.range xs.length).all p = xs.all q := by
 rw [Bool.eq_iff_iff, List.all_eq_true, List.all_eq_true]
 constructor
 ·intro hp x hx
  obtain ⟨i, hi, rfl⟩ := List.getElem_of_mem hx
  rw [← h i _ (List.getElem?_eq_getElem hi)]
  exact hp i (List.mem_range.2 hi)
 ·intro hq i hi
  have hi := List.mem_range.1 hi
  rw [h i _ (List.getElem?_eq_getElem hi)]
  exact hq _ (List.getElem_mem hi)
theorem Iu (x a b : Int) : TD x a b = some (decide (x ≥ a) && decide (x ≤ b)) := rfl
theorem EM (x a b : Int) : TF x a b = some (decide (x ≥ a) && decide (x ≤ b)) := rfl
def HJ {α : Type} (k : α → Int) (ok : α → Bool) : List Int → List α → Bool
 | _, [] => true
 | seen, x :: r => ok x && !(seen.any fun y => decide (y = k x)) && HJ k ok (seen ++ [k x]) r
theorem J3 {α : Type} (k : α → Int) (ok : α → Bool) : ∀ (r : List α) (seen : List Int), HJ k ok seen r = true ↔ (∀ x ∈ r, ok x = true) ∧ (r.map k).Nodup ∧ ∀ x ∈ r, k x ∉ seen
 | [], seen => by simp [HJ]
 | x :: r, seen => by
  unfold HJ
  rw [Bool.and_eq_true, Bool.and_eq_true, J3 k ok r, Bool.not_eq_true', List.any_eq_false]
  simp only [decide_eq_true_eq, List.mem_cons, List.map_cons, List.nodup_cons, List.mem_append, List.mem_singleton, List.not_mem_nil, or_false, List.mem_map, forall_eq_or_imp, not_or, not_exists, not_and]
  constructor
  ·rintro ⟨⟨h1, h2⟩, h3, h4, h5⟩
   exact ⟨⟨h1, h3⟩, ⟨fun y hy e => (h5 y hy).2 e, h4⟩, fun hm => h2 _ hm rfl, fun y hy => (h5 y hy).1⟩
  ·rintro ⟨⟨h1, h3⟩, ⟨h6, h4⟩, h2, h5⟩
   exact ⟨⟨h1, fun y hy e => h2 (e ▸ hy)⟩, h3, h4, fun y hy => ⟨h5 y hy, fun e => h6 y hy e⟩⟩
theorem K2 {α : Type} (k : α → Int) (ok : α → Bool) (xs : List α) : (List.range xs.length).all (fun i => (xs[i]?).all fun x => ok x && !((xs.take i).any fun y => decide (k y = k x))) = HJ k ok [] xs := by
 have key : ∀ (r : List α) (i : Nat), xs.drop i = r → HJ k ok ((xs.take i).map k) r = (List.range' i r.length).all (fun i => (xs[i]?).all fun x => ok x && !((xs.take i).any fun y => decide (k y = k x))) := by
  intro r
  induction r with
  | nil => intro i _; rfl
  | cons x r ih =>
   intro i hr
   have hlt : i < xs.length := by
    rcases Nat.lt_or_ge i xs.length with hl | hl
    ·exact hl
    ·rw [List.drop_eq_nil_of_le hl] at hr; cases hr
   rw [List.drop_eq_getElem_cons hlt] at hr
   simp only [List.cons.injEq] at hr
   have hx : xs[i]? = some x := by rw [List.getElem?_eq_getElem hlt, hr.1]
   rw [List.length_cons, List.range'_succ, List.all_cons, ← ih (i + 1) hr.2, hx]
   simp only [HJ, Option.all_some]
   rw [List.take_add_one, hx, List.map_append, List.any_map]
   rfl
 have := key xs 0 rfl
 rw [List.take_zero, List.map_nil] at this
 rw [this, List.range_eq_range']
theorem R2 (a b : List Int) (ha : a.length ≤ 1048576) (hb : b.length ≤ 1048576) : XE a b = some (a.any fun x => b.any fun y => decide (x = y)) := by
 unfold XE
 refine Xd a (fun x => b.any fun y => decide (x = y)) (fun i x hx => ?_) ?_
 ·have hi := Bo hx
  unfold Qd
  simp only [Bs hi, cond_true, AM, hx, Option.bind_some]
  have h2 : ∀ (r : List Int) (k : Nat), b.drop k = r → k ≤ b.length → AJ (Nr b (i : Int) x) (k : Int) = some (bif r.any (fun y => decide (x = y)) then .inr true else .inl ((i + 1 : Nat) : Int)) := by
   intro r
   induction r with
   | nil =>
    intro k hr hk
    have hk' : k = b.length := by have := List.drop_eq_nil_iff.1 hr; omega
    subst hk'
    rw [Bz]
    unfold Nr
    simp only [Bh, cond_false, AZ (show i < 9223372036854775807 by omega)]
    rfl
   | cons y r ih =>
    intro k hr hk
    have hlt : k < b.length := by
     rcases Nat.lt_or_ge k b.length with hl | hl
     ·exact hl
     ·rw [List.drop_eq_nil_of_le hl] at hr; cases hr
    rw [List.drop_eq_getElem_cons hlt] at hr
    simp only [List.cons.injEq] at hr
    have hg : b[k]? = some y := by rw [List.getElem?_eq_getElem hlt, hr.1]
    rw [Bz]
    unfold Nr
    simp only [Bs hlt, cond_true, AM, hg, Option.bind_some, AZ (show k < 9223372036854775807 by omega), List.any_cons]
    by_cases hc : x = y
    ·rw [decide_eq_true hc, beq_iff_eq.2 hc]; rfl
    ·rw [decide_eq_false hc, beq_eq_false_iff_ne.2 hc]
     simp only [cond_false, Option.bind_some, Bool.false_or]
     exact ih (k + 1) hr.2 hlt
  exact h2 b 0 rfl (Nat.zero_le _)
 ·unfold Qd
  simp only [Bh, cond_false, Option.map_some]
theorem PR (a b : List Int) (ha : a.length ≤ 1048576) (hb : b.length ≤ 1048576) : aX a b = some (a.any fun x => b.any fun y => decide (x = y)) := by
 unfold aX KN
 have h1 : Im a b = BW a.length (fun i => bif (a[i]?).any (fun x => b.any fun y => decide (x = y)) then some (i : Int) else none) (some (-1)) := by
  unfold Im
  refine B5 a.length (fun i => (i : Int)) _ _ (fun i hi _ => ?_) (fun _ => ?_)
  ·unfold Gy Yn
   simp only [Bs hi, cond_true, AM, List.getElem?_eq_getElem hi, Option.bind_some, LB hb, Option.any_some, AZ (show i < 9223372036854775807 by omega)]
   cases (b.any fun y => decide (a[i] = y)) <;> rfl
  ·unfold Gy
   simp only [Bh, cond_false]
 rw [h1]
 have := GR a (fun x => b.any fun y => decide (x = y)) (some (-1)) rfl
 rw [this]; rfl
def RP (n : Int) (x : Int) : Bool := decide (x ≥ (0:Int)) && decide (x ≤ BT (n - 1))
def lB (l : List Int) (n : Int) : Bool := HJ (fun x => x) (RP n) [] l && decide ((l.length : Int) ≤ (30:Int))
theorem Sa {α : Type} (xs : List α) (i : Nat) (hi : i ≤ xs.length) (p : α → Bool) {F : Int → Option (Int ⊕ (Int ⊕ Bool))} {i' : Int} (hn : xs.length < 9223372036854775807) (h : ∀ (k : Nat) (y : α), k < i → xs[k]? = some y → F (k : Int) = some (bif p y then .inr (.inr false) else .inl ((k + 1 : Nat) : Int))) (hend : F (i : Int) = some (.inr (.inl i'))) : AJ F (0 : Int) = some (bif (xs.take i).any p then .inr false else .inl i') := by
 have h1 : AJ F (((0 : Nat)) : Int) = BW i (fun k => bif (xs[k]?).any p then some (.inr false) else none) (some (.inl i')) := by
  refine B5 i (fun k => (k : Int)) _ _ (fun k hk _ => ?_) (fun _ => hend)
  have hg := List.getElem?_eq_getElem (show k < xs.length by omega)
  rw [h k _ hk hg, hg, Option.any_some]
  cases p xs[k] <;> rfl
 rw [show (0 : Int) = (((0 : Nat)) : Int) from rfl, h1, Di, DZ]
 cases (xs.take i).any p <;> rfl
theorem Lc (l : List Int) (n : Int) (hl : l.length ≤ 1048576) : TA l n = some (lB l n) := by
 unfold TA lB
 rw [← K2]
 refine Gh l.length _ _ (by omega) (fun i hi _ => ?_) (fun _ => ?_)
 ·have hg := List.getElem?_eq_getElem hi
  unfold Md
  simp only [Bs hi, cond_true, AM, hg, Option.bind_some, Iu, Option.all_some]
  rw [show (decide (l[i] ≥ (0:Int)) && decide (l[i] ≤ BT (n - 1))) = RP n l[i] from rfl]
  cases RP n l[i] with
  | false => rfl
  | true =>
   simp only [Bool.not_true, cond_false, Bool.true_and]
   rw [Sa l i (Nat.le_of_lt hi) (fun y => decide (y = l[i])) (i' := ((i + 1 : Nat) : Int)) (by omega) (fun k y hk hy => ?_) ?_]
   ·cases ((l.take i).any fun y => decide (y = l[i])) <;> rfl
   rotate_left
   ·unfold Me
    simp only [Bs hk, cond_true, AM, hy, Option.bind_some, AZ (show k < 9223372036854775807 by omega)]
    by_cases hc : y = l[i]
    ·rw [decide_eq_true hc, beq_iff_eq.2 hc]; rfl
    ·rw [decide_eq_false hc, beq_eq_false_iff_ne.2 hc]; rfl
   ·unfold Me
    simp only [Bh, cond_false, AZ (show i < 9223372036854775807 by omega)]
    rfl
 ·unfold Md
  simp only [Bh, cond_false, Option.map_some]
theorem Pw {α : Type} {xs : List α} {i : Nat} (hi : i ≤ xs.length) : RK xs (0:Int) (i : Int) = some (xs.take i) := by
 unfold RK
 rw [if_pos ⟨by omega, by omega, by omega⟩]
 simp
theorem Lb (l : List Int) (n : Int) (hl : l.length ≤ 1048576) : TB l n = some (lB l n) := by
 unfold TB lB
 rw [← K2]
 refine Gh l.length _ _ (by omega) (fun i hi _ => ?_) (fun _ => ?_)
 ·have hg := List.getElem?_eq_getElem hi
  unfold Mh
  simp only [Bs hi, cond_true, AM, hg, Option.bind_some, EM, Option.all_some, Pw (Nat.le_of_lt hi), LB (xs := l.take i) (by rw [List.length_take]; omega), AZ (show i < 9223372036854775807 by omega)]
  rw [show (decide (l[i] ≥ (0:Int)) && decide (l[i] ≤ BT (n - 1))) = RP n l[i] from rfl]
  rw [show (fun y => decide (l[i] = y)) = (fun y => decide (y = l[i])) from funext fun y => by congr 1; exact propext eq_comm]
  cases RP n l[i] with
  | false => rfl
  | true => cases ((l.take i).any fun y => decide (y = l[i])) <;> rfl
 ·unfold Mh
  simp only [Bh, cond_false, Option.map_some]
def tB (p : AP) (t : Ae) : Bool := RP (p.A6.length : Int) t.Switch && (decide (t.FC ≥ (1:Int)) && decide (t.FC ≤ (2:Int)))
def Yg (p : AP) (l : List Ae) : Bool := HJ Ae.Switch (tB p) [] l && decide ((l.length : Int) ≤ (30:Int))
theorem Pg (p : AP) (l : List Ae) (hl : l.length ≤ 1048576) : VT p l = some (Yg p l) := by
 unfold VT Yg
 rw [← K2]
 refine Gh l.length _ _ (by omega) (fun i hi _ => ?_) (fun _ => ?_)
 ·have hg := List.getElem?_eq_getElem hi
  unfold Mf
  simp only [Bs hi, cond_true, AM, hg, Option.bind_some, Iu, Option.all_some, GQ]
  unfold tB
  rw [show (decide (l[i].Switch ≥ (0:Int)) && decide (l[i].Switch ≤ BT ((p.A6.length : Int) - 1))) = RP (p.A6.length : Int) l[i].Switch from rfl]
  cases RP (p.A6.length : Int) l[i].Switch with
  | false => rfl
  | true =>
   cases (decide (l[i].FC ≥ (1:Int)) && decide (l[i].FC ≤ (2:Int))) with
   | false => rfl
   | true =>
    simp only [Bool.not_true, cond_false, Bool.true_and]
    rw [Sa l i (Nat.le_of_lt hi) (fun y => decide (y.Switch = l[i].Switch)) (i' := ((i + 1 : Nat) : Int)) (by omega) (fun k y hk hy => ?_) ?_]
    ·cases ((l.take i).any fun y => decide (y.Switch = l[i].Switch)) <;> rfl
    rotate_left
    ·unfold Mg
     simp only [Bs hk, cond_true, AM, hy, Option.bind_some, AZ (show k < 9223372036854775807 by omega)]
     by_cases hc : y.Switch = l[i].Switch
     ·rw [decide_eq_true hc, beq_iff_eq.2 hc]; rfl
     ·rw [decide_eq_false hc, beq_eq_false_iff_ne.2 hc]; rfl
    ·unfold Mg
     simp only [Bh, cond_false, AZ (show i < 9223372036854775807 by omega)]
     rfl
 ·unfold Mf
  simp only [Bh, cond_false, Option.map_some]
theorem Ow {p : AP} {t : Ae} (hp : p.A6.length ≤ 1048576) (h : tB p t = true) : ∃ (k : Nat) (c : Int), t.Switch = (k : Int) ∧ p.A6[k]? = some c ∧ AK p.A6 t.Switch = some c := by
 unfold tB RP at h
 rw [Mo (y := t.Switch) (n := (p.A6.length : Int)) (by omega)] at h
 simp only [Bool.and_eq_true, decide_eq_true_eq] at h
 obtain ⟨k, hk⟩ : ∃ k : Nat, t.Switch = (k : Int) := ⟨t.Switch.toNat, by omega⟩
 have hlt : k < p.A6.length := by omega
 exact ⟨k, _, hk, List.getElem?_eq_getElem hlt, by rw [hk, AM, List.getElem?_eq_getElem hlt]⟩
def eD (p : AP) (t : Ae) : Int := (AK p.A6 t.Switch).getD 0
def Kf (p : AP) (w : Bq) (t : Ae) : Bool := w.A0.any fun y => decide (eD p t = y)
def Hq (w : Bq) (t : Ae) : Bool := w.AH.any fun y => decide (t.Switch = y.Switch)
def Jl (w : Bq) : Bool := !(w.Bt.any fun x => w.A0.any fun y => decide (x = y))
def Ui (p : AP) (w : Bq) : Bool := !((w.A0.length : Int) == (0:Int)) && (lB w.A0 p.A0 && (lB w.Bt p.A0 && lB w.DB p.A0))
def JH (p : AP) (w : Bq) : Bool := Ui p w && ((Yg p w.AQ && Yg p w.AH) && ((w.AQ.all fun t => !Hq w t && Kf p w t) && Jl w))
abbrev lV (w : Bq) : Prop := w.A0.length ≤ 1048576 ∧ w.AQ.length ≤ 1048576 ∧ w.AH.length ≤ 1048576 ∧ w.Bt.length ≤ 1048576 ∧ w.DB.length ≤ 1048576
theorem aK {p : AP} {l : List Ae} (h : Yg p l = true) : ∀ t ∈ l, tB p t = true := by
 unfold Yg at h
 rw [Bool.and_eq_true, J3] at h
 exact h.1.1
theorem YQ {p : AP} {w : Bq} (hp : p.A6.length ≤ 1048576) (hw : lV w) : Wh p w = some (JH p w) := by
 obtain ⟨h1, h2, h3, h4, h5⟩ := hw
 unfold Wh JH Ui
 simp only [Lc _ _ h1, Lc _ _ h4, Lc _ _ h5, Pg _ _ h2, Pg _ _ h3, Option.bind_some, GQ]
 cases hL : Yg p w.AQ with
 | false => cases ((w.A0.length : Int) == (0:Int)) <;> cases lB w.A0 p.A0 <;> cases lB w.Bt p.A0 <;> cases lB w.DB p.A0 <;> rfl
 | true =>
  have hloop : AJ (KQ p w) (0 : Int) = some ((w.AQ.all fun t => !Hq w t && Kf p w t) && Jl w) := by
   rw [← Po w.AQ (fun i => (w.AQ[i]?).all fun t => !Hq w t && Kf p w t) _ (fun i x hx => by rw [hx]; rfl)]
   refine Gh w.AQ.length _ _ (by omega) (fun i hi _ => ?_) (fun _ => ?_)
   ·have hg := List.getElem?_eq_getElem hi
    obtain ⟨k, c, e1, e2, e3⟩ := Ow hp (aK hL _ (List.getElem_mem hi))
    unfold KQ
    simp only [Bs hi, cond_true, AM, hg, Option.bind_some, Option.all_some]
    have hin : Kf p w w.AQ[i] = w.A0.any fun y => decide (c = y) := by unfold Kf eD; rw [e3]; rfl
    have hL2 : AJ (JN p w (i : Int) w.AQ[i]) (((0 : Nat)) : Int) = BW w.AH.length (fun k => bif (w.AH[k]?).any (fun y => decide (w.AQ[i].Switch = y.Switch)) then some (.inr false) else none) (some (bif Kf p w w.AQ[i] then .inl ((i + 1 : Nat) : Int) else .inr false)) := by
     refine B5 w.AH.length (fun k => (k : Int)) _ _ (fun k hk _ => ?_) (fun _ => ?_)
     ·have hgk := List.getElem?_eq_getElem hk
      unfold JN
      simp only [Bs hk, cond_true, AM, hgk, Option.bind_some, Option.any_some, AZ (show k < 9223372036854775807 by omega)]
      by_cases hc : w.AQ[i].Switch = w.AH[k].Switch
      ·rw [decide_eq_true hc, beq_iff_eq.2 hc]; rfl
      ·rw [decide_eq_false hc, beq_eq_false_iff_ne.2 hc]; rfl
     ·unfold JN
      simp only [Bh, cond_false, e3, Option.bind_some, R2 [c] w.A0 (by simp) h1, AZ (show i < 9223372036854775807 by omega)]
      rw [hin]
      simp only [List.any_cons, List.any_nil, Bool.or_false]
      cases (w.A0.any fun y => decide (c = y)) <;> rfl
    have hL2 : AJ (JN p w (i : Int) w.AQ[i]) (0 : Int) = _ := hL2
    have hcr : Hq w w.AQ[i] = (List.range w.AH.length).any fun k => (w.AH[k]?).any fun y => decide (w.AQ[i].Switch = y.Switch) := by
     rw [DZ, List.take_length]; rfl
    rw [hL2, Di, hcr]
    cases ((List.range w.AH.length).any fun k => (w.AH[k]?).any fun y => decide (w.AQ[i].Switch = y.Switch)) <;> cases Kf p w w.AQ[i] <;> rfl
   ·unfold KQ
    simp only [Bh, cond_false, R2 _ _ h4 h1, Option.bind_some, Option.map_some]
    rfl
  rw [hloop]
  cases ((w.A0.length : Int) == (0:Int)) <;> cases lB w.A0 p.A0 <;> cases lB w.Bt p.A0 <;> cases lB w.DB p.A0 <;> cases Yg p w.AH <;> rfl
theorem WD (a b : List Int) : (a.any fun x => b.any fun y => decide (x = y)) = b.any fun x => a.any fun y => decide (x = y) := by
 rw [Bool.eq_iff_iff]
 simp only [List.any_eq_true, decide_eq_true_eq]
 constructor
 ·rintro ⟨x, hx, y, hy, rfl⟩; exact ⟨x, hy, x, hx, rfl⟩
 ·rintro ⟨x, hx, y, hy, rfl⟩; exact ⟨x, hy, x, hx, rfl⟩
theorem Xl {p : AP} {w : Bq} : (HJ Ae.Switch (tB p) [] (w.AQ ++ w.AH) && (w.AQ.all fun t => Kf p w t)) = ((HJ Ae.Switch (tB p) [] w.AQ && HJ Ae.Switch (tB p) [] w.AH) && (w.AQ.all fun t => !Hq w t && Kf p w t)) := by
 rw [Bool.eq_iff_iff]
 simp only [Bool.and_eq_true, J3, List.all_eq_true, List.mem_append, List.map_append, List.nodup_append, Bool.not_eq_true']
 constructor
 ·rintro ⟨⟨h1, ⟨h2, h3, h4⟩, _⟩, h5⟩
  refine ⟨⟨⟨fun x hx => h1 x (.inl hx), h2, fun _ _ h => by cases h⟩, fun x hx => h1 x (.inr hx), h3, fun _ _ h => by cases h⟩, fun x hx => ⟨?_, h5 x hx⟩⟩
  unfold Hq
  rw [List.any_eq_false]
  intro y hy
  simp only [decide_eq_true_eq]
  exact h4 _ (List.mem_map_of_mem hx) _ (List.mem_map_of_mem hy)
 ·rintro ⟨⟨⟨h1, h2, _⟩, h3, h4, _⟩, h5⟩
  refine ⟨⟨fun x hx => hx.elim (h1 x) (h3 x), ⟨h2, h4, ?_⟩, fun _ _ h => by cases h⟩, fun x hx => (h5 x hx).2⟩
  intro a ha b hb e
  obtain ⟨x, hx, rfl⟩ := List.mem_map.1 ha
  obtain ⟨y, hy, rfl⟩ := List.mem_map.1 hb
  have := (h5 x hx).1
  unfold Hq at this
  rw [List.any_eq_false] at this
  exact absurd e (by simpa using this y hy)
theorem YP {p : AP} {w : Bq} (hp : p.A6.length ≤ 1048576) (hw : lV w) : Wl p w = some (JH p w) := by
 obtain ⟨h1, h2, h3, h4, h5⟩ := hw
 unfold Wl JH Ui
 simp only [Lb _ _ h1, Lb _ _ h4, Lb _ _ h5, Option.bind_some, GQ]
 have hz0 : DC 16 ([] : List Ae) w.AQ = some w.AQ := by rw [EO (by simp; omega)]; rfl
 have hz : DC 16 w.AQ w.AH = some (w.AQ ++ w.AH) := EO (by omega)
 rw [hz0, Option.bind_some, hz, Option.bind_some]
 have hlen : (w.AQ ++ w.AH).length ≤ 2097152 := by simp; omega
 have hloop : AJ (Hz p w (w.AQ ++ w.AH)) (([] : List (Int × Bool)), w.AQ ++ w.AH, (0:Int)) = some (HJ Ae.Switch (tB p) [] (w.AQ ++ w.AH) && ((w.AQ.all fun t => Kf p w t) && Jl w)) := by
  have key : ∀ (r : List Ae) (i : Nat) (m : List (Int × Bool)), (w.AQ ++ w.AH).drop i = r → i ≤ (w.AQ ++ w.AH).length → (∀ t ∈ (w.AQ ++ w.AH).take i, tB p t = true) → (∀ k, J1 k m false = ((w.AQ ++ w.AH).take i).any fun t => decide (t.Switch = k)) →
    AJ (Hz p w (w.AQ ++ w.AH)) (m, w.AQ ++ w.AH, (i : Int)) = some (HJ Ae.Switch (tB p) (((w.AQ ++ w.AH).take i).map (·.Switch)) r && ((w.AQ.all fun t => Kf p w t) && Jl w)) := by
   intro r
   induction r with
   | nil =>
    intro i m hr hi hok hm
    have hi' : i = (w.AQ ++ w.AH).length := by have := List.drop_eq_nil_iff.1 hr; omega
    subst hi'
    rw [List.take_length] at hok
    rw [Bz]
    unfold Hz
    simp only [Bh, cond_false, HJ, Bool.true_and]
    have hL2 : AJ (KR p w) (0 : Int) = some ((w.AQ.all fun t => Kf p w t) && Jl w) := by
     rw [← Po w.AQ (fun i => (w.AQ[i]?).all fun t => Kf p w t) _ (fun i x hx => by rw [hx]; rfl)]
     refine Gh w.AQ.length _ _ (by omega) (fun i hi _ => ?_) (fun _ => ?_)
     ·have hg := List.getElem?_eq_getElem hi
      obtain ⟨k, c, e1, e2, e3⟩ := Ow hp (hok _ (List.mem_append_left _ (List.getElem_mem hi)))
      have hin : Kf p w w.AQ[i] = w.A0.any fun y => decide (c = y) := by unfold Kf eD; rw [e3]; rfl
      unfold KR
      simp only [Bs hi, cond_true, AM, hg, Option.bind_some, Option.all_some, e3, LB h1, AZ (show i < 9223372036854775807 by omega)]
      rw [hin]
      cases (w.A0.any fun y => decide (c = y)) <;> rfl
     ·unfold KR
      simp only [Bh, cond_false, PR _ _ h1 h4, Option.bind_some, Option.map_some]
      unfold Jl
      rw [WD w.Bt]
    rw [hL2]
    rfl
   | cons t r ih =>
    intro i m hr hi hok hm
    have hlt : i < (w.AQ ++ w.AH).length := by
     rcases Nat.lt_or_ge i (w.AQ ++ w.AH).length with hl | hl
     ·exact hl
     ·rw [List.drop_eq_nil_of_le hl] at hr; cases hr
    rw [List.drop_eq_getElem_cons hlt] at hr
    simp only [List.cons.injEq] at hr
    have hg : (w.AQ ++ w.AH)[i]? = some t := by rw [List.getElem?_eq_getElem hlt, hr.1]
    rw [Bz]
    generalize hF : AJ (Hz p w (w.AQ ++ w.AH)) = LP at ih ⊢
    unfold Hz
    simp only [Bs hlt, cond_true, AM, hg, Option.bind_some, EM, GQ, hm, AZ (show i < 9223372036854775807 by omega)]
    have hndup : HJ Ae.Switch (tB p) (((w.AQ ++ w.AH).take i).map (·.Switch)) (t :: r) = ((tB p t && !(((w.AQ ++ w.AH).take i).any fun y => decide (y.Switch = t.Switch))) && HJ Ae.Switch (tB p) (((w.AQ ++ w.AH).take (i + 1)).map (·.Switch)) r) := by
     rw [HJ, List.any_map, List.take_add_one, hg, List.map_append]
     rfl
    rw [hndup]
    unfold tB at hok ⊢
    rw [show (decide (t.Switch ≥ (0:Int)) && decide (t.Switch ≤ BT ((p.A6.length : Int) - 1))) = RP (p.A6.length : Int) t.Switch from rfl]
    cases hc1 : RP (p.A6.length : Int) t.Switch with
    | false => rfl
    | true =>
     cases hc2 : (decide (t.FC ≥ (1:Int)) && decide (t.FC ≤ (2:Int))) with
     | false => rfl
     | true =>
      cases hc3 : (((w.AQ ++ w.AH).take i).any fun y => decide (y.Switch = t.Switch)) with
      | true => rfl
      | false =>
       simp only [Bool.not_true, cond_false, Bool.or_false, Option.bind_some, Bool.true_and, Bool.and_self, Bool.not_false]
       have hih := ih (i + 1) (PD t.Switch true m) hr.2 hlt (fun x hx => ?_) (fun k => ?_)
       ·exact hih
       ·rw [List.take_add_one, hg] at hx
        rcases List.mem_append.1 hx with hx | hx
        ·exact hok x hx
        ·simp only [Option.toList_some, List.mem_singleton] at hx
         subst hx
         unfold tB
         rw [hc1, hc2]; rfl
       ·rw [Vf, hm, List.take_add_one, hg, List.any_append]
        simp only [Option.toList_some, List.any_cons, List.any_nil, Bool.or_false]
        by_cases hk : k = t.Switch
        ·rw [if_pos hk]; simp [hk]
        ·rw [if_neg hk, decide_eq_false (fun e => hk e.symm), Bool.or_false]
  have := key (w.AQ ++ w.AH) 0 [] rfl (Nat.zero_le _) (fun t ht => by simp at ht) (fun k => rfl)
  simpa using this
 rw [hloop]
 have h30 : ∀ l : List Ae, decide ((l.length : Int) > (30:Int)) = !decide ((l.length : Int) ≤ (30:Int)) := fun l => by
  by_cases hc : (l.length : Int) ≤ 30
  ·rw [decide_eq_true hc, decide_eq_false (by omega)]; rfl
  ·rw [decide_eq_false hc, decide_eq_true (by omega)]; rfl
 rw [h30, h30, ← Bool.and_assoc (HJ _ _ _ _), Xl]
 unfold Yg
 generalize ((w.A0.length : Int) == (0:Int)) = b0
 generalize lB w.A0 p.A0 = b1
 generalize lB w.Bt p.A0 = b2
 generalize lB w.DB p.A0 = b3
 generalize decide ((w.AQ.length : Int) ≤ (30:Int)) = b4
 generalize decide ((w.AH.length : Int) ≤ (30:Int)) = b5
 generalize HJ Ae.Switch (tB p) [] w.AQ = b6
 generalize HJ Ae.Switch (tB p) [] w.AH = b7
 generalize (w.AQ.all fun t => !Hq w t && Kf p w t) = b8
 generalize Jl w = b9
 cases b0 <;> cases b1 <;> cases b2 <;> cases b3 <;> cases b4 <;> cases b5 <;> cases b6 <;> cases b7 <;> cases b8 <;> cases b9 <;> rfl
def Xf (a b : List Int) : Bool := a.any fun x => b.any fun y => decide (x = y)
def HR (p : AP) (i k : Nat) : Bool := ((p.BV[i]?).bind fun r => r[k]?).getD false
def PH (p : AP) (i : Nat) : List Int := ((p.A7[i]?).map (·.A0)).getD []
def Oz (p : AP) (i k : Nat) : Bool := !(HR p i k == HR p k i) || (!(decide (i = k)) && (!HR p i k && Xf (PH p i) (PH p k)))
def H9 (p : AP) : Option Ba := BW p.A7.length (fun i => bif (List.range p.A7.length).any (Oz p i) then some ⟨5, (i : Int)⟩ else none) (some ⟨0, 0⟩)
def Ks (p : AP) (e : Option Ba) : Option Ba := BW p.BV.length (fun i => bif (p.BV[i]?).any (fun r => ((r.length : Int) != (p.A7.length : Int))) then some ⟨4, (i : Int)⟩ else none) e
def Pn (p : AP) (e : Option Ba) : Option Ba := BW p.A7.length (fun i => bif (p.A7[i]?).any (fun w => !JH p w) then some ⟨3, (i : Int)⟩ else none) (bif ((p.BV.length : Int) != (p.A7.length : Int)) then some ⟨4, 0⟩ else Ks p e)
def Hh (p : AP) (e : Option Ba) : Option Ba := BW p.A6.length (fun i => bif (p.A6[i]?).any (fun x => !RP p.A0 x) then some ⟨2, (i : Int)⟩ else none) (Pn p e)
def Ke (p : AP) : Bool := ((decide (p.A0 ≥ (1:Int)) && decide (p.A0 ≤ (60:Int))) && (decide (p.E8 ≥ (1:Int)) && decide (p.E8 ≤ (300:Int)))) && (!decide ((p.A6.length : Int) > (40:Int)) && !decide ((p.A7.length : Int) > (100:Int)))
def Gj (p : AP) : Option Ba := bif !Ke p then some ⟨1, 0⟩ else Hh p (H9 p)
theorem SJ (p : AP) : ∃ r, Gj p = some r := by
 have h4 : ∃ r, H9 p = some r := Et _ _ ⟨_, rfl⟩
 have h3 : ∃ r, Ks p (H9 p) = some r := Et _ _ h4
 have h2 : ∃ r, Pn p (H9 p) = some r := by
  refine Et _ _ ?_
  cases ((p.BV.length : Int) != (p.A7.length : Int))
  ·exact h3
  ·exact ⟨_, rfl⟩
 have h1 : ∃ r, Hh p (H9 p) = some r := Et _ _ h2
 unfold Gj
 cases Ke p
 ·exact ⟨_, rfl⟩
 ·exact h1
theorem Ls {w : Bq} (h : Hl w) : lV w := ⟨h.1.1, h.2.1.1, h.2.2.1.1, h.2.2.2.1.1, h.2.2.2.2.1⟩
theorem SI {p : AP} (hb : ((p.BV.length : Int) != (p.A7.length : Int)) = false) {e e' : Option Ba} (h : (∀ (i : Nat), i < p.A7.length → ∃ r, p.BV[i]? = some r ∧ r.length = p.A7.length) → e = e') : Ks p e = Ks p e' := by
 unfold Ks
 refine I2 (fun _ _ => rfl) fun hn => h fun i hi => ?_
 rw [bne_eq_false_iff_eq] at hb
 have hlt : i < p.BV.length := by omega
 have h1 := hn i hlt
 rw [List.getElem?_eq_getElem hlt, Option.any_some] at h1
 have h2 := FE h1
 rw [bne_eq_false_iff_eq] at h2
 exact ⟨_, List.getElem?_eq_getElem hlt, by omega⟩
theorem Oe {p : AP} {e e' : Option Ba} (h : ((p.BV.length : Int) != (p.A7.length : Int)) = false → (∀ (i : Nat), i < p.A7.length → ∃ r, p.BV[i]? = some r ∧ r.length = p.A7.length) → e = e') : Hh p e = Hh p e' := by
 unfold Hh
 refine I2 (fun _ _ => rfl) fun _ => ?_
 unfold Pn
 refine I2 (fun _ _ => rfl) fun _ => ?_
 cases hb : ((p.BV.length : Int) != (p.A7.length : Int)) with
 | true => rfl
 | false => exact SI hb (h hb)
theorem Hg {ρ : Type} {n : Nat} (p : Nat → Bool) (r0 : ρ) {F : Int → Option (Int ⊕ (Int ⊕ ρ))} {i' : Int} (h : ∀ k, k < n → F (k : Int) = some (bif p k then .inr (.inr r0) else .inl ((k + 1 : Nat) : Int))) (hend : F (n : Int) = some (.inr (.inl i'))) : AJ F (0 : Int) = some (bif (List.range n).any p then .inr r0 else .inl i') := by
 have h1 : AJ F (((0 : Nat)) : Int) = BW n (fun k => bif p k then some (.inr r0) else none) (some (.inl i')) := by
  refine B5 n (fun k => (k : Int)) _ _ (fun k hk _ => ?_) (fun _ => hend)
  rw [h k hk]
  cases p k <;> rfl
 rw [show (0 : Int) = (((0 : Nat)) : Int) from rfl, h1, Di]
 cases (List.range n).any p <;> rfl
theorem Tm (i k : Nat) : ((i : Int) != (k : Int)) = !(decide (i = k)) := by
 by_cases h : i = k
 ·rw [decide_eq_true h, h]; simp
 ·rw [decide_eq_false h, bne_iff_ne.2 (by omega)]; rfl
theorem VC {p : AP} (hs : Fg p) (hr : ∀ (i : Nat), i < p.A7.length → ∃ r, p.BV[i]? = some r ∧ r.length = p.A7.length) (hb : p.BV.length = p.A7.length) : AJ (Gw p) (0 : Int) = H9 p := by
 have hw := hs.2.1.1
 unfold H9
 rw [show (0 : Int) = (((0 : Nat)) : Int) from rfl]
 have := B5 (F := Gw p) p.A7.length (fun i => (i : Int)) (fun i => bif (List.range p.A7.length).any (Oz p i) then some (⟨5, (i : Int)⟩ : Ba) else none) (some ⟨0, 0⟩) (fun i hi _ => ?_) (fun _ => ?_)
 ·exact this
 ·obtain ⟨row, hrow, hlen⟩ := hr i hi
  have hwi := List.getElem?_eq_getElem hi
  unfold Gw
  simp only [hb, Bs hi, cond_true, AM, hrow, Option.bind_some]
  rw [Hg (n := p.A7.length) (Oz p i) (⟨5, (i : Int)⟩ : Ba) (i' := ((i + 1 : Nat) : Int)) (fun k hk => ?_) ?_]
  ·cases (List.range p.A7.length).any (Oz p i) <;> rfl
  rotate_left
  ·obtain ⟨row2, hrow2, hlen2⟩ := hr k hk
   have hwk := List.getElem?_eq_getElem hk
   have h1 := List.getElem?_eq_getElem (show k < row.length by omega)
   have h2 := List.getElem?_eq_getElem (show i < row2.length by omega)
   have e1 : HR p i k = row[k]'(by omega) := by unfold HR; rw [hrow, Option.bind_some, h1]; rfl
   have e2 : HR p k i = row2[i]'(by omega) := by unfold HR; rw [hrow2, Option.bind_some, h2]; rfl
   have e3 : PH p i = p.A7[i].A0 := by unfold PH; rw [hwi]; rfl
   have e4 : PH p k = p.A7[k].A0 := by unfold PH; rw [hwk]; rfl
   have l1 := (Ls (hs.2.1.2 _ (List.getElem_mem hi))).1
   have l2 := (Ls (hs.2.1.2 _ (List.getElem_mem hk))).1
   unfold MX Oz
   simp only [hlen, Bs hk, cond_true, AM, h1, hrow2, h2, Option.bind_some, hwi, hwk, R2 _ _ l1 l2, AZ (show k < 9223372036854775807 by omega), Tm]
   rw [e1, e2, e3, e4]
   unfold Xf
   cases (row[k]'(by omega) == row2[i]'(by omega)) with
   | false => rfl
   | true =>
    cases decide (i = k) with
    | true => rfl
    | false =>
     cases row[k]'(by omega) with
     | true => rfl
     | false => cases (p.A7[i].A0.any fun x => p.A7[k].A0.any fun y => decide (x = y)) <;> rfl
  ·unfold MX
   simp only [hlen, Bh, cond_false, AZ (show i < 9223372036854775807 by omega)]
   rfl
 ·unfold Gw
  simp only [hb, Bh, cond_false]
theorem VB {p : AP} (hs : Fg p) (hr : ∀ (i : Nat), i < p.A7.length → ∃ r, p.BV[i]? = some r ∧ r.length = p.A7.length) : AJ (Gx p) (0 : Int) = H9 p := by
 have hw := hs.2.1.1
 unfold H9
 rw [show (0 : Int) = (((0 : Nat)) : Int) from rfl]
 have := B5 (F := Gx p) p.A7.length (fun i => (i : Int)) (fun i => bif (List.range p.A7.length).any (Oz p i) then some (⟨5, (i : Int)⟩ : Ba) else none) (some ⟨0, 0⟩) (fun i hi _ => ?_) (fun _ => ?_)
 ·exact this
 ·obtain ⟨row, hrow, hlen⟩ := hr i hi
  have hwi := List.getElem?_eq_getElem hi
  unfold Gx
  simp only [Bs hi, cond_true]
  rw [Hg (n := p.A7.length) (Oz p i) (⟨5, (i : Int)⟩ : Ba) (i' := ((i + 1 : Nat) : Int)) (fun k hk => ?_) ?_]
  ·cases (List.range p.A7.length).any (Oz p i) <;> rfl
  rotate_left
  ·obtain ⟨row2, hrow2, hlen2⟩ := hr k hk
   have hwk := List.getElem?_eq_getElem hk
   have h1 := List.getElem?_eq_getElem (show k < row.length by omega)
   have h2 := List.getElem?_eq_getElem (show i < row2.length by omega)
   have e1 : HR p i k = row[k]'(by omega) := by unfold HR; rw [hrow, Option.bind_some, h1]; rfl
   have e2 : HR p k i = row2[i]'(by omega) := by unfold HR; rw [hrow2, Option.bind_some, h2]; rfl
   have e3 : PH p i = p.A7[i].A0 := by unfold PH; rw [hwi]; rfl
   have e4 : PH p k = p.A7[k].A0 := by unfold PH; rw [hwk]; rfl
   have l1 := (Ls (hs.2.1.2 _ (List.getElem_mem hi))).1
   have l2 := (Ls (hs.2.1.2 _ (List.getElem_mem hk))).1
   unfold MY Oz
   simp only [Bs hk, cond_true, AM, hrow, h1, hrow2, h2, Option.bind_some, hwi, hwk, PR _ _ l1 l2, AZ (show k < 9223372036854775807 by omega), Tm]
   rw [e1, e2, e3, e4]
   unfold Xf
   cases (row[k]'(by omega) == row2[i]'(by omega)) with
   | false => rfl
   | true =>
    cases decide (i = k) with
    | true => rfl
    | false =>
     cases row[k]'(by omega) with
     | true => rfl
     | false => cases (p.A7[i].A0.any fun x => p.A7[k].A0.any fun y => decide (x = y)) <;> rfl
  ·unfold MY
   simp only [Bh, cond_false, AZ (show i < 9223372036854775807 by omega)]
   rfl
 ·unfold Gx
  simp only [Bh, cond_false]
theorem Vs {p : AP} (hs : Fg p) : Rf p = some (((Rf p)).getD ⟨0, 0⟩) ∧ Rf p = Gj p := by
 have hq : Rf p = Gj p := by
  have hw := hs.2.1.1
  have hsw := hs.1.1
  have hbl := hs.2.2.1
  unfold Rf Gj Ke
  simp only [Iu, Option.bind_some, GQ]
  have hl : AJ (Ht p) (0 : Int) = Hh p (H9 p) := by
   have h1 : AJ (Ht p) (((0 : Nat)) : Int) = Hh p (AJ (Gw p) (0 : Int)) := by
    unfold Hh
    refine B5 p.A6.length (fun i => (i : Int)) _ _ (fun i hi _ => ?_) (fun _ => ?_)
    ·have hg := List.getElem?_eq_getElem hi
     unfold Ht
     simp only [Bs hi, cond_true, AM, hg, Option.bind_some, Iu, Option.any_some, AZ (show i < 9223372036854775807 by omega)]
     rw [show (decide (p.A6[i] ≥ (0:Int)) && decide (p.A6[i] ≤ BT (p.A0 - 1))) = RP p.A0 p.A6[i] from rfl]
     cases RP p.A0 p.A6[i] <;> rfl
    ·unfold Ht
     simp only [Bh, cond_false]
     congr 1
     unfold Pn
     have h2 : AJ (JJ p) (((0 : Nat)) : Int) = BW p.A7.length (fun i => bif (p.A7[i]?).any (fun w => !JH p w) then some ⟨3, (i : Int)⟩ else none) (bif ((p.BV.length : Int) != (p.A7.length : Int)) then some ⟨4, 0⟩ else AJ (JK p) (0 : Int)) := by
      refine B5 p.A7.length (fun i => (i : Int)) _ _ (fun i hi _ => ?_) (fun _ => ?_)
      ·have hg := List.getElem?_eq_getElem hi
       unfold JJ
       simp only [Bs hi, cond_true, AM, hg, Option.bind_some, YQ hsw (Ls (hs.2.1.2 _ (List.getElem_mem hi))), Option.any_some, AZ (show i < 9223372036854775807 by omega)]
       cases JH p p.A7[i] <;> rfl
      ·unfold JJ
       simp only [Bh, cond_false]
     have h2 : AJ (JJ p) (0 : Int) = _ := h2
     rw [h2]
     congr 2
     unfold Ks
     have h3 : AJ (JK p) (((0 : Nat)) : Int) = BW p.BV.length (fun i => bif (p.BV[i]?).any (fun r => ((r.length : Int) != (p.A7.length : Int))) then some ⟨4, (i : Int)⟩ else none) (AJ (Gw p) (0 : Int)) := by
      refine B5 p.BV.length (fun i => (i : Int)) _ _ (fun i hi _ => ?_) (fun _ => ?_)
      ·have hg := List.getElem?_eq_getElem hi
       unfold JK
       simp only [Bs hi, cond_true, AM, hg, Option.bind_some, Option.any_some, AZ (show i < 9223372036854775807 by omega)]
       cases ((p.BV[i].length : Int) != (p.A7.length : Int)) <;> rfl
      ·unfold JK
       simp only [Bh, cond_false]
     exact h3
   have h1 : AJ (Ht p) (0 : Int) = _ := h1
   rw [h1]
   refine Oe fun hb hr => VC hs hr ?_
   rw [bne_eq_false_iff_eq] at hb
   omega
  rw [hl]
  cases (decide (p.A0 ≥ (1:Int)) && decide (p.A0 ≤ (60:Int))) <;> cases (decide (p.E8 ≥ (1:Int)) && decide (p.E8 ≤ (300:Int))) <;> cases decide ((p.A6.length : Int) > (40:Int)) <;> cases decide ((p.A7.length : Int) > (100:Int)) <;> rfl
 obtain ⟨r, hr⟩ := SJ p
 exact ⟨by rw [hq, hr]; rfl, hq⟩
theorem Vr {p : AP} (hs : Fg p) : WX p = Gj p := by
 have hw := hs.2.1.1
 have hsw := hs.1.1
 have hbl := hs.2.2.1
 unfold WX Gj Ke
 simp only [EM, Option.bind_some, GQ]
 have hl : AJ (Hu p) (0 : Int) = Hh p (H9 p) := by
  have h1 : AJ (Hu p) (((0 : Nat)) : Int) = Hh p (AJ (Gx p) (0 : Int)) := by
   unfold Hh
   refine B5 p.A6.length (fun i => (i : Int)) _ _ (fun i hi _ => ?_) (fun _ => ?_)
   ·have hg := List.getElem?_eq_getElem hi
    unfold Hu
    simp only [Bs hi, cond_true, AM, hg, Option.bind_some, EM, Option.any_some, AZ (show i < 9223372036854775807 by omega)]
    rw [show (decide (p.A6[i] ≥ (0:Int)) && decide (p.A6[i] ≤ BT (p.A0 - 1))) = RP p.A0 p.A6[i] from rfl]
    cases RP p.A0 p.A6[i] <;> rfl
   ·unfold Hu
    simp only [Bh, cond_false]
    congr 1
    unfold Pn
    have h2 : AJ (JL p) (((0 : Nat)) : Int) = BW p.A7.length (fun i => bif (p.A7[i]?).any (fun w => !JH p w) then some ⟨3, (i : Int)⟩ else none) (bif ((p.BV.length : Int) != (p.A7.length : Int)) then some ⟨4, 0⟩ else AJ (JM p) (0 : Int)) := by
     refine B5 p.A7.length (fun i => (i : Int)) _ _ (fun i hi _ => ?_) (fun _ => ?_)
     ·have hg := List.getElem?_eq_getElem hi
      unfold JL
      simp only [Bs hi, cond_true, AM, hg, Option.bind_some, YP hsw (Ls (hs.2.1.2 _ (List.getElem_mem hi))), Option.any_some, AZ (show i < 9223372036854775807 by omega)]
      cases JH p p.A7[i] <;> rfl
     ·unfold JL
      simp only [Bh, cond_false]
    have h2 : AJ (JL p) (0 : Int) = _ := h2
    rw [h2]
    congr 2
    unfold Ks
    have h3 : AJ (JM p) (((0 : Nat)) : Int) = BW p.BV.length (fun i => bif (p.BV[i]?).any (fun r => ((r.length : Int) != (p.A7.length : Int))) then some ⟨4, (i : Int)⟩ else none) (AJ (Gx p) (0 : Int)) := by
     refine B5 p.BV.length (fun i => (i : Int)) _ _ (fun i hi _ => ?_) (fun _ => ?_)
     ·have hg := List.getElem?_eq_getElem hi
      unfold JM
      simp only [Bs hi, cond_true, AM, hg, Option.bind_some, Option.any_some, AZ (show i < 9223372036854775807 by omega)]
      cases ((p.BV[i].length : Int) != (p.A7.length : Int)) <;> rfl
     ·unfold JM
      simp only [Bh, cond_false]
    exact h3
  have h1 : AJ (Hu p) (0 : Int) = _ := h1
  rw [h1]
  exact Oe fun _ hr => VB hs hr
 rw [hl]
 cases (decide (p.A0 ≥ (1:Int)) && decide (p.A0 ≤ (60:Int))) <;> cases (decide (p.E8 ≥ (1:Int)) && decide (p.E8 ≤ (300:Int))) <;> cases decide ((p.A6.length : Int) > (40:Int)) <;> cases decide ((p.A7.length : Int) > (100:Int)) <;> rfl
theorem KW {ρ : Type} {P : ρ → Prop} {n : Nat} {f : Nat → Option ρ} {e : Option ρ} {r : ρ} (h : BW n f e = some r) (hf : ∀ i r, f i = some r → P r) (he : e = some r → P r) : P r := by
 rcases Dj h with ⟨i, _, h⟩ | ⟨_, h⟩
 ·exact hf i r h
 ·exact he h
def KA (f : Ba) : Prop := (f.Code == 0 && (f.At == 0 && true)) = (f.Code == 0)
theorem JI {b : Bool} {x r : Ba} (hx : KA x) (h : (bif b then some x else none) = some r) : KA r := by
 obtain ⟨_, rfl⟩ := FF h
 exact hx
theorem SK {p : AP} {f : Ba} (h : Gj p = some f) : KA f := by
 unfold Gj at h
 cases hh : Ke p with
 | false => rw [hh] at h; cases h; rfl
 | true =>
  rw [hh] at h
  refine KW h (fun i r h => JI (by unfold KA; rfl) h) fun h => ?_
  refine KW h (fun i r h => JI (by unfold KA; rfl) h) fun h => ?_
  cases hb : ((p.BV.length : Int) != (p.A7.length : Int)) with
  | true => rw [hb] at h; cases h; rfl
  | false =>
   rw [hb] at h
   refine KW h (fun i r h => JI (by unfold KA; rfl) h) fun h => ?_
   refine KW h (fun i r h => JI (by unfold KA; rfl) h) fun h => ?_
   cases h; rfl
theorem Vq {p : AP} {f : Ba} (h : Gj p = some f) (h0 : (f.Code == 0) = true) : Ke p = true := by
 unfold Gj at h
 cases hh : Ke p with
 | true => rfl
 | false => rw [hh] at h; cases h; cases h0
theorem Zp {p : AP} {f : Ba} (hs : Fg p) (hf : Gj p = some f) : gW p = some (f.Code == 0) := by unfold gW; rw [(Vs hs).2, hf]; rfl
theorem Zo {p : AP} {f : Ba} (hs : Fg p) (hf : Gj p = some f) : hQ p = some (f.Code == 0) := by unfold hQ; rw [Vr hs, hf, Option.bind_some, (SK hf : _ = _)]
theorem Ta {p : AP} (h : Ke p = true) : 1 ≤ p.A0 ∧ p.A0 ≤ 60 ∧ p.A6.length ≤ 40 ∧ p.A7.length ≤ 100 ∧ 1 ≤ p.E8 ∧ p.E8 ≤ 300 := by
 unfold Ke at h
 simp only [Bool.and_eq_true, decide_eq_true_eq, Bool.not_eq_true', decide_eq_false_iff_not] at h
 omega
theorem dN {α β σ ρ : Type} {F : σ → Option (σ ⊕ ρ)} (st : List β → Int → σ) (xs : List α) (g : α → β) {r : ρ} (hstep : ∀ (row : List β) (i : Nat) (x : α), xs[i]? = some x → row.length = i → F (st row (i : Int)) = some (.inl (st (row ++ [g x]) ((i + 1 : Nat) : Int)))) (hend : F (st (xs.map g) (xs.length : Int)) = some (.inr r)) : AJ F (st [] (0 : Int)) = some r := by
 have := JT (F := F) xs.length (fun i => st ((xs.take i).map g) (i : Int)) (r := r) (fun i hi => ?_) (by rw [List.take_length]; exact hend)
 ·simpa using this
 ·have hx : xs[i]? = some xs[i] := List.getElem?_eq_getElem hi
  rw [hstep _ i xs[i] hx (by rw [List.length_map, List.length_take]; omega), show (xs.take i).map g ++ [g xs[i]] = (xs.take (i + 1)).map g by rw [List.take_succ_eq_append_getElem hi, List.map_append]; rfl]
structure RR (p : AP) (w : Bq) : Prop where
 ne : 0 < w.A0.length
 Yb : w.A0.length ≤ 30 ∧ w.Bt.length ≤ 30 ∧ w.DB.length ≤ 30 ∧ w.AQ.length ≤ 30 ∧ w.AH.length ≤ 30
 IV : ∀ x ∈ w.A0, 0 ≤ x ∧ x < p.A0
 dW : ∀ x ∈ w.Bt, 0 ≤ x ∧ x < p.A0
 lI : ∀ x ∈ w.DB, 0 ≤ x ∧ x < p.A0
 Zh : ∀ t ∈ w.AQ, tB p t = true
 Qh : ∀ t ∈ w.AH, tB p t = true
 nodup : w.A0.Nodup
 fW : ∀ t ∈ w.AQ, Hq w t = false ∧ Kf p w t = true
 mS : (w.AQ.map Ae.Switch).Nodup
 mN : (w.AH.map Ae.Switch).Nodup
structure M0 (p : AP) : Prop where
 IV : 1 ≤ p.A0 ∧ p.A0 ≤ 60
 eC : p.A6.length ≤ 40
 W3 : p.A7.length ≤ 100
 hold : 1 ≤ p.E8 ∧ p.E8 ≤ 300
 sw : ∀ (i : Nat) (c : Int), p.A6[i]? = some c → RP p.A0 c = true
 fH : ∀ (i : Nat) (w : Bq), p.A7[i]? = some w → RR p w
 bl : p.BV.length = p.A7.length
 rows : ∀ (i : Nat), i < p.A7.length → ∃ r, p.BV[i]? = some r ∧ r.length = p.A7.length
 sym : ∀ (i k : Nat), i < p.A7.length → k < p.A7.length → HR p i k = HR p k i
theorem OL {l : List Int} {n : Int} (hn : -9223372036854775807 ≤ n ∧ n ≤ 9223372036854775807) (h : lB l n = true) : l.length ≤ 30 ∧ (∀ x ∈ l, 0 ≤ x ∧ x < n) ∧ l.Nodup := by
 unfold lB at h
 rw [Bool.and_eq_true, J3, decide_eq_true_eq] at h
 obtain ⟨⟨h1, h2, _⟩, h3⟩ := h
 refine ⟨by omega, fun x hx => ?_, by simpa using h2⟩
 have := h1 x hx
 unfold RP at this
 rw [Mo hn, Bool.and_eq_true, decide_eq_true_eq, decide_eq_true_eq] at this
 exact ⟨this.1, this.2⟩
theorem YO {p : AP} {w : Bq} (h60 : 1 ≤ p.A0 ∧ p.A0 ≤ 60) (h : JH p w = true) : RR p w := by
 unfold JH Ui at h
 simp only [Bool.and_eq_true, Bool.not_eq_true', beq_eq_false_iff_ne] at h
 obtain ⟨⟨h0, h1, h2, h3⟩, ⟨h4, h5⟩, h6, _⟩ := h
 obtain ⟨a1, a2, a3⟩ := OL (by omega) h1
 obtain ⟨b1, b2, _⟩ := OL (by omega) h2
 obtain ⟨c1, c2, _⟩ := OL (by omega) h3
 unfold Yg at h4 h5
 rw [Bool.and_eq_true, J3, decide_eq_true_eq] at h4 h5
 rw [List.all_eq_true] at h6
 exact { ne := by omega, Yb := ⟨a1, b1, c1, by omega, by omega⟩, IV := a2, dW := b2, lI := c2, Zh := h4.1.1, Qh := h5.1.1, nodup := a3, fW := fun t ht => by have := h6 t ht; rw [Bool.and_eq_true, Bool.not_eq_true'] at this; exact this, mS := h4.1.2.1, mN := h5.1.2.1 }
theorem Vp {p : AP} {f : Ba} (h : Gj p = some f) (h0 : (f.Code == 0) = true) : M0 p := by
 have hh := Vq h h0
 obtain ⟨a1, a2, a3, a4, a5, a6⟩ := Ta hh
 have e0 : f.Code = 0 := by simpa using h0
 have hp : Hh p (H9 p) = some f := by
  unfold Gj at h
  rw [hh] at h
  exact h
 unfold Hh at hp
 rcases Dj hp with ⟨i, _, h⟩ | ⟨n1, h1⟩
 ·obtain ⟨_, rfl⟩ := FF h
  exact absurd (show (2 : Int) = 0 from e0) (by decide)
 unfold Pn at h1
 rcases Dj h1 with ⟨i, _, h⟩ | ⟨n2, h2⟩
 ·obtain ⟨_, rfl⟩ := FF h
  exact absurd (show (3 : Int) = 0 from e0) (by decide)
 cases hb : ((p.BV.length : Int) != (p.A7.length : Int)) with
 | true =>
  rw [hb] at h2
  cases h2
  exact absurd (show (4 : Int) = 0 from e0) (by decide)
 | false =>
  rw [hb] at h2
  have h2 : Ks p (H9 p) = some f := h2
  unfold Ks at h2
  rcases Dj h2 with ⟨i, _, h⟩ | ⟨n3, h3⟩
  ·obtain ⟨_, rfl⟩ := FF h
   exact absurd (show (4 : Int) = 0 from e0) (by decide)
  unfold H9 at h3
  rcases Dj h3 with ⟨i, _, h⟩ | ⟨n4, h4⟩
  ·obtain ⟨_, rfl⟩ := FF h
   exact absurd (show (5 : Int) = 0 from e0) (by decide)
  have hbl : p.BV.length = p.A7.length := by rw [bne_eq_false_iff_eq] at hb; omega
  refine { IV := ⟨a1, a2⟩, eC := a3, W3 := a4, hold := ⟨a5, a6⟩, sw := fun i c hc => ?_, fH := fun i w hw => ?_, bl := hbl, rows := fun i hi => ?_, sym := fun i k hi hk => ?_ }
  ·have := FE (n1 i (Bo hc))
   rw [hc, Option.any_some] at this
   simpa using this
  ·have := FE (n2 i (Bo hw))
   rw [hw, Option.any_some] at this
   exact YO ⟨a1, a2⟩ (by simpa using this)
  ·have hlt : i < p.BV.length := by omega
   have := FE (n3 i hlt)
   rw [List.getElem?_eq_getElem hlt, Option.any_some, bne_eq_false_iff_eq] at this
   exact ⟨_, List.getElem?_eq_getElem hlt, by omega⟩
  ·have := FE (n4 i hi)
   rw [List.any_eq_false] at this
   have h7 := this k (List.mem_range.2 hk)
   by_cases hq : HR p i k = HR p k i
   ·exact hq
   ·refine absurd ?_ h7
    unfold Oz
    rw [beq_eq_false_iff_ne.2 hq]
    rfl
theorem UP {p : AP} (G : M0 p) {i k : Nat} (hi : i < p.A7.length) (hk : k < p.A7.length) : ∃ r, p.BV[i]? = some r ∧ r[k]? = some (HR p i k) := by
 obtain ⟨r, h1, h2⟩ := G.rows i hi
 have h3 := List.getElem?_eq_getElem (show k < r.length by omega)
 exact ⟨r, h1, by unfold HR; rw [h1, Option.bind_some, h3]; rfl⟩
structure HG (h : AG) (w : Bq) : Prop where
 st : 0 ≤ h.State ∧ h.State ≤ 4
 RU : h.Aa.length = w.A0.length
 gone : 0 ≤ h.Ab ∧ h.Ab < w.A0.length
def WG (p : AP) (ws : List AG) : Prop := ws.length = p.A7.length ∧ ∀ (i : Nat) (h : AG) (w : Bq), ws[i]? = some h → p.A7[i]? = some w → HG h w
structure fL (p : AP) (f : AD) : Prop where
 lJ : (f.C5.length : Int) = p.A0
 lM : f.AF.length = p.A6.length
 ways : WG p f.A7
theorem En {α ρ : Type} (xs : List α) (q : α → Bool) (r : ρ) (e : Option ρ) : BW xs.length (fun i => bif (xs[i]?).any q then some r else none) e = bif xs.any q then some r else e := by rw [Di, DZ, List.take_length]
theorem N7 {xs : List Bool} (hl : xs.length ≤ 1048576) (v : Bool) : VR xs v = some (xs.any fun y => v == y) := by
 unfold VR
 have h1 : Ws xs v = BW xs.length (fun i => bif (xs[i]?).any (fun y => v == y) then some (i : Int) else none) (some (-1)) := by
  unfold Ws
  refine B5 xs.length (fun i => (i : Int)) _ _ (fun i hi _ => ?_) (fun _ => ?_)
  ·unfold Mi
   simp only [Bs hi, cond_true, AM, List.getElem?_eq_getElem hi, Option.bind_some, Option.any_some, AZ (show i < 9223372036854775807 by omega)]
   cases (v == xs[i]) <;> rfl
  ·unfold Mi
   simp only [Bh, cond_false]
 rw [h1]
 exact GR xs _ _ rfl
def SZ (p : AP) (h : AG) : Bool := bif (h.State == 3) then (bif h.Shown then (decide (h.Timer ≥ 1) && decide (h.Timer ≤ p.E8)) else false) else (((h.Timer == (0:Int)) && ((h.State != (0:Int)) || !h.Shown)) && ((h.State != (2:Int)) || h.Shown))
theorem W1 (p : AP) (h : AG) : KI p h = some (SZ p h) := by
 unfold KI MZ SZ
 simp only [EM, Option.bind_some]
 by_cases h3 : h.State = 3
 ·simp only [h3, beq_self_eq_true, cond_true, show ((3 : Int) == 0) = false from rfl, show ((3 : Int) == 2) = false from rfl]
  cases h.Shown <;> cases (decide (h.Timer ≥ 1) && decide (h.Timer ≤ p.E8)) <;> rfl
 ·rw [beq_eq_false_iff_ne.2 h3, show (h.State != 0) = !(h.State == 0) from rfl, show (h.State != 2) = !(h.State == 2) from rfl, show (h.Timer != 0) = !(h.Timer == 0) from rfl]
  cases (h.State == 0) <;> cases (h.State == 2) <;> cases h.Shown <;> cases (h.Timer == 0) <;> rfl
theorem Q0 {p : AP} {h : AG} {g : Nat} (hg : h.Ab = (g : Int)) (hl : g ≤ h.Aa.length) (hm : h.Aa.length ≤ 1048576) : LM p h = some (bif (h.Aa.take g).any (fun b => !b) then false else SZ p h) := by
 unfold LM
 have h1 : AJ (Nj p h) (((0 : Nat)) : Int) = BW g (fun i => bif (h.Aa[i]?).any (fun b => !b) then some false else none) (some (SZ p h)) := by
  refine B5 g (fun i => (i : Int)) _ _ (fun i hi _ => ?_) (fun _ => ?_)
  ·unfold Nj
   simp only [hg, Bs hi, cond_true, AM, List.getElem?_eq_getElem (show i < h.Aa.length by omega), Option.bind_some, Option.any_some, AZ (show i < 9223372036854775807 by omega)]
   cases h.Aa[i] <;> rfl
  ·unfold Nj SZ
   simp only [hg, Bh, cond_false, Iu, Option.bind_some]
   cases (h.State == 3) <;> cases h.Shown <;> rfl
 rw [show (0 : Int) = (((0 : Nat)) : Int) from rfl, h1, Di, DZ]
 cases (h.Aa.take g).any (fun b => !b) <;> rfl
theorem LX {p : AP} {f : AD} {i : Nat} {h : AG} {w : Bq} (hf : f.A7[i]? = some h) (hw : p.A7[i]? = some w) (h1 : h.Aa.length ≤ 1048576) (h2 : w.A0.length ≤ 1048576) : ∃ r, fB p f (i : Int) = some r ∧ WZ p h w = some r ∧ (r = true → HG h w) := by
 unfold fB WZ
 simp only [AM, hf, hw, Option.bind_some, Iu, EM]
 cases hA : (decide (h.State ≥ 0) && decide (h.State ≤ 4)) with
 | false => exact ⟨false, rfl, rfl, fun h => by cases h⟩
 | true =>
  cases hB : ((h.Aa.length : Int) != (w.A0.length : Int)) with
  | true => exact ⟨false, rfl, rfl, fun h => by cases h⟩
  | false =>
   simp only [Bool.not_true, Bool.or_false, cond_false, Option.bind_some]
   rw [Mo (by omega)]
   cases hC : (decide (h.Ab ≥ 0) && decide (h.Ab < (w.A0.length : Int))) with
   | false => exact ⟨false, rfl, rfl, fun h => by cases h⟩
   | true =>
    simp only [Bool.and_eq_true, decide_eq_true_eq] at hA hC
    rw [bne_eq_false_iff_eq] at hB
    have hG : HG h w := ⟨⟨hA.1, hA.2⟩, by omega, ⟨hC.1, hC.2⟩⟩
    obtain ⟨g, hg⟩ : ∃ g : Nat, h.Ab = (g : Int) := ⟨h.Ab.toNat, by omega⟩
    have hgl : g ≤ h.Aa.length := by omega
    simp only [Bool.not_true, cond_false]
    rw [W1, Q0 hg hgl h1]
    cases h4 : (h.State != 4) with
    | true =>
     have h3 : AJ (Nk p h) (((0 : Nat)) : Int) = BW h.Aa.length (fun i => bif (h.Aa[i]?).any (fun b => true == b) then some false else none) (bif (h.Ab != (0:Int)) then some false else LM p h) := by
      refine B5 h.Aa.length (fun i => (i : Int)) _ _ (fun i hi _ => ?_) (fun _ => ?_)
      ·unfold Nk
       simp only [Bs hi, cond_true, AM, List.getElem?_eq_getElem hi, Option.bind_some, Option.any_some, AZ (show i < 9223372036854775807 by omega)]
       cases h.Aa[i] <;> rfl
      ·unfold Nk
       simp only [Bh, cond_false]
     rw [En, Q0 hg hgl h1] at h3
     rw [show (0 : Int) = (((0 : Nat)) : Int) from rfl, N7 h1]
     simp only [cond_true, h3, Option.bind_some]
     by_cases hz : h.Ab = 0
     ·have g0 : g = 0 := by omega
      subst g0
      have z1 : ((0 : Int) != (0 : Int)) = false := rfl
      have z2 : ((0 : Int) != ((0 : Nat) : Int)) = false := rfl
      rw [hz]
      simp only [z1, z2, List.take_zero, List.any_nil, cond_false]
      cases (h.Aa.any fun y => true == y) with
      | true => exact ⟨false, rfl, rfl, fun h => by cases h⟩
      | false => exact ⟨_, rfl, rfl, fun _ => hG⟩
     ·have z1 : (h.Ab != (0 : Int)) = true := bne_iff_ne.2 hz
      have z2 : (h.Ab != ((0 : Nat) : Int)) = true := bne_iff_ne.2 hz
      simp only [z1, z2]
      cases (h.Aa.any fun y => true == y) <;> exact ⟨false, rfl, rfl, fun h => by cases h⟩
    | false =>
     rw [show h.Ab = (g : Int) from hg, Pw hgl]
     simp only [cond_false, Option.bind_some]
     rw [N7 (by rw [List.length_take]; omega)]
     rw [show (fun y : Bool => false == y) = (fun y => !y) from funext fun y => by cases y <;> rfl]
     simp only [Option.bind_some]
     cases ((h.Aa.take g).any fun y => !y) with
     | true => exact ⟨false, rfl, rfl, fun h => by cases h⟩
     | false => exact ⟨_, rfl, rfl, fun _ => hG⟩
theorem Ix {σ σ' ρ ρ' : Type} {F : σ → Option (σ ⊕ ρ)} {F' : σ' → Option (σ' ⊕ ρ')} (n : Nat) (Inv : Nat → σ → σ' → Prop) (R : ρ → ρ' → Prop) {s0 : σ} {s0' : σ'} (h0 : Inv 0 s0 s0')
  (h : ∀ i s s', i < n → Inv i s s' → (∃ t t', F s = some (.inl t) ∧ F' s' = some (.inl t') ∧ Inv (i + 1) t t') ∨ (∃ r r', F s = some (.inr r) ∧ F' s' = some (.inr r') ∧ R r r'))
  (hend : ∀ s s', Inv n s s' → ∃ r r', F s = some (.inr r) ∧ F' s' = some (.inr r') ∧ R r r') : ∃ r r', AJ F s0 = some r ∧ AJ F' s0' = some r' ∧ R r r' := by
 have key : ∀ k i s s', i + k = n → Inv i s s' → ∃ r r', AJ F s = some r ∧ AJ F' s' = some r' ∧ R r r' := by
  intro k
  induction k with
  | zero =>
   intro i s s' hi hs
   have : i = n := by omega
   subst this
   obtain ⟨r, r', e1, e2, e3⟩ := hend s s' hs
   exact ⟨r, r', by rw [Bz, e1]; rfl, by rw [Bz, e2]; rfl, e3⟩
  | succ k ih =>
   intro i s s' hi hs
   rcases h i s s' (by omega) hs with ⟨t, t', e1, e2, e3⟩ | ⟨r, r', e1, e2, e3⟩
   ·obtain ⟨r, r', f1, f2, f3⟩ := ih (i + 1) t t' (by omega) e3
    exact ⟨r, r', by rw [Bz, e1]; exact f1, by rw [Bz, e2]; exact f2, f3⟩
   ·exact ⟨r, r', by rw [Bz, e1]; rfl, by rw [Bz, e2]; rfl, e3⟩
 exact key n 0 s0 s0' (by omega) h0
theorem Qn {α : Type} {ws : List α} {i : Nat} (h : i < ws.length) (x : α) : (ws.set i x)[i]? = some x := by rw [List.getElem?_set, if_pos rfl, if_pos h]
theorem U9 {α : Type} {ws : List α} {i : Nat} {x : α} (h : ws[i]? = some x) : ws.set i x = ws := by
 have hl := Bo h
 have : ws[i] = x := by rw [List.getElem?_eq_getElem hl] at h; exact Option.some.inj h
 rw [← this, List.set_getElem_self]
theorem Lz {p : AP} {ws : List AG} {i : Nat} {w : Bq} {x : AG} (H : WG p ws) (hw : p.A7[i]? = some w) (hx : HG x w) : WG p (ws.set i x) := by
 refine ⟨by rw [List.length_set]; exact H.1, fun k a b ha hb => ?_⟩
 rw [List.getElem?_set] at ha
 by_cases hk : i = k
 ·subst hk
  rw [if_pos rfl] at ha
  split at ha
  ·cases ha
   rw [hw] at hb
   cases hb
   exact hx
  ·cases ha
 ·rw [if_neg hk] at ha
  exact H.2 k a b ha hb
theorem VJ {f : AD} (hs : Eh f) : cV f = some f := by
 have h1 := hs.1.1
 have h2 := hs.2.1.1
 have h3 := hs.2.2.1
 unfold cV
 rw [EO (by simp only [List.length_nil]; omega), Option.bind_some, EO (by simp only [List.length_nil]; omega), Option.bind_some]
 simp only [List.nil_append]
 refine dN (F := Nf f) (fun ws i => (f.C5, f.AF, ws, i)) f.A7 id (r := f) (fun ws i x hx hi => ?_) ?_
 ·have hlt := Bo hx
  have hb : x.Aa.length ≤ 1048576 := (hs.2.2.2 x (List.mem_of_getElem? hx)).1
  unfold Nf
  simp only [Bs hlt, cond_true, AM, hx, Option.bind_some]
  rw [EO (by simp only [List.length_nil]; omega), Option.bind_some, EO (by simp only [List.length_singleton]; omega), Option.bind_some, AZ (by omega)]
  rfl
 ·unfold Nf
  simp only [Bh, cond_false, List.map_id]
  rfl
theorem VI {f : AD} (hs : Eh f) : dJ f = some f := by
 have h1 := hs.1.1
 have h2 := hs.2.1.1
 have h3 := hs.2.2.1
 unfold dJ
 rw [EO (by simp only [List.length_nil]; omega), Option.bind_some, EO (by simp only [List.length_nil]; omega), Option.bind_some, EO (by simp only [List.length_nil]; omega), Option.bind_some]
 simp only [List.nil_append]
 refine JT (F := Nw f f.C5 f.AF) f.A7.length (fun i => (i : Int)) (fun i hi => ?_) ?_
 ·have hb : f.A7[i].Aa.length ≤ 1048576 := (hs.2.2.2 _ (List.getElem_mem hi)).1
  unfold Nw
  simp only [Bs hi, cond_true, AM, List.getElem?_eq_getElem hi, Option.bind_some]
  rw [EO (by simp only [List.length_nil]; omega), Option.bind_some, AZ (by omega)]
 ·unfold Nw
  simp only [Bh, cond_false]
  rfl
def Yf (f : AD) (t : Ae) : Bool := match AK f.AF t.Switch with | some x => (x.Want == t.FC) && (x.AQ == t.FC) | none => false
def HL (f : AD) (s : Int) : Bool := (AK f.C5 s).getD false
def Kt (f : AD) (w : Bq) : Bool := bif (w.AQ ++ w.AH).any (fun t => !Yf f t) then false else !(w.A0.any (HL f)) && !(w.Bt.any (HL f))
theorem Kp {p : AP} {f : AD} (ho : (f.C5.length : Int) = p.A0) {s : Int} (h : 0 ≤ s ∧ s < p.A0) : AK f.C5 s = some (HL f s) := by
 obtain ⟨k, rfl⟩ : ∃ k : Nat, s = (k : Int) := ⟨s.toNat, by omega⟩
 unfold HL
 rw [Qm (show k < f.C5.length by omega)]
 rfl
theorem Xw {p : AP} {f : AD} (ho : f.AF.length = p.A6.length) (hp : p.A6.length ≤ 1048576) {t : Ae} (h : tB p t = true) : ∃ x, AK f.AF t.Switch = some x ∧ Yf f t = ((x.Want == t.FC) && (x.AQ == t.FC)) := by
 obtain ⟨k, c, e1, e2, e3⟩ := Ow hp h
 have := Qm (show k < f.AF.length by have := Bo e2; omega)
 exact ⟨_, by rw [e1]; exact this, by unfold Yf; rw [e1, this]⟩
theorem Pu {p : AP} {f : AD} (ho : (f.C5.length : Int) = p.A0) {l : List Int} (hl : l.length ≤ 30) (h : ∀ x ∈ l, 0 ≤ x ∧ x < p.A0) : fD f l = some (l.any (HL f)) := by
 unfold fD KO
 have h1 : Io l f = BW l.length (fun i => bif (l[i]?).any (HL f) then some (i : Int) else none) (some (-1)) := by
  unfold Io
  refine B5 l.length (fun i => (i : Int)) _ _ (fun i hi _ => ?_) (fun _ => ?_)
  ·unfold Gz Yo
   simp only [Bs hi, cond_true, AM, List.getElem?_eq_getElem hi, Option.bind_some, Kp ho (h _ (List.getElem_mem hi)), Option.any_some, AZ (show i < 9223372036854775807 by omega)]
   cases HL f l[i] <;> rfl
  ·unfold Gz
   simp only [Bh, cond_false]
 rw [h1]
 have := GR l (HL f) (some (-1)) rfl
 rw [this]; rfl
theorem SL {p : AP} {f : AD} {i : Nat} {w : Bq} (hp : p.A6.length ≤ 1048576) (G : RR p w) (hw : p.A7[i]? = some w) (ho : (f.C5.length : Int) = p.A0) (hq : f.AF.length = p.A6.length) : We p f (i : Int) = some (Kt f w) := by
 obtain ⟨l1, l2, _, l3, l4⟩ := G.Yb
 unfold We iD
 simp only [AM, hw, Option.bind_some]
 rw [EO (by simp only [List.length_nil]; omega), Option.bind_some, List.nil_append, EO (by omega)]
 simp only [Option.bind_some]
 have hlen : (w.AQ ++ w.AH).length ≤ 60 := by rw [List.length_append]; omega
 have h1 : AJ (KP f w (w.AQ ++ w.AH)) (((0 : Nat)) : Int) = BW (w.AQ ++ w.AH).length (fun k => bif ((w.AQ ++ w.AH)[k]?).any (fun t => !Yf f t) then some false else none) (some (!(w.A0.any (HL f)) && !(w.Bt.any (HL f)))) := by
  refine B5 (w.AQ ++ w.AH).length (fun k => (k : Int)) _ _ (fun k hk _ => ?_) (fun _ => ?_)
  ·have hm : tB p (w.AQ ++ w.AH)[k] = true := by
    rcases List.mem_append.1 (List.getElem_mem hk) with h | h
    ·exact G.Zh _ h
    ·exact G.Qh _ h
   obtain ⟨x, e1, e2⟩ := Xw hq hp hm
   unfold KP
   simp only [Bs hk, cond_true, AM, List.getElem?_eq_getElem hk, Option.bind_some, e1, Option.any_some, e2, AZ (show k < 9223372036854775807 by omega)]
   cases (x.Want == (w.AQ ++ w.AH)[k].FC) <;> cases (x.AQ == (w.AQ ++ w.AH)[k].FC) <;> rfl
  ·unfold KP
   simp only [Bh, cond_false, Pu ho l1 G.IV, Pu ho l2 G.dW, Option.bind_some]
   cases w.A0.any (HL f) <;> rfl
 rw [show (0 : Int) = (((0 : Nat)) : Int) from rfl, h1, En]
 unfold Kt
 cases (w.AQ ++ w.AH).any (fun t => !Yf f t) <;> rfl
theorem SM {p : AP} {f : AD} {i : Nat} {w : Bq} (hp : p.A6.length ≤ 1048576) (G : RR p w) (hw : p.A7[i]? = some w) (ho : (f.C5.length : Int) = p.A0) (hq : f.AF.length = p.A6.length) : iE p f (i : Int) = some (Kt f w) := by
 obtain ⟨l1, l2, _, l3, l4⟩ := G.Yb
 unfold iE
 simp only [AM, hw, Option.bind_some]
 have h3 : AJ (LO f w) (((0 : Nat)) : Int) = BW ([w.A0, w.Bt] : List (List Int)).length (fun k => bif (([w.A0, w.Bt] : List (List Int))[k]?).any (fun l => l.any (HL f)) then some false else none) (some true) := by
  refine B5 ([w.A0, w.Bt] : List (List Int)).length (fun k => (k : Int)) _ _ (fun k hk _ => ?_) (fun _ => ?_)
  ·obtain ⟨l, hl⟩ : ∃ l, ([w.A0, w.Bt] : List (List Int))[k]? = some l := ⟨_, List.getElem?_eq_getElem hk⟩
   have hm : l.length ≤ 30 ∧ ∀ x ∈ l, 0 ≤ x ∧ x < p.A0 := by
    have := List.mem_of_getElem? hl
    simp only [List.mem_cons, List.not_mem_nil, or_false] at this
    rcases this with rfl | rfl
    ·exact ⟨l1, G.IV⟩
    ·exact ⟨l2, G.dW⟩
   have hk2 : k < 2 := hk
   unfold LO
   simp only [Bs hk, cond_true, AM, hl, Option.bind_some, Option.any_some]
   have h4 := B5 (F := Nu f (k : Int) l) l.length (fun j => (j : Int)) (fun j => bif (l[j]?).any (HL f) then some (.inr false) else none) (some (.inl ((k + 1 : Nat) : Int))) (fun j hj _ => by
    unfold Nu
    simp only [Bs hj, cond_true, AM, List.getElem?_eq_getElem hj, Option.bind_some, Kp ho (hm.2 _ (List.getElem_mem hj)), Option.any_some, AZ (show j < 9223372036854775807 by omega)]
    cases HL f l[j] <;> rfl) (fun _ => by
    unfold Nu
    simp only [Bh, cond_false, AZ (show k < 9223372036854775807 by omega)])
   rw [En] at h4
   rw [show (0 : Int) = (((0 : Nat)) : Int) from rfl]
   refine h4.trans ?_
   cases l.any (HL f) <;> rfl
  ·unfold LO
   simp only [Bh, cond_false]
 have h1 : AJ (Ns f w) (((0 : Nat)) : Int) = BW ([w.AQ, w.AH] : List (List Ae)).length (fun k => bif (([w.AQ, w.AH] : List (List Ae))[k]?).any (fun l => l.any (fun t => !Yf f t)) then some false else none) (AJ (LO f w) (((0 : Nat)) : Int)) := by
  refine B5 ([w.AQ, w.AH] : List (List Ae)).length (fun k => (k : Int)) _ _ (fun k hk _ => ?_) (fun _ => ?_)
  ·obtain ⟨l, hl⟩ : ∃ l, ([w.AQ, w.AH] : List (List Ae))[k]? = some l := ⟨_, List.getElem?_eq_getElem hk⟩
   have hm : l.length ≤ 30 ∧ ∀ x ∈ l, tB p x = true := by
    have := List.mem_of_getElem? hl
    simp only [List.mem_cons, List.not_mem_nil, or_false] at this
    rcases this with rfl | rfl
    ·exact ⟨l3, G.Zh⟩
    ·exact ⟨l4, G.Qh⟩
   have hk2 : k < 2 := hk
   unfold Ns
   simp only [Bs hk, cond_true, AM, hl, Option.bind_some, Option.any_some]
   have h4 := B5 (F := Nt f (k : Int) l) l.length (fun j => (j : Int)) (fun j => bif (l[j]?).any (fun t => !Yf f t) then some (.inr false) else none) (some (.inl ((k + 1 : Nat) : Int))) (fun j hj _ => by
    obtain ⟨x, e1, e2⟩ := Xw hq hp (hm.2 _ (List.getElem_mem hj))
    unfold Nt
    simp only [Bs hj, cond_true, AM, List.getElem?_eq_getElem hj, Option.bind_some, e1, Option.any_some, e2, AZ (show j < 9223372036854775807 by omega)]
    rw [show (x.Want != l[j].FC) = !(x.Want == l[j].FC) from rfl, show (x.AQ != l[j].FC) = !(x.AQ == l[j].FC) from rfl]
    cases (x.Want == l[j].FC) <;> cases (x.AQ == l[j].FC) <;> rfl) (fun _ => by
    unfold Nt
    simp only [Bh, cond_false, AZ (show k < 9223372036854775807 by omega)])
   rw [En] at h4
   rw [show (0 : Int) = (((0 : Nat)) : Int) from rfl]
   refine h4.trans ?_
   cases l.any (fun t => !Yf f t) <;> rfl
  ·unfold Ns
   simp only [Bh, cond_false]
   rfl
 rw [show (0 : Int) = (((0 : Nat)) : Int) from rfl, h1, h3, En, En]
 unfold Kt
 rw [List.any_append]
 simp only [List.any_cons, List.any_nil, Bool.or_false]
 cases w.AQ.any (fun t => !Yf f t) <;> cases w.AH.any (fun t => !Yf f t) <;> cases w.A0.any (HL f) <;> cases w.Bt.any (HL f) <;> rfl
abbrev PL (f : AD) (ws : List AG) : AD := { Ok := f.Ok, C5 := f.C5, AF := f.AF, A7 := ws }
theorem VY {p : AP} {f : AD} {i : Nat} {w : Bq} {ws : List AG} {h : AG} (G : RR p w) (ho : (f.C5.length : Int) = p.A0) (hi : i < 1048576) (hW : WG p ws) (hw : p.A7[i]? = some w) (hh : ws[i]? = some h) (ws0 : List AG) :
  ∃ ws', AJ (Ju f (i : Int) w) (ws, h) = some (.inl (ws', ((i + 1 : Nat) : Int))) ∧ AJ (Jt w (PL f ws0) (i : Int)) (ws, h) = some (PL f ws') ∧ WG p ws' := by
 have hg := hW.2 i h w hh hw
 obtain ⟨g0, hg0⟩ : ∃ g : Nat, h.Ab = (g : Int) := ⟨h.Ab.toNat, by have := hg.gone; omega⟩
 have hgn := hg.gone
 have hne := G.ne
 have h30 := G.Yb.1
 have hbl := hg.RU
 have hil := Bo hh
 have hH : ∀ j : Nat, g0 + j < w.A0.length → HG { h with Ab := ((g0 + j : Nat) : Int) } w := fun j hj => ⟨hg.st, hg.RU, ⟨by show (0 : Int) ≤ ((g0 + j : Nat) : Int); omega, by show ((g0 + j : Nat) : Int) < _; omega⟩⟩
 have hn1 : BT ((w.A0.length : Int) - 1) = ((w.A0.length - 1 : Nat) : Int) := by rw [K9 ⟨by omega, by omega⟩]; omega
 refine (Ix (F := Ju f (i : Int) w) (F' := Jt w (PL f ws0) (i : Int)) (w.A0.length - g0) (fun j s s' => s = s' ∧ s = (ws.set i { h with Ab := ((g0 + j : Nat) : Int) }, { h with Ab := ((g0 + j : Nat) : Int) })) (fun r r' => ∃ ws', r = .inl (ws', ((i + 1 : Nat) : Int)) ∧ r' = PL f ws' ∧ WG p ws') (s0 := (ws, h)) (s0' := (ws, h)) ⟨rfl, by
   have : ({ h with Ab := ((g0 + 0 : Nat) : Int) } : AG) = h := by
    cases h
    simp only [] at hg0
    rw [hg0]
    rfl
   rw [this, U9 hh]⟩ (fun j s s' hj hs => ?_) (fun s s' hs => ?_)).elim fun r hr => ?_
 ·obtain ⟨rfl, rfl⟩ := hs
  have hlt : g0 + j < w.A0.length := by omega
  have hb := List.getElem?_eq_getElem (show g0 + j < h.Aa.length by omega)
  have hsec := List.getElem?_eq_getElem hlt
  have hocc := Kp ho (G.IV _ (List.getElem_mem hlt))
  have e3 : (((g0 + j : Nat) : Int) == (w.A0.length : Int)) = false := by rw [beq_eq_false_iff_ne]; omega
  have hset : ∀ y : AG, (ws.set i { h with Ab := ((g0 + j : Nat) : Int) }).set i y = ws.set i y := fun y => List.set_set ..
  obtain ⟨c, k1, k2⟩ : ∃ c : Bool, Ju f (i : Int) w (ws.set i { h with Ab := ((g0 + j : Nat) : Int) }, { h with Ab := ((g0 + j : Nat) : Int) }) = some (bif c then .inl (ws.set i { h with Ab := ((g0 + (j + 1) : Nat) : Int) }, { h with Ab := ((g0 + (j + 1) : Nat) : Int) }) else .inr (.inl (ws.set i { h with Ab := ((g0 + j : Nat) : Int) }, ((i + 1 : Nat) : Int)))) ∧ Jt w (PL f ws0) (i : Int) (ws.set i { h with Ab := ((g0 + j : Nat) : Int) }, { h with Ab := ((g0 + j : Nat) : Int) }) = some (bif c then .inl (ws.set i { h with Ab := ((g0 + (j + 1) : Nat) : Int) }, { h with Ab := ((g0 + (j + 1) : Nat) : Int) }) else .inr (PL f (ws.set i { h with Ab := ((g0 + j : Nat) : Int) }))) := by
   unfold Ju Jt Gb
   simp only [Bs hlt, cond_true, AM, hb, hsec, Option.bind_some, hocc, hn1, e3, AZ (show g0 + j < 9223372036854775807 by omega), AZ (show i < 9223372036854775807 by omega), Int.toNat_natCast, hset]
   by_cases hl : g0 + j = w.A0.length - 1
   ·rw [show (((g0 + j : Nat) : Int) == ((w.A0.length - 1 : Nat) : Int)) = true by rw [beq_iff_eq, hl], show decide (((g0 + j : Nat) : Int) < ((w.A0.length - 1 : Nat) : Int)) = false by rw [hl]; exact Bh _]
    cases h.Aa[g0 + j]'(by omega) with
    | false => exact ⟨false, rfl, rfl⟩
    | true =>
     cases HL f w.A0[g0 + j] with
     | true => exact ⟨false, rfl, rfl⟩
     | false => exact ⟨true, rfl, rfl⟩
   ·have hb2 := List.getElem?_eq_getElem (show g0 + j + 1 < h.Aa.length by omega)
    rw [show (((g0 + j : Nat) : Int) == ((w.A0.length - 1 : Nat) : Int)) = false by rw [beq_eq_false_iff_ne]; omega, Bs (show g0 + j < w.A0.length - 1 by omega)]
    simp only [hb2, Option.bind_some]
    cases h.Aa[g0 + j]'(by omega) with
    | false => exact ⟨false, rfl, rfl⟩
    | true =>
     cases HL f w.A0[g0 + j] with
     | true => exact ⟨false, rfl, rfl⟩
     | false =>
      cases h.Aa[g0 + j + 1]'(by omega) with
      | false => exact ⟨false, rfl, rfl⟩
      | true => exact ⟨true, rfl, rfl⟩
  cases c with
  | true => exact .inl ⟨_, _, k1, k2, rfl, rfl⟩
  | false => exact .inr ⟨_, _, k1, k2, _, rfl, rfl, Lz hW hw (hH j hlt)⟩
 ·obtain ⟨rfl, rfl⟩ := hs
  have hgn2 : g0 + (w.A0.length - g0) = w.A0.length := by omega
  simp only [hgn2]
  have hidle : HG { State := 0, Ab := 0, Aa := List.replicate w.A0.length false, Shown := false, Timer := 0 } w := ⟨⟨by show (0 : Int) ≤ 0; omega, by show (0 : Int) ≤ 4; omega⟩, by show (List.replicate _ _).length = _; rw [List.length_replicate], ⟨by show (0 : Int) ≤ 0; omega, by show (0 : Int) < _; omega⟩⟩
  have hm : GF 1 (w.A0.length : Int) = some w.A0.length := Fx (by omega)
  have hset : ∀ y : AG, (ws.set i { h with Ab := (w.A0.length : Int) }).set i y = ws.set i y := fun y => List.set_set ..
  unfold Ju Jt Gb kC k7
  simp only [Bh, cond_false, Option.bind_some, beq_self_eq_true, cond_true, hm, AM, Qn hil, hbl, AZ (show i < 9223372036854775807 by omega), Int.toNat_natCast, hset]
  exact ⟨_, _, rfl, rfl, _, rfl, rfl, Lz hW hw hidle⟩
 ·obtain ⟨r', e1, e2, ws', rfl, rfl, e3⟩ := hr
  exact ⟨ws', e1, e2, e3⟩
theorem Vo {p : AP} {f : AD} {i : Nat} {w : Bq} {ws : List AG} {h : AG} (G : RR p w) (ho : (f.C5.length : Int) = p.A0) (hi : i < 1048576) (hW : WG p ws) (hw : p.A7[i]? = some w) (hh : ws[i]? = some h) :
  ∃ ws', AJ (LQ f (i : Int) w) (ws, h, (0 : Int)) = some (.inl (ws', ((i + 1 : Nat) : Int))) ∧ iF w (PL f ws) (i : Int) = some (PL f ws') ∧ WG p ws' := by
 have h30 := G.Yb.1
 unfold iF
 simp only [AM, hh, Option.bind_some]
 refine (Ix (F := LQ f (i : Int) w) (F' := Nv w (PL f ws) (i : Int)) w.A0.length (fun k s s' => s = s' ∧ ∃ v x, s = (v, x, (k : Int)) ∧ WG p v ∧ v[i]? = some x) (fun r r' => ∃ ws', r = .inl (ws', ((i + 1 : Nat) : Int)) ∧ r' = PL f ws' ∧ WG p ws') (s0 := (ws, h, (0 : Int))) (s0' := (ws, h, (0 : Int))) ⟨rfl, ws, h, rfl, hW, hh⟩ (fun k s s' hk hs => ?_) (fun s s' hs => ?_)).elim fun r hr => ?_
 ·obtain ⟨rfl, v, x, rfl, hv, hx⟩ := hs
  have hg := hv.2 i x w hx hw
  have hkb : k < x.Aa.length := by have := hg.RU; omega
  have hsec := List.getElem?_eq_getElem hk
  have hb := List.getElem?_eq_getElem hkb
  have hocc := Kp ho (G.IV _ (List.getElem_mem hk))
  left
  unfold LQ Nv Qe
  simp only [Bs hk, cond_true, AM, hb, hsec, Option.bind_some, hocc, AZ (show k < 9223372036854775807 by omega), Int.toNat_natCast]
  have hst : ∀ b : Bool, HG { x with Aa := x.Aa.set k b } w := fun b => ⟨hg.st, by show (x.Aa.set k b).length = _; rw [List.length_set]; exact hg.RU, hg.gone⟩
  have hil := Bo hx
  cases HL f w.A0[k] with
  | true =>
   refine ⟨_, _, ?_, rfl, rfl, _, _, rfl, Lz hv hw (hst true), Qn hil _⟩
   cases x.Aa[k] <;> rfl
  | false =>
   refine ⟨(v, x, ((k + 1 : Nat) : Int)), _, ?_, rfl, rfl, _, _, rfl, hv, hx⟩
   have e : ({ x with Aa := x.Aa.set k x.Aa[k] } : AG) = x := by rw [U9 hb]
   have e4 : (bif x.Aa[k] then some true else some false) = some x.Aa[k] := by cases x.Aa[k] <;> rfl
   rw [e4, Option.bind_some, e, U9 hx]
 ·obtain ⟨rfl, v, x, rfl, hv, hx⟩ := hs
  obtain ⟨ws', f1, f2, f3⟩ := VY G ho hi hv hw hx ws
  unfold LQ Nv
  simp only [Bh, cond_false, f1, f2]
  exact ⟨_, _, rfl, rfl, ws', rfl, rfl, f3⟩
 ·obtain ⟨r', e1, e2, ws', rfl, rfl, e3⟩ := hr
  exact ⟨ws', e1, e2, e3⟩
theorem Ul {p : AP} {f : AD} {i : Nat} {w : Bq} {ws : List AG} {h : AG} (hp : p.A6.length ≤ 1048576) (G : RR p w) (ho : (f.C5.length : Int) = p.A0) (hq : f.AF.length = p.A6.length) (hi : i < 1048576) (hW : WG p ws) (hw : p.A7[i]? = some w) (hh : ws[i]? = some h) :
  ∃ ws', Nh p f.Ok f.C5 f.AF (i : Int) w ws h = some (.inl (f.Ok, f.C5, f.AF, ws', ((i + 1 : Nat) : Int))) ∧ LR p f (i : Int) w ws h = some (.inl (ws', ((i + 1 : Nat) : Int))) ∧ WG p ws' := by
 have hg := hW.2 i h w hh hw
 have e3 : LR p f (i : Int) w ws h = Ny p f (i : Int) w ws h ((h.State == (1:Int)) || (h.State == (2:Int))) := by
  unfold LR
  cases (h.State == (1:Int)) <;> rfl
 rw [e3]
 unfold Nh Ny Ni LL Gb
 have hst : ∀ (s : Int) (b : Bool), 0 ≤ s ∧ s ≤ 4 → HG { h with State := s, Shown := b } w := fun s b hs => ⟨hs, hg.RU, hg.gone⟩
 cases hc : ((h.State == (1:Int)) || (h.State == (2:Int))) with
 | true =>
  simp only [cond_true]
  rw [SM (f := PL f (ws.set (i : Int).toNat { h with State := (1:Int) })) hp G hw ho hq, SL (f := PL f (ws.set (i : Int).toNat { h with State := (1:Int) })) hp G hw ho hq]
  simp only [Option.bind_some, Int.toNat_natCast, AZ (show i < 9223372036854775807 by omega)]
  cases Kt (PL f (ws.set i { h with State := (1:Int) })) w with
  | true =>
   refine ⟨_, rfl, rfl, ?_⟩
   rw [List.set_set, List.set_set]
   exact Lz hW hw (hst 2 true ⟨by omega, by omega⟩)
  | false => exact ⟨_, rfl, rfl, Lz hW hw (hst 1 h.Shown ⟨by omega, by omega⟩)⟩
 | false =>
  simp only [cond_false]
  cases (h.State == (4:Int)) with
  | true =>
   obtain ⟨ws', f1, f2, f3⟩ := Vo G ho hi hW hw hh
   simp only [cond_true, f1, f2, Option.bind_some, AZ (show i < 9223372036854775807 by omega)]
   exact ⟨ws', rfl, rfl, f3⟩
  | false =>
   simp only [cond_false, AZ (show i < 9223372036854775807 by omega)]
   exact ⟨ws, rfl, rfl, hW⟩
theorem SU {p : AP} {f : AD} (G : M0 p) (F : fL p f) : ∃ ws', aW p f = some (PL f ws') ∧ aY p f = some (PL f ws') ∧ WG p ws' := by
 have hp : p.A6.length ≤ 1048576 := by have := G.eC; omega
 have h100 := G.W3
 have hfl := F.ways.1
 unfold aW aY
 refine (Ix (F := Ng p f) (F' := Nx p f) f.A7.length (fun i s s' => ∃ ws, s = (f.Ok, f.C5, f.AF, ws, (i : Int)) ∧ s' = (ws, (i : Int)) ∧ WG p ws) (fun r r' => ∃ ws', r = PL f ws' ∧ r' = PL f ws' ∧ WG p ws') (s0 := (f.Ok, f.C5, f.AF, f.A7, (0 : Int))) (s0' := (f.A7, (0 : Int))) ⟨f.A7, rfl, rfl, F.ways⟩ (fun i s s' hi hs => ?_) (fun s s' hs => ?_)).elim fun r hr => ?_
 ·obtain ⟨ws, rfl, rfl, hW⟩ := hs
  left
  have hlw : i < p.A7.length := by omega
  obtain ⟨w, hw⟩ : ∃ w, p.A7[i]? = some w := ⟨_, List.getElem?_eq_getElem hlw⟩
  obtain ⟨h, hh⟩ : ∃ h, ws[i]? = some h := ⟨_, List.getElem?_eq_getElem (show i < ws.length by have := hW.1; omega)⟩
  have GW := G.fH i w hw
  have hg := hW.2 i h w hh hw
  have hs0 := List.getElem?_eq_getElem GW.ne
  have hg0 : AK w.A0 (0 : Int) = some (w.A0[0]'GW.ne) := Qm GW.ne
  have hocc := Kp F.lJ (GW.IV _ (List.getElem_mem GW.ne))
  have hil := Bo hh
  unfold Ng Nx
  simp only [Bs hi, cond_true, AM, hh, hw, Option.bind_some, hg0, hocc]
  cases (h.State == (0:Int)) with
  | true =>
   unfold LL Gb
   simp only [cond_true, AZ (show i < 9223372036854775807 by omega)]
   exact ⟨_, _, rfl, rfl, ws, rfl, rfl, hW⟩
  | false =>
   simp only [cond_false]
   have stay := Ul hp GW F.lJ F.lM (show i < 1048576 by omega) hW hw hh
   cases (h.State != (4:Int)) with
   | false =>
    simp only [cond_false, Option.bind_some]
    obtain ⟨ws', f1, f2, f3⟩ := stay
    exact ⟨_, _, f1, f2, ws', rfl, rfl, f3⟩
   | true =>
    simp only [cond_true, Option.bind_some]
    cases HL f (w.A0[0]'GW.ne) with
    | false =>
     simp only [cond_false]
     obtain ⟨ws', f1, f2, f3⟩ := stay
     exact ⟨_, _, f1, f2, ws', rfl, rfl, f3⟩
    | true =>
     simp only [cond_true, Int.toNat_natCast]
     have hx : HG { h with State := (4:Int), Timer := (0:Int) } w := ⟨⟨by show (0 : Int) ≤ 4; omega, by show (4 : Int) ≤ 4; omega⟩, hg.RU, hg.gone⟩
     obtain ⟨ws', f1, f2, f3⟩ := Ul (h := { h with State := (4:Int), Timer := (0:Int) }) hp GW F.lJ F.lM (show i < 1048576 by omega) (ws := (ws.set i { h with State := (4:Int) }).set i { h with State := (4:Int), Timer := (0:Int) }) (by rw [List.set_set]; exact Lz hW hw hx) hw (Qn (by rw [List.length_set]; exact hil) _)
     exact ⟨_, _, f1, f2, ws', rfl, rfl, f3⟩
 ·obtain ⟨ws, rfl, rfl, hW⟩ := hs
  unfold Ng Nx
  simp only [Bh, cond_false]
  exact ⟨_, _, rfl, rfl, ws, rfl, rfl, hW⟩
 ·obtain ⟨r', e1, e2, ws', rfl, rfl, e3⟩ := hr
  exact ⟨ws', e1, e2, e3⟩
def JC (a b : List Bool) (k : Nat) : Bool := (a[k]?).getD false == (b[k]?).getD false
theorem WR {a b : List Bool} (hl : a.length = b.length) (hm : a.length ≤ 1048576) : VS a b = some ((List.range a.length).all (JC a b)) := by
 unfold VS
 rw [show ((a.length : Int) != (b.length : Int)) = false by rw [bne_eq_false_iff_eq]; omega]
 simp only [cond_false]
 rw [Gh a.length (JC a b) true (by omega) (fun i hi _ => ?_) (fun _ => ?_), Bool.and_true]
 ·unfold Mb JC
  simp only [Bs hi, cond_true, AM, List.getElem?_eq_getElem hi, List.getElem?_eq_getElem (show i < b.length by omega), Option.bind_some, Option.getD_some, AZ (show i < 9223372036854775807 by omega)]
  cases (a[i] == b[i]) <;> rfl
 ·unfold Mb
  simp only [Bh, cond_false, Option.map_some]
theorem cA {a : List Al} (hm : a.length ≤ 1048576) : Wn a a = some true := by
 unfold Wn
 rw [show ((a.length : Int) != (a.length : Int)) = false by rw [bne_eq_false_iff_eq]]
 simp only [cond_false]
 rw [Gh a.length (fun _ => true) true (by omega) (fun i hi _ => ?_) (fun _ => ?_)]
 ·simp
 ·unfold Mc
  simp only [Bs hi, cond_true, AM, List.getElem?_eq_getElem hi, Option.bind_some, beq_self_eq_true, Bool.and_self, Bool.not_true, cond_false, AZ (show i < 9223372036854775807 by omega)]
 ·unfold Mc
  simp only [Bh, cond_false, Option.map_some]
theorem XQ {x y : AG} (h1 : x.State = y.State) (h2 : x.Ab = y.Ab) (h3 : x.Aa = y.Aa) (h4 : x.Shown = y.Shown) (h5 : x.Timer = y.Timer) : x = y := by
 cases x
 cases y
 simp only [] at h1 h2 h3 h4 h5
 subst h1 h2 h3 h4 h5
 rfl
theorem U7 {a b : List Bool} (hl : a.length = b.length) (h : (List.range a.length).all (JC a b) = true) : a = b := by
 refine List.ext_getElem hl fun k h1 h2 => ?_
 rw [List.all_eq_true] at h
 have := h k (List.mem_range.2 h1)
 unfold JC at this
 rw [List.getElem?_eq_getElem h1, List.getElem?_eq_getElem h2, Option.getD_some, Option.getD_some, beq_iff_eq] at this
 exact this
theorem Vx {p : AP} {f : AD} {ws : List AG} (hs : Eh f) (F : fL p f) (hW : WG p ws) : ∃ r, cZ f (PL f ws) = some r ∧ T9 f (PL f ws) = some r ∧ (r = true → ws = f.A7) := by
 have h1 := hs.1.1
 have h2 := hs.2.1.1
 have h3 := hs.2.2.1
 have hself : (List.range f.C5.length).all (JC f.C5 f.C5) = true := by
  rw [List.all_eq_true]
  intro k _
  unfold JC
  exact beq_self_eq_true _
 have hfl := F.ways.1
 have hwl := hW.1
 unfold cZ T9
 simp only [WR rfl h1, hself, cA h2, Option.bind_some, Bool.not_true, cond_false, Bool.false_or]
 rw [show ((f.A7.length : Int) != (ws.length : Int)) = false by rw [bne_eq_false_iff_eq]; omega]
 simp only [cond_false]
 refine (Ix (F := Nl f (PL f ws)) (F' := KJ f (PL f ws)) f.A7.length (fun i s s' => s = (i : Int) ∧ s' = (i : Int) ∧ ∀ k, k < i → ws[k]? = f.A7[k]?) (fun r r' => r = r' ∧ (r = true → ws = f.A7)) (s0 := (0 : Int)) (s0' := (0 : Int)) ⟨rfl, rfl, fun k hk => by omega⟩ (fun i s s' hi hs' => ?_) (fun s s' hs' => ?_)).elim fun r hr => ?_
 ·obtain ⟨rfl, rfl, hinv⟩ := hs'
  obtain ⟨x, hx⟩ : ∃ x, f.A7[i]? = some x := ⟨_, List.getElem?_eq_getElem hi⟩
  obtain ⟨y, hy⟩ : ∃ y, ws[i]? = some y := ⟨_, List.getElem?_eq_getElem (show i < ws.length by omega)⟩
  obtain ⟨w, hw⟩ : ∃ w, p.A7[i]? = some w := ⟨_, List.getElem?_eq_getElem (show i < p.A7.length by omega)⟩
  have hbl : x.Aa.length = y.Aa.length := by rw [(F.ways.2 i x w hx hw).RU, (hW.2 i y w hy hw).RU]
  have hbm : x.Aa.length ≤ 1048576 := (hs.2.2.2 x (List.mem_of_getElem? hx)).1
  have hL : AJ (Nm (i : Int) x y) (0 : Int) = some (bif (List.range x.Aa.length).any (fun k => !JC x.Aa y.Aa k) then .inr false else .inl ((i + 1 : Nat) : Int)) := by
   refine Hg (n := x.Aa.length) (fun k => !JC x.Aa y.Aa k) false (fun k hk => ?_) ?_
   ·unfold Nm JC
    simp only [Bs hk, cond_true, AM, List.getElem?_eq_getElem hk, List.getElem?_eq_getElem (show k < y.Aa.length by omega), Option.bind_some, Option.getD_some, AZ (show k < 9223372036854775807 by omega)]
    cases (x.Aa[k] == y.Aa[k]'(by omega)) <;> rfl
   ·unfold Nm
    simp only [Bh, cond_false, AZ (show i < 9223372036854775807 by omega)]
    rfl
  unfold Nl KJ
  simp only [Bs hi, cond_true, AM, hx, hy, Option.bind_some, WR hbl hbm, hL, AZ (show i < 9223372036854775807 by omega)]
  rw [← List.not_all_eq_any_not]
  cases hc : ((((x.State != y.State) || (x.Ab != y.Ab)) || !(x.Shown == y.Shown)) || (x.Timer != y.Timer)) with
  | true => exact .inr ⟨_, _, rfl, rfl, rfl, fun h => by cases h⟩
  | false =>
   cases ha : (List.range x.Aa.length).all (JC x.Aa y.Aa) with
   | true =>
    refine .inl ⟨_, _, rfl, rfl, rfl, rfl, fun k hk => ?_⟩
    rcases Nat.lt_or_ge k i with hl | hl
    ·exact hinv k hl
    ·have : k = i := by omega
     subst this
     simp only [Bool.or_eq_false_iff, bne_eq_false_iff_eq, Bool.not_eq_false', beq_iff_eq] at hc
     rw [hx, hy, XQ hc.1.1.1 hc.1.1.2 (U7 hbl ha) hc.1.2 hc.2]
   | false => exact .inr ⟨_, _, rfl, rfl, rfl, fun h => by cases h⟩
 ·obtain ⟨rfl, rfl, hinv⟩ := hs'
  unfold Nl KJ
  simp only [Bh, cond_false]
  refine ⟨_, _, rfl, rfl, rfl, fun _ => ?_⟩
  apply List.ext_getElem?
  intro k
  rcases Nat.lt_or_ge k f.A7.length with hl | hl
  ·exact hinv k hl
  ·rw [List.getElem?_eq_none hl, List.getElem?_eq_none (by omega)]
 ·obtain ⟨r', e1, e2, rfl, e3⟩ := hr
  exact ⟨r, e1, e2, e3⟩
def SN (x : Al) : Bool := !(decide (x.Want ≥ (1:Int)) && decide (x.Want ≤ (2:Int))) || !(decide (x.AQ ≥ (0:Int)) && decide (x.AQ ≤ (2:Int)))
def Y5 (f : AD) (i : Nat) : Bool := ((f.A7[i]?).map fun h => h.State != (0:Int)).getD false
def OG (p : AP) (f : AD) (i : Nat) : Bool := (fB p f (i : Int)).getD false
def Ig (p : AP) (f : AD) (i k : Nat) : Bool := HR p i k && (Y5 f i && Y5 f k)
def QB (p : AP) (f : AD) (i : Nat) : Bool := !OG p f i || (List.range p.A7.length).any fun k => !decide (i = k) && Ig p f i k
def RT (p : AP) (f : AD) (i : Nat) : Bool := !OG p f i || (List.range i).any fun k => Ig p f i k
theorem WK {p : AP} (f : AD) (G : M0 p) : (List.range p.A7.length).any (QB p f) = (List.range p.A7.length).any (RT p f) := by
 rw [Bool.eq_iff_iff, List.any_eq_true, List.any_eq_true]
 have sy : ∀ i k : Nat, i < p.A7.length → k < p.A7.length → Ig p f i k = Ig p f k i := fun i k hi hk => by unfold Ig; rw [G.sym i k hi hk, Bool.and_comm (Y5 f i)]
 constructor
 ·rintro ⟨i, hi, h⟩
  have hi' := List.mem_range.1 hi
  unfold QB at h
  rw [Bool.or_eq_true, List.any_eq_true] at h
  rcases h with h | ⟨k, hk, h⟩
  ·exact ⟨i, hi, by unfold RT; rw [h]; rfl⟩
  ·have hk' := List.mem_range.1 hk
   simp only [Bool.and_eq_true, Bool.not_eq_true', decide_eq_false_iff_not] at h
   rcases Nat.lt_or_gt_of_ne h.1 with hl | hl
   ·exact ⟨k, hk, by unfold RT; rw [Bool.or_eq_true, List.any_eq_true]; exact .inr ⟨i, List.mem_range.2 hl, by rw [sy k i hk' hi']; exact h.2⟩⟩
   ·exact ⟨i, hi, by unfold RT; rw [Bool.or_eq_true, List.any_eq_true]; exact .inr ⟨k, List.mem_range.2 hl, h.2⟩⟩
 ·rintro ⟨i, hi, h⟩
  have hi' := List.mem_range.1 hi
  unfold RT at h
  rw [Bool.or_eq_true, List.any_eq_true] at h
  rcases h with h | ⟨k, hk, h⟩
  ·exact ⟨i, hi, by unfold QB; rw [h]; rfl⟩
  ·have hk' := List.mem_range.1 hk
   refine ⟨i, hi, ?_⟩
   unfold QB
   rw [Bool.or_eq_true, List.any_eq_true]
   exact .inr ⟨k, List.mem_range.2 (by omega), by rw [h, decide_eq_false (show ¬ i = k by omega)]; rfl⟩
theorem W5 {p : AP} {f : AD} (G : M0 p) (hs : Eh f) (hl : f.A7.length = p.A7.length) : AJ (Jq p f) (0 : Int) = bif (List.range p.A7.length).any (QB p f) then some false else ((cV f).bind fun v => ((aW p v).bind fun z => ((cZ f z).bind fun r => some r))) := by
 have h100 := G.W3
 have h1 : AJ (Jq p f) (((0 : Nat)) : Int) = BW p.A7.length (fun i => bif QB p f i then some false else none) ((cV f).bind fun v => ((aW p v).bind fun z => ((cZ f z).bind fun r => some r))) := by
  refine B5 p.A7.length (fun i => (i : Int)) _ _ (fun i hi _ => ?_) (fun _ => ?_)
  ·obtain ⟨w, hw⟩ : ∃ w, p.A7[i]? = some w := ⟨_, List.getElem?_eq_getElem hi⟩
   obtain ⟨h, hh⟩ : ∃ h, f.A7[i]? = some h := ⟨_, List.getElem?_eq_getElem (show i < f.A7.length by omega)⟩
   obtain ⟨r, e1, _, _⟩ := LX hh hw (hs.2.2.2 h (List.mem_of_getElem? hh)).1 (by have := (G.fH i w hw).Yb.1; omega)
   unfold Jq QB
   rw [show OG p f i = r by unfold OG; rw [e1]; rfl]
   simp only [hl, Bs hi, cond_true, e1, Option.bind_some]
   cases r with
   | false => rfl
   | true =>
    simp only [Bool.not_true, cond_false, Bool.false_or]
    rw [Hg (n := p.A7.length) (fun k => !decide (i = k) && Ig p f i k) false (i' := ((i + 1 : Nat) : Int)) (fun k hk => ?_) ?_]
    ·cases (List.range p.A7.length).any (fun k => !decide (i = k) && Ig p f i k) <;> rfl
    rotate_left
    ·obtain ⟨y, hy⟩ : ∃ y, f.A7[k]? = some y := ⟨_, List.getElem?_eq_getElem (show k < f.A7.length by omega)⟩
     obtain ⟨row, b1, b2⟩ := UP G hi hk
     unfold QR Ig
     rw [show Y5 f i = (h.State != (0:Int)) by unfold Y5; rw [hh]; rfl, show Y5 f k = (y.State != (0:Int)) by unfold Y5; rw [hy]; rfl]
     simp only [hl, Bs hk, cond_true, Tm, AM, b1, b2, hh, hy, Option.bind_some, AZ (show k < 9223372036854775807 by omega)]
     cases decide (i = k) <;> cases HR p i k <;> cases (h.State != (0:Int)) <;> cases (y.State != (0:Int)) <;> rfl
    ·unfold QR
     simp only [hl, Bh, cond_false, AZ (show i < 9223372036854775807 by omega)]
     rfl
  ·unfold Jq
   simp only [hl, Bh, cond_false]
 rw [show (0 : Int) = (((0 : Nat)) : Int) from rfl, h1, Di]
theorem W4 {p : AP} {f : AD} (G : M0 p) (hs : Eh f) (hl : f.A7.length = p.A7.length) : AJ (Js p f) (0 : Int) = bif (List.range p.A7.length).any (RT p f) then some false else ((dJ f).bind fun v => ((aY p v).bind fun z => ((T9 f z).bind fun r => some r))) := by
 have h100 := G.W3
 have h1 : AJ (Js p f) (((0 : Nat)) : Int) = BW p.A7.length (fun i => bif RT p f i then some false else none) ((dJ f).bind fun v => ((aY p v).bind fun z => ((T9 f z).bind fun r => some r))) := by
  refine B5 p.A7.length (fun i => (i : Int)) _ _ (fun i hi _ => ?_) (fun _ => ?_)
  ·obtain ⟨w, hw⟩ : ∃ w, p.A7[i]? = some w := ⟨_, List.getElem?_eq_getElem hi⟩
   obtain ⟨h, hh⟩ : ∃ h, f.A7[i]? = some h := ⟨_, List.getElem?_eq_getElem (show i < f.A7.length by omega)⟩
   obtain ⟨r, e1, e2, _⟩ := LX hh hw (hs.2.2.2 h (List.mem_of_getElem? hh)).1 (by have := (G.fH i w hw).Yb.1; omega)
   unfold Js RT
   rw [show OG p f i = r by unfold OG; rw [e1]; rfl]
   simp only [hl, Bs hi, cond_true, AM, hh, hw, e2, Option.bind_some]
   cases r with
   | false => rfl
   | true =>
    simp only [Bool.not_true, cond_false, Bool.false_or]
    rw [Hg (n := i) (fun k => Ig p f i k) false (i' := ((i + 1 : Nat) : Int)) (fun k hk => ?_) ?_]
    ·cases (List.range i).any (fun k => Ig p f i k) <;> rfl
    rotate_left
    ·obtain ⟨y, hy⟩ : ∃ y, f.A7[k]? = some y := ⟨_, List.getElem?_eq_getElem (show k < f.A7.length by omega)⟩
     obtain ⟨row, b1, b2⟩ := UP G hi (show k < p.A7.length by omega)
     unfold Qb Ig
     rw [show Y5 f i = (h.State != (0:Int)) by unfold Y5; rw [hh]; rfl, show Y5 f k = (y.State != (0:Int)) by unfold Y5; rw [hy]; rfl]
     simp only [Bs hk, cond_true, AM, b1, b2, hy, Option.bind_some, AZ (show k < 9223372036854775807 by omega)]
     cases HR p i k <;> cases (h.State != (0:Int)) <;> cases (y.State != (0:Int)) <;> rfl
    ·unfold Qb
     simp only [Bh, cond_false, AZ (show i < 9223372036854775807 by omega)]
     rfl
  ·unfold Js
   simp only [hl, Bh, cond_false]
 rw [show (0 : Int) = (((0 : Nat)) : Int) from rfl, h1, Di]
theorem TR {p : AP} {f : AD} (hs : Fg p) (hsf : Eh f) : ∃ r, gH p f = some r ∧ gM p f = some r ∧ (r = true → M0 p ∧ fL p f ∧ aW p f = some f ∧ aY p f = some f) := by
 obtain ⟨q, hq⟩ := SJ p
 unfold gH gM k8
 simp only [Zp hs hq, Zo hs hq, Option.bind_some]
 cases hc : (q.Code == 0) with
 | false => exact ⟨false, rfl, rfl, fun h => by cases h⟩
 | true =>
  have G := Vp hq hc
  simp only [Bool.not_true, Bool.false_or, cond_true]
  cases hd : (((!f.Ok || ((f.C5.length : Int) != p.A0)) || ((f.AF.length : Int) != (p.A6.length : Int))) || ((f.A7.length : Int) != (p.A7.length : Int))) with
  | true => exact ⟨false, rfl, rfl, fun h => by cases h⟩
  | false =>
   simp only [Bool.or_eq_false_iff, bne_eq_false_iff_eq] at hd
   obtain ⟨⟨⟨_, d1⟩, d2⟩, d3⟩ := hd
   have d3 : f.A7.length = p.A7.length := by omega
   have hpl := hsf.2.1.1
   have hS : AJ (NL p f) (((0 : Nat)) : Int) = BW f.AF.length (fun i => bif (f.AF[i]?).any SN then some false else none) (AJ (Jq p f) (0 : Int)) := by
    refine B5 f.AF.length (fun i => (i : Int)) _ _ (fun i hi _ => ?_) (fun _ => ?_)
    ·unfold NL SN
     simp only [Bs hi, cond_true, AM, List.getElem?_eq_getElem hi, Option.bind_some, Iu, Option.any_some, AZ (show i < 9223372036854775807 by omega)]
     cases (decide (f.AF[i].Want ≥ (1:Int)) && decide (f.AF[i].Want ≤ (2:Int))) <;> cases (decide (f.AF[i].AQ ≥ (0:Int)) && decide (f.AF[i].AQ ≤ (2:Int))) <;> rfl
    ·unfold NL
     simp only [Bh, cond_false]
   have hI : AJ (Nn p f) (((0 : Nat)) : Int) = BW f.AF.length (fun i => bif (f.AF[i]?).any SN then some false else none) (AJ (Js p f) (0 : Int)) := by
    refine B5 f.AF.length (fun i => (i : Int)) _ _ (fun i hi _ => ?_) (fun _ => ?_)
    ·unfold Nn SN
     simp only [Bs hi, cond_true, AM, List.getElem?_eq_getElem hi, Option.bind_some, EM, Option.any_some, AZ (show i < 9223372036854775807 by omega)]
     cases (decide (f.AF[i].Want ≥ (1:Int)) && decide (f.AF[i].Want ≤ (2:Int))) <;> cases (decide (f.AF[i].AQ ≥ (0:Int)) && decide (f.AF[i].AQ ≤ (2:Int))) <;> rfl
    ·unfold Nn
     simp only [Bh, cond_false]
   rw [En] at hS hI
   simp only [cond_false]
   rw [show (0 : Int) = (((0 : Nat)) : Int) from rfl, hS, hI, W5 G hsf d3, W4 G hsf d3, ← WK f G, VJ hsf, VI hsf]
   cases f.AF.any SN with
   | true => exact ⟨false, rfl, rfl, fun h => by cases h⟩
   | false =>
    cases hb : (List.range p.A7.length).any (QB p f) with
    | true => exact ⟨false, rfl, rfl, fun h => by cases h⟩
    | false =>
     have F : fL p f := ⟨d1, by omega, d3, fun i h w hh hw => by
      obtain ⟨r, e1, _, e2⟩ := LX hh hw (hsf.2.2.2 h (List.mem_of_getElem? hh)).1 (by have := (G.fH i w hw).Yb.1; omega)
      refine e2 ?_
      rw [List.any_eq_false] at hb
      have := hb i (List.mem_range.2 (Bo hw))
      unfold QB OG at this
      rw [e1] at this
      cases r with
      | true => rfl
      | false => exact absurd rfl this⟩
     obtain ⟨ws, s1, s2, s3⟩ := SU G F
     obtain ⟨r, t1, t2, t3⟩ := Vx hsf F s3
     simp only [cond_false, Option.bind_some, s1, s2, t1, t2]
     refine ⟨r, rfl, rfl, fun hr => ?_⟩
     have e := t3 hr
     subst e
     exact ⟨G, F, rfl, rfl⟩
def Jg (IV : List Int) (g s : Int) : Bool := (List.range IV.length).any fun k => (IV[k]?).any (fun y => y == s) && decide ((k : Int) ≥ g)
theorem Xm {xs : List Int} (h : xs.Nodup) {i k : Nat} {v : Int} (hi : xs[i]? = some v) (hk : xs[k]? = some v) : i = k := by
 have h1 := Bo hi
 have h2 := Bo hk
 rw [List.getElem?_eq_getElem h1] at hi
 rw [List.getElem?_eq_getElem h2] at hk
 exact (List.getElem_inj h).1 (by rw [Option.some.inj hi, Option.some.inj hk])
theorem Tb {IV : List Int} (h : IV.Nodup) (hl : IV.length ≤ 1048576) {g : Int} (hg : 0 ≤ g) (s : Int) : ∃ r, dE IV s = some r ∧ decide (r ≥ g) = Jg IV g s := by
 rw [XS hl]
 obtain ⟨r, hr⟩ := Et IV.length (fun i => bif (IV[i]?).any (fun y => decide (s = y)) then some (i : Int) else none) (e := some (-1)) ⟨_, rfl⟩
 refine ⟨r, hr, ?_⟩
 rw [Bool.eq_iff_iff, decide_eq_true_eq]
 unfold Jg
 rw [List.any_eq_true]
 rcases Dj hr with ⟨i, hi, h1⟩ | ⟨h1, h2⟩
 ·obtain ⟨h3, rfl⟩ := FF h1
  have hx := List.getElem?_eq_getElem hi
  rw [hx, Option.any_some, decide_eq_true_eq] at h3
  constructor
  ·intro hgi
   exact ⟨i, List.mem_range.2 hi, by rw [hx, Option.any_some, ← h3, beq_self_eq_true, decide_eq_true hgi]; rfl⟩
  ·rintro ⟨k, hk, h4⟩
   have hk := List.mem_range.1 hk
   rw [List.getElem?_eq_getElem hk, Option.any_some, Bool.and_eq_true, beq_iff_eq, decide_eq_true_eq] at h4
   have : i = k := Xm h (v := s) (by rw [hx, ← h3]) (by rw [List.getElem?_eq_getElem hk, h4.1])
   subst this
   exact h4.2
 ·have : r = -1 := by simpa using h2.symm
  subst this
  constructor
  ·intro h; omega
  ·rintro ⟨k, hk, h4⟩
   have hk := List.mem_range.1 hk
   have h5 := FE (h1 k hk)
   rw [List.getElem?_eq_getElem hk, Option.any_some] at h4 h5
   rw [Bool.and_eq_true, beq_iff_eq] at h4
   rw [decide_eq_false_iff_not] at h5
   exact absurd h4.1.symm h5
theorem XR {p : AP} {f : AD} {i : Nat} {w : Bq} {h : AG} (hw : p.A7[i]? = some w) (hh : f.A7[i]? = some h) (hl : w.A0.length ≤ 1048576) (s : Int) : WV p f (i : Int) s = some (!(h.State == 0) && Jg w.A0 h.Ab s) := by
 unfold WV
 simp only [AM, hw, hh, Option.bind_some]
 cases (h.State == 0) with
 | true => rfl
 | false =>
  simp only [cond_false, Bool.not_false, Bool.true_and]
  have h1 := B5 (F := KG f (i : Int) s w) w.A0.length (fun k => (k : Int)) (fun k => bif ((w.A0[k]?).any (fun y => y == s) && decide ((k : Int) ≥ h.Ab)) then some true else none) (some false) (fun k hk _ => by
   unfold KG
   simp only [Bs hk, cond_true, AM, List.getElem?_eq_getElem hk, hh, Option.bind_some, Option.any_some, AZ (show k < 9223372036854775807 by omega)]
   cases (w.A0[k] == s) <;> cases decide ((k : Int) ≥ h.Ab) <;> rfl) (fun _ => by
   unfold KG
   simp only [Bh, cond_false])
  rw [Di] at h1
  refine (show _ = _ from h1).trans ?_
  unfold Jg
  cases (List.range w.A0.length).any (fun k => (w.A0[k]?).any (fun y => y == s) && decide ((k : Int) ≥ h.Ab)) <;> rfl
theorem fR {l : List Ae} (hl : l.length ≤ 1048576) (k : Int) : No l k = some (l.any fun t => t.Switch == k) := by
 unfold No
 have h1 : KK l k = BW l.length (fun i => bif (l[i]?).any (fun t => t.Switch == k) then some (i : Int) else none) (some (-1)) := by
  unfold KK
  refine B5 l.length (fun i => (i : Int)) _ _ (fun i hi _ => ?_) (fun _ => ?_)
  ·unfold Hv k9
   simp only [Bs hi, cond_true, AM, List.getElem?_eq_getElem hi, Option.bind_some, Option.any_some, AZ (show i < 9223372036854775807 by omega)]
   cases (l[i].Switch == k) <;> rfl
  ·unfold Hv
   simp only [Bh, cond_false]
 rw [h1]
 exact GR l _ _ rfl
theorem fS {l : List Ae} (hl : l.length ≤ 1048576) (k : Int) : Np l k = some (l.any fun t => t.Switch == k) := by
 unfold Np
 have h1 : KL l k = BW l.length (fun i => bif (l[i]?).any (fun t => t.Switch == k) then some (i : Int) else none) (some (-1)) := by
  unfold KL
  refine B5 l.length (fun i => (i : Int)) _ _ (fun i hi _ => ?_) (fun _ => ?_)
  ·unfold Hw kA
   simp only [Bs hi, cond_true, AM, List.getElem?_eq_getElem hi, Option.bind_some, Option.any_some, AZ (show i < 9223372036854775807 by omega)]
   cases (l[i].Switch == k) <;> rfl
  ·unfold Hw
   simp only [Bh, cond_false]
 rw [h1]
 exact GR l _ _ rfl
def Ox (w : Bq) (h : AG) (c k : Int) : Bool := !(h.State == 0) && ((w.AH.any fun t => t.Switch == k) || ((w.AQ.any fun t => t.Switch == k) && Jg w.A0 h.Ab c))
theorem Um {p : AP} {t : Ae} (h : tB p t = true) : 1 ≤ t.FC ∧ t.FC ≤ 2 := by
 unfold tB at h
 simp only [Bool.and_eq_true, decide_eq_true_eq] at h
 exact ⟨h.2.1, h.2.2⟩
theorem YN {p : AP} {f : AD} {i : Nat} {w : Bq} {h : AG} {k : Nat} {c : Int} (G : RR p w) (hw : p.A7[i]? = some w) (hh : f.A7[i]? = some h) (hc : p.A6[k]? = some c) : ∃ r, gX p f (i : Int) (k : Int) = some r ∧ decide (r > 0) = Ox w h c (k : Int) := by
 obtain ⟨l1, _, _, l3, l4⟩ := G.Yb
 unfold gX
 simp only [AM, hw, hh, Option.bind_some]
 unfold Ox
 cases hst : (h.State == 0) with
 | true => exact ⟨0, rfl, rfl⟩
 | false =>
  simp only [cond_false, Bool.not_false, Bool.true_and]
  have hL := B5 (F := Jr p f (i : Int) (k : Int) w) w.AQ.length (fun j => (j : Int)) (fun j => (w.AQ[j]?).bind fun t => bif ((t.Switch == (k : Int)) && Jg w.A0 h.Ab c) then some t.FC else none) (some (0 : Int)) (fun j hj _ => by
   unfold Jr
   simp only [Bs hj, cond_true, AM, List.getElem?_eq_getElem hj, hc, Option.bind_some, XR hw hh (show w.A0.length ≤ 1048576 by omega) c, hst, Bool.not_false, Bool.true_and, AZ (show j < 9223372036854775807 by omega)]
   cases (w.AQ[j].Switch == (k : Int)) <;> cases Jg w.A0 h.Ab c <;> rfl) (fun _ => by
   unfold Jr
   simp only [Bh, cond_false])
  have hF := B5 (F := LN p f (i : Int) (k : Int) w) w.AH.length (fun j => (j : Int)) (fun j => (w.AH[j]?).bind fun t => bif (t.Switch == (k : Int)) then some t.FC else none) (AJ (Jr p f (i : Int) (k : Int) w) (0 : Int)) (fun j hj _ => by
   unfold LN
   simp only [Bs hj, cond_true, AM, List.getElem?_eq_getElem hj, Option.bind_some, AZ (show j < 9223372036854775807 by omega)]
   cases (w.AH[j].Switch == (k : Int)) <;> rfl) (fun _ => by
   unfold LN
   simp only [Bh, cond_false, AM, hw, Option.bind_some])
  have hF : AJ (LN p f (i : Int) (k : Int) w) (0 : Int) = _ := hF
  rw [hF]
  have hL : AJ (Jr p f (i : Int) (k : Int) w) (0 : Int) = _ := hL
  rw [hL]
  have h0 := Et w.AQ.length (fun j => (w.AQ[j]?).bind fun t => bif ((t.Switch == (k : Int)) && Jg w.A0 h.Ab c) then some t.FC else none) (e := some (0 : Int)) ⟨_, rfl⟩
  obtain ⟨r, hr⟩ := Et w.AH.length (fun j => (w.AH[j]?).bind fun t => bif (t.Switch == (k : Int)) then some t.FC else none) h0
  refine ⟨r, hr, ?_⟩
  rcases Dj hr with ⟨j, hj, h1⟩ | ⟨h1, h2⟩
  ·rw [List.getElem?_eq_getElem hj, Option.bind_some] at h1
   obtain ⟨h3, rfl⟩ := FF h1
   have hm := List.getElem_mem hj
   have hp := Um (G.Qh _ hm)
   rw [show (w.AH.any fun t => t.Switch == (k : Int)) = true from List.any_eq_true.2 ⟨_, hm, h3⟩, Bool.true_or, decide_eq_true_eq]
   omega
  ·have hno : (w.AH.any fun t => t.Switch == (k : Int)) = false := by
    rw [List.any_eq_false]
    intro t ht
    obtain ⟨j, hj, rfl⟩ := List.getElem_of_mem ht
    have h3 := h1 j hj
    rw [List.getElem?_eq_getElem hj, Option.bind_some] at h3
    rw [FE h3]
    exact Bool.false_ne_true
   rw [hno, Bool.false_or]
   rcases Dj h2 with ⟨j, hj, h3⟩ | ⟨h3, h4⟩
   ·rw [List.getElem?_eq_getElem hj, Option.bind_some] at h3
    obtain ⟨h5, rfl⟩ := FF h3
    rw [Bool.and_eq_true] at h5
    have hm := List.getElem_mem hj
    have hp := Um (G.Zh _ hm)
    rw [show (w.AQ.any fun t => t.Switch == (k : Int)) = true from List.any_eq_true.2 ⟨_, hm, h5.1⟩, h5.2, Bool.true_and, decide_eq_true_eq]
    omega
   ·have : r = 0 := by simpa using h4.symm
    subst this
    cases hb : Jg w.A0 h.Ab c with
    | false => rw [Bool.and_false]; rfl
    | true =>
     have hno2 : (w.AQ.any fun t => t.Switch == (k : Int)) = false := by
      rw [List.any_eq_false]
      intro t ht
      obtain ⟨j, hj, rfl⟩ := List.getElem_of_mem ht
      have h6 := h3 j hj
      rw [List.getElem?_eq_getElem hj, Option.bind_some] at h6
      have h7 := FE h6
      rw [hb, Bool.and_true] at h7
      rw [h7]
      exact Bool.false_ne_true
     rw [hno2]; rfl
theorem Tz {p : AP} {f : AD} (G : M0 p) (F : fL p f) {k : Nat} {c : Int} (hc : p.A6[k]? = some c) : ∃ r, eX p f (k : Int) = some r ∧ eY p f (k : Int) = some r ∧ r.length ≤ p.A7.length := by
 have h100 := G.W3
 have hfl : f.A7.length = p.A7.length := F.ways.1
 unfold eX eY
 refine (Ix (F := LI p f (k : Int)) (F' := LJ p f (k : Int)) p.A7.length (fun i s s' => ∃ acc : List Int, s = (acc, (i : Int)) ∧ s' = (acc, (i : Int)) ∧ acc.length ≤ i) (fun r r' => r = r' ∧ r.length ≤ p.A7.length) (s0 := (([] : List Int), (0 : Int))) (s0' := (([] : List Int), (0 : Int))) ⟨[], rfl, rfl, Nat.le_refl _⟩ (fun i s s' hi hs => ?_) (fun s s' hs => ?_)).elim fun r hr => ?_
 ·obtain ⟨acc, rfl, rfl, hacc⟩ := hs
  left
  obtain ⟨w, hw⟩ : ∃ w, p.A7[i]? = some w := ⟨_, List.getElem?_eq_getElem hi⟩
  obtain ⟨h, hh⟩ : ∃ h, f.A7[i]? = some h := ⟨_, List.getElem?_eq_getElem (show i < f.A7.length by omega)⟩
  have GW := G.fH i w hw
  obtain ⟨l1, _, _, l3, l4⟩ := GW.Yb
  obtain ⟨r, q1, q2⟩ := YN GW hw hh hc
  obtain ⟨r2, q3, q4⟩ := Tb GW.nodup (show w.A0.length ≤ 1048576 by omega) (F.ways.2 i h w hh hw).gone.1 c
  have hap : DC 8 acc [(i : Int)] = some (acc ++ [(i : Int)]) := EO (by simp only [List.length_singleton]; omega)
  have e1 : LI p f (k : Int) (acc, (i : Int)) = some (.inl (bif Ox w h c (k : Int) then acc ++ [(i : Int)] else acc, ((i + 1 : Nat) : Int))) := by
   unfold LI QS
   simp only [Bs hi, cond_true, q1, Option.bind_some, q2, hap, AZ (show i < 9223372036854775807 by omega)]
   cases Ox w h c (k : Int) <;> rfl
  have e2 : LJ p f (k : Int) (acc, (i : Int)) = some (.inl (bif Ox w h c (k : Int) then acc ++ [(i : Int)] else acc, ((i + 1 : Nat) : Int))) := by
   unfold LJ QV NS Ox
   simp only [hfl, Bs hi, cond_true, AM, hw, hh, hc, Option.bind_some, fR (show w.AH.length ≤ 1048576 by omega), fS (show w.AQ.length ≤ 1048576 by omega), q3, q4, hap, AZ (show i < 9223372036854775807 by omega)]
   cases (h.State == 0) <;> cases (w.AH.any fun t => t.Switch == (k : Int)) <;> cases (w.AQ.any fun t => t.Switch == (k : Int)) <;> cases Jg w.A0 h.Ab c <;> rfl
  refine ⟨_, _, e1, e2, _, rfl, rfl, ?_⟩
  cases Ox w h c (k : Int) with
  | true => simp only [cond_true, List.length_append, List.length_singleton]; omega
  | false => simp only [cond_false]; omega
 ·obtain ⟨acc, rfl, rfl, hacc⟩ := hs
  unfold LI LJ
  simp only [hfl, Bh, cond_false]
  exact ⟨_, _, rfl, rfl, rfl, hacc⟩
 ·obtain ⟨r', e1, e2, rfl, e3⟩ := hr
  exact ⟨r, e1, e2, e3⟩
structure n9 where
 lM : List Int
 mM : List Int
 nA : List Int
theorem iL {p : AP} {f : AD} {k : Int} (hx : Mm p) (hxf : KX f) (hxk : FJ k) (hs : Fg p) (hsf : Eh f) : ∃ r, f8 p f k = some r ∧ eV p f k = some r ∧ Fz (fun _ => True) r := by
 have nil : Fz (fun _ => True) ([] : List Int) := ⟨by simp, fun _ _ => trivial⟩
 obtain ⟨r, e1, e2, e3⟩ := TR hs hsf
 unfold f8 eV
 simp only [e1, e2, Option.bind_some, Iu, EM]
 cases r with
 | false => exact ⟨[], rfl, rfl, nil⟩
 | true =>
  obtain ⟨G, F, _, _⟩ := e3 rfl
  have h100 := G.W3
  have h40 := G.eC
  simp only [Bool.not_true, cond_false, Option.bind_some]
  rw [Mo (by omega)]
  cases hc : (decide (k ≥ 0) && decide (k < (p.A6.length : Int))) with
  | false => exact ⟨[], rfl, rfl, nil⟩
  | true =>
   simp only [Bool.and_eq_true, decide_eq_true_eq] at hc
   obtain ⟨i, rfl⟩ : ∃ i : Nat, k = (i : Int) := ⟨k.toNat, by omega⟩
   obtain ⟨c, hw⟩ : ∃ c, p.A6[i]? = some c := ⟨_, List.getElem?_eq_getElem (show i < p.A6.length by omega)⟩
   obtain ⟨r, q1, q2, q3⟩ := Tz G F hw
   rw [q1, q2]
   exact ⟨r, rfl, rfl, by omega, fun _ _ => trivial⟩
def Mr (x : Ae) (k : Int) : Ae := { Switch := k, FC := k + 1 }
def CI (x : Ae) : Nat := 1 + (1)
def Tk (x : Bq) (k : Int) : Bq := { A0 := BS Xi (fun _ => 1) x.A0 k, AQ := BS Mr CI x.AQ (k + ((B4 (fun _ => 1) x.A0 : Nat) : Int)), AH := BS Mr CI x.AH (k + ((B4 (fun _ => 1) x.A0 : Nat) : Int) + ((B4 CI x.AQ : Nat) : Int)), Bt := BS Xi (fun _ => 1) x.Bt (k + ((B4 (fun _ => 1) x.A0 : Nat) : Int) + ((B4 CI x.AQ : Nat) : Int) + ((B4 CI x.AH : Nat) : Int)), DB := BS Xi (fun _ => 1) x.DB (k + ((B4 (fun _ => 1) x.A0 : Nat) : Int) + ((B4 CI x.AQ : Nat) : Int) + ((B4 CI x.AH : Nat) : Int) + ((B4 (fun _ => 1) x.Bt : Nat) : Int)) }
def FY (x : Bq) : Nat := B4 (fun _ => 1) x.A0 + (B4 CI x.AQ + (B4 CI x.AH + (B4 (fun _ => 1) x.Bt + (B4 (fun _ => 1) x.DB))))
def Zm (x : AP) (k : Int) : AP := { A0 := x.A0, A6 := BS Xi (fun _ => 1) x.A6 k, A7 := BS Tk FY x.A7 (k + ((B4 (fun _ => 1) x.A6 : Nat) : Int)), BV := BS (BS dV (fun _ => 1)) (B4 (fun _ => 1)) x.BV (k + ((B4 (fun _ => 1) x.A6 : Nat) : Int) + ((B4 FY x.A7 : Nat) : Int)), E8 := x.E8 }
def FI (x : AP) : Nat := B4 (fun _ => 1) x.A6 + (B4 FY x.A7 + (B4 (B4 (fun _ => 1)) x.BV))
theorem Ip {x : List Int} {k : Int} (hx : (Fz (fun _ => True)) x) (h0 : 0 ≤ k) (hb : k + ((B4 (fun _ => 1) x : Nat) : Int) ≤ 4611686018427387904) : Yv x k = some (BS Xi (fun _ => 1) x k, k + ((B4 (fun _ => 1) x : Nat) : Int)) := by
 have hl := hx.1
 unfold Yv
 refine Eu (F := NJ) (fun xs k i => (xs, k, i)) Xi (fun _ => 1) (fun _ => True) x.length (fun pre y post k hp h0 hb hn => ?_) (fun ys k hn => ?_) x [] k hx.2 h0 hb rfl
 ·have hlen := I9 hn
  have hb' : k + ((1 : Nat) : Int) ≤ 4611686018427387904 := hb
  unfold NJ
  simp (disch := omega) only [K1, cond_true, Ge, IF, Option.bind_some, JG]
  rw [show k + (((fun _ => 1) y : Nat) : Int) = k + 1 from by show k + ((1 : Nat) : Int) = _; omega]
  rfl
 ·unfold NJ
  simp only [← hn, Bh, cond_false, Option.map_some]
theorem Rn {x : List Ae} {k : Int} (hx : (Fz (fun _ => True)) x) (h0 : 0 ≤ k) (hb : k + ((B4 CI x : Nat) : Int) ≤ 4611686018427387904) : fC x k = some (BS Mr CI x k, k + ((B4 CI x : Nat) : Int)) := by
 have hl := hx.1
 unfold fC
 refine Eu (F := Nq) (fun xs k i => (xs, k, i)) Mr CI (fun _ => True) x.length (fun pre y post k hp h0 hb hn => ?_) (fun ys k hn => ?_) x [] k hx.2 h0 hb rfl
 ·have hlen := I9 hn
  have hb' : k + ((1 + (1) : Nat) : Int) ≤ 4611686018427387904 := hb
  unfold Nq
  simp (disch := omega) only [K1, cond_true, Ge, IF, Option.bind_some, JG]
  rw [show k + ((CI y : Nat) : Int) = k + 1 + 1 from by show k + ((1 + (1) : Nat) : Int) = _; omega]
  rfl
 ·unfold Nq
  simp only [← hn, Bh, cond_false, Option.map_some]
theorem Wx {x : List Bq} {k : Int} (hx : (Fz Hl) x) (h0 : 0 ≤ k) (hb : k + ((B4 FY x : Nat) : Int) ≤ 4611686018427387904) : gR x k = some (BS Tk FY x k, k + ((B4 FY x : Nat) : Int)) := by
 have hl := hx.1
 unfold gR
 refine Eu (F := NY) (fun xs k i => (xs, k, i)) Tk FY Hl x.length (fun pre y post k hp h0 hb hn => ?_) (fun ys k hn => ?_) x [] k hx.2 h0 hb rfl
 ·have hlen := I9 hn
  have hb' : k + ((B4 (fun _ => 1) y.A0 + (B4 CI y.AQ + (B4 CI y.AH + (B4 (fun _ => 1) y.Bt + (B4 (fun _ => 1) y.DB)))) : Nat) : Int) ≤ 4611686018427387904 := hb
  unfold NY
  simp (disch := omega) only [K1, cond_true, Ge, IF, Option.bind_some, JG, Ip (x := y.A0) hp.1, Rn (x := y.AQ) hp.2.1, Rn (x := y.AH) hp.2.2.1, Ip (x := y.Bt) hp.2.2.2.1, Ip (x := y.DB) hp.2.2.2.2]
  rw [show k + ((FY y : Nat) : Int) = k + ((B4 (fun _ => 1) y.A0 : Nat) : Int) + ((B4 CI y.AQ : Nat) : Int) + ((B4 CI y.AH : Nat) : Int) + ((B4 (fun _ => 1) y.Bt : Nat) : Int) + ((B4 (fun _ => 1) y.DB : Nat) : Int) from by show k + ((B4 (fun _ => 1) y.A0 + (B4 CI y.AQ + (B4 CI y.AH + (B4 (fun _ => 1) y.Bt + (B4 (fun _ => 1) y.DB)))) : Nat) : Int) = _; omega]
  rfl
 ·unfold NY
  simp only [← hn, Bh, cond_false, Option.map_some]
theorem Nb {x : List Bool} {k : Int} (hx : (Fz (fun _ => True)) x) (h0 : 0 ≤ k) (hb : k + ((B4 (fun _ => 1) x : Nat) : Int) ≤ 4611686018427387904) : cU x k = some (BS dV (fun _ => 1) x k, k + ((B4 (fun _ => 1) x : Nat) : Int)) := by
 have hl := hx.1
 unfold cU
 refine Eu (F := Na) (fun xs k i => (xs, k, i)) dV (fun _ => 1) (fun _ => True) x.length (fun pre y post k hp h0 hb hn => ?_) (fun ys k hn => ?_) x [] k hx.2 h0 hb rfl
 ·have hlen := I9 hn
  have hb' : k + ((1 : Nat) : Int) ≤ 4611686018427387904 := hb
  unfold Na
  simp (disch := omega) only [K1, cond_true, Ge, IF, Option.bind_some, JG]
  rw [show k + (((fun _ => 1) y : Nat) : Int) = k + 1 from by show k + ((1 : Nat) : Int) = _; omega]
  rfl
 ·unfold Na
  simp only [← hn, Bh, cond_false, Option.map_some]
theorem Wy {x : List (List Bool)} {k : Int} (hx : (Fz (Fz (fun _ => True))) x) (h0 : 0 ≤ k) (hb : k + ((B4 (B4 (fun _ => 1)) x : Nat) : Int) ≤ 4611686018427387904) : gS x k = some (BS (BS dV (fun _ => 1)) (B4 (fun _ => 1)) x k, k + ((B4 (B4 (fun _ => 1)) x : Nat) : Int)) := by
 have hl := hx.1
 unfold gS
 refine Eu (F := NZ) (fun xs k i => (xs, k, i)) (BS dV (fun _ => 1)) (B4 (fun _ => 1)) (Fz (fun _ => True)) x.length (fun pre y post k hp h0 hb hn => ?_) (fun ys k hn => ?_) x [] k hx.2 h0 hb rfl
 ·have hlen := I9 hn
  have hb' : k + ((B4 (fun _ => 1) y : Nat) : Int) ≤ 4611686018427387904 := hb
  unfold NZ
  simp (disch := omega) only [K1, cond_true, Ge, IF, Option.bind_some, JG, Nb (x := y) hp]
  rw [show k + (((B4 (fun _ => 1)) y : Nat) : Int) = k + ((B4 (fun _ => 1) y : Nat) : Int) from by show k + ((B4 (fun _ => 1) y : Nat) : Int) = _; omega]
  rfl
 ·unfold NZ
  simp only [← hn, Bh, cond_false, Option.map_some]
theorem Wu {x : AP} {k : Int} (hx : Fg x) (h0 : 0 ≤ k) (hb : k + ((FI x : Nat) : Int) ≤ 4611686018427387904) : gB x k = some (Zm x k, k + ((FI x : Nat) : Int)) := by
 unfold FI at hb
 unfold gB
 rw [Ip (x := x.A6) (k := k) hx.1 (by omega) (by omega), Option.bind_some]
 dsimp only
 rw [Wx (x := x.A7) (k := k + ((B4 (fun _ => 1) x.A6 : Nat) : Int)) hx.2.1 (by omega) (by omega), Option.bind_some]
 dsimp only
 rw [Wy (x := x.BV) (k := k + ((B4 (fun _ => 1) x.A6 : Nat) : Int) + ((B4 FY x.A7 : Nat) : Int)) hx.2.2 (by omega) (by omega), Option.bind_some]
 dsimp only
 rw [show k + ((FI x : Nat) : Int) = k + ((B4 (fun _ => 1) x.A6 : Nat) : Int) + ((B4 FY x.A7 : Nat) : Int) + ((B4 (B4 (fun _ => 1)) x.BV : Nat) : Int) from by unfold FI; omega]
 rfl
theorem N3 (x : Ae) (hx : (fun _ => True) x) : CI x ≤ 2 := by
 unfold CI
 omega
theorem VG (x : Bq) (hx : Hl x) : FY x ≤ 7340032 := by
 unfold FY
 have h0 : (B4 (fun _ => 1)) x.A0 ≤ 1048576 := by
  have h := (fun _ hx => Dw (p := (fun _ => True)) (fun _ _ => Nat.le_refl 1) hx.1 hx.2) x.A0 hx.1
  exact h
 have h1 : (B4 CI) x.AQ ≤ 2097152 := by
  have h := (fun _ hx => Dw (p := (fun _ => True)) N3 hx.1 hx.2) x.AQ hx.2.1
  exact h
 have h2 : (B4 CI) x.AH ≤ 2097152 := by
  have h := (fun _ hx => Dw (p := (fun _ => True)) N3 hx.1 hx.2) x.AH hx.2.2.1
  exact h
 have h3 : (B4 (fun _ => 1)) x.Bt ≤ 1048576 := by
  have h := (fun _ hx => Dw (p := (fun _ => True)) (fun _ _ => Nat.le_refl 1) hx.1 hx.2) x.Bt hx.2.2.2.1
  exact h
 have h4 : (B4 (fun _ => 1)) x.DB ≤ 1048576 := by
  have h := (fun _ hx => Dw (p := (fun _ => True)) (fun _ _ => Nat.le_refl 1) hx.1 hx.2) x.DB hx.2.2.2.2
  exact h
 omega
theorem Sz (x : AP) (hx : Fg x) : FI x ≤ 8796094070784 := by
 unfold FI
 have h0 : (B4 (fun _ => 1)) x.A6 ≤ 1048576 := by
  have h := (fun _ hx => Dw (p := (fun _ => True)) (fun _ _ => Nat.le_refl 1) hx.1 hx.2) x.A6 hx.1
  exact h
 have h1 : (B4 FY) x.A7 ≤ 7696581394432 := by
  have h := (fun _ hx => Dw (p := Hl) VG hx.1 hx.2) x.A7 hx.2.1
  exact h
 have h2 : (B4 (B4 (fun _ => 1))) x.BV ≤ 1099511627776 := by
  have h := (fun _ hx => Dw (p := (Fz (fun _ => True))) (fun _ hx => Dw (p := (fun _ => True)) (fun _ _ => Nat.le_refl 1) hx.1 hx.2) hx.1 hx.2) x.BV hx.2.2
  exact h
 omega
def OW (x : Al) (k : Int) : Al := { Want := k, AQ := k + 1 }
def DV (x : Al) : Nat := 1 + (1)
def R3 (x : AG) (k : Int) : AG := { State := k, Ab := k + 1, Aa := BS dV (fun _ => 1) x.Aa (k + 1 + 1), Shown := (Int.tmod (k + 1 + 1 + ((B4 (fun _ => 1) x.Aa : Nat) : Int)) 3 == 0), Timer := k + 1 + 1 + ((B4 (fun _ => 1) x.Aa : Nat) : Int) + 1 }
def FG (x : AG) : Nat := 1 + (1 + (B4 (fun _ => 1) x.Aa + (1 + (1))))
def Xj (x : AD) (k : Int) : AD := { Ok := x.Ok, C5 := BS dV (fun _ => 1) x.C5 k, AF := BS OW DV x.AF (k + ((B4 (fun _ => 1) x.C5 : Nat) : Int)), A7 := BS R3 FG x.A7 (k + ((B4 (fun _ => 1) x.C5 : Nat) : Int) + ((B4 DV x.AF : Nat) : Int)) }
def FH (x : AD) : Nat := B4 (fun _ => 1) x.C5 + (B4 DV x.AF + (B4 FG x.A7))
theorem Wz {x : List Al} {k : Int} (hx : (Fz (fun _ => True)) x) (h0 : 0 ≤ k) (hb : k + ((B4 DV x : Nat) : Int) ≤ 4611686018427387904) : gT x k = some (BS OW DV x k, k + ((B4 DV x : Nat) : Int)) := by
 have hl := hx.1
 unfold gT
 refine Eu (F := Nc) (fun xs k i => (xs, k, i)) OW DV (fun _ => True) x.length (fun pre y post k hp h0 hb hn => ?_) (fun ys k hn => ?_) x [] k hx.2 h0 hb rfl
 ·have hlen := I9 hn
  have hb' : k + ((1 + (1) : Nat) : Int) ≤ 4611686018427387904 := hb
  unfold Nc
  simp (disch := omega) only [K1, cond_true, Ge, IF, Option.bind_some, JG]
  rw [show k + ((DV y : Nat) : Int) = k + 1 + 1 from by show k + ((1 + (1) : Nat) : Int) = _; omega]
  rfl
 ·unfold Nc
  simp only [← hn, Bh, cond_false, Option.map_some]
theorem X0 {x : List AG} {k : Int} (hx : (Fz GA) x) (h0 : 0 ≤ k) (hb : k + ((B4 FG x : Nat) : Int) ≤ 4611686018427387904) : gU x k = some (BS R3 FG x k, k + ((B4 FG x : Nat) : Int)) := by
 have hl := hx.1
 unfold gU
 refine Eu (F := Nd) (fun xs k i => (xs, k, i)) R3 FG GA x.length (fun pre y post k hp h0 hb hn => ?_) (fun ys k hn => ?_) x [] k hx.2 h0 hb rfl
 ·have hlen := I9 hn
  have hb' : k + ((1 + (1 + (B4 (fun _ => 1) y.Aa + (1 + (1)))) : Nat) : Int) ≤ 4611686018427387904 := hb
  unfold Nd
  simp (disch := omega) only [K1, cond_true, Ge, IF, Option.bind_some, JG, Nb (x := y.Aa) hp]
  rw [show k + ((FG y : Nat) : Int) = k + 1 + 1 + ((B4 (fun _ => 1) y.Aa : Nat) : Int) + 1 + 1 from by show k + ((1 + (1 + (B4 (fun _ => 1) y.Aa + (1 + (1)))) : Nat) : Int) = _; omega]
  rfl
 ·unfold Nd
  simp only [← hn, Bh, cond_false, Option.map_some]
theorem Wv {x : AD} {k : Int} (hx : Eh x) (h0 : 0 ≤ k) (hb : k + ((FH x : Nat) : Int) ≤ 4611686018427387904) : gC x k = some (Xj x k, k + ((FH x : Nat) : Int)) := by
 unfold FH at hb
 unfold gC
 rw [Nb (x := x.C5) (k := k) hx.1 (by omega) (by omega), Option.bind_some]
 dsimp only
 rw [Wz (x := x.AF) (k := k + ((B4 (fun _ => 1) x.C5 : Nat) : Int)) hx.2.1 (by omega) (by omega), Option.bind_some]
 dsimp only
 rw [X0 (x := x.A7) (k := k + ((B4 (fun _ => 1) x.C5 : Nat) : Int) + ((B4 DV x.AF : Nat) : Int)) hx.2.2 (by omega) (by omega), Option.bind_some]
 dsimp only
 rw [show k + ((FH x : Nat) : Int) = k + ((B4 (fun _ => 1) x.C5 : Nat) : Int) + ((B4 DV x.AF : Nat) : Int) + ((B4 FG x.A7 : Nat) : Int) from by unfold FH; omega]
 rfl
theorem RX (x : Al) (hx : (fun _ => True) x) : DV x ≤ 2 := by
 unfold DV
 omega
theorem Sw (x : AG) (hx : GA x) : FG x ≤ 1048580 := by
 unfold FG
 have h0 : (B4 (fun _ => 1)) x.Aa ≤ 1048576 := by
  have h := (fun _ hx => Dw (p := (fun _ => True)) (fun _ _ => Nat.le_refl 1) hx.1 hx.2) x.Aa hx
  exact h
 omega
theorem RY (x : AD) (hx : Eh x) : FH x ≤ 1099518967808 := by
 unfold FH
 have h0 : (B4 (fun _ => 1)) x.C5 ≤ 1048576 := by
  have h := (fun _ hx => Dw (p := (fun _ => True)) (fun _ _ => Nat.le_refl 1) hx.1 hx.2) x.C5 hx.1
  exact h
 have h1 : (B4 DV) x.AF ≤ 2097152 := by
  have h := (fun _ hx => Dw (p := (fun _ => True)) RX hx.1 hx.2) x.AF hx.2.1
  exact h
 have h2 : (B4 FG) x.A7 ≤ 1099515822080 := by
  have h := (fun _ hx => Dw (p := GA) Sw hx.1 hx.2) x.A7 hx.2.2
  exact h
 omega
theorem Ww {x : List Int} {k : Int} (hx : (Fz (fun _ => True)) x) (h0 : 0 ≤ k) (hb : k + ((B4 (fun _ => 1) x : Nat) : Int) ≤ 4611686018427387904) : eW (BS Xi (fun _ => 1) x k) k = some (k + ((B4 (fun _ => 1) x : Nat) : Int)) := by
 have hl := hx.1
 unfold eW
 refine PX (F := NK (BS Xi (fun _ => 1) x k)) (fun k i => (k, i)) Xi (fun _ => 1) (fun _ => True) (BS Xi (fun _ => 1) x k) (fun i y k hp h0 hb hy => ?_) (fun k2 => ?_) x [] k rfl hx.2 h0 hb
 ·have hlen := Bo hy
  have hlt := Bs hlen
  rw [MD] at hlen
  have hb' : k + ((1 : Nat) : Int) ≤ 4611686018427387904 := hb
  unfold NK
  simp (disch := omega) only [hlt, cond_true, AM, hy, Option.bind_some, Xi, bne_self_eq_false, beq_self_eq_true, Bool.not_true, cond_false, JG, kF]
  rw [show k + (((fun _ => 1) y : Nat) : Int) = k + 1 from by show k + ((1 : Nat) : Int) = _; omega]
  rfl
 ·unfold NK
  simp only [Bh, cond_false, Option.map_some]
theorem lA (aAP0 : AP) (aAF1 : AD) (aAPoint2 : Int) (haAP0 : Mm aAP0) (haAF1 : KX aAF1) (haAPoint2 : FJ aAPoint2) : f3 aAP0 aAF1 aAPoint2 = some true := by
 unfold f3
 obtain ⟨v0, e0, a0, b0⟩ := gV (x := aAP0) (left := 1048576) (by omega) (by omega) haAP0
 rw [e0, Option.bind_some]
 rcases Bool.eq_false_or_eq_true (decide (v0 < (0 : Int))) with hb0 | hb0
 ·rw [hb0]; rfl
 rw [hb0, cond_false]; simp only [decide_eq_false_iff_not] at hb0
 have saAP0 := b0.resolve_left hb0
 obtain ⟨v1, e1, a1, b1⟩ := hZ (x := aAF1) (left := v0) (by omega) (by omega) haAF1
 rw [e1, Option.bind_some]
 rcases Bool.eq_false_or_eq_true (decide (v1 < (0 : Int))) with hb1 | hb1
 ·rw [hb1]; rfl
 rw [hb1, cond_false]; simp only [decide_eq_false_iff_not] at hb1
 have saAF1 := b1.resolve_left hb1
 obtain ⟨r, m1, m2, m3⟩ := iL haAP0 haAF1 haAPoint2 saAP0 saAF1
 have u0 : FI aAP0 ≤ 8796094070784 := by
  have h := Sz aAP0 saAP0
  exact h
 have k0 := Wu (x := aAP0) (k := (1 : Int)) saAP0 (by omega) (by omega)
 have u1 : FH aAF1 ≤ 1099518967808 := by
  have h := RY aAF1 saAF1
  exact h
 have k1 := Wv (x := aAF1) (k := (1 : Int) + ((FI aAP0 : Nat) : Int)) saAF1 (by omega) (by omega)
 have u2 : (B4 (fun _ => 1)) r ≤ 1048576 := by
  have h := (fun _ hx => Dw (p := (fun _ => True)) (fun _ _ => Nat.le_refl 1) hx.1 hx.2) r m3
  exact h
 have k2 := Ip (x := r) (k := (1 : Int)) m3 (by omega) (by omega)
 have j2 := Ww (x := r) (k := (1 : Int)) m3 (by omega) (by omega)
 simp only [iG (x := aAP0) saAP0, cC (x := aAF1) saAF1, NH (x := r) m3, cD (x := aAP0) saAP0, cE (x := aAF1) saAF1, k0, kF (show (0:Int) ≤ (1 : Int) + ((FI aAP0 : Nat) : Int) by omega), k1, kF (show (0:Int) ≤ (1 : Int) + ((FI aAP0 : Nat) : Int) + ((FH aAF1 : Nat) : Int) by omega), k2, kF (show (0:Int) ≤ (1 : Int) + (((B4 (fun _ => 1)) r : Nat) : Int) by omega), j2, Option.bind_some, m1, m2, bne_self_eq_false, beq_self_eq_true, Bool.not_true, cond_false]
end
end Go.Proofs.YtphpkphklegfeaaGreat.K

