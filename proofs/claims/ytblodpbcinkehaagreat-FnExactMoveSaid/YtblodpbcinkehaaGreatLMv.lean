/-
 The plain part of the law FnExactMove: on typed values it returns true at every input. No conditions.
-/
import Derived.Test.YtblodpbcinkehaaGreatDMv
set_option linter.unusedVariables false
set_option linter.unusedSimpArgs false
set_option maxRecDepth 100000
namespace Go.Proofs.YtblodpbcinkehaaGreat.K
open _root_.Go.Proofs.Tryz renaming prog → ah
open Bool renaming eq_false_or_eq_true → dp, not_true → cz, eq_iff_iff → fb, or_false → jg, and_eq_true → av, or_eq_false_iff → ir, not_eq_false' → ln, and_eq_false_iff → lU, true_and → mT, and_true → ke
open Option renaming bind_some → ab, map_some → ai, any_some → cm
open List renaming map_id' → jn, mem_of_getElem? → bh, getElem?_eq_getElem → aj, range → da, findSome?_eq_none_iff → km, mem_range → dg, drop_eq_getElem_cons → kq, foldl_cons → iy, nil_append → ff, any_cons → mS, any_eq_false → m5, any_eq_true → im, range_succ → mJ, any_append → mK, take_add_one → m7, take_length → gf, foldl_flatMap → ll, getElem_of_mem → lf, length_nil → gv, length_cons → du, mem_cons → bw, drop_eq_nil_iff → lb, append_nil → cu, take_succ_eq_append_getElem → jx, append_assoc → bj, length_take → dq, length_singleton → dw
open Nat renaming lt_or_ge → bz, zero_le → db, le_refl → ak
open Option.some renaming injEq → aa, inj → an
open Int renaming toNat_natCast → fm, le_refl → lg, add_zero → lX
open Sum renaming elim_inr → lV, elim_inl → lW
noncomputable section
open Go.ChangeShapes Go.WideShapes Go.ChangeAt Go.RowKit
abbrev Hj (x : A0) : Prop := (fun s => s.size ≤ 9223372036854775807) x.Name ∧ F7 x.BN ∧ F7 x.Bv ∧ F7 x.CX
abbrev Q9 (x : Ay) : Prop := F7 x.A0 ∧ F7 x.B9
abbrev Hi (x : AO) : Prop := F7 x.Kind ∧ (fun s => s.size ≤ 9223372036854775807) x.Name ∧ (FM Q9) x.Ends
abbrev Ef (x : Az) : Prop := (FM Hj) x.A3 ∧ (FM Hi) x.A1
abbrev EX (x : AO) : Prop := (Jc (fun _ => True)) x.Ends
abbrev CS (x : Az) : Prop := (Jc (fun _ => True)) x.A3 ∧ (Jc EX) x.A1
abbrev Tu (x : CG) : Prop := F7 x.A0 ∧ F7 x.At ∧ F7 x.Way
abbrev MK (x : AW) : Prop := F7 x.A0 ∧ F7 x.Way
abbrev KH (x : AB) : Prop := Tu x.A5 ∧ F7 x.AI ∧ (FM MK) x.AF
abbrev HG (x : AB) : Prop := (Jc (fun _ => True)) x.AF
abbrev ES (x : BF) : Prop := HG x.AB ∧ (Jc (fun _ => True)) x.Dp
theorem l6 : FI ah 9 ByteArray (fun s => s.size ≤ 9223372036854775807) := VD Tryz.underlying9
theorem UD : FI ah 3 Int F7 := VC Tryz.underlying3
theorem kG : FI ah 80 A0 Hj := by
 intro K enc W sp fuel cs d ps h
 obtain ⟨fu, hl, hf⟩ := E4 Tryz.underlying80 h
 have hl : cs.length = 4 := hl
 obtain ⟨_, _, h0⟩ := hf _ (List.Mem.head _)
 obtain ⟨x0, r0, g0⟩ := l6 _ _ _ _ _ _ _ h0
 obtain ⟨_, _, h1⟩ := hf _ (List.Mem.tail _ (List.Mem.head _))
 obtain ⟨x1, r1, g1⟩ := UD _ _ _ _ _ _ _ h1
 obtain ⟨_, _, h2⟩ := hf _ (List.Mem.tail _ (List.Mem.tail _ (List.Mem.head _)))
 obtain ⟨x2, r2, g2⟩ := UD _ _ _ _ _ _ _ h2
 obtain ⟨_, _, h3⟩ := hf _ (List.Mem.tail _ (List.Mem.tail _ (List.Mem.tail _ (List.Mem.head _))))
 obtain ⟨x3, r3, g3⟩ := UD _ _ _ _ _ _ _ h3
 exact ⟨⟨x0, x1, x2, x3⟩, VY (off := 0) (sz := 1) r0 (VY (off := 1) (sz := 1) r1 (VY (off := 2) (sz := 1) r2 (I8 (sz := 1) hl r3))), g0, g1, g2, g3⟩
theorem k9 : FI ah 22 (List A0) (FM Hj) := G3 Tryz.underlying22 rfl kG
theorem gX : FI ah 140 Ay Q9 := by
 intro K enc W sp fuel cs d ps h
 obtain ⟨fu, hl, hf⟩ := E4 Tryz.underlying140 h
 have hl : cs.length = 2 := hl
 obtain ⟨_, _, h0⟩ := hf _ (List.Mem.head _)
 obtain ⟨x0, r0, g0⟩ := UD _ _ _ _ _ _ _ h0
 obtain ⟨_, _, h1⟩ := hf _ (List.Mem.tail _ (List.Mem.head _))
 obtain ⟨x1, r1, g1⟩ := UD _ _ _ _ _ _ _ h1
 exact ⟨⟨x0, x1⟩, VY (off := 0) (sz := 1) r0 (I8 (sz := 1) hl r1), g0, g1⟩
theorem kH : FI ah 82 (List Ay) (FM Q9) := G3 Tryz.underlying82 rfl gX
theorem kI : FI ah 84 AO Hi := by
 intro K enc W sp fuel cs d ps h
 obtain ⟨fu, hl, hf⟩ := E4 Tryz.underlying84 h
 have hl : cs.length = 3 := hl
 obtain ⟨_, _, h0⟩ := hf _ (List.Mem.head _)
 obtain ⟨x0, r0, g0⟩ := UD _ _ _ _ _ _ _ h0
 obtain ⟨_, _, h1⟩ := hf _ (List.Mem.tail _ (List.Mem.head _))
 obtain ⟨x1, r1, g1⟩ := l6 _ _ _ _ _ _ _ h1
 obtain ⟨_, _, h2⟩ := hf _ (List.Mem.tail _ (List.Mem.tail _ (List.Mem.head _)))
 obtain ⟨x2, r2, g2⟩ := kH _ _ _ _ _ _ _ h2
 exact ⟨⟨x0, x1, x2⟩, VY (off := 0) (sz := 1) r0 (VY (off := 1) (sz := 1) r1 (I8 (sz := 1) hl r2)), g0, g1, g2⟩
theorem kA : FI ah 23 (List AO) (FM Hi) := G3 Tryz.underlying23 rfl kI
theorem kB : FI ah 25 Az Ef := by
 intro K enc W sp fuel cs d ps h
 obtain ⟨fu, hl, hf⟩ := E4 Tryz.underlying25 h
 have hl : cs.length = 2 := hl
 obtain ⟨_, _, h0⟩ := hf _ (List.Mem.head _)
 obtain ⟨x0, r0, g0⟩ := k9 _ _ _ _ _ _ _ h0
 obtain ⟨_, _, h1⟩ := hf _ (List.Mem.tail _ (List.Mem.head _))
 obtain ⟨x1, r1, g1⟩ := kA _ _ _ _ _ _ _ h1
 exact ⟨⟨x0, x1⟩, VY (off := 0) (sz := 1) r0 (I8 (sz := 1) hl r1), g0, g1⟩
theorem kC : FI ah 26 (List Int) (FM F7) := G3 Tryz.underlying26 rfl UD
theorem kD : FI ah 28 CG Tu := by
 intro K enc W sp fuel cs d ps h
 obtain ⟨fu, hl, hf⟩ := E4 Tryz.underlying28 h
 have hl : cs.length = 3 := hl
 obtain ⟨_, _, h0⟩ := hf _ (List.Mem.head _)
 obtain ⟨x0, r0, g0⟩ := UD _ _ _ _ _ _ _ h0
 obtain ⟨_, _, h1⟩ := hf _ (List.Mem.tail _ (List.Mem.head _))
 obtain ⟨x1, r1, g1⟩ := UD _ _ _ _ _ _ _ h1
 obtain ⟨_, _, h2⟩ := hf _ (List.Mem.tail _ (List.Mem.tail _ (List.Mem.head _)))
 obtain ⟨x2, r2, g2⟩ := UD _ _ _ _ _ _ _ h2
 exact ⟨⟨x0, x1, x2⟩, VY (off := 0) (sz := 1) r0 (VY (off := 1) (sz := 1) r1 (I8 (sz := 1) hl r2)), g0, g1, g2⟩
theorem gW : FI ah 107 AW MK := by
 intro K enc W sp fuel cs d ps h
 obtain ⟨fu, hl, hf⟩ := E4 Tryz.underlying107 h
 have hl : cs.length = 2 := hl
 obtain ⟨_, _, h0⟩ := hf _ (List.Mem.head _)
 obtain ⟨x0, r0, g0⟩ := UD _ _ _ _ _ _ _ h0
 obtain ⟨_, _, h1⟩ := hf _ (List.Mem.tail _ (List.Mem.head _))
 obtain ⟨x1, r1, g1⟩ := UD _ _ _ _ _ _ _ h1
 exact ⟨⟨x0, x1⟩, VY (off := 0) (sz := 1) r0 (I8 (sz := 1) hl r1), g0, g1⟩
theorem kE : FI ah 29 (List AW) (FM MK) := G3 Tryz.underlying29 rfl gW
theorem kF : FI ah 31 AB KH := by
 intro K enc W sp fuel cs d ps h
 obtain ⟨fu, hl, hf⟩ := E4 Tryz.underlying31 h
 have hl : cs.length = 5 := hl
 obtain ⟨_, _, h0⟩ := hf _ (List.Mem.head _)
 obtain ⟨x0, r0, g0⟩ := kD _ _ _ _ _ _ _ h0
 obtain ⟨_, _, h1⟩ := hf _ (List.Mem.tail _ (List.Mem.head _))
 obtain ⟨x1, r1, g1⟩ := UD _ _ _ _ _ _ _ h1
 obtain ⟨_, _, h2⟩ := hf _ (List.Mem.tail _ (List.Mem.tail _ (List.Mem.head _)))
 obtain ⟨x2, r2, g2⟩ := kE _ _ _ _ _ _ _ h2
 exact ⟨⟨x0, x1, x2⟩, VY (off := 0) (sz := 3) r0 (VY (off := 3) (sz := 1) r1 (I8 (sz := 1) hl r2)), g0, g1, g2⟩
theorem aI {x : A0} {left : Int} (h0 : 0 ≤ left) (h1 : left ≤ 1048576) (hx : Hj x) : ∃ v, cU x left = some v ∧ v ≤ left ∧ (v < 0 ∨ (fun _ => True) x) := by
 unfold cU
 have hz0 : x.Name.size ≤ 9223372036854775807 := hx.1
 obtain ⟨v0, e0, a0⟩ : ∃ v, AV (left - (x.Name.size : Int)) = v ∧ v ≤ left := ⟨_, rfl, by rw [BV ⟨by omega, by omega⟩]; omega⟩
 rw [e0]
 rcases dp (decide (v0 < (0 : Int))) with hb0 | hb0
 ·rw [hb0]; exact ⟨_, rfl, by omega, .inl (by decide)⟩
 rw [hb0, cond_false]; simp only [decide_eq_false_iff_not] at hb0
 exact ⟨_, rfl, by omega, .inr trivial⟩
theorem Zy {x : List A0} {left : Int} (h0 : 0 ≤ left) (h1 : left ≤ 1048576) (hx : (FM Hj) x) : ∃ v, e6 x left = some v ∧ v ≤ left ∧ (v < 0 ∨ (Jc (fun _ => True)) x) := by
 unfold e6
 refine UJ (g := cU) (fit := Hj) (sm := (fun _ => True)) (fun x l a b c => aI b c a) (fun l i x hi => ?_) (fun l => ?_) h0 h1 hx
 ·unfold Pl
  simp only [D2 (BJ hi), cond_true, AM, hi, ab, ai]
 ·unfold Pl
  simp only [Cn, cond_false, ai]
theorem bB {x : List Ay} {left : Int} (h0 : 0 ≤ left) (h1 : left ≤ 1048576) (hx : (FM Q9) x) : ∃ v, fL x left = some v ∧ v ≤ left ∧ (v < 0 ∨ (Jc (fun _ => True)) x) := by
 unfold fL
 obtain ⟨v, e1, e2, e3⟩ := UK (xs := x) h0 h1 hx.1
 exact ⟨v, e1, e2, e3.imp id fun h => ⟨h.1, fun _ _ => trivial⟩⟩
theorem aJ {x : AO} {left : Int} (h0 : 0 ≤ left) (h1 : left ≤ 1048576) (hx : Hi x) : ∃ v, cV x left = some v ∧ v ≤ left ∧ (v < 0 ∨ EX x) := by
 unfold cV
 have hz0 : x.Name.size ≤ 9223372036854775807 := hx.2.1
 obtain ⟨v0, e0, a0⟩ : ∃ v, AV (left - (x.Name.size : Int)) = v ∧ v ≤ left := ⟨_, rfl, by rw [BV ⟨by omega, by omega⟩]; omega⟩
 rw [e0]
 rcases dp (decide (v0 < (0 : Int))) with hb0 | hb0
 ·rw [hb0]; exact ⟨_, rfl, by omega, .inl (by decide)⟩
 rw [hb0, cond_false]; simp only [decide_eq_false_iff_not] at hb0
 obtain ⟨v1, e1, a1, b1⟩ := bB (x := x.Ends) (left := v0) (by omega) (by omega) hx.2.2
 rw [e1, ab]
 rcases dp (decide (v1 < (0 : Int))) with hb1 | hb1
 ·rw [hb1]; exact ⟨_, rfl, by omega, .inl (by decide)⟩
 rw [hb1, cond_false]; simp only [decide_eq_false_iff_not] at hb1
 exact ⟨_, rfl, by omega, .inr (b1.resolve_left hb1)⟩
theorem Zz {x : List AO} {left : Int} (h0 : 0 ≤ left) (h1 : left ≤ 1048576) (hx : (FM Hi) x) : ∃ v, e7 x left = some v ∧ v ≤ left ∧ (v < 0 ∨ (Jc EX) x) := by
 unfold e7
 refine UJ (g := cV) (fit := Hi) (sm := EX) (fun x l a b c => aJ b c a) (fun l i x hi => ?_) (fun l => ?_) h0 h1 hx
 ·unfold Pm
  simp only [D2 (BJ hi), cond_true, AM, hi, ab, ai]
 ·unfold Pm
  simp only [Cn, cond_false, ai]
theorem eR {x : Az} {left : Int} (h0 : 0 ≤ left) (h1 : left ≤ 1048576) (hx : Ef x) : ∃ v, f4 x left = some v ∧ v ≤ left ∧ (v < 0 ∨ CS x) := by
 unfold f4
 obtain ⟨v0, e0, a0, b0⟩ := Zy (x := x.A3) (left := left) (by omega) (by omega) hx.1
 rw [e0, ab]
 rcases dp (decide (v0 < (0 : Int))) with hb0 | hb0
 ·rw [hb0]; exact ⟨_, rfl, by omega, .inl (by decide)⟩
 rw [hb0, cond_false]; simp only [decide_eq_false_iff_not] at hb0
 obtain ⟨v1, e1, a1, b1⟩ := Zz (x := x.A1) (left := v0) (by omega) (by omega) hx.2
 rw [e1, ab]
 rcases dp (decide (v1 < (0 : Int))) with hb1 | hb1
 ·rw [hb1]; exact ⟨_, rfl, by omega, .inl (by decide)⟩
 rw [hb1, cond_false]; simp only [decide_eq_false_iff_not] at hb1
 exact ⟨_, rfl, by omega, .inr ⟨b0.resolve_left hb0, b1.resolve_left hb1⟩⟩
theorem a7 {x : List AW} {left : Int} (h0 : 0 ≤ left) (h1 : left ≤ 1048576) (hx : (FM MK) x) : ∃ v, e8 x left = some v ∧ v ≤ left ∧ (v < 0 ∨ (Jc (fun _ => True)) x) := by
 unfold e8
 obtain ⟨v, e1, e2, e3⟩ := UK (xs := x) h0 h1 hx.1
 exact ⟨v, e1, e2, e3.imp id fun h => ⟨h.1, fun _ _ => trivial⟩⟩
theorem eX {x : AB} {left : Int} (h0 : 0 ≤ left) (h1 : left ≤ 1048576) (hx : KH x) : ∃ v, f5 x left = some v ∧ v ≤ left ∧ (v < 0 ∨ HG x) := by
 unfold f5
 obtain ⟨v0, e0, a0, b0⟩ := a7 (x := x.AF) (left := left) (by omega) (by omega) hx.2.2
 rw [e0, ab]
 rcases dp (decide (v0 < (0 : Int))) with hb0 | hb0
 ·rw [hb0]; exact ⟨_, rfl, by omega, .inl (by decide)⟩
 rw [hb0, cond_false]; simp only [decide_eq_false_iff_not] at hb0
 exact ⟨_, rfl, by omega, .inr (b0.resolve_left hb0)⟩
theorem aN {x : A0} (hx : (fun _ => True) x) : eV x = some x := by
 unfold eV
 rfl
theorem a8 {x : List A0} (hx : (Jc (fun _ => True)) x) : e9 x = some x := by
 have hl := hx.1
 unfold e9
 rw [Iu (by omega), ab]
 have := WG x (fun y => y) (⟨ByteArray.empty, 0, 0, 0⟩ : A0) (F := Mq x) (fun ys i y hi hy => ?_) (fun ys => ?_)
 ·rw [jn] at this; exact this
 ·have hlt := BJ hi
  unfold Mq
  have hg := aN (x := y) (hx.2 _ (bh hi))
  simp only [D2 (BJ hi), cond_true, AM, hi, ab, hg]
  rw [aj (by omega), ab, B3 (by omega)]
  rfl
 ·unfold Mq
  simp only [Cn, cond_false, ai]
theorem bE {x : Ay} (hx : (fun _ => True) x) : fW x = some x := by
 unfold fW
 rfl
theorem bC {x : List Ay} (hx : (Jc (fun _ => True)) x) : fS x = some x := by
 have hl := hx.1
 unfold fS
 rw [Iu (by omega), ab]
 have := WG x (fun y => y) (⟨0, 0⟩ : Ay) (F := N8 x) (fun ys i y hi hy => ?_) (fun ys => ?_)
 ·rw [jn] at this; exact this
 ·have hlt := BJ hi
  unfold N8
  have hg := bE (x := y) (hx.2 _ (bh hi))
  simp only [D2 (BJ hi), cond_true, AM, hi, ab, hg]
  rw [aj (by omega), ab, B3 (by omega)]
  rfl
 ·unfold N8
  simp only [Cn, cond_false, ai]
theorem aO {x : AO} (hx : EX x) : eW x = some x := by
 unfold eW
 rw [bC (x := x.Ends) hx]
 rfl
theorem a9 {x : List AO} (hx : (Jc EX) x) : eA x = some x := by
 have hl := hx.1
 unfold eA
 rw [Iu (by omega), ab]
 have := WG x (fun y => y) (⟨0, ByteArray.empty, []⟩ : AO) (F := Mr x) (fun ys i y hi hy => ?_) (fun ys => ?_)
 ·rw [jn] at this; exact this
 ·have hlt := BJ hi
  unfold Mr
  have hg := aO (x := y) (hx.2 _ (bh hi))
  simp only [D2 (BJ hi), cond_true, AM, hi, ab, hg]
  rw [aj (by omega), ab, B3 (by omega)]
  rfl
 ·unfold Mr
  simp only [Cn, cond_false, ai]
theorem fH {x : Az} (hx : CS x) : f7 x = some x := by
 unfold f7
 rw [a8 (x := x.A3) hx.1, a9 (x := x.A1) hx.2]
 rfl
theorem fQ {x : List Int} (hx : (Jc (fun _ => True)) x) : f8 x = some x := by
 have hl := hx.1
 unfold f8
 rw [Iu (by omega), ab]
 have := WG x (fun y => y) (0 : Int) (F := R9 x) (fun ys i y hi hy => ?_) (fun ys => ?_)
 ·rw [jn] at this; exact this
 ·have hlt := BJ hi
  unfold R9
  simp only [D2 (BJ hi), cond_true, AM, hi, ab]
  rw [aj (by omega), ab, B3 (by omega)]
  rfl
 ·unfold R9
  simp only [Cn, cond_false, ai]
theorem aA {x : CG} (hx : (fun _ => True) x) : eB x = some x := by
 unfold eB
 rfl
theorem aQ {x : AW} (hx : (fun _ => True) x) : eY x = some x := by
 unfold eY
 rfl
theorem aB {x : List AW} (hx : (Jc (fun _ => True)) x) : eC x = some x := by
 have hl := hx.1
 unfold eC
 rw [Iu (by omega), ab]
 have := WG x (fun y => y) (⟨0, 0⟩ : AW) (F := Ms x) (fun ys i y hi hy => ?_) (fun ys => ?_)
 ·rw [jn] at this; exact this
 ·have hlt := BJ hi
  unfold Ms
  have hg := aQ (x := y) (hx.2 _ (bh hi))
  simp only [D2 (BJ hi), cond_true, AM, hi, ab, hg]
  rw [aj (by omega), ab, B3 (by omega)]
  rfl
 ·unfold Ms
  simp only [Cn, cond_false, ai]
theorem fY {x : AB} (hx : HG x) : f9 x = some x := by
 unfold f9
 rw [aA (x := x.A5) trivial, aB (x := x.AF) hx]
 rfl
theorem aF {x : CG} (hx : (fun _ => True) x) : eI x x = some true := by
 unfold eI
 simp only [bne_self_eq_false, beq_self_eq_true, cz, cond_false]
theorem bA {x : AW} (hx : (fun _ => True) x) : fI x x = some true := by
 unfold fI
 simp only [bne_self_eq_false, beq_self_eq_true, cz, cond_false]
theorem aG {x : List AW} (hx : (Jc (fun _ => True)) x) : eJ x x = some true := by
 unfold eJ
 simp only [bne_self_eq_false, cond_false]
 refine Ku (F := Mw x x) hx.1 (fun i y hi => ?_) ?_
 ·unfold Mw
  have hg := bA (x := y) (hx.2 _ (bh hi))
  simp only [D2 (BJ hi), cond_true, AM, hi, ab, hg, cz, cond_false]
 ·unfold Mw
  simp only [Cn, cond_false, ai]
theorem W2 {x : AB} (hx : HG x) : cR x x = some true := by
 unfold cR
 simp only [bne_self_eq_false, beq_self_eq_true, cz, cond_false, aF (x := x.A5) trivial, aG (x := x.AF) hx, ab]
theorem aX {x : BD} (hx : (fun _ => True) x) : fE x x = some true := by
 unfold fE
 simp only [bne_self_eq_false, beq_self_eq_true, cz, cond_false]
theorem aC {x : List BD} (hx : (Jc (fun _ => True)) x) : eF x x = some true := by
 unfold eF
 simp only [bne_self_eq_false, cond_false]
 refine Ku (F := Mt x x) hx.1 (fun i y hi => ?_) ?_
 ·unfold Mt
  have hg := aX (x := y) (hx.2 _ (bh hi))
  simp only [D2 (BJ hi), cond_true, AM, hi, ab, hg, cz, cond_false]
 ·unfold Mt
  simp only [Cn, cond_false, ai]
theorem Zv {x : BF} (hx : ES x) : Zu x x = some true := by
 unfold Zu
 simp only [bne_self_eq_false, beq_self_eq_true, cz, cond_false, W2 (x := x.AB) hx.1, aC (x := x.Dp) hx.2, ab]
theorem aY {x : A0} (hx : (fun _ => True) x) : fF x x = some true := by
 unfold fF
 simp only [bne_self_eq_false, beq_self_eq_true, cz, cond_false]
theorem aD {x : List A0} (hx : (Jc (fun _ => True)) x) : eG x x = some true := by
 unfold eG
 simp only [bne_self_eq_false, cond_false]
 refine Ku (F := Mu x x) hx.1 (fun i y hi => ?_) ?_
 ·unfold Mu
  have hg := aY (x := y) (hx.2 _ (bh hi))
  simp only [D2 (BJ hi), cond_true, AM, hi, ab, hg, cz, cond_false]
 ·unfold Mu
  simp only [Cn, cond_false, ai]
theorem Xl {x : Ay} (hx : (fun _ => True) x) : Vu x x = some true := by
 unfold Vu
 simp only [bne_self_eq_false, beq_self_eq_true, cz, cond_false]
theorem bD {x : List Ay} (hx : (Jc (fun _ => True)) x) : fU x x = some true := by
 unfold fU
 simp only [bne_self_eq_false, cond_false]
 refine Ku (F := NH x x) hx.1 (fun i y hi => ?_) ?_
 ·unfold NH
  have hg := Xl (x := y) (hx.2 _ (bh hi))
  simp only [D2 (BJ hi), cond_true, AM, hi, ab, hg, cz, cond_false]
 ·unfold NH
  simp only [Cn, cond_false, ai]
theorem aZ {x : AO} (hx : EX x) : fG x x = some true := by
 unfold fG
 simp only [bne_self_eq_false, beq_self_eq_true, cz, cond_false, bD (x := x.Ends) hx, ab]
theorem aE {x : List AO} (hx : (Jc EX) x) : eH x x = some true := by
 unfold eH
 simp only [bne_self_eq_false, cond_false]
 refine Ku (F := Mv x x) hx.1 (fun i y hi => ?_) ?_
 ·unfold Mv
  have hg := aZ (x := y) (hx.2 _ (bh hi))
  simp only [D2 (BJ hi), cond_true, AM, hi, ab, hg, cz, cond_false]
 ·unfold Mv
  simp only [Cn, cond_false, ai]
theorem Zw {x : Az} (hx : CS x) : dV x x = some true := by
 unfold dV
 simp only [bne_self_eq_false, beq_self_eq_true, cz, cond_false, aD (x := x.A3) hx.1, aE (x := x.A1) hx.2, ab]
theorem Zx {x : List Int} (hx : (Jc (fun _ => True)) x) : dW x x = some true := by
 unfold dW
 simp only [bne_self_eq_false, cond_false]
 refine Ku (F := Mn x x) hx.1 (fun i y hi => ?_) ?_
 ·unfold Mn
  simp only [D2 (BJ hi), cond_true, AM, hi, ab, bne_self_eq_false, beq_self_eq_true, cz, cond_false]
 ·unfold Mn
  simp only [Cn, cond_false, ai]
theorem Qe (a b : ByteArray) : (a.toList == b.toList) = decide (a = b) := by
 rw [fb, decide_eq_true_eq, ByteArray.toList_eq, ByteArray.toList_eq, beq_iff_eq]
 exact ⟨fun h => by cases a; cases b; simp only [Array.toList_inj] at h; rw [h], fun h => by rw [h]⟩
def C4 {ρ : Type} (n : Nat) (b : Nat → Option ρ) (e : Option ρ) : Option ρ := match (da n).findSome? b with | some r => some r | none => e
theorem DN {ρ : Type} {n : Nat} {b : Nat → Option ρ} {e : Option ρ} (h : ∀ i, i < n → b i = none) : C4 n b e = e := by
 unfold C4
 rw [km.2 (fun x hx => h x (dg.1 hx))]
theorem Cw {ρ : Type} {n : Nat} {b : Nat → Option ρ} {e : Option ρ} {i : Nat} {r : ρ} (hi : i < n) (h : ∀ j, j < i → b j = none) (hr : b i = some r) : C4 n b e = some r := by
 unfold C4
 have e1 : n = i + ((n - i - 1) + 1) := by omega
 have h0 : (da i).findSome? b = none := km.2 fun x hx => h x (dg.1 hx)
 rw [e1, List.range_add, List.findSome?_append, h0, List.range_succ_eq_map]
 simp [hr]
theorem El {ρ : Type} (n : Nat) (b : Nat → Option ρ) : (∀ i, i < n → b i = none) ∨ ∃ i r, i < n ∧ (∀ j, j < i → b j = none) ∧ b i = some r := by
 induction n with
 | zero => exact .inl (fun i hi => by omega)
 | succ n ih =>
  rcases ih with h | ⟨i, r, h1, h2, h3⟩
  ·cases hb : b n with
   | none =>
    refine .inl (fun i hi => ?_)
    rcases bz i n with hl | hl
    ·exact h i hl
    ·have : i = n := by omega
     subst this; exact hb
   | some r => exact .inr ⟨n, r, by omega, h, hb⟩
  ·exact .inr ⟨i, r, by omega, h2, h3⟩
theorem Be {σ ρ : Type} {F : σ → Option (σ ⊕ ρ)} (n : Nat) (st : Nat → σ) (b : Nat → Option ρ) (e : Option ρ) (h : ∀ i, i < n → (∀ j, j < i → b j = none) → F (st i) = some ((b i).elim (.inl (st (i + 1))) .inr)) (hend : (∀ j, j < n → b j = none) → F (st n) = e.map .inr) : AP F (st 0) = C4 n b e := by
 have key : ∀ k i, i + k = n → (∀ j, j < i → b j = none) → AP F (st i) = C4 n b e := by
  intro k
  induction k with
  | zero =>
   intro i hi hb
   have : i = n := by omega
   subst this
   rw [BK, hend hb, DN hb]
   cases e <;> rfl
  | succ k ih =>
   intro i hi hb
   rw [BK, h i (by omega) hb]
   cases hr : b i with
   | some r => rw [Cw (by omega) hb hr]; rfl
   | none =>
    simp only [ab, Option.elim]
    refine ih (i + 1) (by omega) (fun j hj => ?_)
    rcases bz j i with hl | hl
    ·exact hb j hl
    ·have : j = i := by omega
     subst this; exact hr
 exact key n 0 (by omega) (fun j hj => by omega)
theorem JM {α β ρ : Type} {F : β × Int → Option ((β × Int) ⊕ ρ)} (xs : List α) (g : β → α → β) (a0 : β) (e : β → Option ρ) (h : ∀ (a : β) (i : Nat) (x : α), xs[i]? = some x → F (a, (i : Int)) = some (.inl (g a x, ((i + 1 : Nat) : Int)))) (hend : ∀ a, F (a, (xs.length : Int)) = (e a).map .inr) : AP F (a0, (0 : Int)) = e (xs.foldl g a0) := by
 have key : ∀ k i (a : β), i + k = xs.length → AP F (a, (i : Int)) = e ((xs.drop i).foldl g a) := by
  intro k
  induction k with
  | zero =>
   intro i a hi
   have : i = xs.length := by omega
   subst this
   rw [BK, hend, List.drop_length, List.foldl_nil]
   cases e a <;> rfl
  | succ k ih =>
   intro i a hi
   have hlt : i < xs.length := by omega
   rw [BK, h a i _ (aj hlt), kq hlt, iy]
   exact ih (i + 1) _ (by omega)
 have := key xs.length 0 a0 (by omega)
 simpa using this
section
variable {κ ν : Type} [DecidableEq κ]
theorem Nx {k : κ} : ∀ {m : List (κ × ν)} {i : Nat}, Ch k m i = none → ∀ j, Ch k m j = none
 | [], _, _, _ => rfl
 | e :: m, i, h, j => by
  unfold Ch at h ⊢
  split at h
  ·cases h
  ·rename_i hk; rw [if_neg hk]; exact Nx h (j + 1)
theorem Fe (k : κ) (e : κ × ν) (m : List (κ × ν)) (z : ν) : DW k (e :: m) z = if k = e.1 then e.2 else DW k m z := by
 by_cases hk : k = e.1
 ·rw [if_pos hk]
  unfold DW Ch
  rw [if_pos hk]
 ·rw [if_neg hk]
  unfold DW
  have h0 : Ch k (e :: m) 0 = Ch k m (0 + 1) := by rw [Ch, if_neg hk]
  rw [h0]
  have key : ∀ (m : List (κ × ν)) i j, (Ch k m i).map (·.2) = (Ch k m j).map (·.2) := by
   intro m
   induction m with
   | nil => intro i j; rfl
   | cons e m ih =>
    intro i j
    unfold Ch
    split
    ·rfl
    ·exact ih _ _
  have := key m (0 + 1) 0
  cases h1 : Ch k m (0 + 1) <;> cases h2 : Ch k m 0 <;> rw [h1, h2] at this <;> simp_all
theorem Ls (k k' : κ) (v : ν) (z : ν) : ∀ (m : List (κ × ν)), Ch k' m 0 = none → DW k (m ++ [(k', v)]) z = if k = k' then v else DW k m z
 | [], _ => by rw [ff, Fe]
 | e :: m, h => by
  have h' : k' ≠ e.1 ∧ Ch k' m 0 = none := by
   unfold Ch at h
   split at h
   ·cases h
   ·rename_i hk; exact ⟨hk, Nx h 0⟩
  rw [List.cons_append, Fe, Ls k k' v z m h'.2, Fe]
  by_cases h1 : k = e.1
  ·rw [if_pos h1, if_pos h1, if_neg (fun (h2 : k = k') => h'.1 (h2 ▸ h1))]
  ·rw [if_neg h1, if_neg h1]
theorem Ny (k k' : κ) (v : ν) (z : ν) : ∀ (m : List (κ × ν)) (n i : Nat) (x : ν), Ch k' m n = some (n + i, x) → DW k (m.set i (k', v)) z = if k = k' then v else DW k m z
 | [], _, _, _, h => by cases h
 | e :: m, n, i, x, h => by
  unfold Ch at h
  split at h
  ·rename_i hk
   simp only [aa, Prod.mk.injEq] at h
   have : i = 0 := by omega
   subst this
   rw [List.set_cons_zero, Fe, Fe, hk]
   by_cases h1 : k = e.1
   ·rw [if_pos h1, if_pos h1]
   ·rw [if_neg h1, if_neg h1, if_neg h1]
  ·rename_i hk
   have hi := (LG h).1
   simp only [] at hi
   obtain ⟨i', rfl⟩ : ∃ i', i = i' + 1 := ⟨i - 1, by omega⟩
   rw [List.set_cons_succ, Fe, Ny k k' v z m (n + 1) i' x (by rw [h]; congr 2; omega), Fe]
   by_cases h1 : k = e.1
   ·rw [if_pos h1, if_pos h1, if_neg (fun (h2 : k = k') => hk (h2 ▸ h1))]
   ·rw [if_neg h1, if_neg h1]
theorem P6 (k k' : κ) (v z : ν) (m : List (κ × ν)) : DW k (FH k' v m) z = if k = k' then v else DW k m z := by
 unfold FH
 cases h : Ch k' m 0 with
 | none => exact Ls k k' v z m h
 | some x =>
  obtain ⟨i, y⟩ := x
  exact Ny k k' v z m 0 i y (by rw [h, Nat.zero_add])
theorem P5 {α : Type} (p : α → Bool) (f : α → κ) (xs : List α) (k : κ) : DW k (xs.foldl (fun m x => bif p x then FH (f x) true m else m) []) false = xs.any fun x => p x && decide (f x = k) := by
 have key : ∀ (xs : List α) (m : List (κ × Bool)), DW k (xs.foldl (fun m x => bif p x then FH (f x) true m else m) m) false = (DW k m false || xs.any fun x => p x && decide (f x = k)) := by
  intro xs
  induction xs with
  | nil => intro m; simp
  | cons x xs ih =>
   intro m
   rw [iy, ih, mS]
   cases hp : p x with
   | false => simp
   | true =>
    rw [cond_true, P6]
    by_cases hk : k = f x
    ·rw [if_pos hk]; simp [hk]
    ·rw [if_neg hk]
     have : decide (f x = k) = false := decide_eq_false (fun h => hk h.symm)
     simp [this]
 rw [key]
 rfl
end
theorem FY {ρ : Type} (n : Nat) (p : Nat → Bool) (r : ρ) (e : Option ρ) : C4 n (fun i => bif p i then some r else none) e = bif (da n).any p then some r else e := by
 rcases El n (fun i => bif p i then some r else none) with h | ⟨i, r', hi, hj, hr⟩
 ·rw [DN h]
  have : (da n).any p = false := by
   rw [m5]
   intro x hx
   have := h x (dg.1 hx)
   cases hp : p x <;> simp_all
  rw [this]; rfl
 ·rw [Cw hi hj hr]
  have hp : p i = true := by cases hp : p i <;> simp_all
  have : (da n).any p = true := im.2 ⟨i, dg.2 hi, hp⟩
  rw [this]
  simp_all
theorem I6 (n : Nat) (p : Nat → Bool) (e : Bool) : C4 n (fun i => bif p i then none else some false) (some e) = some ((da n).all p && e) := by
 have : (fun i => bif p i then (none : Option Bool) else some false) = fun i => bif !p i then some false else none := by funext i; cases p i <;> rfl
 rw [this, FY]
 have : ((da n).any fun i => !p i) = !((da n).all p) := by rw [List.not_all_eq_any_not]
 rw [this]
 cases (da n).all p <;> rfl
theorem FZ {ρ : Type} (n : Nat) (b : Nat → Option ρ) {e : Option ρ} (h : ∃ r, e = some r) : ∃ r, C4 n b e = some r := by
 unfold C4
 split
 ·exact ⟨_, rfl⟩
 ·exact h
theorem KG {ρ : Type} {n : Nat} {b b' : Nat → Option ρ} {e e' : Option ρ} (h : ∀ i, i < n → b i = b' i) (he : (∀ i, i < n → b i = none) → e = e') : C4 n b e = C4 n b' e' := by
 rcases El n b with h1 | ⟨i, r, hi, hj, hr⟩
 ·rw [DN h1, DN (fun i hi => by rw [← h i hi]; exact h1 i hi)]; exact he h1
 ·rw [Cw hi hj hr, Cw hi (fun j hl => by rw [← h j (by omega)]; exact hj j hl) (by rw [← h i hi]; exact hr)]
theorem CD {α : Type} (b : Bool) (x y : α) : (bif b then some x else some y) = some (bif b then x else y) := by cases b <;> rfl
theorem Ca {α : Type} (xs : List α) (g : α → Bool) : ∀ i, ((da i).any fun j => (xs[j]?).any g) = (xs.take i).any g
 | 0 => by simp
 | i + 1 => by
  rw [mJ, mK, Ca xs g i, m7, mK, mS, List.any_nil, jg]
  cases xs[i]? <;> simp [Option.any]
theorem NV {α β : Type} (g : β → α → β) (a : β) {xs : List α} {i : Nat} {x : α} (h : xs[i]? = some x) : (xs.take (i + 1)).foldl g a = g ((xs.take i).foldl g a) x := by
 rw [m7, List.foldl_append, h]; rfl
theorem Oi {s : ByteArray} {i : Nat} (h : i < s.size) : G6 s (i : Int) = some ((G6 s (i : Int)).getD 0) := by
 unfold G6
 rw [if_pos (by omega), fm, getElem?_pos s i h]
 rfl
theorem DQ {σ ρ : Type} (F : σ → Option (σ ⊕ ρ)) (s : σ) : AP F s = (F s).bind (Sum.elim (AP F) some) := by
 rw [BK]
 congr 1
 funext x
 cases x <;> rfl
theorem Lm {σ ρ : Type} (n : Nat) (b : Nat → Option ρ) (s : σ) (k : σ → Option ρ) : ((C4 n (fun i => (b i).map Sum.inr) (some (.inl s))).bind (Sum.elim k some)) = C4 n b (k s) := by
 rcases El n b with h | ⟨i, r, hi, hj, hr⟩
 ·rw [DN h, DN (fun i hi => by rw [h i hi]; rfl)]; rfl
 ·rw [Cw hi hj hr, Cw (r := .inr r) hi (fun j hl => by rw [hj j hl]; rfl) (by rw [hr]; rfl)]; rfl
theorem Ra {κ : Type} [DecidableEq κ] (xs : List κ) (k : κ) : DW k (xs.foldl (fun m x => FH x (AV (DW x m 0 + 1)) m) []) 0 = xs.foldl (fun a x => bif decide (x = k) then AV (a + 1) else a) (0 : Int) := by
 have key : ∀ (xs : List κ) (m : List (κ × Int)), DW k (xs.foldl (fun m x => FH x (AV (DW x m 0 + 1)) m) m) 0 = xs.foldl (fun a x => bif decide (x = k) then AV (a + 1) else a) (DW k m 0) := by
  intro xs
  induction xs with
  | nil => intro m; rfl
  | cons x xs ih =>
   intro m
   rw [iy, ih, iy, P6]
   by_cases hk : x = k
   ·subst hk; simp
   ·rw [if_neg (fun h => hk h.symm)]; simp [hk]
 rw [key]
 rfl
theorem D9 {ρ : Type} {n : Nat} {b : Nat → Option ρ} {e : Option ρ} {r : ρ} (h : C4 n b e = some r) : (∃ i, i < n ∧ b i = some r) ∨ ((∀ i, i < n → b i = none) ∧ e = some r) := by
 rcases El n b with h1 | ⟨i, r', hi, hj, hr⟩
 ·rw [DN h1] at h; exact .inr ⟨h1, h⟩
 ·rw [Cw hi hj hr] at h; exact .inl ⟨i, hi, hr.trans h⟩
theorem EL {α : Type} {b : Bool} {x y : α} (h : (bif b then some x else none) = some y) : b = true ∧ x = y := by
 cases b
 ·cases h
 ·exact ⟨rfl, by simpa using h⟩
theorem HZ {α : Type} {b : Bool} {x : α} (h : (bif b then some x else none) = none) : b = false := by
 cases b
 ·rfl
 ·cases h
theorem Ll {σ ρ : Type} (n : Nat) (b : Nat → Option ρ) (s : σ) : C4 n (fun i => (b i).map Sum.inr) (some (.inl s)) = some ((C4 n b none).elim (.inl s) .inr) := by
 rcases El n b with h | ⟨i, r, hi, hj, hr⟩
 ·rw [DN h, DN (fun i hi => by rw [h i hi]; rfl)]; rfl
 ·rw [Cw hi hj hr, Cw (r := .inr r) hi (fun j hl => by rw [hj j hl]; rfl) (by rw [hr]; rfl)]; rfl
theorem Uj {ρ : Type} {n : Nat} {b : Nat → Option ρ} {e : Option ρ} (h : C4 n b e = none) : ∀ i, i < n → b i = none := by
 rcases El n b with h1 | ⟨i, r, hi, hj, hr⟩
 ·exact h1
 ·rw [Cw hi hj hr] at h; cases h
theorem P3 {σ ρ : Type} {F F' : σ → Option (σ ⊕ ρ)} (n : Nat) (Inv : Nat → σ → Prop) (s0 : σ) (h0 : Inv 0 s0) (h : ∀ i s, i < n → Inv i s → F s = F' s ∧ ((∃ s', F' s = some (.inl s') ∧ Inv (i + 1) s') ∨ ∃ r, F' s = some (.inr r))) (hend : ∀ s, Inv n s → F s = F' s ∧ ∃ r, F' s = some (.inr r)) : ∃ r, AP F s0 = some r ∧ AP F' s0 = some r := by
 have key : ∀ k i s, i + k = n → Inv i s → ∃ r, AP F s = some r ∧ AP F' s = some r := by
  intro k
  induction k with
  | zero =>
   intro i s hi hs
   have : i = n := by omega
   subst this
   obtain ⟨h1, r, h2⟩ := hend s hs
   exact ⟨r, by rw [BK, h1, h2]; rfl, by rw [BK, h2]; rfl⟩
  | succ k ih =>
   intro i s hi hs
   obtain ⟨h1, h2⟩ := h i s (by omega) hs
   rcases h2 with ⟨s', h2, h3⟩ | ⟨r, h2⟩
   ·obtain ⟨r, h4, h5⟩ := ih (i + 1) s' (by omega) h3
    exact ⟨r, by rw [BK, h1, h2]; exact h4, by rw [BK, h2]; exact h5⟩
   ·exact ⟨r, by rw [BK, h1, h2]; rfl, by rw [BK, h2]; rfl⟩
 exact key n 0 s0 (by omega) h0
def Gf (c : Int) : Bool := ((decide (c ≥ (97:Int)) && decide (c ≤ (122:Int))) || (decide (c ≥ (48:Int)) && decide (c ≤ (57:Int)))) || (c == (95:Int))
def HR (s : ByteArray) : Bool := ((da s.size).all fun i => Gf ((G6 s (i : Int)).getD 0)) && (decide ((s.size : Int) ≥ (1:Int)) && decide ((s.size : Int) ≤ (20:Int)))
theorem No {s : ByteArray} (h : s.size ≤ 9223372036854775807) : Ui s = some (HR s) := by
 unfold Ui
 refine (Be s.size (fun i => (i : Int)) (fun i => bif Gf ((G6 s (i : Int)).getD 0) then none else some false) (some (decide ((s.size : Int) ≥ (1:Int)) && decide ((s.size : Int) ≤ (20:Int)))) (fun i hi _ => ?_) (fun _ => ?_)).trans (I6 _ _ _)
 ·unfold ME
  have hb := Oi hi
  generalize (G6 s (i : Int)).getD 0 = c at hb ⊢
  simp only [D2 hi, cond_true, hb, ab, B3 (show i < 9223372036854775807 by omega)]
  show (bif !(Gf c) then _ else _) = _
  cases Gf c <;> rfl
 ·unfold ME
  simp only [Cn, cond_false]
theorem Rd {s : ByteArray} (h : s.size ≤ 9223372036854775807) : dC s = some (HR s) := by
 unfold dC
 have h1 : (decide ((s.size : Int) ≥ (1:Int)) && decide ((s.size : Int) ≤ (20:Int))) = !(decide ((s.size : Int) < (1:Int)) || decide ((s.size : Int) > (20:Int))) := by
  rw [fb]; simp
 unfold HR
 rw [h1]
 cases decide ((s.size : Int) < (1:Int)) || decide ((s.size : Int) > (20:Int)) with
 | true => simp
 | false =>
  rw [cond_false]
  refine (Be s.size (fun i => (i : Int)) (fun i => bif Gf ((G6 s (i : Int)).getD 0) then none else some false) (some true) (fun i hi _ => ?_) (fun _ => ?_)).trans (I6 _ _ _)
  ·unfold Q6
   have hb := Oi hi
   generalize (G6 s (i : Int)).getD 0 = c at hb ⊢
   simp only [D2 hi, cond_true, hb, ab, B3 (show i < 9223372036854775807 by omega)]
   show (bif !(Gf c) then _ else _) = _
   cases Gf c <;> rfl
  ·unfold Q6
   simp only [Cn, cond_false]
def Za (p : A0) : Bool := ((((((HR p.Name && decide (p.BN ≥ (1:Int))) && decide (p.BN ≤ (10000000:Int))) && decide (p.Bv ≥ (1:Int))) && decide (p.Bv ≤ (10000:Int))) && decide (p.CX ≥ (1:Int))) && decide (p.CX ≤ (1000:Int)))
def PY (n : Az) (i : Nat) : Bool := (n.A3[i]?).any fun p => !Za p || (n.A3.take i).any fun q => decide (q.Name = p.Name)
def Re (n : Az) (e : Ay) : Bool := (decide (e.A0 ≥ (0:Int)) && decide (e.A0 < (n.A3.length : Int))) && (decide (e.B9 ≥ (0:Int)) && decide (e.B9 ≤ (1:Int)))
def Mc (n : Az) (c : AO) : Bool := (decide (c.Kind < (1:Int)) || decide (c.Kind > (4:Int))) || ((c.Ends.length : Int) != c.Kind) || c.Ends.any fun e => !Re n e
def K8 (n : Az) (i : Nat) (c : AO) : Bool := bif decide (c.Kind ≤ (2:Int)) then !decide (c.Name = ({ data := #[] } : ByteArray)) else !HR c.Name || (n.A1.take i).any fun d => decide (d.Name = c.Name)
def Jj (n : Az) : List Ay := n.A1.flatMap (·.Ends)
def EH (n : Az) (e : Ay) : Int := (Jj n).foldl (fun a x => bif decide (x = e) then AV (a + 1) else a) 0
def Qu (n : Az) (i : Nat) : Bool := (EH n ⟨(i : Int), 0⟩ != 1) || (EH n ⟨(i : Int), 1⟩ != 1)
def OZ (n : Az) : Option Bq :=
 bif ((((n.A3.length : Int) == (0:Int)) || decide ((n.A3.length : Int) > (100:Int))) || decide ((n.A1.length : Int) > (120:Int))) then some ⟨1, 0⟩ else
 C4 n.A3.length (fun i => bif PY n i then some ⟨2, (i : Int)⟩ else none) <|
 C4 n.A1.length (fun i => bif (n.A1[i]?).any (Mc n) then some ⟨3, (i : Int)⟩ else none) <|
 C4 n.A1.length (fun i => bif (n.A1[i]?).any (K8 n i) then some ⟨4, (i : Int)⟩ else none) <|
 C4 n.A3.length (fun i => bif Qu n i then some ⟨5, (i : Int)⟩ else none) (some ⟨0, 0⟩)
theorem QS (n : Az) : ∃ r, OZ n = some r := by
 unfold OZ
 cases ((((n.A3.length : Int) == (0:Int)) || decide ((n.A3.length : Int) > (100:Int))) || decide ((n.A1.length : Int) > (120:Int))) with
 | true => exact ⟨_, rfl⟩
 | false => exact FZ _ _ (FZ _ _ (FZ _ _ (FZ _ _ ⟨_, rfl⟩)))
theorem WT (x a b : Int) : Pj x a b = some (decide (x ≥ a) && decide (x ≤ b)) := rfl
theorem TC {x : Az} (hx : Ef x) (hs : CS x) {i : Nat} (hi : i < x.A3.length) : NI x (i : Int) = some ((bif PY x i then some (⟨2, (i : Int)⟩ : Bq) else none).elim (.inl (((i + 1 : Nat) : Int))) .inr) := by
 have hl := hs.1.1
 obtain ⟨p, hp⟩ : ∃ p, x.A3[i]? = some p := ⟨_, aj hi⟩
 have hf := hx.1.2 p (bh hp)
 have hL : AP (NJ x (i : Int) p) (0 : Int) = some (bif (x.A3.take i).any fun q => decide (q.Name = p.Name) then .inr ⟨2, (i : Int)⟩ else .inl ((i + 1 : Nat) : Int)) := by
  refine (Be i (fun j => (j : Int)) (fun j => bif (x.A3[j]?).any (fun q => decide (q.Name = p.Name)) then some (.inr ⟨2, (i : Int)⟩) else none) (some (.inl ((i + 1 : Nat) : Int))) (fun j hj _ => ?_) (fun _ => ?_)).trans ?_
  ·unfold NJ
   have hjl : j < x.A3.length := by omega
   simp only [D2 hj, cond_true, AM, aj hjl, ab, Qe, B3 (show j < 9223372036854775807 by omega), cm]
   cases decide (x.A3[j].Name = p.Name) <;> rfl
  ·unfold NJ
   simp only [Cn, cond_false, B3 (show i < 9223372036854775807 by omega)]
  ·rw [FY, Ca, CD]
 unfold NI
 simp only [D2 hi, cond_true, AM, hp, ab, No hf.1, WT, CD, hL]
 have hb : PY x i = (!Za p || (x.A3.take i).any fun q => decide (q.Name = p.Name)) := by unfold PY; rw [hp]; rfl
 rw [hb]
 unfold Za
 cases HR p.Name <;> cases decide (p.BN ≥ (1:Int)) <;> cases decide (p.BN ≤ (10000000:Int)) <;> cases decide (p.Bv ≥ (1:Int)) <;> cases decide (p.Bv ≤ (10000:Int)) <;> cases decide (p.CX ≥ (1:Int)) <;> cases decide (p.CX ≤ (1000:Int)) <;> cases ((x.A3.take i).any fun q => decide (q.Name = p.Name)) <;> rfl
def IE (x : Az) (i : Nat) : List (ByteArray × Bool) := (x.A3.take i).foldl (fun m p => bif true then FH p.Name true m else m) []
theorem Se {x : Az} (hx : Ef x) (hs : CS x) {i : Nat} (hi : i < x.A3.length) : N9 x (IE x i, (i : Int)) = some ((bif PY x i then some (⟨2, (i : Int)⟩ : Bq) else none).elim (.inl ((IE x (i + 1), ((i + 1 : Nat) : Int)))) .inr) := by
 have hl := hs.1.1
 obtain ⟨p, hp⟩ : ∃ p, x.A3[i]? = some p := ⟨_, aj hi⟩
 have hf := hx.1.2 p (bh hp)
 have hm : DW p.Name (IE x i) false = (x.A3.take i).any fun q => decide (q.Name = p.Name) := by
  unfold IE
  rw [P5 (fun _ => true) (fun q : A0 => q.Name)]
  rfl
 have hn : IE x (i + 1) = FH p.Name true (IE x i) := NV _ _ hp
 have hb : PY x i = (!Za p || (x.A3.take i).any fun q => decide (q.Name = p.Name)) := by unfold PY; rw [hp]; rfl
 have ho : fX p = some (Za p) := by
  unfold fX
  rw [Rd hf.1]; rfl
 unfold N9
 simp only [D2 hi, cond_true, AM, hp, ab, ho, hm, hb, hn, B3 (show i < 9223372036854775807 by omega)]
 cases Za p <;> cases ((x.A3.take i).any fun q => decide (q.Name = p.Name)) <;> rfl
theorem Zs {x : Az} (hs : CS x) (e : Ay) : W0 x e = some (Re x e) := by
 have h1 := hs.1.1
 unfold W0
 simp only [WT, ab, CD]
 rw [JK (by omega)]
 unfold Re
 cases decide (e.A0 ≥ (0:Int)) <;> cases decide (e.A0 < (x.A3.length : Int)) <;> rfl
theorem lF (k : Int) : decide (k < (3:Int)) = decide (k ≤ (2:Int)) := by congr 1; apply propext; omega
theorem TB {x : Az} (hx : Ef x) (hs : CS x) {i : Nat} {c : AO} (hc : x.A1[i]? = some c) : Vw x (i : Int) = some (bif Mc x c then 3 else bif K8 x i c then 4 else 0) := by
 have hi := BJ hc
 have hl := hs.2.1
 have hm := bh hc
 have hf := hx.2.2 c hm
 have hel : c.Ends.length ≤ 1048576 := (hs.2.2 c hm).1
 have hL2 : AP (KD x (i : Int) c) (0 : Int) = some (bif (x.A1.take i).any fun q => decide (q.Name = c.Name) then 4 else 0) := by
  refine (Be i (fun j => (j : Int)) (fun j => bif (x.A1[j]?).any (fun q => decide (q.Name = c.Name)) then some 4 else none) (some 0) (fun j hj _ => ?_) (fun _ => ?_)).trans ?_
  ·unfold KD
   have hjl : j < x.A1.length := by omega
   simp only [D2 hj, cond_true, AM, aj hjl, ab, Qe, B3 (show j < 9223372036854775807 by omega), cm]
   cases decide (x.A1[j].Name = c.Name) <;> rfl
  ·unfold KD
   simp only [Cn, cond_false]
  ·rw [FY, Ca, CD]
 have hL1 : AP (KC x (i : Int) c) (0 : Int) = some (bif c.Ends.any (fun e => !Re x e) then 3 else bif K8 x i c then 4 else 0) := by
  refine (Be c.Ends.length (fun j => (j : Int)) (fun j => bif (c.Ends[j]?).any (fun e => !Re x e) then some 3 else none) (some (bif K8 x i c then 4 else 0)) (fun j hj _ => ?_) (fun _ => ?_)).trans ?_
  ·unfold KC
   simp only [D2 hj, cond_true, AM, aj hj, ab, Zs hs, B3 (show j < 9223372036854775807 by omega), cm]
   cases Re x c.Ends[j] <;> rfl
  ·unfold KC
   simp only [Cn, cond_false, No hf.2.1, hL2, ab, Qe, lF, CD]
   unfold K8
   cases decide (c.Kind ≤ (2:Int)) <;> cases decide (c.Name = ({ data := #[] } : ByteArray)) <;> cases HR c.Name <;> cases ((x.A1.take i).any fun d => decide (d.Name = c.Name)) <;> rfl
  ·rw [FY, Ca, gf, CD]
 unfold Vw
 simp only [AM, hc, ab, WT, hL1, CD]
 have hk : (!(decide (c.Kind ≥ (1:Int)) && decide (c.Kind ≤ (4:Int)))) = (decide (c.Kind < (1:Int)) || decide (c.Kind > (4:Int))) := by
  rw [fb]; simp
 rw [hk]
 unfold Mc
 cases (decide (c.Kind < (1:Int)) || decide (c.Kind > (4:Int))) <;> cases ((c.Ends.length : Int) != c.Kind) <;> cases (c.Ends.any fun e => !Re x e) <;> rfl
theorem Pe (a b : Ay) : ((a.A0 == b.A0) && ((a.B9 == b.B9) && true)) = decide (a = b) := by
 cases a; cases b
 rw [fb]
 simp
theorem VM {x : Az} (hs : CS x) (e : Ay) : Vy x e = some (EH x e) := by
 have hl := hs.2.1
 unfold Vy
 refine (JM x.A1 (fun a (c : AO) => c.Ends.foldl (fun a x => bif decide (x = e) then AV (a + 1) else a) a) 0 some (fun a i c hc => ?_) (fun a => ?_)).trans ?_
 ·have hi := BJ hc
  have hel : c.Ends.length ≤ 1048576 := (hs.2.2 c (bh hc)).1
  unfold MF
  simp only [D2 hi, cond_true, AM, hc, ab]
  refine (JM c.Ends (fun a x => bif decide (x = e) then AV (a + 1) else a) a (fun a => (some (.inl (a, ((i + 1 : Nat) : Int))) : Option ((Int × Int) ⊕ Int))) (fun b j y hy => ?_) (fun b => ?_))
  ·have hj := BJ hy
   unfold MG MH
   simp only [D2 hj, cond_true, AM, hy, ab, Pe, B3 (show j < 9223372036854775807 by omega)]
   cases decide (y = e) <;> rfl
  ·unfold MG
   simp only [Cn, cond_false, B3 (show i < 9223372036854775807 by omega)]
 ·unfold MF
  simp only [Cn, cond_false]
 ·unfold EH Jj
  rw [ll]
theorem lE {i : Nat} (h : i < 2) : decide ((i : Int) < (2:Int)) = true := by rw [decide_eq_true_eq]; omega
theorem VI {x : Az} (hs : CS x) : AP (L0 x) (0 : Int) = C4 x.A3.length (fun i => bif Qu x i then some ⟨5, (i : Int)⟩ else none) (some ⟨0, 0⟩) := by
 have hl := hs.1.1
 refine Be x.A3.length (fun i => (i : Int)) _ _ (fun i hi _ => ?_) (fun _ => ?_)
 ·unfold L0
  simp only [D2 hi, cond_true]
  refine (Be 2 (fun s => (s : Int)) (fun s => bif EH x ⟨(i : Int), (s : Int)⟩ != 1 then some (.inr ⟨5, (i : Int)⟩) else none) (some (.inl ((i + 1 : Nat) : Int))) (fun s hs2 _ => ?_) (fun _ => ?_)).trans ?_
  ·unfold Q5
   simp only [lE hs2, cond_true, VM hs, ab, B3 (show s < 9223372036854775807 by omega)]
   cases (EH x ⟨(i : Int), (s : Int)⟩ != 1) <;> rfl
  ·unfold Q5
   have : decide (((2 : Nat) : Int) < (2:Int)) = false := by decide
   simp only [this, cond_false, B3 (show i < 9223372036854775807 by omega)]
  ·rw [FY]
   unfold Qu
   have : ((da 2).any fun s : Nat => EH x ⟨(i : Int), (s : Int)⟩ != 1) = ((EH x ⟨(i : Int), 0⟩ != 1) || (EH x ⟨(i : Int), 1⟩ != 1)) := by
    simp [mJ]
   rw [this]
   cases ((EH x ⟨(i : Int), 0⟩ != 1) || (EH x ⟨(i : Int), 1⟩ != 1)) <;> rfl
 ·unfold L0
  simp only [Cn, cond_false]
theorem PL {x : Az} (hx : Ef x) (hs : CS x) (k : Nat) (hk : k < 100) : AP (Jn x (k : Int)) (0 : Int) = C4 x.A1.length (fun i => (bif (x.A1[i]?).any (fun c => (bif Mc x c then 3 else bif K8 x i c then 4 else 0) == (k : Int)) then some (⟨(k : Int), (i : Int)⟩ : Bq) else none).map Sum.inr) (some (.inl ((k + 1 : Nat) : Int))) := by
 have hl := hs.2.1
 refine Be x.A1.length (fun i => (i : Int)) _ _ (fun i hi _ => ?_) (fun _ => ?_)
 ·unfold Jn
  simp only [D2 hi, cond_true, TB hx hs (aj hi), aj hi, cm, ab, B3 (show i < 9223372036854775807 by omega)]
  cases ((bif Mc x x.A1[i] then 3 else bif K8 x i x.A1[i] then 4 else 0) == (k : Int)) <;> rfl
 ·unfold Jn
  simp only [Cn, cond_false, B3 (show k < 9223372036854775807 by omega)]
theorem Wx {x : Az} (hx : Ef x) (hs : CS x) : fV x = OZ x := by
 have hl := hs.1.1
 unfold fV OZ
 cases ((((x.A3.length : Int) == (0:Int)) || decide ((x.A3.length : Int) > (100:Int))) || decide ((x.A1.length : Int) > (120:Int))) with
 | true => rfl
 | false =>
  rw [cond_false, cond_false]
  refine Be x.A3.length (fun i => (i : Int)) _ _ (fun i hi _ => TC hx hs hi) (fun _ => ?_)
  unfold NI
  simp only [Cn, cond_false]
  congr 1
  rw [DQ]
  have e3 : NK x (3:Int) = AP (Jn x ((3 : Nat) : Int)) 0 := rfl
  have e4 : NK x (4:Int) = AP (Jn x ((4 : Nat) : Int)) 0 := rfl
  have e5 : NK x (5:Int) = (AP (L0 x) 0).map Sum.inr := rfl
  rw [e3, PL hx hs 3 (by decide), Lm]
  show C4 _ _ (AP _ (4 : Int)) = _
  rw [DQ, e4, PL hx hs 4 (by decide), Lm]
  show C4 _ _ (C4 _ _ (AP _ (5 : Int))) = _
  rw [DQ, e5, VI hs]
  refine KG (fun i hi => ?_) (fun h3 => ?_)
  ·simp only [aj hi, cm]
   cases Mc x x.A1[i] <;> cases K8 x i x.A1[i] <;> rfl
  ·refine KG (fun i hi => ?_) (fun _ => ?_)
   ·have := h3 i hi
    simp only [aj hi, cm] at this ⊢
    revert this
    cases Mc x x.A1[i] <;> cases K8 x i x.A1[i] <;> simp
   ·obtain ⟨r, hr⟩ := FZ x.A3.length (fun i => bif Qu x i then some (⟨5, (i : Int)⟩ : Bq) else none) (e := some ⟨0, 0⟩) ⟨_, rfl⟩
    rw [hr]; rfl
def Fx (x : Az) (i : Nat) : List (ByteArray × Bool) := (x.A1.take i).foldl (fun m c => bif !decide (c.Kind ≤ (2:Int)) then FH c.Name true m else m) []
theorem Rc : HR ({ data := #[] } : ByteArray) = false := by decide
theorem RM {x : Az} (hs : CS x) {i : Nat} (hi : i < x.A1.length) : NA x (i : Int) = some ((bif (x.A1[i]?).any (Mc x) then some (⟨3, (i : Int)⟩ : Bq) else none).elim (.inl ((i + 1 : Nat) : Int)) .inr) := by
 have hl := hs.2.1
 obtain ⟨c, hc⟩ : ∃ c, x.A1[i]? = some c := ⟨_, aj hi⟩
 have hel : c.Ends.length ≤ 1048576 := (hs.2.2 c (bh hc)).1
 have hL : AP (NB x (i : Int) c) (0 : Int) = some (bif c.Ends.any (fun e => !Re x e) then .inr ⟨3, (i : Int)⟩ else .inl ((i + 1 : Nat) : Int)) := by
  refine (Be c.Ends.length (fun j => (j : Int)) (fun j => bif (c.Ends[j]?).any (fun e => !Re x e) then some (.inr ⟨3, (i : Int)⟩) else none) (some (.inl ((i + 1 : Nat) : Int))) (fun j hj _ => ?_) (fun _ => ?_)).trans ?_
  ·unfold NB
   have hb : (((decide (c.Ends[j].A0 < (0:Int)) || decide (c.Ends[j].A0 ≥ (x.A3.length : Int))) || decide (c.Ends[j].B9 < (0:Int))) || decide (c.Ends[j].B9 > (1:Int))) = !Re x c.Ends[j] := by
    unfold Re
    rw [fb]; simp; omega
   simp only [D2 hj, cond_true, AM, aj hj, ab, hb, B3 (show j < 9223372036854775807 by omega), cm]
   cases Re x c.Ends[j] <;> rfl
  ·unfold NB
   simp only [Cn, cond_false, B3 (show i < 9223372036854775807 by omega)]
  ·rw [FY, Ca, gf, CD]
 unfold NA
 simp only [D2 hi, cond_true, AM, hc, ab, hL, cm]
 unfold Mc
 cases (decide (c.Kind < (1:Int)) || decide (c.Kind > (4:Int))) <;> cases ((c.Ends.length : Int) != c.Kind) <;> cases (c.Ends.any fun e => !Re x e) <;> rfl
theorem RN {x : Az} (hx : Ef x) (hs : CS x) {i : Nat} (hi : i < x.A1.length) (hb : ∀ j, j < i → (bif (x.A1[j]?).any (K8 x j) then some (⟨4, (j : Int)⟩ : Bq) else none) = none) : NC x (Fx x i, (i : Int)) = some ((bif (x.A1[i]?).any (K8 x i) then some (⟨4, (i : Int)⟩ : Bq) else none).elim (.inl (Fx x (i + 1), ((i + 1 : Nat) : Int))) .inr) := by
 have hl := hs.2.1
 obtain ⟨c, hc⟩ : ∃ c, x.A1[i]? = some c := ⟨_, aj hi⟩
 have hf := hx.2.2 c (bh hc)
 have hn : Fx x (i + 1) = bif !decide (c.Kind ≤ (2:Int)) then FH c.Name true (Fx x i) else Fx x i := NV _ _ hc
 have hm : DW c.Name (Fx x i) false = (x.A1.take i).any fun d => (!decide (d.Kind ≤ (2:Int))) && decide (d.Name = c.Name) := by
  unfold Fx
  rw [P5 (fun d : AO => !decide (d.Kind ≤ (2:Int))) (fun d : AO => d.Name)]
 have ha : HR c.Name = true → ((x.A1.take i).any fun d => (!decide (d.Kind ≤ (2:Int))) && decide (d.Name = c.Name)) = (x.A1.take i).any fun d => decide (d.Name = c.Name) := by
  intro hn
  rw [← Ca, ← Ca, fb, im, im]
  constructor
  ·rintro ⟨j, hj, h⟩
   refine ⟨j, hj, ?_⟩
   cases hd : x.A1[j]? with
   | none => rw [hd] at h; cases h
   | some d => rw [hd] at h; simp only [cm, av] at h ⊢; exact h.2
  ·rintro ⟨j, hj, h⟩
   refine ⟨j, hj, ?_⟩
   have hbj := hb j (dg.1 hj)
   cases hd : x.A1[j]? with
   | none => rw [hd] at h; cases h
   | some d =>
    rw [hd] at h hbj
    simp only [cm, av] at h hbj ⊢
    refine ⟨?_, h⟩
    cases hk : decide (d.Kind ≤ (2:Int)) with
    | false => rfl
    | true =>
     exfalso
     unfold K8 at hbj
     rw [hk, cond_true] at hbj
     simp only [decide_eq_true_eq] at h
     rw [h] at hbj
     cases he : decide (c.Name = ({ data := #[] } : ByteArray)) with
     | false => rw [he] at hbj; simp at hbj
     | true =>
      simp only [decide_eq_true_eq] at he
      rw [he, Rc] at hn
      cases hn
 unfold NC Q2
 simp only [D2 hi, cond_true, AM, hc, ab, Rd hf.2.1, hm, cm, Qe, B3 (show i < 9223372036854775807 by omega), hn]
 unfold K8
 cases decide (c.Kind ≤ (2:Int)) with
 | true => cases decide (c.Name = ({ data := #[] } : ByteArray)) <;> rfl
 | false =>
  cases hn : HR c.Name with
  | false => rfl
  | true =>
   rw [ha hn]
   cases ((x.A1.take i).any fun d => decide (d.Name = c.Name)) <;> rfl
def Mh (x : Az) : List (Ay × Int) := (Jj x).foldl (fun m e => FH e (AV (DW e m 0 + 1)) m) []
theorem Uq {x : Az} (hs : CS x) : AP (ND x) (([] : List (Ay × Int)), (0:Int)) = C4 x.A3.length (fun i => bif Qu x i then some ⟨5, (i : Int)⟩ else none) (some ⟨0, 0⟩) := by
 have hl := hs.2.1
 have hp := hs.1.1
 refine (JM x.A1 (fun m (c : AO) => c.Ends.foldl (fun m e => FH e (AV (DW e m 0 + 1)) m) m) [] (fun m => AP (NF x m) (0:Int)) (fun a i c hc => ?_) (fun a => ?_)).trans ?_
 ·have hi := BJ hc
  have hel : c.Ends.length ≤ 1048576 := (hs.2.2 c (bh hc)).1
  unfold ND
  simp only [D2 hi, cond_true, AM, hc, ab]
  refine (JM c.Ends (fun m e => FH e (AV (DW e m 0 + 1)) m) a (fun a => (some (.inl (a, ((i + 1 : Nat) : Int))) : Option ((List (Ay × Int) × Int) ⊕ Bq))) (fun b j y hy => ?_) (fun b => ?_))
  ·have hj := BJ hy
   unfold Q1
   simp only [D2 hj, cond_true, AM, hy, ab, B3 (show j < 9223372036854775807 by omega)]
  ·unfold Q1
   simp only [Cn, cond_false, B3 (show i < 9223372036854775807 by omega)]
 ·unfold ND
  simp only [Cn, cond_false]
 ·have he : x.A1.foldl (fun m (c : AO) => c.Ends.foldl (fun m e => FH e (AV (DW e m 0 + 1)) m) m) [] = Mh x := by
   unfold Mh Jj
   rw [ll]
  have hu : ∀ e, DW e (Mh x) 0 = EH x e := fun e => Ra _ _
  rw [he]
  refine Be x.A3.length (fun i => (i : Int)) _ _ (fun i hi _ => ?_) (fun _ => ?_)
  ·unfold NF
   simp only [D2 hi, cond_true, hu, B3 (show i < 9223372036854775807 by omega)]
   unfold Qu
   cases ((EH x ⟨(i : Int), 0⟩ != 1) || (EH x ⟨(i : Int), 1⟩ != 1)) <;> rfl
  ·unfold NF
   simp only [Cn, cond_false]
theorem WS {x : Az} (hx : Ef x) (hs : CS x) : fT x = OZ x := by
 have hl := hs.1.1
 have hl2 := hs.2.1
 unfold fT OZ
 cases ((((x.A3.length : Int) == (0:Int)) || decide ((x.A3.length : Int) > (100:Int))) || decide ((x.A1.length : Int) > (120:Int))) with
 | true => rfl
 | false =>
  rw [cond_false, cond_false]
  refine Be x.A3.length (fun i => (IE x i, (i : Int))) _ _ (fun i hi _ => Se hx hs hi) (fun _ => ?_)
  unfold N9
  simp only [Cn, cond_false]
  congr 1
  refine Be x.A1.length (fun i => (i : Int)) _ _ (fun i hi _ => RM hs hi) (fun _ => ?_)
  unfold NA
  simp only [Cn, cond_false]
  congr 1
  refine Be x.A1.length (fun i => (Fx x i, (i : Int))) _ _ (fun i hi hb => RN hx hs hi hb) (fun _ => ?_)
  unfold NC
  simp only [Cn, cond_false]
  congr 1
  exact Uq hs
theorem V1 {x : Az} {r : Bq} (h : OZ x = some r) : ((r.Code == 0) && ((r.At == 0) && true)) = (r.Code == 0) := by
 have key : r = ⟨0, 0⟩ ∨ (r.Code == 0) = false := by
  unfold OZ at h
  cases hc : ((((x.A3.length : Int) == (0:Int)) || decide ((x.A3.length : Int) > (100:Int))) || decide ((x.A1.length : Int) > (120:Int))) with
  | true => rw [hc] at h; simp only [cond_true, aa] at h; subst h; exact .inr rfl
  | false =>
   rw [hc, cond_false] at h
   rcases D9 h with ⟨i, _, hi⟩ | ⟨_, h⟩
   ·rw [← (EL hi).2]; exact .inr rfl
   rcases D9 h with ⟨i, _, hi⟩ | ⟨_, h⟩
   ·rw [← (EL hi).2]; exact .inr rfl
   rcases D9 h with ⟨i, _, hi⟩ | ⟨_, h⟩
   ·rw [← (EL hi).2]; exact .inr rfl
   rcases D9 h with ⟨i, _, hi⟩ | ⟨_, h⟩
   ·rw [← (EL hi).2]; exact .inr rfl
   exact .inl (by simpa using h.symm)
 rcases key with rfl | h
 ·rfl
 ·rw [h]; rfl
def BP (x : Az) : Bool := (OZ x).any fun r => r.Code == 0
structure Vc (x : Az) : Prop where
 pos : 0 < x.A3.length
 le : x.A3.length ≤ 100
 lP : x.A1.length ≤ 120
 p : ∀ i, i < x.A3.length → PY x i = false
 j3 : ∀ i, i < x.A1.length → (x.A1[i]?).any (Mc x) = false
 j4 : ∀ i, i < x.A1.length → (x.A1[i]?).any (K8 x i) = false
 e : ∀ i, i < x.A3.length → Qu x i = false
theorem Dt {x : Az} (h : BP x = true) : Vc x := by
 obtain ⟨r, hr⟩ := QS x
 unfold BP at h
 rw [hr] at h
 simp only [cm, beq_iff_eq] at h
 have h2 := hr
 unfold OZ at h2
 cases hc : ((((x.A3.length : Int) == (0:Int)) || decide ((x.A3.length : Int) > (100:Int))) || decide ((x.A1.length : Int) > (120:Int))) with
 | true => rw [hc] at h2; simp only [cond_true, aa] at h2; subst h2; cases h
 | false =>
  rw [hc, cond_false] at h2
  rcases D9 h2 with ⟨i, _, hi⟩ | ⟨h3, h2⟩
  ·rw [← (EL hi).2] at h; cases h
  rcases D9 h2 with ⟨i, _, hi⟩ | ⟨h4, h2⟩
  ·rw [← (EL hi).2] at h; cases h
  rcases D9 h2 with ⟨i, _, hi⟩ | ⟨h5, h2⟩
  ·rw [← (EL hi).2] at h; cases h
  rcases D9 h2 with ⟨i, _, hi⟩ | ⟨h6, h2⟩
  ·rw [← (EL hi).2] at h; cases h
  simp only [ir, beq_eq_false_iff_ne, decide_eq_false_iff_not] at hc
  exact ⟨by omega, by omega, by omega, fun i hi => HZ (h3 i hi), fun i hi => HZ (h4 i hi), fun i hi => HZ (h5 i hi), fun i hi => HZ (h6 i hi)⟩
theorem SY {x : Az} (h : BP x = true) {i : Nat} {p : A0} (hp : x.A3[i]? = some p) : Za p = true := by
 have := (Dt h).p i (BJ hp)
 unfold PY at this
 rw [hp] at this
 simp only [cm, ir, ln] at this
 exact this.1
theorem Yq {x : Az} (hx : Ef x) (hs : CS x) : eZ x = some (BP x) := by
 obtain ⟨r, hr⟩ := QS x
 unfold eZ BP
 rw [WS hx hs, hr, ab, V1 hr]; rfl
theorem WV {x : Az} (hx : Ef x) (hs : CS x) : fM x = some (BP x) := by
 obtain ⟨r, hr⟩ := QS x
 unfold fM BP
 rw [Wx hx hs, hr]; rfl
theorem GM (x a b : Int) : YI x a b = some (decide (x ≥ a) && decide (x ≤ b)) := rfl
theorem JS (x a b : Int) : XZ x a b = some (decide (x ≥ a) && decide (x ≤ b)) := rfl
theorem bQ {p : Int} {n : Nat} (h0 : 0 ≤ p) (h1 : p < (n : Int)) : ∃ k : Nat, p = (k : Int) ∧ k < n := ⟨p.toNat, by omega, by omega⟩
theorem Dy {n : Az} (hg : BP n = true) (q : Int) : (decide (q ≥ (0:Int)) && decide (q < (n.A3.length : Int))) = false ∨ ∃ (k : Nat) (p : A0), q = (k : Int) ∧ n.A3[k]? = some p ∧ 1 ≤ p.BN ∧ p.BN ≤ 10000000 ∧ (decide (q ≥ (0:Int)) && decide (q < (n.A3.length : Int))) = true := by
 cases h : (decide (q ≥ (0:Int)) && decide (q < (n.A3.length : Int))) with
 | false => exact .inl rfl
 | true =>
  simp only [av, decide_eq_true_eq] at h
  obtain ⟨k, hk, hl⟩ := bQ h.1 h.2
  have hp := aj hl
  have ho := SY hg hp
  unfold Za at ho
  simp only [av, decide_eq_true_eq] at ho
  exact .inr ⟨k, _, hk, hp, ho.1.1.1.1.1.2, ho.1.1.1.1.2, rfl⟩
def Pf (n : Az) (j : Nat) : List Ay := ((n.A1[j]?).map (·.Ends)).getD []
def Vg (n : Az) (e : Ay) (j : Nat) : Option (Int × Int) := C4 (Pf n j).length (fun k => bif ((Pf n j)[k]?).any (fun x => decide (x = e)) then some ((j : Int), (k : Int)) else none) none
def Xf (n : Az) (e : Ay) : Option (Int × Int) := C4 n.A1.length (Vg n e) (some (-1, -1))
theorem Gv {n : Az} {j : Nat} {c : AO} (hc : n.A1[j]? = some c) : Pf n j = c.Ends := by unfold Pf; rw [hc]; rfl
theorem Qc {n : Az} (hs : CS n) (e : Ay) : dA n e = Xf n e := by
 have hl := hs.2.1
 unfold dA
 refine Be n.A1.length (fun j => (j : Int)) _ _ (fun j hj _ => ?_) (fun _ => ?_)
 ·have hc := aj hj
  have hel : n.A1[j].Ends.length ≤ 1048576 := (hs.2.2 _ (bh hc)).1
  unfold Py
  simp only [D2 hj, cond_true, AM, hc, ab]
  unfold Vg
  rw [Gv hc, ← Ll]
  refine Be n.A1[j].Ends.length (fun k => (k : Int)) _ _ (fun k hk _ => ?_) (fun _ => ?_)
  ·unfold Pz
   simp only [D2 hk, cond_true, AM, aj hk, ab, Pe, cm, B3 (show k < 9223372036854775807 by omega)]
   cases decide (n.A1[j].Ends[k] = e) <;> rfl
  ·unfold Pz
   simp only [Cn, cond_false, B3 (show j < 9223372036854775807 by omega)]
 ·unfold Py
  simp only [Cn, cond_false]
theorem Vq (a b : Ay) : ((b.A0 == a.A0) && ((b.B9 == a.B9) && true)) = decide (a = b) := by
 rw [Pe, fb]
 simp only [decide_eq_true_eq]
 exact eq_comm
theorem Tz {n : Az} (hs : CS n) (e : Ay) : dB n e = Xf n e := by
 have hl := hs.2.1
 unfold dB
 refine Be n.A1.length (fun j => (j : Int)) _ _ (fun j hj _ => ?_) (fun _ => ?_)
 ·have hc := aj hj
  have hel : n.A1[j].Ends.length ≤ 1048576 := (hs.2.2 _ (bh hc)).1
  unfold Q3
  simp only [D2 hj, cond_true, AM, hc, ab]
  unfold Vg
  rw [Gv hc, ← Ll]
  refine Be n.A1[j].Ends.length (fun k => (k : Int)) _ _ (fun k hk _ => ?_) (fun _ => ?_)
  ·unfold Q4
   simp only [D2 hk, cond_true, AM, aj hk, ab, Vq, cm, B3 (show k < 9223372036854775807 by omega)]
   cases decide (n.A1[j].Ends[k] = e) <;> rfl
  ·unfold Q4
   simp only [Cn, cond_false, B3 (show j < 9223372036854775807 by omega)]
 ·unfold Q3
  simp only [Cn, cond_false]
theorem PR {e : Ay} : ∀ (xs : List Ay) (a : Int), (∀ x ∈ xs, x ≠ e) → xs.foldl (fun a x => bif decide (x = e) then AV (a + 1) else a) a = a
 | [], _, _ => rfl
 | x :: xs, a, h => by
  rw [iy, decide_eq_false (h x (List.mem_cons_self ..)), cond_false]
  exact PR xs a (fun y hy => h y (List.mem_cons_of_mem _ hy))
def M0 (k : Nat) (b : Bool) : Ay := ⟨(k : Int), if b then 1 else 0⟩
theorem WN {n : Az} (hg : BP n = true) {k : Nat} (hk : k < n.A3.length) (b : Bool) : M0 k b ∈ Jj n := by
 have h5 := (Dt hg).e k hk
 unfold Qu at h5
 simp only [ir, bne_eq_false_iff_eq] at h5
 have hu : EH n (M0 k b) = 1 := by cases b; exact h5.1; exact h5.2
 refine Classical.byContradiction fun hn => ?_
 have := PR (e := M0 k b) (Jj n) 0 (fun x hx e => hn (e ▸ hx))
 unfold EH at hu
 rw [this] at hu
 cases hu
theorem Xg {n : Az} (hg : BP n = true) {k : Nat} (hk : k < n.A3.length) (b : Bool) : ∃ (j m : Nat) (c : AO), Xf n (M0 k b) = some ((j : Int), (m : Int)) ∧ n.A1[j]? = some c ∧ c.Ends[m]? = some (M0 k b) := by
 obtain ⟨r, hr⟩ : ∃ r, Xf n (M0 k b) = some r := FZ _ _ ⟨_, rfl⟩
 rcases D9 hr with ⟨j, hj, h⟩ | ⟨h, _⟩
 ·obtain ⟨c, hc⟩ : ∃ c, n.A1[j]? = some c := ⟨_, aj hj⟩
  unfold Vg at h
  rw [Gv hc] at h
  rcases D9 h with ⟨m, hm, h⟩ | ⟨_, h⟩
  ·obtain ⟨h1, h2⟩ := EL h
   refine ⟨j, m, c, by rw [hr, ← h2], hc, ?_⟩
   rw [aj hm] at h1 ⊢
   simp only [cm, decide_eq_true_eq] at h1
   rw [h1]
  ·cases h
 ·exfalso
  have hm := WN hg hk b
  unfold Jj at hm
  obtain ⟨c, hc, he⟩ := List.mem_flatMap.1 hm
  obtain ⟨j, hj, hcj⟩ := lf hc
  obtain ⟨m, hm, hem⟩ := lf he
  have hc2 : n.A1[j]? = some c := by rw [aj hj, hcj]
  have h1 := h j hj
  unfold Vg at h1
  rw [Gv hc2] at h1
  have h2 := Uj h1 m hm
  have h3 := HZ h2
  rw [aj hm, hem] at h3
  simp at h3
theorem KO {n : Az} (hg : BP n = true) {j : Nat} {c : AO} (hc : n.A1[j]? = some c) : (1 ≤ c.Kind ∧ c.Kind ≤ 4) ∧ (c.Ends.length : Int) = c.Kind ∧ ∀ e ∈ c.Ends, Re n e = true := by
 have h := (Dt hg).j3 j (BJ hc)
 rw [hc, cm] at h
 unfold Mc at h
 simp only [ir, decide_eq_false_iff_not, bne_eq_false_iff_eq, m5, Bool.not_eq_true', Bool.not_eq_false] at h
 exact ⟨by omega, h.1.2, h.2⟩
def Vp (c : AO) (i : Nat) : Ay := c.Ends.getD i ⟨0, 0⟩
def Hv (c : AO) (k : Nat) : List Ay :=
 if c.Kind = 2 then [Vp c (1 - k)] else if c.Kind = 3 then (if k = 0 then [Vp c 1, Vp c 2] else [Vp c 0]) else if c.Kind = 4 then [Vp c ([1, 0, 3, 2].getD k 0)] else []
def bI (c : AO) (k : Nat) : List Int :=
 if c.Kind = 2 then [0] else if c.Kind = 3 then (if k = 0 then [1, 2] else [(k : Int)]) else if c.Kind = 4 then [0] else []
theorem H4 {c : AO} (h : (1 ≤ c.Kind ∧ c.Kind ≤ 4) ∧ (c.Ends.length : Int) = c.Kind) : (∃ a b, c = ⟨1, a, [b]⟩) ∨ (∃ a b d, c = ⟨2, a, [b, d]⟩) ∨ (∃ a b d e, c = ⟨3, a, [b, d, e]⟩) ∨ ∃ a b d e f, c = ⟨4, a, [b, d, e, f]⟩ := by
 obtain ⟨K, N, E⟩ := c
 simp only [] at h
 match E, h with
 | [], ⟨h1, h2⟩ => simp only [gv] at h2; omega
 | [b], ⟨h1, h2⟩ => simp only [du, gv] at h2; have : K = 1 := (by omega); subst this; exact .inl ⟨N, b, rfl⟩
 | [b, d], ⟨h1, h2⟩ => simp only [du, gv] at h2; have : K = 2 := (by omega); subst this; exact .inr (.inl ⟨N, b, d, rfl⟩)
 | [b, d, e], ⟨h1, h2⟩ => simp only [du, gv] at h2; have : K = 3 := (by omega); subst this; exact .inr (.inr (.inl ⟨N, b, d, e, rfl⟩))
 | [b, d, e, f], ⟨h1, h2⟩ => simp only [du, gv] at h2; have : K = 4 := (by omega); subst this; exact .inr (.inr (.inr ⟨N, b, d, e, f, rfl⟩))
 | b :: d :: e :: f :: g :: r, ⟨h1, h2⟩ => simp only [du] at h2; omega
theorem Kr {c : AO} (h : (1 ≤ c.Kind ∧ c.Kind ≤ 4) ∧ (c.Ends.length : Int) = c.Kind) {k : Nat} (hk : k < c.Ends.length) : fR c (k : Int) = some (Hv c k) := by
 rcases H4 h with ⟨a, b, rfl⟩ | ⟨a, b, d, rfl⟩ | ⟨a, b, d, e, rfl⟩ | ⟨a, b, d, e, f, rfl⟩
 ·rfl
 ·match k, hk with
  | 0, _ => rfl
  | 1, _ => rfl
 ·match k, hk with
  | 0, _ => rfl
  | 1, _ => rfl
  | 2, _ => rfl
 ·match k, hk with
  | 0, _ => rfl
  | 1, _ => rfl
  | 2, _ => rfl
  | 3, _ => rfl
theorem Z2 {n : Az} (hs : CS n) (hg : BP n = true) {e : Ay} {j k : Nat} {c : AO} (ha : Xf n e = some ((j : Int), (k : Int))) (hc : n.A1[j]? = some c) (hk : k < c.Ends.length) : aS n e = some (Hv c k, bI c k) := by
 have h := KO hg hc
 unfold aS
 rw [Tz hs, ha]
 have hj : decide (((j : Nat) : Int) < (0:Int)) = false := by rw [decide_eq_false_iff_not]; omega
 simp only [ab, hj, cond_false, AM, hc]
 rcases H4 ⟨h.1, h.2.1⟩ with ⟨a, b, rfl⟩ | ⟨a, b, d, rfl⟩ | ⟨a, b, d, e, rfl⟩ | ⟨a, b, d, e, f, rfl⟩
 ·rfl
 ·match k, hk with
  | 0, _ => rfl
  | 1, _ => rfl
 ·match k, hk with
  | 0, _ => rfl
  | 1, _ => rfl
  | 2, _ => rfl
 ·match k, hk with
  | 0, _ => rfl
  | 1, _ => rfl
  | 2, _ => rfl
  | 3, _ => rfl
theorem MX (c : AO) (k : Nat) : (Hv c k).length ≤ 2 := by
 unfold Hv
 split
 ·simp
 ·split
  ·split <;> simp
  ·split <;> simp
def Kb (n : Az) (e : Ay) : List Ay := match Xf n e with | some (j, k) => (match n.A1[j.toNat]? with | some c => Hv c k.toNat | none => []) | none => []
def Wo (n : Az) (e : Ay) : List Int := match Xf n e with | some (j, k) => (match n.A1[j.toNat]? with | some c => bI c k.toNat | none => []) | none => []
theorem J2 {n : Az} {e : Ay} {j k : Nat} {c : AO} (ha : Xf n e = some ((j : Int), (k : Int))) (hc : n.A1[j]? = some c) : Kb n e = Hv c k ∧ Wo n e = bI c k := by
 unfold Kb Wo
 rw [ha]
 simp only [fm, hc, and_self]
theorem V6 (n : Az) (e : Ay) : (Kb n e).length ≤ 2 := by
 unfold Kb
 split
 ·split
  ·exact MX _ _
  ·simp
 ·simp
def DI (p w : Int) : Ay := bif w == 1 then ⟨p, 1⟩ else ⟨p, 0⟩
theorem QJ (p w : Int) : YK p w = some (DI p w) := by
 unfold YK DI
 cases w == 1 <;> rfl
theorem LB (p w : Int) : aW p w = some (DI p w) := by
 unfold aW DI
 cases w == 1 <;> rfl
theorem Uz (k : Nat) (w : Int) : DI (k : Int) w = M0 k (w == 1) := by
 unfold DI M0
 cases w == 1 <;> rfl
theorem MD {n : Az} (hg : BP n = true) {k : Nat} (hk : k < n.A3.length) (w : Int) : ∃ (j m : Nat) (c : AO), Xf n (DI (k : Int) w) = some ((j : Int), (m : Int)) ∧ n.A1[j]? = some c ∧ c.Ends[m]? = some (DI (k : Int) w) := by
 rw [Uz]; exact Xg hg hk _
theorem PB {n : Az} (hs : CS n) (hg : BP n = true) {k : Nat} (hk : k < n.A3.length) (w : Int) : aS n (DI (k : Int) w) = some (Kb n (DI (k : Int) w), Wo n (DI (k : Int) w)) := by
 obtain ⟨j, m, c, ha, hc, hm⟩ := MD hg hk w
 rw [Z2 hs hg ha hc (BJ hm), (J2 ha hc).1, (J2 ha hc).2]
theorem L8 {n : Az} (hs : CS n) (hg : BP n = true) {a b : AW} {k : Nat} (hak : a.A0 = (k : Int)) (hk : k < n.A3.length) : fP n a b = some ((Kb n (DI a.A0 a.Way)).any fun y => decide (y = DI b.A0 (AV (0 - b.Way)))) := by
 obtain ⟨j, m, c, ha, hc, hm⟩ := MD hg hk a.Way
 have ho := KO hg hc
 have hl := MX c m
 unfold fP
 rw [hak]
 simp only [QJ, Qc hs, ha, ab, AM, hc, Kr ⟨ho.1, ho.2.1⟩ (BJ hm)]
 rw [(J2 ha hc).1]
 refine We (Hv c m) _ (fun i y hy => ?_) ?_
 ·have hi := BJ hy
  unfold Px
  simp only [D2 hi, cond_true, AM, hy, ab, Pe, B3 (show i < 9223372036854775807 by omega)]
  cases decide (y = DI b.A0 (AV (0 - b.Way))) <;> rfl
 ·unfold Px
  simp only [Cn, cond_false, ai]
theorem Uc {xs : List Ay} (hl : xs.length ≤ 1048576) (v : Ay) : fC xs v = some (xs.any fun y => decide (y = v)) := by
 unfold fC iV
 have h1 : AP (NG xs v) (0 : Int) = C4 xs.length (fun i => bif (xs[i]?).any (fun y => decide (y = v)) then some (i : Int) else none) (some (-1)) := by
  refine Be xs.length (fun i => (i : Int)) _ _ (fun i hi _ => ?_) (fun _ => ?_)
  ·unfold NG
   simp only [D2 hi, cond_true, AM, aj hi, ab, Vq, cm, B3 (show i < 9223372036854775807 by omega)]
   cases decide (xs[i] = v) <;> rfl
  ·unfold NG
   simp only [Cn, cond_false]
 rw [h1]
 obtain ⟨r, hr⟩ := FZ xs.length (fun i => bif (xs[i]?).any (fun y => decide (y = v)) then some (i : Int) else none) (e := some (-1)) ⟨_, rfl⟩
 rw [hr, ab]
 have ht := Ca xs (fun y => decide (y = v)) xs.length
 rw [gf] at ht
 rw [← ht]
 rcases D9 hr with ⟨i, hi, h⟩ | ⟨h, h2⟩
 ·obtain ⟨h3, rfl⟩ := EL h
  congr 1
  rw [fb, decide_eq_true_eq, im]
  exact ⟨fun _ => ⟨i, dg.2 hi, h3⟩, fun _ => by omega⟩
 ·have : r = -1 := by simpa using h2.symm
  subst this
  congr 1
  rw [fb, decide_eq_true_eq, im]
  constructor
  ·intro h; omega
  ·rintro ⟨i, hi, h3⟩
   have := HZ (h i (dg.1 hi))
   rw [h3] at this; cases this
def TS (w : Int) : Bool := (w == (1:Int)) || (w == (-1:Int))
def Ke (n : Az) (s : CG) : Bool := ((decide (s.A0 ≥ (0:Int)) && decide (s.A0 < (n.A3.length : Int))) && TS s.Way) && (n.A3[s.A0.toNat]?).any fun p => decide (s.At ≥ (0:Int)) && decide (s.At ≤ p.BN)
theorem LU {n : Az} (hg : BP n = true) (s : CG) : fO n s = some (Ke n s) := by
 have hn := (Dt hg).le
 unfold fO Ke
 simp only [GM, ab, CD, JK (y := s.A0) (n := (n.A3.length : Int)) (by omega)]
 rw [show ((s.Way == (1:Int)) || (s.Way == (-1:Int))) = TS s.Way from rfl]
 rcases Dy hg s.A0 with h | ⟨k, p, hk, hp, h1, h2, h⟩
 ·rw [h]; rfl
 ·rw [h, hk]
  simp only [AM, hp, ab, fm, cm]
  cases TS s.Way <;> rfl
theorem Ut {n : Az} (hg : BP n = true) (s : CG) : fB n s = some (Ke n s) := by
 have hn := (Dt hg).le
 unfold fB Ke
 simp only [JS, ab, CD, JK (y := s.A0) (n := (n.A3.length : Int)) (by omega)]
 rcases Dy hg s.A0 with h | ⟨k, p, hk, hp, h1, h2, h⟩
 ·rw [h]; rfl
 ·rw [h, hk]
  simp only [AM, hp, ab, fm, cm, cond_true]
  rw [show ((s.Way == (1:Int)) || (s.Way == (-1:Int))) = TS s.Way from rfl]
  cases TS s.Way <;> simp
theorem ZO {w : Int} (h : TS w = true) : w = 1 ∨ w = -1 := by
 unfold TS at h
 simpa using h
theorem Jz {n : Az} (hg : BP n = true) {s : CG} (h : Ke n s = true) : ∃ (k : Nat) (p : A0), s.A0 = (k : Int) ∧ n.A3[k]? = some p ∧ 1 ≤ p.BN ∧ p.BN ≤ 10000000 ∧ (s.Way = 1 ∨ s.Way = -1) ∧ 0 ≤ s.At ∧ s.At ≤ p.BN := by
 unfold Ke at h
 simp only [av] at h
 rcases Dy hg s.A0 with h1 | ⟨k, p, hk, hp, h1, h2, h3⟩
 ·rw [lU] at h1
  rcases h1 with h1 | h1
  ·rw [h1] at h; exact absurd h.1.1.1 (by decide)
  ·rw [h1] at h; exact absurd h.1.1.2 (by decide)
 ·obtain ⟨h4, h5⟩ := h
  rw [hk, fm, hp] at h5
  simp only [cm, av, decide_eq_true_eq] at h5
  exact ⟨k, p, hk, hp, h1, h2, ZO h4.2, h5.1, h5.2⟩
def GF (p : A0) (s : CG) : Int := if s.Way = 1 then s.At else p.BN - s.At
theorem QH {n : Az} {s : CG} {k : Nat} {p : A0} (hk : s.A0 = (k : Int)) (hp : n.A3[k]? = some p) (h1 : 1 ≤ p.BN) (h2 : p.BN ≤ 10000000) (h3 : 0 ≤ s.At) (h4 : s.At ≤ p.BN) : aR n s = some (GF p s) := by
 unfold aR GF
 rw [hk]
 simp only [AM, hp, ab]
 by_cases hw : s.Way = 1
 ·rw [hw]; rfl
 ·rw [if_neg hw, beq_eq_false_iff_ne.2 hw, cond_false, BV (by omega)]
theorem HY {n : Az} {s : CG} {k : Nat} {p : A0} (hk : s.A0 = (k : Int)) (hp : n.A3[k]? = some p) (h1 : 1 ≤ p.BN) (h2 : p.BN ≤ 10000000) (h3 : 0 ≤ s.At) (h4 : s.At ≤ p.BN) : aM n s = some (GF p s) := by
 unfold aM aL GF
 rw [hk]
 simp only [AM, hp, ab]
 by_cases hw : s.Way = 1
 ·rw [hw]
  show some (AV (p.BN - AV (p.BN - s.At))) = _
  rw [BV (x := p.BN - s.At) (by omega), BV (by omega), if_pos rfl]
  congr 1; omega
 ·rw [if_neg hw, beq_eq_false_iff_ne.2 hw, cond_false, ab, BV (by omega)]
theorem TO {n : Az} {t : AB} (hs : CS n) (hg : BP n = true) (ht : t.AF.length ≤ 200) {i : Nat} (hi : i < t.AF.length) (a b c : Int) : Ga n t (a, b, c, (i : Int)) = Jl n t (a, b, c, (i : Int)) ∧ ((∃ s', Jl n t (a, b, c, (i : Int)) = some (.inl s') ∧ s'.2.2.2 = ((i + 1 : Nat) : Int)) ∨ ∃ r, Jl n t (a, b, c, (i : Int)) = some (.inr r)) := by
 have hn := (Dt hg).le
 obtain ⟨x, hx⟩ : ∃ x, t.AF[i]? = some x := ⟨_, aj hi⟩
 unfold Ga Jl cX cY aT
 simp only [D2 hi, cond_true, AM, hx, ab, GM, JS, JK (y := x.A0) (n := (n.A3.length : Int)) (by omega), LB, B3 (show i < 9223372036854775807 by omega)]
 rcases Dy hg x.A0 with h | ⟨k, p, hk, hp, h1, h2, h⟩
 ·rw [h]; exact ⟨rfl, .inr ⟨_, rfl⟩⟩
 ·rw [h]
  have hj := L8 hs hg (a := x) (b := ⟨a, b⟩) hk (BJ hp)
  have ho := PB hs hg (BJ hp) x.Way
  rw [← hk] at ho
  rw [hj, ho]
  simp only [ab, Uc (Nat.le_trans (V6 n _) (by decide)), hk, AM, hp]
  cases ((x.Way != (1:Int)) && (x.Way != (-1:Int)))
  ·cases decide (c ≥ t.AI)
   ·cases ((Kb n (DI (k : Int) x.Way)).any fun y => decide (y = DI a (AV (0 - b))))
    ·exact ⟨rfl, .inr ⟨_, rfl⟩⟩
    ·exact ⟨rfl, .inl ⟨_, rfl, rfl⟩⟩
   ·exact ⟨rfl, .inr ⟨_, rfl⟩⟩
  ·exact ⟨rfl, .inr ⟨_, rfl⟩⟩
theorem TN {n : Az} {t : AB} (hs : CS n) (hg : BP n = true) : ∃ r, Xa n t = some r ∧ eE n t = some r := by
 unfold Xa eE
 simp only [LU hg, Ut hg, GM, JS, ab, CD]
 cases hsp : Ke n t.A5 with
 | false => exact ⟨false, rfl, rfl⟩
 | true =>
  obtain ⟨k, p, hk, hp, h1, h2, _, h3, h4⟩ := Jz hg hsp
  rw [HY hk hp h1 h2 h3 h4, QH hk hp h1 h2 h3 h4]
  simp only [ab]
  cases (bif !true then true else !(decide (t.AI ≥ (1:Int)) && decide (t.AI ≤ (100000:Int)))) with
  | true => exact ⟨false, rfl, rfl⟩
  | false =>
   cases hb : decide ((t.AF.length : Int) > (200:Int)) with
   | true => exact ⟨false, rfl, rfl⟩
   | false =>
    simp only [decide_eq_false_iff_not] at hb
    have hb2 : t.AF.length ≤ 200 := by omega
    simp only [jg, cond_false]
    refine P3 t.AF.length (fun i s => s.2.2.2 = (i : Int)) _ rfl (fun i s hi hsi => ?_) (fun s hsi => ?_)
    ·obtain ⟨a, b, c, d⟩ := s
     simp only [] at hsi
     subst hsi
     exact TO hs hg hb2 hi a b c
    ·obtain ⟨a, b, c, d⟩ := s
     simp only [] at hsi
     subst hsi
     unfold Ga Jl
     simp only [Cn, cond_false]
     exact ⟨trivial, _, rfl⟩
theorem Kk {n : Az} {t : AB} (hs : CS n) (hg : BP n = true) (h : Xa n t = some true) : t.AF.length ≤ 200 ∧ Ke n t.A5 = true ∧ 1 ≤ t.AI ∧ t.AI ≤ 100000 ∧ ∀ (i : Nat) (x : AW), t.AF[i]? = some x → ∃ (k : Nat) (p : A0), x.A0 = (k : Int) ∧ n.A3[k]? = some p ∧ 1 ≤ p.BN ∧ p.BN ≤ 10000000 ∧ (x.Way = 1 ∨ x.Way = -1) := by
 have hn := (Dt hg).le
 unfold Xa at h
 simp only [LU hg, GM, ab, CD] at h
 cases hsp : Ke n t.A5 with
 | false => rw [hsp] at h; cases h
 | true =>
  rw [hsp] at h
  obtain ⟨k, p, hk, hp, h1, h2, _, h3, h4⟩ := Jz hg hsp
  rw [HY hk hp h1 h2 h3 h4] at h
  simp only [ab] at h
  cases hlo : (bif !true then true else !(decide (t.AI ≥ (1:Int)) && decide (t.AI ≤ (100000:Int)))) with
  | true => rw [hlo] at h; cases h
  | false =>
   rw [hlo] at h
   cases hb : decide ((t.AF.length : Int) > (200:Int)) with
   | true => rw [hb] at h; cases h
   | false =>
    rw [hb] at h
    simp only [decide_eq_false_iff_not] at hb
    simp only [cz, cond_false, ln, av, decide_eq_true_eq] at hlo
    simp only [jg, cond_false] at h
    refine ⟨by omega, rfl, hlo.1, hlo.2, ?_⟩
    have key : ∀ k i a b c, i + k = t.AF.length → AP (Ga n t) (a, b, c, (i : Int)) = some true → ∀ j x, i ≤ j → t.AF[j]? = some x → ∃ (k : Nat) (p : A0), x.A0 = (k : Int) ∧ n.A3[k]? = some p ∧ 1 ≤ p.BN ∧ p.BN ≤ 10000000 ∧ (x.Way = 1 ∨ x.Way = -1) := by
     intro k
     induction k with
     | zero => intro i a b c hi _ j x hj hx; have := BJ hx; omega
     | succ k ih =>
      intro i a b c hi hr j x hj hx
      obtain ⟨y, hy⟩ : ∃ y, t.AF[i]? = some y := ⟨_, aj (by omega)⟩
      rw [BK] at hr
      unfold Ga at hr
      simp only [D2 (BJ hy), cond_true, AM, hy, ab, GM, JK (y := y.A0) (n := (n.A3.length : Int)) (by omega), B3 (show i < 9223372036854775807 by omega)] at hr
      rcases Dy hg y.A0 with hh | ⟨k2, p2, hk2, hp2, e1, e2, hh⟩
      ·rw [hh] at hr; cases hr
      ·rw [hh] at hr
       cases hw : ((y.Way != (1:Int)) && (y.Way != (-1:Int))) with
       | true => rw [hw] at hr; cases hr
       | false =>
        rw [hw] at hr
        have hway : y.Way = 1 ∨ y.Way = -1 := by
         rw [lU, bne_eq_false_iff_eq, bne_eq_false_iff_eq] at hw
         exact hw
        rcases Nat.eq_or_lt_of_le hj with rfl | hlt
        ·rw [hy] at hx
         cases hx
         exact ⟨k2, p2, hk2, hp2, e1, e2, hway⟩
        ·rw [L8 hs hg hk2 (BJ hp2)] at hr
         cases hc : decide (c ≥ t.AI) with
         | true => rw [hc] at hr; cases hr
         | false =>
          rw [hc] at hr
          cases hj2 : ((Kb n (DI y.A0 y.Way)).any fun q => decide (q = DI a (AV (0 - b)))) with
          | false => rw [hj2] at hr; cases hr
          | true =>
           rw [hj2, hk2] at hr
           simp only [AM, hp2] at hr
           exact ih (i + 1) _ _ _ (by omega) hr j x hlt hx
    exact fun i x hx => key t.AF.length 0 _ _ _ (by omega) h i x (db _) hx
def Fy (n : Az) (s : AW) : Int := ((n.A3[s.A0.toNat]?).map (·.BN)).getD 0
def DL (n : Az) (s : AW) : Prop := ∃ (k : Nat) (p : A0), s.A0 = (k : Int) ∧ n.A3[k]? = some p ∧ 1 ≤ p.BN ∧ p.BN ≤ 10000000 ∧ (s.Way = 1 ∨ s.Way = -1)
theorem IJ {n : Az} {s : AW} (h : DL n s) : ∃ p, Aa n.A3 s.A0 = some p ∧ p.BN = Fy n s ∧ 1 ≤ Fy n s ∧ Fy n s ≤ 10000000 := by
 obtain ⟨k, p, h1, h2, h3, h4, _⟩ := h
 have e : Fy n s = p.BN := by unfold Fy; rw [h1, fm, h2]; rfl
 exact ⟨p, by rw [h1, AM, h2], e.symm, by omega, by omega⟩
def Ma (n : Az) (L : Int) : Int → List AW → Prop
 | h, [] => L ≤ h
 | h, s :: r => h < L ∧ DL n s ∧ Ma n L (h + Fy n s) r
theorem Mb {n : Az} {L : Int} : ∀ {r : List AW} {h : Int}, Ma n L h r → ∀ s ∈ r, DL n s
 | [], _, _, s, hs => by cases hs
 | x :: r, h, hb, s, hs => by
  rcases bw.1 hs with rfl | hs
  ·exact hb.2.1
  ·exact Mb hb.2.2 s hs
structure Zo (n : Az) (t : AB) where
 k : Nat
 p : A0
 hk : t.A5.A0 = (k : Int)
 hp : n.A3[k]? = some p
 l1 : 1 ≤ p.BN
 l2 : p.BN ≤ 10000000
 kU : t.A5.Way = 1 ∨ t.A5.Way = -1
 a1 : 0 ≤ t.A5.At
 a2 : t.A5.At ≤ p.BN
 l8 : t.AF.length ≤ 200
 g1 : 1 ≤ t.AI
 g2 : t.AI ≤ 100000
 back : Ma n t.AI (GF p t.A5) t.AF
theorem Ng {p : A0} {s : CG} (h1 : 0 ≤ s.At) (h2 : s.At ≤ p.BN) : 0 ≤ GF p s ∧ GF p s ≤ p.BN := by
 unfold GF
 split <;> omega
theorem Rx {n : Az} {t : AB} (hs : CS n) (hg : BP n = true) (h : Xa n t = some true) : Nonempty (Zo n t) := by
 obtain ⟨h200, hsp, hl1, hl2, hps⟩ := Kk hs hg h
 obtain ⟨k, p, hk, hp, h1, h2, hw, h3, h4⟩ := Jz hg hsp
 refine ⟨⟨k, p, hk, hp, h1, h2, hw, h3, h4, h200, hl1, hl2, ?_⟩⟩
 have hgo := Ng h3 h4
 have hn := (Dt hg).le
 unfold Xa at h
 simp only [LU hg, GM, ab, CD, hsp, HY hk hp h1 h2 h3 h4] at h
 have e1 : (bif !true then true else !(decide (t.AI ≥ (1:Int)) && decide (t.AI ≤ (100000:Int)))) = false := by
  simp [hl1, hl2]
 have e2 : decide ((t.AF.length : Int) > (200:Int)) = false := by simp; omega
 rw [e1, e2] at h
 simp only [jg, cond_false] at h
 have key : ∀ (r : List AW) (i : Nat) (a b c : Int), t.AF.drop i = r → i + r.length = t.AF.length → 0 ≤ c → c ≤ 10000000 * (i + 1 : Nat) → AP (Ga n t) (a, b, c, (i : Int)) = some true → Ma n t.AI c r := by
  intro r
  induction r with
  | nil =>
   intro i a b c hr hi hc1 hc2 hl
   have : i = t.AF.length := by simpa using hi
   subst this
   rw [BK] at hl
   unfold Ga at hl
   simp only [Cn, cond_false] at hl
   have hl : (some (decide (c ≥ t.AI))) = some true := hl
   simp only [aa, decide_eq_true_eq] at hl
   exact hl
  | cons y r ih =>
   intro i a b c hr hi hc1 hc2 hl
   have hlt : i < t.AF.length := by simp at hi; omega
   have hy : t.AF[i]? = some y := by
    have := congrArg (fun l => l[0]?) hr
    simpa using this
   have hr2 : t.AF.drop (i + 1) = r := by
    have := congrArg List.tail hr
    simpa using this
   rw [BK] at hl
   unfold Ga at hl
   simp only [D2 hlt, cond_true, AM, hy, ab, GM, JK (y := y.A0) (n := (n.A3.length : Int)) (by omega), B3 (show i < 9223372036854775807 by omega)] at hl
   obtain ⟨k2, p2, hk2, hp2, e1, e2, hway⟩ := hps i y hy
   rcases Dy hg y.A0 with hh | ⟨_, _, _, _, _, _, hh⟩
   ·rw [hh] at hl; cases hl
   rw [hh] at hl
   cases hw : ((y.Way != (1:Int)) && (y.Way != (-1:Int))) with
   | true => rw [hw] at hl; cases hl
   | false =>
    rw [hw] at hl
    rw [L8 hs hg hk2 (BJ hp2)] at hl
    cases hc : decide (c ≥ t.AI) with
    | true => rw [hc] at hl; cases hl
    | false =>
     rw [hc] at hl
     cases hj2 : ((Kb n (DI y.A0 y.Way)).any fun q => decide (q = DI a (AV (0 - b)))) with
     | false => rw [hj2] at hl; cases hl
     | true =>
      have hso : DL n y := ⟨k2, p2, hk2, hp2, e1, e2, hway⟩
      obtain ⟨p3, q1, q2, q3, q4⟩ := IJ hso
      rw [hj2, q1] at hl
      simp only [cz, jg, cond_false, ab] at hl
      simp only [decide_eq_false_iff_not] at hc
      have hcc : c ≤ 2020000000 := by omega
      refine ⟨by omega, hso, ih (i + 1) y.A0 y.Way (c + Fy n y) hr2 (by simp at hi; omega) (by omega) (by omega) ?_⟩
      have hl : AP (Ga n t) (y.A0, y.Way, AV (c + p3.BN), ((i + 1 : Nat) : Int)) = some true := hl
      rw [BV (by omega), q2] at hl
      exact hl
 exact key t.AF 0 _ _ _ rfl (by simp) (by omega) (by omega) h
def Z8 (p w along len k : Int) : BD := if w = 1 then ⟨p, along - k, along⟩ else ⟨p, len - along, len - along + k⟩
theorem VL {n : Az} {p w along len k : Int} {q : A0} (hq : Aa n.A3 p = some q) (hl : q.BN = len) (hw : w = 1 ∨ w = -1) (h1 : 0 ≤ k) (h2 : k ≤ along) (h3 : along ≤ len) (h4 : len ≤ 10000000) : ZW n p w (AV (along - k)) along = some (Z8 p w along len k) := by
 unfold ZW Pp Z8
 rw [hq, BV (x := along - k) (by omega)]
 simp only [ab]
 rcases hw with rfl | rfl
 ·rfl
 ·show some (⟨p, AV (q.BN - along), AV (q.BN - (along - k))⟩ : BD) = some (if (-1 : Int) = 1 then _ else _)
  rw [if_neg (by decide), BV (x := q.BN - along) (by omega), BV (by omega), hl]
  congr 2; omega
theorem Us {p w x along len k : Int} (hw : w = 1 ∨ w = -1) (hx : x = if w = 1 then along else len - along) (h1 : 0 ≤ k) (h2 : k ≤ along) (h3 : along ≤ len) (h4 : len ≤ 10000000) : Xc p x (AV (x - AV (k * w))) = some (Z8 p w along len k) := by
 unfold Xc Z8
 rcases hw with rfl | rfl
 ·rw [if_pos rfl] at hx ⊢
  subst hx
  rw [BV (x := k * 1) (by omega), BV (by omega), Int.mul_one]
  congr 2
  ·split <;> omega
  ·split <;> omega
 ·rw [if_neg (show ¬ ((-1 : Int) = 1) by decide)] at hx ⊢
  subst hx
  rw [BV (x := k * -1) (by omega), BV (by omega)]
  congr 2
  ·split <;> omega
  ·split <;> omega
theorem Ol {α : Type} {xs : List α} {i : Nat} {y : α} {r : List α} (h : xs.drop i = y :: r) : i < xs.length ∧ xs[i]? = some y ∧ xs.drop (i + 1) = r := by
 have hlt : i < xs.length := by
  rcases bz i xs.length with hl | hl
  ·exact hl
  ·rw [List.drop_eq_nil_of_le hl] at h; cases h
 rw [kq hlt] at h
 simp only [List.cons.injEq] at h
 exact ⟨hlt, by rw [aj hlt, h.1], h.2⟩
theorem PZ {a b : ByteArray} (h : a.size + b.size ≤ 1099511627776) : Vi a b = some (a ++ b) := if_pos h
theorem PO : ∀ (n : Nat) (k : Int) (s : ByteArray), 0 ≤ k → k ≤ 4611686018427387904 → k < ((10 ^ n : Nat) : Int) → s.size + n ≤ 1000 → ∃ r, AP N5 (k, s) = some r
 | 0, k, s, h0, hb, h1, h2 => by
  have : k = 0 := by simp at h1; omega
  subst this
  rw [BK]
  unfold N5
  simp only [show decide ((0:Int) > 0) = false from rfl, cond_false]
  rw [PZ (by show 1 + s.size ≤ _; omega)]
  exact ⟨_, rfl⟩
 | n + 1, k, s, h0, hb, h1, h2 => by
  rw [BK]
  unfold N5
  by_cases hk : k > 0
  ·simp only [show decide (k > 0) = true by rw [decide_eq_true_eq]; exact hk, cond_true]
   rw [Nat.pow_succ] at h1
   have e1 : (SD [⟨IntKind.wrap .u8 (AV (48 + k.tmod 10))⟩]).size = 1 := rfl
   rw [PZ (by rw [e1]; omega)]
   simp only [ab]
   have e2 : Int.tdiv k 10 = k / 10 := Int.tdiv_eq_ediv_of_nonneg h0
   rw [e2, BV ⟨by omega, by omega⟩]
   exact PO n (k / 10) _ (by omega) (by omega) (by omega) (by rw [ByteArray.size_append, e1]; omega)
  ·simp only [show decide (k > 0) = false by rw [decide_eq_false_iff_not]; exact hk, cond_false]
   rw [PZ (by show 1 + s.size ≤ _; omega)]
   exact ⟨_, rfl⟩
def U3 (k : Int) : ByteArray := (ZY k).getD ByteArray.empty
theorem ZZ {k : Int} (h0 : 0 ≤ k) (hb : k ≤ 4611686018427387904) : ZY k = some (U3 k) := by
 have : ∃ r, ZY k = some r := by
  unfold ZY
  cases decide (k ≤ 0) with
  | true => exact ⟨_, rfl⟩
  | false =>
   simp only [cond_false]
   exact PO 19 k _ h0 hb (by omega) (by decide)
 obtain ⟨r, hr⟩ := this
 unfold U3
 rw [hr]; rfl
def Am (n : Az) (L : Int) : Int → List AW → List AW
 | _, [] => []
 | h, s :: r => bif decide (h < L) then s :: Am n L (h + Fy n s) r else []
theorem JB (n : Az) (L : Int) : ∀ (r : List AW) (h : Int), ∃ k, k ≤ r.length ∧ Am n L h r = r.take k
 | [], h => ⟨0, ak _, rfl⟩
 | s :: r, h => by
  unfold Am
  cases decide (h < L) with
  | false => exact ⟨0, db _, rfl⟩
  | true =>
   obtain ⟨k, h1, h2⟩ := JB n L r (h + Fy n s)
   exact ⟨k + 1, by simp only [du]; omega, by rw [cond_true, h2]; rfl⟩
theorem Wb {n : Az} {s : AW} (h : DL n s) : aT n s = some (Fy n s) := by
 obtain ⟨p, g1, g2, _⟩ := IJ h
 unfold aT
 rw [g1, ab, g2]
theorem XM {n : Az} {u : AB} (hl : u.AF.length ≤ 201) (hs : ∀ s ∈ u.AF, DL n s) : ∀ (r : List AW) (i : Nat) (h : Int), u.AF.drop i = r → i ≤ u.AF.length → 0 ≤ h → h ≤ 10000000 * ((i : Int) + 1) →
  AP (I4 n u) (u.AF, h, (i : Int)) = some { A5 := u.A5, AI := u.AI, AF := u.AF.take i ++ Am n u.AI h r } := by
 intro r
 induction r with
 | nil =>
  intro i h hr hi h0 h1
  have hi' : i = u.AF.length := by have := lb.1 hr; omega
  subst hi'
  rw [BK]
  unfold I4 N4 Am
  simp only [Cn, cond_false, gf, cu, ai, ab]
 | cons s r ih =>
  intro i h hr hi h0 h1
  obtain ⟨hlt, hy, hr2⟩ := Ol hr
  have hso := hs s (bh hy)
  obtain ⟨q, _, _, l1, l2⟩ := IJ hso
  rw [DQ]
  unfold Am
  have ht : u.AF.take (i + 1) = u.AF.take i ++ [s] := by
   rw [jx hlt]
   rw [aj hlt] at hy
   rw [an hy]
  cases hd : decide (h < u.AI) with
  | false =>
   have hge : decide (h ≥ u.AI) = true := by simp only [decide_eq_false_iff_not, decide_eq_true_eq] at hd ⊢; omega
   have hsb : TH u.AF (0 : Int) (i : Int) = some (u.AF.take i) := by
    unfold TH
    rw [if_pos ⟨by omega, by omega, by omega⟩]
    simp
   have hF : I4 n u (u.AF, h, (i : Int)) = some (.inr { A5 := u.A5, AI := u.AI, AF := u.AF.take i }) := by
    unfold I4 N4
    simp only [D2 hlt, cond_true, AM, hy, ab, hge, hsb, ai]
   rw [hF]
   simp only [ab, lV, cond_false, cu]
  | true =>
   have hge : decide (h ≥ u.AI) = false := by simp only [decide_eq_false_iff_not, decide_eq_true_eq] at hd ⊢; omega
   have hF : I4 n u (u.AF, h, (i : Int)) = some (.inl (u.AF, h + Fy n s, ((i + 1 : Nat) : Int))) := by
    unfold I4
    simp only [D2 hlt, cond_true, AM, hy, ab, hge, cond_false, Wb hso, B3 (show i < 9223372036854775807 by omega)]
    rw [BV (x := h + Fy n s) (by omega)]
   rw [hF]
   simp only [ab, lW]
   rw [ih (i + 1) (h + Fy n s) hr2 hlt (by omega) (by omega), cond_true, ht, bj]; rfl
theorem ZN {n : Az} {u : AB} {k : Nat} {q : A0} (hk : u.A5.A0 = (k : Int)) (hq : n.A3[k]? = some q) (l1 : 1 ≤ q.BN) (l2 : q.BN ≤ 10000000) (a1 : 0 ≤ u.A5.At) (a2 : u.A5.At ≤ q.BN) (hl : u.AF.length ≤ 201) (hs : ∀ s ∈ u.AF, DL n s) :
  ZX n u = some { A5 := u.A5, AI := u.AI, AF := Am n u.AI (GF q u.A5) u.AF } := by
 have hgo := Ng a1 a2
 unfold ZX
 rw [QH hk hq l1 l2 a1 a2, ab]
 have h0 : AP (I4 n u) (u.AF, GF q u.A5, ((0 : Nat) : Int)) = _ := XM hl hs u.AF 0 (GF q u.A5) rfl (db _) hgo.1 (by have := hgo.2; omega)
 exact h0
def P8 (n : Az) (i : Nat) (x : Int) : Bool := (decide (x ≥ (0:Int)) && decide (x ≤ (2:Int))) && (decide (x = 0) || (n.A1[i]?).any fun c => c.Kind == (3:Int))
def H5 (n : Az) (l : List Int) : Bool := (l.length == n.A1.length) && (da l.length).all fun i => (l[i]?).any (P8 n i)
theorem VJ {n : Az} {l : List Int} (hl : l.length ≤ 1048576) : fN n l = some (H5 n l) := by
 unfold fN H5
 cases hb : (l.length == n.A1.length) with
 | false =>
  simp only [beq_eq_false_iff_ne] at hb
  have : ((l.length : Int) != (n.A1.length : Int)) = true := by rw [bne_iff_ne]; omega
  rw [this]; rfl
 | true =>
  simp only [beq_iff_eq] at hb
  have : ((l.length : Int) != (n.A1.length : Int)) = false := by rw [bne_eq_false_iff_eq]; omega
  rw [this, cond_false, mT]
  refine (Be l.length (fun i => (i : Int)) (fun i => bif (l[i]?).any (P8 n i) then none else some false) (some true) (fun i hi _ => ?_) (fun _ => ?_)).trans ((I6 _ _ _).trans (by rw [ke]))
  ·have hj : i < n.A1.length := by omega
   unfold Pw P8
   simp only [D2 hi, cond_true, AM, aj hi, aj hj, ab, GM, CD, cm, B3 (show i < 9223372036854775807 by omega)]
   cases h : (decide (l[i] ≥ (0:Int)) && decide (l[i] ≤ (2:Int))) with
   | false => rfl
   | true =>
    by_cases h0 : l[i] = 0
    ·rw [h0]; rfl
    ·rw [bne_iff_ne.2 h0, decide_eq_false h0]
     cases hk : (n.A1[i].Kind == (3:Int))
     ·rw [show (n.A1[i].Kind != (3:Int)) = true from by rw [bne, hk]; rfl]; rfl
     ·rw [show (n.A1[i].Kind != (3:Int)) = false from by rw [bne, hk]; rfl]; rfl
  ·unfold Pw
   simp only [Cn, cond_false]
theorem Ur {n : Az} {l : List Int} (hl : l.length ≤ 1048576) : fA n l = some (H5 n l) := by
 unfold fA H5
 cases hb : (l.length == n.A1.length) with
 | false =>
  simp only [beq_eq_false_iff_ne] at hb
  have : ((l.length : Int) != (n.A1.length : Int)) = true := by rw [bne_iff_ne]; omega
  rw [this]; rfl
 | true =>
  simp only [beq_iff_eq] at hb
  have : ((l.length : Int) != (n.A1.length : Int)) = false := by rw [bne_eq_false_iff_eq]; omega
  rw [this, cond_false, mT]
  refine (Be l.length (fun i => (i : Int)) (fun i => bif (l[i]?).any (P8 n i) then none else some false) (some true) (fun i hi _ => ?_) (fun _ => ?_)).trans ((I6 _ _ _).trans (by rw [ke]))
  ·have hj : i < n.A1.length := by omega
   unfold Pq P8
   simp only [D2 hi, cond_true, AM, aj hi, aj hj, ab, JS, CD, cm, B3 (show i < 9223372036854775807 by omega)]
   cases h : (decide (l[i] ≥ (0:Int)) && decide (l[i] ≤ (2:Int))) with
   | false => rfl
   | true =>
    simp only [av, decide_eq_true_eq] at h
    by_cases h0 : l[i] = 0
    ·rw [h0]; rfl
    ·rw [show decide (l[i] > (0:Int)) = true from by rw [decide_eq_true_eq]; omega, decide_eq_false h0]
     cases hk : (n.A1[i].Kind == (3:Int))
     ·rw [show (n.A1[i].Kind != (3:Int)) = true from by rw [bne, hk]; rfl]; rfl
     ·rw [show (n.A1[i].Kind != (3:Int)) = false from by rw [bne, hk]; rfl]; rfl
  ·unfold Pq
   simp only [Cn, cond_false]
theorem Nr {n : Az} {l : List Int} (h : H5 n l = true) : l.length = n.A1.length ∧ ∀ (i : Nat) (x : Int), l[i]? = some x → 0 ≤ x ∧ x ≤ 2 := by
 unfold H5 at h
 simp only [av, beq_iff_eq, List.all_eq_true, dg] at h
 refine ⟨h.1, fun i x hx => ?_⟩
 have := h.2 i (BJ hx)
 rw [hx] at this
 unfold P8 at this
 simp only [cm, av, decide_eq_true_eq] at this
 exact this.1
theorem Rq {n : Az} {l : List Int} (hx : Ef n) (hs : CS n) (hl : l.length ≤ 1048576) : eQ n l = some (BP n && H5 n l) := by
 unfold eQ
 rw [WV hx hs, VJ hl]
 cases BP n <;> rfl
theorem RL {n : Az} {l : List Int} (hx : Ef n) (hs : CS n) (hl : l.length ≤ 1048576) : eD n l = some (BP n && H5 n l) := by
 unfold eD
 rw [Yq hx hs, Ur hl]
 cases BP n <;> rfl
theorem Mi {n : Az} {l : List Int} (hs : CS n) (hg : BP n = true) (hl : H5 n l = true) {k : Nat} (hk : k < n.A3.length) (w : Int) : ∃ r q, Xb n l (DI (k : Int) w) = some r ∧ aV n l (DI (k : Int) w) = some q ∧ r.2.1 = q.2.1 ∧ r.2.2 = q.2.2 ∧ (r.2.1 = 0 → r.1 = q.1) := by
 obtain ⟨j, m, c, ha, hc, hm⟩ := MD hg hk w
 have ho := KO hg hc
 have hlf := Nr hl
 have hjl : j < l.length := by rw [hlf.1]; exact BJ hc
 obtain ⟨x, hx⟩ : ∃ x, l[j]? = some x := ⟨_, aj hjl⟩
 have hxr := hlf.2 j x hx
 have hover := PB hs hg hk w
 rw [(J2 ha hc).1, (J2 ha hc).2] at hover
 have hac := Kr ⟨ho.1, ho.2.1⟩ (BJ hm)
 have hml := BJ hm
 generalize DI (k : Int) w = e at *
 unfold Xb N3 aV Pt
 rw [Qc hs, Tz hs, ha, hover]
 simp only [ab, AM, hc, hx, hac]
 rcases H4 ⟨ho.1, ho.2.1⟩ with ⟨a, b, rfl⟩ | ⟨a, b, d, rfl⟩ | ⟨a, b, d, f, rfl⟩ | ⟨a, b, d, f, g, rfl⟩
 ·exact ⟨_, _, rfl, rfl, rfl, rfl, fun h => by cases h⟩
 ·have h2 : m < 2 := hml
  obtain rfl | rfl : m = 0 ∨ m = 1 := by omega
  ·exact ⟨_, _, rfl, rfl, rfl, rfl, fun _ => rfl⟩
  ·exact ⟨_, _, rfl, rfl, rfl, rfl, fun _ => rfl⟩
 ·have h3 : x = 0 ∨ x = 1 ∨ x = 2 := by omega
  have h2 : m < 3 := hml
  obtain rfl | rfl | rfl : m = 0 ∨ m = 1 ∨ m = 2 := by omega
  ·rcases h3 with rfl | rfl | rfl
   ·exact ⟨_, _, rfl, rfl, rfl, rfl, fun h => by cases h⟩
   ·exact ⟨_, _, rfl, rfl, rfl, rfl, fun _ => rfl⟩
   ·exact ⟨_, _, rfl, rfl, rfl, rfl, fun _ => rfl⟩
  ·rcases h3 with rfl | rfl | rfl
   ·exact ⟨_, _, rfl, rfl, rfl, rfl, fun h => by cases h⟩
   ·exact ⟨_, _, rfl, rfl, rfl, rfl, fun _ => rfl⟩
   ·exact ⟨_, _, rfl, rfl, rfl, rfl, fun h => by cases h⟩
  ·rcases h3 with rfl | rfl | rfl
   ·exact ⟨_, _, rfl, rfl, rfl, rfl, fun h => by cases h⟩
   ·exact ⟨_, _, rfl, rfl, rfl, rfl, fun h => by cases h⟩
   ·exact ⟨_, _, rfl, rfl, rfl, rfl, fun _ => rfl⟩
 ·have h2 : m < 4 := hml
  obtain rfl | rfl | rfl | rfl : m = 0 ∨ m = 1 ∨ m = 2 ∨ m = 3 := by omega
  ·exact ⟨_, _, rfl, rfl, rfl, rfl, fun _ => rfl⟩
  ·exact ⟨_, _, rfl, rfl, rfl, rfl, fun _ => rfl⟩
  ·exact ⟨_, _, rfl, rfl, rfl, rfl, fun _ => rfl⟩
  ·exact ⟨_, _, rfl, rfl, rfl, rfl, fun _ => rfl⟩
theorem Vk {n : Az} {l : List Int} (hs : CS n) (hg : BP n = true) (hl : H5 n l = true) {k : Nat} (hk : k < n.A3.length) (w : Int) {r : Ay × Int × Int} (hr : Xb n l (DI (k : Int) w) = some r) (h0 : r.2.1 = 0) : Re n r.1 = true := by
 obtain ⟨j, m, c, ha, hc, hm⟩ := MD hg hk w
 have ho := KO hg hc
 have hlf := Nr hl
 have hjl : j < l.length := by rw [hlf.1]; exact BJ hc
 obtain ⟨x, hx⟩ : ∃ x, l[j]? = some x := ⟨_, aj hjl⟩
 have hxr := hlf.2 j x hx
 have hac := Kr ⟨ho.1, ho.2.1⟩ (BJ hm)
 have hml := BJ hm
 have hin : ∃ r', Xb n l (DI (k : Int) w) = some r' ∧ (r'.2.1 = 0 → r'.1 ∈ c.Ends) := by
  generalize DI (k : Int) w = e at *
  unfold Xb N3
  rw [Qc hs, ha]
  simp only [ab, AM, hc, hx, hac]
  rcases H4 ⟨ho.1, ho.2.1⟩ with ⟨a, b, rfl⟩ | ⟨a, b, d, rfl⟩ | ⟨a, b, d, f, rfl⟩ | ⟨a, b, d, f, g, rfl⟩
  ·exact ⟨_, rfl, fun h => by cases h⟩
  ·have h2 : m < 2 := hml
   obtain rfl | rfl : m = 0 ∨ m = 1 := by omega
   ·exact ⟨_, rfl, fun _ => .tail _ (.head _)⟩
   ·exact ⟨_, rfl, fun _ => .head _⟩
  ·have h3 : x = 0 ∨ x = 1 ∨ x = 2 := by omega
   have h2 : m < 3 := hml
   obtain rfl | rfl | rfl : m = 0 ∨ m = 1 ∨ m = 2 := by omega
   ·rcases h3 with rfl | rfl | rfl
    ·exact ⟨_, rfl, fun h => by cases h⟩
    ·exact ⟨_, rfl, fun _ => .tail _ (.head _)⟩
    ·exact ⟨_, rfl, fun _ => .tail _ (.tail _ (.head _))⟩
   ·rcases h3 with rfl | rfl | rfl
    ·exact ⟨_, rfl, fun h => by cases h⟩
    ·exact ⟨_, rfl, fun _ => .head _⟩
    ·exact ⟨_, rfl, fun h => by cases h⟩
   ·rcases h3 with rfl | rfl | rfl
    ·exact ⟨_, rfl, fun h => by cases h⟩
    ·exact ⟨_, rfl, fun h => by cases h⟩
    ·exact ⟨_, rfl, fun _ => .head _⟩
  ·have h2 : m < 4 := hml
   obtain rfl | rfl | rfl | rfl : m = 0 ∨ m = 1 ∨ m = 2 ∨ m = 3 := by omega
   ·exact ⟨_, rfl, fun _ => .tail _ (.head _)⟩
   ·exact ⟨_, rfl, fun _ => .head _⟩
   ·exact ⟨_, rfl, fun _ => .tail _ (.tail _ (.tail _ (.head _)))⟩
   ·exact ⟨_, rfl, fun _ => .tail _ (.tail _ (.head _))⟩
 obtain ⟨r', e1, e2⟩ := hin
 rw [hr] at e1
 cases e1
 exact ho.2.2 _ (e2 h0)
theorem VH {n : Az} {l : List Int} {t : AB} (hs : CS n) (hg : BP n = true) (hl : H5 n l = true) (h : Xa n t = some true) : ∃ r, eS n l t = some r ∧ fD n l t = some r := by
 obtain ⟨h200, hsp, _, _, hps⟩ := Kk hs hg h
 unfold eS fD
 refine P3 t.AF.length (fun i s => s.2.2 = (i : Int)) _ rfl (fun i s hi hsi => ?_) (fun s hsi => ?_)
 ·obtain ⟨a, b, d⟩ := s
  simp only [] at hsi
  subst hsi
  obtain ⟨x, hx⟩ : ∃ x, t.AF[i]? = some x := ⟨_, aj hi⟩
  obtain ⟨k, p, hk, hp, _, _, _⟩ := hps i x hx
  obtain ⟨r, q, e1, e2, e3, e4, e5⟩ := Mi hs hg hl (BJ hp) x.Way
  unfold Pn Ps cX cY
  simp only [D2 hi, cond_true, AM, hx, ab, QJ, LB, hk, e1, e2, CD, B3 (show i < 9223372036854775807 by omega)]
  rw [← e3]
  by_cases h0 : r.2.1 = 0
  ·rw [h0, e5 h0]
   cases ((q.1.A0 == (DI a (AV (0 - b))).A0) && ((q.1.B9 == (DI a (AV (0 - b))).B9) && true))
   ·exact ⟨rfl, .inr ⟨_, rfl⟩⟩
   ·exact ⟨rfl, .inl ⟨_, rfl, rfl⟩⟩
  ·rw [bne_iff_ne.2 h0]
   exact ⟨rfl, .inr ⟨_, rfl⟩⟩
 ·obtain ⟨a, b, d⟩ := s
  simp only [] at hsi
  subst hsi
  unfold Pn Ps
  simp only [Cn, cond_false]
  exact ⟨trivial, _, rfl⟩
theorem Ki {n : Az} {L h : Int} {s : AW} {r : List AW} (hd : h < L) : Am n L h (s :: r) = s :: Am n L (h + Fy n s) r := by
 rw [Am, decide_eq_true hd]; rfl
theorem Kh {n : Az} {L h : Int} {r : List AW} (hd : ¬ h < L) : Am n L h r = [] := by
 cases r with
 | nil => rfl
 | cons s r => rw [Am, decide_eq_false hd]; rfl
theorem Ev {n : Az} {L : Int} : ∀ {r : List AW} {h h' : Int}, h ≤ h' → Am n L h' (Am n L h r) = Am n L h' r
 | [], _, _, _ => rfl
 | s :: r, h, h', hh => by
  by_cases hd : h < L
  ·rw [Ki hd]
   by_cases hd' : h' < L
   ·rw [Ki hd', Ki hd', Ev (by omega)]
   ·rw [Kh hd', Kh hd']
  ·rw [Kh hd, Kh (r := s :: r) (show ¬ h' < L by omega)]; rfl
theorem Lg {n : Az} {L : Int} : ∀ {r : List AW} {h : Int}, Ma n L h r → Am n L h r = r
 | [], _, _ => rfl
 | s :: r, h, hb => by rw [Ki hb.1, Lg hb.2.2]
theorem OM {n : Az} {L h : Int} {r : List AW} {s : AW} (hs : s ∈ Am n L h r) : s ∈ r := by
 obtain ⟨k, _, e⟩ := JB n L r h
 rw [e] at hs
 exact List.mem_of_mem_take hs
theorem OL (n : Az) (L h : Int) (r : List AW) : (Am n L h r).length ≤ r.length := by
 obtain ⟨k, hk, e⟩ := JB n L r h
 rw [e, dq]; omega
theorem VN {n : Az} {u : AB} (hl : u.AF.length ≤ 201) (hs : ∀ s ∈ u.AF, DL n s) : ∀ (r : List AW) (i : Nat) (h : Int), u.AF.drop i = r → i ≤ u.AF.length → 0 ≤ h → h ≤ 10000000 * ((i : Int) + 1) →
  AP (I3 n u) (h, u.AF.take i, (i : Int)) = some { A5 := u.A5, AI := u.AI, AF := u.AF.take i ++ Am n u.AI h r } := by
 intro r
 induction r with
 | nil =>
  intro i h hr hi h0 h1
  have hi' : i = u.AF.length := by have := lb.1 hr; omega
  subst hi'
  rw [BK]
  unfold I3 N2 Am
  simp only [Cn, cond_false, gf, cu, ai, ab]
 | cons s r ih =>
  intro i h hr hi h0 h1
  obtain ⟨hlt, hy, hr2⟩ := Ol hr
  have hso := hs s (bh hy)
  obtain ⟨q, g1, g2, l1, l2⟩ := IJ hso
  rw [DQ]
  unfold Am
  have ht : u.AF.take (i + 1) = u.AF.take i ++ [s] := by
   rw [jx hlt]
   rw [aj hlt] at hy
   rw [an hy]
  cases hd : decide (h < u.AI) with
  | false =>
   have hge : decide (h ≥ u.AI) = true := by simp only [decide_eq_false_iff_not, decide_eq_true_eq] at hd ⊢; omega
   have hF : I3 n u (h, u.AF.take i, (i : Int)) = some (.inr { A5 := u.A5, AI := u.AI, AF := u.AF.take i }) := by
    unfold I3 N2
    simp only [D2 hlt, cond_true, AM, hy, ab, hge, ai]
   rw [hF]
   simp only [ab, lV, cond_false, cu]
  | true =>
   have hge : decide (h ≥ u.AI) = false := by simp only [decide_eq_false_iff_not, decide_eq_true_eq] at hd ⊢; omega
   have hap : JU 16 (u.AF.take i) [s] = some (u.AF.take (i + 1)) := by
    rw [K7 (by simp only [dw, dq]; omega), ht]
   have hF : I3 n u (h, u.AF.take i, (i : Int)) = some (.inl (h + Fy n s, u.AF.take (i + 1), ((i + 1 : Nat) : Int))) := by
    unfold I3
    simp only [D2 hlt, cond_true, AM, hy, ab, hge, cond_false, hap, g1, g2, B3 (show i < 9223372036854775807 by omega)]
    rw [BV (x := h + Fy n s) (by omega)]
   rw [hF]
   simp only [ab, lW]
   rw [ih (i + 1) (h + Fy n s) hr2 hlt (by omega) (by omega), cond_true, ht, bj]; rfl
structure ON (n : Az) (k : Nat) (q : A0) (A W g : Int) : Prop where
 hq : n.A3[k]? = some q
 l1 : 1 ≤ q.BN
 l2 : q.BN ≤ 10000000
 w : W = 1 ∨ W = -1
 a1 : 0 ≤ A
 a2 : A ≤ q.BN
 hg : GF q ⟨(k : Int), A, W⟩ = g
theorem ON.bd {n : Az} {k : Nat} {q : A0} {A W g : Int} (h : ON n k q A W g) : 0 ≤ g ∧ g ≤ q.BN := by
 have := Ng (p := q) (s := ⟨(k : Int), A, W⟩) h.a1 h.a2
 rw [h.hg] at this; exact this
theorem ON.at_ {n : Az} {k : Nat} {q : A0} {A W g : Int} (h : ON n k q A W g) : A = if W = 1 then g else q.BN - g := by
 have := h.hg
 unfold GF at this
 show _
 dsimp only at this
 split <;> rename_i h1 <;> (first | rw [if_pos h1] at this | rw [if_neg h1] at this) <;> omega
theorem ON.fwd {n : Az} {k : Nat} {q : A0} {A W g m : Int} (h : ON n k q A W g) (m0 : 0 ≤ m) (m1 : m ≤ q.BN - g) : ON n k q (AV (A + AV (m * W))) W (g + m) := by
 have hb := h.bd
 have ha := h.at_
 have l2 := h.l2
 have hn : AV (A + AV (m * W)) = if W = 1 then g + m else q.BN - (g + m) := by
  rcases h.w with rfl | rfl
  ·rw [if_pos rfl] at ha ⊢
   rw [BV (x := m * 1) (by omega), BV (by omega)]; omega
  ·rw [if_neg (show ¬ ((-1 : Int) = 1) by decide)] at ha ⊢
   rw [BV (x := m * -1) (by omega), BV (by omega)]; omega
 rw [hn]
 refine ⟨h.hq, h.l1, h.l2, h.w, ?_, ?_, ?_⟩
 ·split <;> omega
 ·split <;> omega
 ·unfold GF
  dsimp only
  split <;> omega
theorem UH {n : Az} {k : Nat} {q : A0} {A W g : Int} (h : ON n k q A W g) : aL n ⟨(k : Int), A, W⟩ = some (q.BN - g) := by
 have ha := h.at_
 have hb := h.bd
 have l2 := h.l2
 unfold aL
 simp only [AM, h.hq, ab]
 rcases h.w with rfl | rfl
 ·rw [if_pos rfl] at ha
  show some (AV (q.BN - A)) = _
  rw [BV (by omega), ha]
 ·rw [if_neg (show ¬ ((-1 : Int) = 1) by decide)] at ha
  show some A = _
  rw [ha]
theorem Kf {n : Az} {k : Nat} {q : A0} {A W g L : Int} {B : List AW} (h : ON n k q A W g) (hl : B.length ≤ 201) (hs : ∀ s ∈ B, DL n s) :
  ZV n { A5 := ⟨(k : Int), A, W⟩, AI := L, AF := B } = some { A5 := ⟨(k : Int), A, W⟩, AI := L, AF := Am n L g B } := by
 have hb := h.bd
 have l2 := h.l2
 unfold ZV
 rw [HY (s := ⟨(k : Int), A, W⟩) rfl h.hq h.l1 h.l2 h.a1 h.a2, ab, h.hg]
 have h0 : AP (I3 n { A5 := ⟨(k : Int), A, W⟩, AI := L, AF := B }) (g, B.take 0, ((0 : Nat) : Int)) = _ := VN (u := { A5 := ⟨(k : Int), A, W⟩, AI := L, AF := B }) hl hs B 0 g rfl (db _) hb.1 (by omega)
 exact h0
theorem RO {n : Az} {k : Nat} {q : A0} {A W g L : Int} {B : List AW} (h : ON n k q A W g) (hl : B.length ≤ 201) (hs : ∀ s ∈ B, DL n s) :
  ZX n { A5 := ⟨(k : Int), A, W⟩, AI := L, AF := B } = some { A5 := ⟨(k : Int), A, W⟩, AI := L, AF := Am n L g B } := by
 rw [ZN (u := { A5 := ⟨(k : Int), A, W⟩, AI := L, AF := B }) (k := k) (q := q) rfl h.hq h.l1 h.l2 h.a1 h.a2 hl hs]
 dsimp only
 rw [h.hg]
theorem SI {n : Az} (hg : BP n = true) {e : Ay} (he : Re n e = true) : ∃ (k : Nat) (q : A0) (A W : Int), cW n e = some ⟨(k : Int), A, W⟩ ∧ cZ n e = some ⟨(k : Int), A, W⟩ ∧ ON n k q A W 0 := by
 unfold Re at he
 simp only [av] at he
 rcases Dy hg e.A0 with h | ⟨k, q, hk, hq, l1, l2, _⟩
 ·rw [he.1.1, he.1.2] at h; cases h
 ·unfold cW cZ
  rw [hk]
  simp only [AM, hq, ab]
  cases e.B9 == (0 : Int) with
  | true => exact ⟨k, q, 0, 1, rfl, rfl, hq, l1, l2, .inl rfl, by omega, by omega, rfl⟩
  | false =>
   refine ⟨k, q, q.BN, -1, rfl, rfl, hq, l1, l2, .inr rfl, by omega, by omega, ?_⟩
   unfold GF
   rw [if_neg (show ¬ ((-1 : Int) = 1) by decide)]
   show q.BN - q.BN = 0
   omega
theorem V9 (p a b : Int) : Xc p a b = Xc p b a := by
 unfold Xc
 congr 2
 ·split <;> split <;> omega
 ·split <;> split <;> omega
theorem V8 {n : Az} {k : Nat} {q : A0} {A W g m : Int} (h : ON n k q A W g) (m0 : 0 ≤ m) (m1 : m ≤ q.BN - g) : ∃ c, ZW n (k : Int) W g (AV (g + m)) = some c ∧ Xc (k : Int) A (AV (A + AV (m * W))) = some c := by
 have hb := h.bd
 have l2 := h.l2
 have hf := h.fwd m0 m1
 have ha := h.at_
 have hfa := hf.at_
 have e1 := VL (n := n) (p := (k : Int)) (w := W) (along := g + m) (len := q.BN) (k := m) (by rw [AM, h.hq]) rfl h.w m0 (by omega) (by omega) l2
 rw [BV (x := g + m - m) (by omega), show g + m - m = g by omega] at e1
 have e2 := Us (p := (k : Int)) (w := W) (along := g + m) (len := q.BN) (k := m) h.w hfa m0 (by omega) (by omega) l2
 have e3 : AV (AV (A + AV (m * W)) - AV (m * W)) = A := by
  rcases h.w with rfl | rfl
  ·rw [if_pos rfl] at ha hfa
   rw [BV (x := m * 1) (by omega)] at hfa ⊢
   rw [hfa, BV (by omega)]; omega
  ·rw [if_neg (show ¬ ((-1 : Int) = 1) by decide)] at ha hfa
   rw [BV (x := m * -1) (by omega)] at hfa ⊢
   rw [hfa, BV (by omega)]; omega
 rw [e3, V9] at e2
 rw [BV (x := g + m) (by omega)]
 exact ⟨_, e1, e2⟩
theorem Z9 {n : Az} {k : Nat} {q : A0} {A W g m x L : Int} {B : List AW} {Ov : List BD} {c : BD} (h : ON n k q A W g) (m0 : 0 ≤ m) (m1 : m ≤ q.BN - g) (hl : B.length ≤ 201) (hs : ∀ s ∈ B, DL n s) (ho : Ov.length ≤ 10000) (x0 : 0 ≤ x) (x1 : x ≤ 10000)
  (hc : ZW n (k : Int) W g (AV (g + m)) = some c) :
  Mp n x (k : Int) A W L B Ov m = some (.inl (x + m, (k : Int), AV (A + AV (m * W)), W, L, Am n L (g + m) B, Ov ++ [c])) := by
 have hb := h.bd
 have l2 := h.l2
 unfold Mp
 rw [HY (s := ⟨(k : Int), A, W⟩) rfl h.hq h.l1 h.l2 h.a1 h.a2, ab, h.hg, hc, ab, K7 (by simp only [dw]; omega), ab, Kf (h.fwd m0 m1) hl hs, ab, BV (x := x + m) (by omega)]
theorem VK {n : Az} {l : List Int} {far : Int} {k : Nat} {q : A0} {A W g m x L : Int} {B : List AW} {Ov : List BD} {c : BD} (h : ON n k q A W g) (hm : (if far - x < q.BN - g then far - x else q.BN - g) = m) (mp : 0 < m) (hl : B.length ≤ 201) (hs : ∀ s ∈ B, DL n s) (ho : Ov.length ≤ 10000) (x0 : 0 ≤ x) (x1 : x < far) (x2 : far ≤ 10000)
  (hc : ZW n (k : Int) W g (AV (g + m)) = some c) :
  G7 n l far (x, (k : Int), A, W, L, B, Ov) = some (.inl (x + m, (k : Int), AV (A + AV (m * W)), W, L, Am n L (g + m) B, Ov ++ [c])) := by
 have hb := h.bd
 have l2 := h.l2
 have m1 : m ≤ q.BN - g := by subst hm; split <;> omega
 have hk3 := Z9 (L := L) h (by omega) m1 hl hs ho x0 (by omega) hc
 have hne : (q.BN - g == 0) = false := by simp only [beq_eq_false_iff_ne]; omega
 unfold G7
 simp only [decide_eq_true x1, cond_true, UH h, ab, hne, cond_false]
 rw [BV (x := far - x) (by omega)]
 by_cases hd : far - x < q.BN - g
 ·rw [if_pos hd] at hm
  rw [show decide (q.BN - g > far - x) = true from decide_eq_true hd, cond_true, hm, hk3]
 ·rw [if_neg hd] at hm
  rw [show decide (q.BN - g > far - x) = false from decide_eq_false hd, cond_false, hm, hk3]
theorem Qd {n : Az} {k : Nat} {q : A0} {A W g L co x j : Int} {B : List AW} {Ov : List BD} (h : ON n k q A W g) (hl : B.length ≤ 201) (hs : ∀ s ∈ B, DL n s) :
  Il n co x j (k : Int) A W L B Ov = some ⟨co, x, j, ⟨⟨(k : Int), A, W⟩, L, Am n L g B⟩, Ov⟩ := by
 unfold Il
 rw [Kf h hl hs, ab]
theorem TA {n : Az} {l : List Int} {far : Int} {k : Nat} {q : A0} {A W g x L : Int} {B : List AW} {Ov : List BD} {r : Ay × Int × Int} (h : ON n k q A W g) (h0 : q.BN - g = 0) (x1 : x < far) (hr : Xb n l (DI (k : Int) W) = some r) :
  G7 n l far (x, (k : Int), A, W, L, B, Ov) = bif (r.2.1 != (0:Int)) then ((Il n r.2.1 x r.2.2 (k : Int) A W L B Ov).map Sum.inr) else ((cW n r.1).bind fun v => ((JU 16 ([({ A0 := (k : Int), Way := W } : AW)] : List AW) B).bind fun z => ((eU n ({ A5 := v, AI := L, AF := z } : AB)).bind fun v56 => (bif decide (v56 > (200:Int)) then ((Il n (6:Int) x r.2.2 (k : Int) A W L B Ov).map Sum.inr) else some (.inl (x, v.A0, v.At, v.Way, L, z, Ov)))))) := by
 unfold G7
 simp only [decide_eq_true x1, cond_true, UH h, ab, h0, beq_self_eq_true, QJ, hr]
theorem Ys {n : Az} {l : List Int} {t : AB} {far : Int} {k : Nat} {q : A0} {A W g m x : Int} {B : List AW} {Ov : List BD} (h : ON n k q A W g) (hm : (if far - x < q.BN - g then far - x else q.BN - g) = m) (hl : B.length ≤ 201) (hs : ∀ s ∈ B, DL n s) (x0 : 0 ≤ x) (x1 : x ≤ far) (x2 : far ≤ 10000) :
  Kz n l t far x (k : Int) A W t.AI q g B Ov = bif (x + m == far) then some (.inr ⟨0, x + m, -1, ⟨⟨(k : Int), AV (A + AV (m * W)), W⟩, t.AI, Am n t.AI (g + m) B⟩, Ov⟩) else ((aV n l (DI (k : Int) W)).bind fun v => bif (v.2.1 != (0:Int)) then some (.inr ⟨v.2.1, x + m, v.2.2, ⟨⟨(k : Int), AV (A + AV (m * W)), W⟩, t.AI, Am n t.AI (g + m) B⟩, Ov⟩) else ((cZ n v.1).bind fun e => ((JU 16 ([({ A0 := (k : Int), Way := W } : AW)] : List AW) (Am n t.AI (g + m) B)).bind fun z => ((ZX n ({ A5 := ({ A0 := e.Fj, At := e.VX, Way := e.Ld } : CG), AI := t.AI, AF := z } : AB)).bind fun u => (bif decide ((u.AF.length : Int) > (200:Int)) then some (.inr ⟨6, x + m, v.2.2, ⟨⟨(k : Int), AV (A + AV (m * W)), W⟩, t.AI, Am n t.AI (g + m) B⟩, Ov⟩) else some (.inl (x + m, u.A5.A0, u.A5.At, u.A5.Way, u.AI, u.AF, Ov))))))) := by
 have hb := h.bd
 have l2 := h.l2
 have m01 : 0 ≤ m ∧ m ≤ q.BN - g ∧ m ≤ far - x := by subst hm; split <;> omega
 unfold Kz
 rw [BV (x := far - x) (by omega), BV (x := q.BN - g) (by omega)]
 simp only [hm]
 rw [RO (h.fwd m01.1 m01.2.1) hl hs, BV (x := x + m) (by omega)]
 simp only [ab, LB, ai]
theorem Yr {n : Az} {l : List Int} {t : AB} {far : Int} {k : Nat} {q : A0} {A W g m x : Int} {B : List AW} {Ov : List BD} {c : BD} (h : ON n k q A W g) (hm : (if far - x < q.BN - g then far - x else q.BN - g) = m) (ho : Ov.length ≤ 10000) (x0 : 0 ≤ x) (x1 : x ≤ far) (x2 : far ≤ 10000)
  (hc : Xc (k : Int) A (AV (A + AV (m * W))) = some c) :
  Jm n l t far (x, (k : Int), A, W, t.AI, B, Ov) = Kz n l t far x (k : Int) A W t.AI q g B (bif decide (m > 0) then Ov ++ [c] else Ov) := by
 have hb := h.bd
 have l2 := h.l2
 unfold Jm
 simp only [AM, h.hq, ab]
 rw [QH (s := ⟨(k : Int), A, W⟩) rfl h.hq h.l1 h.l2 h.a1 h.a2, ab, h.hg, BV (x := far - x) (by omega), BV (x := q.BN - g) (by omega), hm, hc, ab, K7 (by simp only [dw]; omega), ab]
 cases decide (m > 0) <;> rfl
theorem P7 {n : Az} {l : List Int} {t : AB} {far : Int} (hs : CS n) (hg : BP n = true) (hll : H5 n l = true) (f1 : far ≤ 10000) {k : Nat} {q : A0} {A W g x : Int} {Bs Bi : List AW} {Ov : List BD}
  (h : ON n k q A W g) (b1 : Bs.length ≤ 201) (b2 : Bi.length ≤ 201) (s1 : ∀ s ∈ Bs, DL n s) (s2 : ∀ s ∈ Bi, DL n s) (hrel : Am n t.AI g Bs = Am n t.AI g Bi) (h200 : (Am n t.AI g Bs).length ≤ 200) (htr : q.BN - g = 0 → Am n t.AI g Bs = Bs) (x0 : 0 ≤ x) (hx : x < far ∨ x = far ∧ far = 0) (ho : (Ov.length : Int) ≤ x)
  (ih : ∀ (x' : Int) (k' : Nat) (q' : A0) (A' W' : Int) (B' : List AW) (Ov' : List BD), 2 * (far - x') + 1 ≤ 2 * (far - x) + (if q.BN - g = 0 then 1 else 0) ∧ x' < far → ON n k' q' A' W' 0 → B'.length ≤ 201 → (∀ s ∈ B', DL n s) → (Am n t.AI 0 B').length ≤ 200 → 0 ≤ x' → x' < far → (Ov'.length : Int) ≤ x' →
   ∃ r, AP (G7 n l far) (x', (k' : Int), A', W', t.AI, B', Ov') = some r ∧ AP (Jm n l t far) (x', (k' : Int), A', W', t.AI, Am n t.AI 0 B', Ov') = some r ∧ ES r) :
  ∃ r, AP (G7 n l far) (x, (k : Int), A, W, t.AI, Bs, Ov) = some r ∧ AP (Jm n l t far) (x, (k : Int), A, W, t.AI, Bi, Ov) = some r ∧ ES r := by
 have hb := h.bd
 have l1 := h.l1
 have l2 := h.l2
 generalize hm : (if far - x < q.BN - g then far - x else q.BN - g) = m
 have m01 : 0 ≤ m ∧ m ≤ q.BN - g ∧ m ≤ far - x := by subst hm; split <;> omega
 have hf := h.fwd m01.1 m01.2.1
 obtain ⟨c, hc1, hc2⟩ := V8 h m01.1 m01.2.1
 have ho' : Ov.length ≤ 10000 := by omega
 have eT : Am n t.AI (g + m) Bi = Am n t.AI (g + m) Bs := by
  rw [← Ev (r := Bi) (show g ≤ g + m by omega), ← hrel, Ev (show g ≤ g + m by omega)]
 have tl : (Am n t.AI (g + m) Bs).length ≤ 200 := by
  rw [← Ev (r := Bs) (show g ≤ g + m by omega)]
  have := OL n t.AI (g + m) (Am n t.AI g Bs)
  omega
 have ts : ∀ s ∈ Am n t.AI (g + m) Bs, DL n s := fun s hs' => s1 s (OM hs')
 generalize hOv : (bif decide (m > 0) then Ov ++ [c] else Ov) = Ov'
 have hoL : (Ov'.length : Int) ≤ x + m := by
  subst hOv
  cases hd : decide (m > 0) with
  | true => simp only [decide_eq_true_eq] at hd; simp only [cond_true, List.length_append, dw]; omega
  | false => simp only [cond_false]; omega
 have hS : ∃ B', AP (G7 n l far) (x, (k : Int), A, W, t.AI, Bs, Ov) = AP (G7 n l far) (x + m, (k : Int), AV (A + AV (m * W)), W, t.AI, B', Ov') ∧ Am n t.AI (g + m) B' = Am n t.AI (g + m) Bs ∧ (x + m < far → B' = Am n t.AI (g + m) Bs) ∧ B'.length ≤ 201 ∧ ∀ s ∈ B', DL n s := by
  by_cases mp : 0 < m
  ·have hv := VK (l := l) h hm mp b1 s1 ho' x0 (by omega) f1 hc1 (L := t.AI)
   refine ⟨Am n t.AI (g + m) Bs, ?_, Ev (lg _), fun _ => rfl, by omega, ts⟩
   rw [DQ, hv]
   subst hOv
   rw [decide_eq_true (show m > 0 from mp)]
   rfl
  ·have m0 : m = 0 := by omega
   have hA : AV (A + AV (m * W)) = A := by
    have e1 := h.at_
    have e2 := hf.at_
    rw [e2, m0, lX, ← e1]
   refine ⟨Bs, ?_, rfl, fun hlt => ?_, b1, s1⟩
   ·rw [hA, m0, lX]
    subst hOv
    rw [decide_eq_false (show ¬ m > 0 from mp)]
    rfl
   ·have h0 : q.BN - g = 0 := by subst hm; split at m0 <;> omega
    rw [m0, lX, htr h0]
 obtain ⟨B', hS, t1, t2, t3, t4⟩ := hS
 have hI := Yr (l := l) (t := t) (B := Bi) (Ov := Ov) h hm ho' x0 (by omega) f1 hc2
 rw [hOv, Ys h hm b2 s2 x0 (by omega) f1, eT] at hI
 rw [hS]
 by_cases hend : x + m = far
 ·refine ⟨⟨0, x + m, -1, ⟨⟨(k : Int), AV (A + AV (m * W)), W⟩, t.AI, Am n t.AI (g + m) Bs⟩, Ov'⟩, ?_, ?_, ?_⟩
  ·rw [DQ]
   unfold G7
   simp only [show decide (x + m < far) = false from decide_eq_false (by omega), cond_false]
   rw [Qd hf t3 t4, t1]
   rfl
  ·rw [DQ, hI, hend]
   simp only [beq_self_eq_true, cond_true, ab, lV]
  ·exact ⟨⟨by show (Am n t.AI (g + m) Bs).length ≤ _; omega, fun _ _ => trivial⟩, by show Ov'.length ≤ _; omega, fun _ _ => trivial⟩
 ·have hlt : x + m < far := by omega
  have hB := t2 hlt
  subst hB
  have hr0 : q.BN - (g + m) = 0 := by subst hm; split at hlt <;> omega
  have hne : (x + m == far) = false := by simp only [beq_eq_false_iff_ne]; omega
  have hkl : k < n.A3.length := (List.getElem?_eq_some_iff.1 h.hq).1
  obtain ⟨r, p, e1, e2, e3, e4, e5⟩ := Mi hs hg hll hkl W
  have hX := TA (l := l) (far := far) (L := t.AI) (B := Am n t.AI (g + m) Bs) (Ov := Ov') hf hr0 hlt e1
  rw [hne, cond_false, e2, ab, ← e3, ← e4] at hI
  have hsm : ∀ (a b : Int), ES ⟨a, x + m, b, ⟨⟨(k : Int), AV (A + AV (m * W)), W⟩, t.AI, Am n t.AI (g + m) Bs⟩, Ov'⟩ := fun a b => ⟨⟨by show (Am n t.AI (g + m) Bs).length ≤ _; omega, fun _ _ => trivial⟩, by show Ov'.length ≤ _; omega, fun _ _ => trivial⟩
  rw [DQ, hX, DQ, hI]
  by_cases hcode : r.2.1 = 0
  ·have hne2 : (r.2.1 != (0:Int)) = false := by rw [hcode]; rfl
   have hok := Vk hs hg hll hkl W e1 hcode
   obtain ⟨k', q', A', W', g1, g2, h'⟩ := SI hg hok
   rw [← e5 hcode]
   simp only [hne2, cond_false, g1, g2, ab]
   rw [K7 (by simp only [dw]; omega)]
   simp only [ab, List.singleton_append]
   have hl2 : (({ A0 := (k : Int), Way := W } : AW) :: Am n t.AI (g + m) Bs).length ≤ 201 := by simp only [du]; omega
   have hs2 : ∀ s ∈ ({ A0 := (k : Int), Way := W } : AW) :: Am n t.AI (g + m) Bs, DL n s := fun s hs' => by
    rcases bw.1 hs' with rfl | hs'
    ·exact ⟨k, q, rfl, h.hq, h.l1, h.l2, h.w⟩
    ·exact ts s hs'
   unfold eU
   rw [Kf h' hl2 hs2, RO h' hl2 hs2]
   simp only [ab]
   cases hd : decide (((Am n t.AI 0 (({ A0 := (k : Int), Way := W } : AW) :: Am n t.AI (g + m) Bs)).length : Int) > 200) with
   | true =>
    simp only [cond_true]
    rw [Qd hf t3 t4, t1]
    exact ⟨_, rfl, rfl, hsm _ _⟩
   | false =>
    simp only [cond_false, ab, lW]
    simp only [decide_eq_false_iff_not] at hd
    refine ih (x + m) k' q' A' W' _ Ov' ⟨?_, hlt⟩ h' hl2 hs2 (by omega) (by omega) hlt hoL
    by_cases hz : q.BN - g = 0
    ·rw [if_pos hz]; omega
    ·rw [if_neg hz]; omega
  ·have hne2 : (r.2.1 != (0:Int)) = true := by simp only [bne_iff_ne]; exact hcode
   simp only [hne2, cond_true]
   rw [Qd hf t3 t4, t1]
   exact ⟨_, rfl, rfl, hsm _ _⟩
theorem Wh {n : Az} {l : List Int} {t : AB} {far : Int} (hs : CS n) (hg : BP n = true) (hll : H5 n l = true) (f1 : far ≤ 10000) : ∀ (N : Nat) (k : Nat) (q : A0) (A W g x : Int) (Bs Bi : List AW) (Ov : List BD),
  ON n k q A W g → Bs.length ≤ 201 → Bi.length ≤ 201 → (∀ s ∈ Bs, DL n s) → (∀ s ∈ Bi, DL n s) → Am n t.AI g Bs = Am n t.AI g Bi → (Am n t.AI g Bs).length ≤ 200 → (q.BN - g = 0 → Am n t.AI g Bs = Bs) → 0 ≤ x → (x < far ∨ x = far ∧ far = 0) → (Ov.length : Int) ≤ x → 2 * (far - x) + (if q.BN - g = 0 then 1 else 0) ≤ (N : Int) →
  ∃ r, AP (G7 n l far) (x, (k : Int), A, W, t.AI, Bs, Ov) = some r ∧ AP (Jm n l t far) (x, (k : Int), A, W, t.AI, Bi, Ov) = some r ∧ ES r := by
 intro N
 induction N with
 | zero =>
  intro k q A W g x Bs Bi Ov h b1 b2 s1 s2 hrel h200 htr x0 hx ho hN
  exact P7 hs hg hll f1 h b1 b2 s1 s2 hrel h200 htr x0 hx ho fun x' k' q' A' W' B' Ov' hlt => by
   exfalso
   have : (0 : Int) ≤ if q.BN - g = 0 then 1 else 0 := by split <;> omega
   omega
 | succ N ih =>
  intro k q A W g x Bs Bi Ov h b1 b2 s1 s2 hrel h200 htr x0 hx ho hN
  exact P7 hs hg hll f1 h b1 b2 s1 s2 hrel h200 htr x0 hx ho fun x' k' q' A' W' B' Ov' hlt h' hb hsB h2 hx0 hxf hov => by
   have l1 := h'.l1
   refine ih k' q' A' W' 0 x' B' (Am n t.AI 0 B') Ov' h' hb (by have := OL n t.AI 0 B'; omega) hsB (fun s hs' => hsB s (OM hs')) (Ev (lg 0)).symm h2 (fun h0 => by omega) hx0 (.inl hxf) hov ?_
   rw [if_neg (by omega)]
   omega
theorem gI {n : Az} {l : List Int} {t : AB} {far : Int} (hx : Ef n) (hl : FM F7 l) (ht : KH t) (hfar : F7 far) (hs : CS n) (hls : Jc (fun _ => True) l) (hts : HG t) : ∃ r, f6 n l t far = some r ∧ cQ n l t far = some r ∧ ES r := by
 have nil : ∃ r : BF, some (⟨5, 0, 0, ⟨⟨0, 0, 0⟩, 0, []⟩, []⟩ : BF) = some r ∧ some (⟨5, 0, 0, ⟨⟨0, 0, 0⟩, 0, []⟩, []⟩ : BF) = some r ∧ ES r := ⟨_, rfl, rfl, ⟨by simp, fun _ _ => trivial⟩, by simp, fun _ _ => trivial⟩
 unfold f6 iS cQ
 rw [Rq hx hs hls.1, RL hx hs hls.1]
 cases hg : BP n with
 | false => exact nil
 | true =>
  cases hll : H5 n l with
  | false => exact nil
  | true =>
   obtain ⟨r1, h1, h2⟩ := TN (t := t) hs hg
   simp only [Bool.and_self, ab, cz, cond_false, cond_true, h1, h2, GM, show ∀ x a b, XZ x a b = some (decide (x ≥ a) && decide (x ≤ b)) from fun _ _ _ => rfl]
   cases r1 with
   | false => exact nil
   | true =>
    cases hfr : (decide (far ≥ 0) && decide (far ≤ 10000)) with
    | false => exact nil
    | true =>
     simp only [av, decide_eq_true_eq] at hfr
     simp only [cz, ab, cond_false, cond_true]
     obtain ⟨f⟩ := Rx hs hg h1
     obtain ⟨⟨P, A, W⟩, L, B⟩ := t
     obtain ⟨k, p, hk, hp, l1, l2, kU, a1, a2, hb, _, _, back⟩ := f
     have hso := Mb back
     have hT := Lg back
     dsimp only at hk hb hT hso kU a1 a2
     subst hk
     have h : ON n k p A W (GF p ⟨(k : Int), A, W⟩) := ⟨hp, l1, l2, kU, a1, a2, rfl⟩
     obtain ⟨r, h3, h4⟩ := VH hs hg hll h1
     unfold iT iU
     rw [Kf h (by omega) hso, hT, ab, h3, K7 (by simp only [gv]; omega), ab]
     simp only [ff, ab]
     rw [h4]
     cases r with
     | false => exact ⟨_, rfl, rfl, hts, by simp, fun _ _ => trivial⟩
     | true =>
      obtain ⟨r, m1, m2, m3⟩ := Wh (t := ⟨⟨(k : Int), A, W⟩, L, B⟩) hs hg hll hfr.2 (2 * far.toNat + 1) k p A W _ 0 B B [] h (by omega) (by omega) hso hso rfl (by rw [hT]; exact hb) (fun _ => hT) (lg _) (by omega) (by simp) (by split <;> omega)
      simp only [cz, ab, cond_false]
      rw [m1, m2]
      exact ⟨_, rfl, rfl, m3⟩
def O1 (x : A0) (k : Int) : A0 := { Name := U3 k, BN := k + 1, Bv := k + 1 + 1, CX := k + 1 + 1 + 1 }
def DX (x : A0) : Nat := 1 + (1 + (1 + (1)))
def Sp (x : Ay) (k : Int) : Ay := { A0 := k, B9 := k + 1 }
def FV (x : Ay) : Nat := 1 + (1)
def O0 (x : AO) (k : Int) : AO := { Kind := k, Name := U3 (k + 1), Ends := Bp Sp FV x.Ends (k + 1 + 1) }
def Dr (x : AO) : Nat := 1 + (1 + (CN FV x.Ends))
def bP (x : Az) (k : Int) : Az := { A3 := Bp O1 DX x.A3 k, A1 := Bp O0 Dr x.A1 (k + ((CN DX x.A3 : Nat) : Int)) }
def FX (x : Az) : Nat := CN DX x.A3 + (CN Dr x.A1)
theorem W7 {x : List A0} {k : Int} (hx : (Jc (fun _ => True)) x) (h0 : 0 ≤ k) (hb : k + ((CN DX x : Nat) : Int) ≤ 4611686018427387904) : eK x k = some (Bp O1 DX x k, k + ((CN DX x : Nat) : Int)) := by
 have hl := hx.1
 unfold eK
 refine Fc (F := Mx) (fun xs k i => (xs, k, i)) O1 DX (fun _ => True) x.length (fun pre y post k hp h0 hb hn => ?_) (fun ys k hn => ?_) x [] k hx.2 h0 hb rfl
 ·have hlen := JL hn
  have hb' : k + ((1 + (1 + (1 + (1))) : Nat) : Int) ≤ 4611686018427387904 := hb
  unfold Mx
  simp (disch := omega) only [LC, cond_true, Hk, JR, ab, JC, ZZ]
  rw [show k + ((DX y : Nat) : Int) = k + 1 + 1 + 1 + 1 from by show k + ((1 + (1 + (1 + (1))) : Nat) : Int) = _; omega]
  rfl
 ·unfold Mx
  simp only [← hn, Cn, cond_false, ai]
theorem WD {x : List Ay} {k : Int} (hx : (Jc (fun _ => True)) x) (h0 : 0 ≤ k) (hb : k + ((CN FV x : Nat) : Int) ≤ 4611686018427387904) : fJ x k = some (Bp Sp FV x k, k + ((CN FV x : Nat) : Int)) := by
 have hl := hx.1
 unfold fJ
 refine Fc (F := N6) (fun xs k i => (xs, k, i)) Sp FV (fun _ => True) x.length (fun pre y post k hp h0 hb hn => ?_) (fun ys k hn => ?_) x [] k hx.2 h0 hb rfl
 ·have hlen := JL hn
  have hb' : k + ((1 + (1) : Nat) : Int) ≤ 4611686018427387904 := hb
  unfold N6
  simp (disch := omega) only [LC, cond_true, Hk, JR, ab, JC]
  rw [show k + ((FV y : Nat) : Int) = k + 1 + 1 from by show k + ((1 + (1) : Nat) : Int) = _; omega]
  rfl
 ·unfold N6
  simp only [← hn, Cn, cond_false, ai]
theorem W8 {x : List AO} {k : Int} (hx : (Jc EX) x) (h0 : 0 ≤ k) (hb : k + ((CN Dr x : Nat) : Int) ≤ 4611686018427387904) : eL x k = some (Bp O0 Dr x k, k + ((CN Dr x : Nat) : Int)) := by
 have hl := hx.1
 unfold eL
 refine Fc (F := My) (fun xs k i => (xs, k, i)) O0 Dr EX x.length (fun pre y post k hp h0 hb hn => ?_) (fun ys k hn => ?_) x [] k hx.2 h0 hb rfl
 ·have hlen := JL hn
  have hb' : k + ((1 + (1 + (CN FV y.Ends)) : Nat) : Int) ≤ 4611686018427387904 := hb
  unfold My
  simp (disch := omega) only [LC, cond_true, Hk, JR, ab, JC, ZZ, WD (x := y.Ends) hp]
  rw [show k + ((Dr y : Nat) : Int) = k + 1 + 1 + ((CN FV y.Ends : Nat) : Int) from by show k + ((1 + (1 + (CN FV y.Ends)) : Nat) : Int) = _; omega]
  rfl
 ·unfold My
  simp only [← hn, Cn, cond_false, ai]
theorem W3 {x : Az} {k : Int} (hx : CS x) (h0 : 0 ≤ k) (hb : k + ((FX x : Nat) : Int) ≤ 4611686018427387904) : dX x k = some (bP x k, k + ((FX x : Nat) : Int)) := by
 unfold FX at hb
 unfold dX
 rw [W7 (x := x.A3) (k := k) hx.1 (by omega) (by omega), ab]
 dsimp only
 rw [W8 (x := x.A1) (k := k + ((CN DX x.A3 : Nat) : Int)) hx.2 (by omega) (by omega), ab]
 dsimp only
 rw [show k + ((FX x : Nat) : Int) = k + ((CN DX x.A3 : Nat) : Int) + ((CN Dr x.A1 : Nat) : Int) from by unfold FX; omega]
 rfl
theorem R2 (x : A0) (hx : (fun _ => True) x) : DX x ≤ 4 := by
 unfold DX
 omega
theorem Ua (x : Ay) (hx : (fun _ => True) x) : FV x ≤ 2 := by
 unfold FV
 omega
theorem R1 (x : AO) (hx : EX x) : Dr x ≤ 2097154 := by
 unfold Dr
 have h0 : (CN FV) x.Ends ≤ 2097152 := by
  have h := (fun _ hx => JD (p := (fun _ => True)) Ua hx.1 hx.2) x.Ends hx
  exact h
 omega
theorem Ud (x : Az) (hx : CS x) : FX x ≤ 2199029547008 := by
 unfold FX
 have h0 : (CN DX) x.A3 ≤ 4194304 := by
  have h := (fun _ hx => JD (p := (fun _ => True)) R2 hx.1 hx.2) x.A3 hx.1
  exact h
 have h1 : (CN Dr) x.A1 ≤ 2199025352704 := by
  have h := (fun _ hx => JD (p := EX) R1 hx.1 hx.2) x.A1 hx.2
  exact h
 omega
theorem W4 {x : List Int} {k : Int} (hx : (Jc (fun _ => True)) x) (h0 : 0 ≤ k) (hb : k + ((CN (fun _ => 1) x : Nat) : Int) ≤ 4611686018427387904) : dY x k = some (Bp kX (fun _ => 1) x k, k + ((CN (fun _ => 1) x : Nat) : Int)) := by
 have hl := hx.1
 unfold dY
 refine Fc (F := Mo) (fun xs k i => (xs, k, i)) kX (fun _ => 1) (fun _ => True) x.length (fun pre y post k hp h0 hb hn => ?_) (fun ys k hn => ?_) x [] k hx.2 h0 hb rfl
 ·have hlen := JL hn
  have hb' : k + ((1 : Nat) : Int) ≤ 4611686018427387904 := hb
  unfold Mo
  simp (disch := omega) only [LC, cond_true, Hk, JR, ab, JC]
  rw [show k + (((fun _ => 1) y : Nat) : Int) = k + 1 from by show k + ((1 : Nat) : Int) = _; omega]
  rfl
 ·unfold Mo
  simp only [← hn, Cn, cond_false, ai]
def H7 (x : AW) (k : Int) : AW := { A0 := k, Way := k + 1 }
def Cr (x : AW) : Nat := 1 + (1)
def KW (x : AB) (k : Int) : AB := { A5 := x.A5, AI := x.AI, AF := Bp H7 Cr x.AF k }
def Bx (x : AB) : Nat := CN Cr x.AF
theorem W9 {x : List AW} {k : Int} (hx : (Jc (fun _ => True)) x) (h0 : 0 ≤ k) (hb : k + ((CN Cr x : Nat) : Int) ≤ 4611686018427387904) : eM x k = some (Bp H7 Cr x k, k + ((CN Cr x : Nat) : Int)) := by
 have hl := hx.1
 unfold eM
 refine Fc (F := Mz) (fun xs k i => (xs, k, i)) H7 Cr (fun _ => True) x.length (fun pre y post k hp h0 hb hn => ?_) (fun ys k hn => ?_) x [] k hx.2 h0 hb rfl
 ·have hlen := JL hn
  have hb' : k + ((1 + (1) : Nat) : Int) ≤ 4611686018427387904 := hb
  unfold Mz
  simp (disch := omega) only [LC, cond_true, Hk, JR, ab, JC]
  rw [show k + ((Cr y : Nat) : Int) = k + 1 + 1 from by show k + ((1 + (1) : Nat) : Int) = _; omega]
  rfl
 ·unfold Mz
  simp only [← hn, Cn, cond_false, ai]
theorem R8 {x : AB} {k : Int} (hx : HG x) (h0 : 0 ≤ k) (hb : k + ((Bx x : Nat) : Int) ≤ 4611686018427387904) : cS x k = some (KW x k, k + ((Bx x : Nat) : Int)) := by
 unfold Bx at hb
 unfold cS
 rw [W9 (x := x.AF) (k := k) hx (by omega) (by omega), ab]
 dsimp only
 rw [show k + ((Bx x : Nat) : Int) = k + ((CN Cr x.AF : Nat) : Int) from by unfold Bx; omega]
 rfl
theorem SG (x : AW) (hx : (fun _ => True) x) : Cr x ≤ 2 := by
 unfold Cr
 omega
theorem Lh (x : AB) (hx : HG x) : Bx x ≤ 2097152 := by
 unfold Bx
 have h0 : (CN Cr) x.AF ≤ 2097152 := by
  have h := (fun _ hx => JD (p := (fun _ => True)) SG hx.1 hx.2) x.AF hx
  exact h
 omega
def H6 (x : BD) (k : Int) : BD := { A0 := k, GV := k + 1, To := k + 1 + 1 }
def Cq (x : BD) : Nat := 1 + (1 + (1))
def LH (x : BF) (k : Int) : BF := { Code := x.Code, MT := x.MT, AO := x.AO, AB := KW x.AB k, Dp := Bp H6 Cq x.Dp (k + ((Bx x.AB : Nat) : Int)) }
def Ce (x : BF) : Nat := Bx x.AB + (CN Cq x.Dp)
theorem WA {x : List BD} {k : Int} (hx : (Jc (fun _ => True)) x) (h0 : 0 ≤ k) (hb : k + ((CN Cq x : Nat) : Int) ≤ 4611686018427387904) : eN x k = some (Bp H6 Cq x k, k + ((CN Cq x : Nat) : Int)) := by
 have hl := hx.1
 unfold eN
 refine Fc (F := N0) (fun xs k i => (xs, k, i)) H6 Cq (fun _ => True) x.length (fun pre y post k hp h0 hb hn => ?_) (fun ys k hn => ?_) x [] k hx.2 h0 hb rfl
 ·have hlen := JL hn
  have hb' : k + ((1 + (1 + (1)) : Nat) : Int) ≤ 4611686018427387904 := hb
  unfold N0
  simp (disch := omega) only [LC, cond_true, Hk, JR, ab, JC]
  rw [show k + ((Cq y : Nat) : Int) = k + 1 + 1 + 1 from by show k + ((1 + (1 + (1)) : Nat) : Int) = _; omega]
  rfl
 ·unfold N0
  simp only [← hn, Cn, cond_false, ai]
theorem W5 {x : BF} {k : Int} (hx : ES x) (h0 : 0 ≤ k) (hb : k + ((Ce x : Nat) : Int) ≤ 4611686018427387904) : dZ x k = some (LH x k, k + ((Ce x : Nat) : Int)) := by
 unfold Ce at hb
 unfold dZ
 rw [R8 (x := x.AB) (k := k) hx.1 (by omega) (by omega), ab]
 dsimp only
 rw [WA (x := x.Dp) (k := k + ((Bx x.AB : Nat) : Int)) hx.2 (by omega) (by omega), ab]
 dsimp only
 rw [show k + ((Ce x : Nat) : Int) = k + ((Bx x.AB : Nat) : Int) + ((CN Cq x.Dp : Nat) : Int) from by unfold Ce; omega]
 rfl
theorem SF (x : BD) (hx : (fun _ => True) x) : Cq x ≤ 3 := by
 unfold Cq
 omega
theorem Pb (x : BF) (hx : ES x) : Ce x ≤ 5242880 := by
 unfold Ce
 have h0 : Bx x.AB ≤ 2097152 := by
  have h := Lh x.AB hx.1
  exact h
 have h1 : (CN Cq) x.Dp ≤ 3145728 := by
  have h := (fun _ hx => JD (p := (fun _ => True)) SF hx.1 hx.2) x.Dp hx.2
  exact h
 omega
theorem WE {x : List AW} {k : Int} (hx : (Jc (fun _ => True)) x) (h0 : 0 ≤ k) (hb : k + ((CN Cr x : Nat) : Int) ≤ 4611686018427387904) : fK (Bp H7 Cr x k) k = some (k + ((CN Cr x : Nat) : Int)) := by
 have hl := hx.1
 unfold fK
 refine L6 (F := N7 (Bp H7 Cr x k)) (fun k i => (k, i)) H7 Cr (fun _ => True) (Bp H7 Cr x k) (fun i y k hp h0 hb hy => ?_) (fun k2 => ?_) x [] k rfl hx.2 h0 hb
 ·have hlen := BJ hy
  have hlt := D2 hlen
  rw [Iw] at hlen
  have hb' : k + ((1 + (1) : Nat) : Int) ≤ 4611686018427387904 := hb
  unfold N7
  simp (disch := omega) only [hlt, cond_true, AM, hy, ab, H7, bne_self_eq_false, beq_self_eq_true, cz, cond_false, JC, Yx]
  rw [show k + ((Cr y : Nat) : Int) = k + 1 + 1 from by show k + ((1 + (1) : Nat) : Int) = _; omega]
  rfl
 ·unfold N7
  simp only [Cn, cond_false, ai]
theorem WB {x : AB} {k : Int} (hx : HG x) (h0 : 0 ≤ k) (hb : k + ((Bx x : Nat) : Int) ≤ 4611686018427387904) : eO (KW x k) k = some (k + ((Bx x : Nat) : Int)) := by
 unfold Bx at hb
 unfold eO KW
 dsimp only
 rw [WE (x := x.AF) (k := k) hx (by omega) (by omega), ab, Yx (by omega), cond_false]
 rw [show k + ((Bx x : Nat) : Int) = k + ((CN Cr x.AF : Nat) : Int) from by unfold Bx; omega]
theorem WC {x : List BD} {k : Int} (hx : (Jc (fun _ => True)) x) (h0 : 0 ≤ k) (hb : k + ((CN Cq x : Nat) : Int) ≤ 4611686018427387904) : eP (Bp H6 Cq x k) k = some (k + ((CN Cq x : Nat) : Int)) := by
 have hl := hx.1
 unfold eP
 refine L6 (F := N1 (Bp H6 Cq x k)) (fun k i => (k, i)) H6 Cq (fun _ => True) (Bp H6 Cq x k) (fun i y k hp h0 hb hy => ?_) (fun k2 => ?_) x [] k rfl hx.2 h0 hb
 ·have hlen := BJ hy
  have hlt := D2 hlen
  rw [Iw] at hlen
  have hb' : k + ((1 + (1 + (1)) : Nat) : Int) ≤ 4611686018427387904 := hb
  unfold N1
  simp (disch := omega) only [hlt, cond_true, AM, hy, ab, H6, bne_self_eq_false, beq_self_eq_true, cz, cond_false, JC, Yx]
  rw [show k + ((Cq y : Nat) : Int) = k + 1 + 1 + 1 from by show k + ((1 + (1 + (1)) : Nat) : Int) = _; omega]
  rfl
 ·unfold N1
  simp only [Cn, cond_false, ai]
theorem W6 {x : BF} {k : Int} (hx : ES x) (h0 : 0 ≤ k) (hb : k + ((Ce x : Nat) : Int) ≤ 4611686018427387904) : cT (LH x k) k = some (k + ((Ce x : Nat) : Int)) := by
 unfold Ce at hb
 unfold cT LH
 dsimp only
 rw [WB (x := x.AB) (k := k) hx.1 (by omega) (by omega), ab, Yx (by omega), cond_false]
 rw [WC (x := x.Dp) (k := k + ((Bx x.AB : Nat) : Int)) hx.2 (by omega) (by omega), ab, Yx (by omega), cond_false]
 rw [show k + ((Ce x : Nat) : Int) = k + ((Bx x.AB : Nat) : Int) + ((CN Cq x.Dp : Nat) : Int) from by unfold Ce; omega]
theorem jP (aAN0 : Az) (aALies1 : List Int) (aAT2 : AB) (aAFar3 : Int) (haAN0 : Ef aAN0) (haALies1 : (FM F7) aALies1) (haAT2 : KH aAT2) (haAFar3 : F7 aAFar3) : f3 aAN0 aALies1 aAT2 aAFar3 = some true := by
 unfold f3
 rcases dp (decide ((aALies1.length : Int) > (1048576:Int))) with hb0 | hb0
 ·rw [hb0]; rfl
 rw [hb0, cond_false]; simp only [decide_eq_false_iff_not] at hb0
 have saALies1 : Jc (fun _ => True) aALies1 := ⟨by omega, fun _ _ => trivial⟩
 obtain ⟨v1, e1, a1, b1⟩ := eR (x := aAN0) (left := 1048576) (by omega) (by omega) haAN0
 rw [e1, ab]
 rcases dp (decide (v1 < (0 : Int))) with hb1 | hb1
 ·rw [hb1]; rfl
 rw [hb1, cond_false]; simp only [decide_eq_false_iff_not] at hb1
 have saAN0 := b1.resolve_left hb1
 obtain ⟨v2, e2, a2, b2⟩ := eX (x := aAT2) (left := v1) (by omega) (by omega) haAT2
 rw [e2, ab]
 rcases dp (decide (v2 < (0 : Int))) with hb2 | hb2
 ·rw [hb2]; rfl
 rw [hb2, cond_false]; simp only [decide_eq_false_iff_not] at hb2
 have saAT2 := b2.resolve_left hb2
 obtain ⟨r, m1, m2, m3⟩ := gI haAN0 haALies1 haAT2 haAFar3 saAN0 saALies1 saAT2
 have u0 : FX aAN0 ≤ 2199029547008 := by
  have h := Ud aAN0 saAN0
  exact h
 have k0 := W3 (x := aAN0) (k := (1 : Int)) saAN0 (by omega) (by omega)
 have u1 : (CN (fun _ => 1)) aALies1 ≤ 1048576 := by
  have h := (fun _ hx => JD (p := (fun _ => True)) (fun _ _ => ak 1) hx.1 hx.2) aALies1 saALies1
  exact h
 have k1 := W4 (x := aALies1) (k := (1 : Int) + ((FX aAN0 : Nat) : Int)) saALies1 (by omega) (by omega)
 have u2 : Bx aAT2 ≤ 2097152 := by
  have h := Lh aAT2 saAT2
  exact h
 have k2 := R8 (x := aAT2) (k := (1 : Int) + ((FX aAN0 : Nat) : Int) + (((CN (fun _ => 1)) aALies1 : Nat) : Int)) saAT2 (by omega) (by omega)
 have u3 : Ce r ≤ 5242880 := by
  have h := Pb r m3
  exact h
 have k3 := W5 (x := r) (k := (1 : Int)) m3 (by omega) (by omega)
 have j3 := W6 (x := r) (k := (1 : Int)) m3 (by omega) (by omega)
 simp only [fH (x := aAN0) saAN0, fQ (x := aALies1) saALies1, fY (x := aAT2) saAT2, Zv (x := r) m3, Zw (x := aAN0) saAN0, Zx (x := aALies1) saALies1, W2 (x := aAT2) saAT2, k0, Yx (show (0:Int) ≤ (1 : Int) + ((FX aAN0 : Nat) : Int) by omega), k1, Yx (show (0:Int) ≤ (1 : Int) + ((FX aAN0 : Nat) : Int) + (((CN (fun _ => 1)) aALies1 : Nat) : Int) by omega), k2, Yx (show (0:Int) ≤ (1 : Int) + ((FX aAN0 : Nat) : Int) + (((CN (fun _ => 1)) aALies1 : Nat) : Int) + ((Bx aAT2 : Nat) : Int) by omega), k3, Yx (show (0:Int) ≤ (1 : Int) + ((Ce r : Nat) : Int) by omega), j3, ab, m1, m2, bne_self_eq_false, beq_self_eq_true, cz, cond_false]
end
end Go.Proofs.YtblodpbcinkehaaGreat.K

