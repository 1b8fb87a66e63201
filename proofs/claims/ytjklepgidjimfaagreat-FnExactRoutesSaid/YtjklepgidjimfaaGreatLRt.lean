/-
 Part of a proof. No conditions.
-/
import Derived.Test.YtjklepgidjimfaaGreatDRt
set_option linter.unusedVariables false
set_option linter.unusedSimpArgs false
set_option maxRecDepth 100000
set_option maxHeartbeats 1000000
namespace Go.Proofs.YtjklepgidjimfaaGreat.K
open _root_.Go.Proofs.Tryz renaming prog → dp
open Bool renaming eq_false_or_eq_true → im,not_true → fo,eq_iff_iff → gz,and_eq_true → ec,or_eq_false_iff → ku,or_eq_true → gg,not_eq_true' → jj,and_eq_false_iff → kn,not_false → oh,and_true → pw,false_or → qz,and_self → ra,and_false → qw
open Option renaming bind_some → ba,map_some → dq,any_some → fq,bind → rb
open List renaming map_id' → nw,mem_of_getElem? → ee,getElem?_eq_getElem → dr,range → gj,findSome?_eq_none_iff → og,mem_range → ik,foldl_cons → lg,nil_append → gu,any_cons → ou,any_eq_false → nx,any_eq_true → ma,range_succ → qn,any_append → qo,take_add_one → qf,take_length → mi,foldl_flatMap → qa,mem_cons_self → fh,getElem_of_mem → mj,length_nil → et,length_cons → er,mem_singleton → dt,length_append → dw,append_nil → gi,mem_append → eb,length → pr,append_assoc → eo,nodup_nil → mw
open Nat renaming lt_or_ge → fp,le_refl → dz,eq_zero_or_pos → ke
open Option.some renaming injEq → an,inj → dv
open Int renaming toNat_natCast → jv,mul_one → rm,le_refl → px
open Classical renaming byContradiction → jk
noncomputable section
open Go.ChangeShapes Go.WideShapes Go.ChangeAt Go.RowKit
abbrev Iu (x : A1) : Prop := (fun s => s.size ≤ 9223372036854775807) x.Name ∧ Iv x.Bo ∧ Iv x.Cc ∧ Iv x.DM
abbrev T3 (x : Ac) : Prop := Iv x.A1 ∧ Iv x.BI
abbrev It (x : AG) : Prop := Iv x.Kind ∧ (fun s => s.size ≤ 9223372036854775807) x.Name ∧ (G4 T3) x.Ends
abbrev Ek (x : Bq) : Prop := (G4 Iu) x.A3 ∧ (G4 It) x.A4
abbrev Fo (x : AG) : Prop := (I0 (fun _ => True)) x.Ends
abbrev Dz (x : Bq) : Prop := (I0 (fun _ => True)) x.A3 ∧ (I0 Fo) x.A4
abbrev EG (x : AI) : Prop := (fun s => s.size ≤ 9223372036854775807) x.Name ∧ Iv x.A1 ∧ Iv x.At ∧ Iv x.Way
abbrev Co (x : A8) : Prop := (I0 (fun _ => True)) x.Steps ∧ (I0 (fun _ => True)) x.AK ∧ (I0 (fun _ => True)) x.A7 ∧ (I0 (fun _ => True)) x.AP ∧ (I0 (fun _ => True)) x.C2 ∧ (I0 (fun _ => True)) x.Ad
theorem uS : Hi dp 9 ByteArray (fun s => s.size ≤ 9223372036854775807) := Yo Tryz.underlying9
theorem fG : Hi dp 3 Int Iv := Yn Tryz.underlying3
theorem rL : Hi dp 187 A1 Iu := by
 intro K enc W sp fuel cs d ps h
 obtain ⟨fu,hl,hf⟩ := HB Tryz.underlying187 h
 have hl : cs.length = 4 := hl
 obtain ⟨_,_,h0⟩ := hf _ (List.Mem.head _)
 obtain ⟨x0,r0,g0⟩ := uS _ _ _ _ _ _ _ h0
 obtain ⟨_,_,h1⟩ := hf _ (List.Mem.tail _ (List.Mem.head _))
 obtain ⟨x1,r1,g1⟩ := fG _ _ _ _ _ _ _ h1
 obtain ⟨_,_,h2⟩ := hf _ (List.Mem.tail _ (List.Mem.tail _ (List.Mem.head _)))
 obtain ⟨x2,r2,g2⟩ := fG _ _ _ _ _ _ _ h2
 obtain ⟨_,_,h3⟩ := hf _ (List.Mem.tail _ (List.Mem.tail _ (List.Mem.tail _ (List.Mem.head _))))
 obtain ⟨x3,r3,g3⟩ := fG _ _ _ _ _ _ _ h3
 exact ⟨⟨x0,x1,x2,x3⟩,fE (off := 0) (sz := 1) r0 (fE (off := 1) (sz := 1) r1 (fE (off := 2) (sz := 1) r2 (MK (sz := 1) hl r3))),g0,g1,g2,g3⟩
theorem uO : Hi dp 22 (List A1) (G4 Iu) := IT Tryz.underlying22 rfl rL
theorem rO : Hi dp 343 Ac T3 := by
 intro K enc W sp fuel cs d ps h
 obtain ⟨fu,hl,hf⟩ := HB Tryz.underlying343 h
 have hl : cs.length = 2 := hl
 obtain ⟨_,_,h0⟩ := hf _ (List.Mem.head _)
 obtain ⟨x0,r0,g0⟩ := fG _ _ _ _ _ _ _ h0
 obtain ⟨_,_,h1⟩ := hf _ (List.Mem.tail _ (List.Mem.head _))
 obtain ⟨x1,r1,g1⟩ := fG _ _ _ _ _ _ _ h1
 exact ⟨⟨x0,x1⟩,fE (off := 0) (sz := 1) r0 (MK (sz := 1) hl r1),g0,g1⟩
theorem rM : Hi dp 189 (List Ac) (G4 T3) := IT Tryz.underlying189 rfl rO
theorem rN : Hi dp 191 AG It := by
 intro K enc W sp fuel cs d ps h
 obtain ⟨fu,hl,hf⟩ := HB Tryz.underlying191 h
 have hl : cs.length = 3 := hl
 obtain ⟨_,_,h0⟩ := hf _ (List.Mem.head _)
 obtain ⟨x0,r0,g0⟩ := fG _ _ _ _ _ _ _ h0
 obtain ⟨_,_,h1⟩ := hf _ (List.Mem.tail _ (List.Mem.head _))
 obtain ⟨x1,r1,g1⟩ := uS _ _ _ _ _ _ _ h1
 obtain ⟨_,_,h2⟩ := hf _ (List.Mem.tail _ (List.Mem.tail _ (List.Mem.head _)))
 obtain ⟨x2,r2,g2⟩ := rM _ _ _ _ _ _ _ h2
 exact ⟨⟨x0,x1,x2⟩,fE (off := 0) (sz := 1) r0 (fE (off := 1) (sz := 1) r1 (MK (sz := 1) hl r2)),g0,g1,g2⟩
theorem uP : Hi dp 23 (List AG) (G4 It) := IT Tryz.underlying23 rfl rN
theorem uQ : Hi dp 25 Bq Ek := by
 intro K enc W sp fuel cs d ps h
 obtain ⟨fu,hl,hf⟩ := HB Tryz.underlying25 h
 have hl : cs.length = 2 := hl
 obtain ⟨_,_,h0⟩ := hf _ (List.Mem.head _)
 obtain ⟨x0,r0,g0⟩ := uO _ _ _ _ _ _ _ h0
 obtain ⟨_,_,h1⟩ := hf _ (List.Mem.tail _ (List.Mem.head _))
 obtain ⟨x1,r1,g1⟩ := uP _ _ _ _ _ _ _ h1
 exact ⟨⟨x0,x1⟩,fE (off := 0) (sz := 1) r0 (MK (sz := 1) hl r1),g0,g1⟩
theorem rK : Hi dp 100 AI EG := by
 intro K enc W sp fuel cs d ps h
 obtain ⟨fu,hl,hf⟩ := HB Tryz.underlying100 h
 have hl : cs.length = 4 := hl
 obtain ⟨_,_,h0⟩ := hf _ (List.Mem.head _)
 obtain ⟨x0,r0,g0⟩ := uS _ _ _ _ _ _ _ h0
 obtain ⟨_,_,h1⟩ := hf _ (List.Mem.tail _ (List.Mem.head _))
 obtain ⟨x1,r1,g1⟩ := fG _ _ _ _ _ _ _ h1
 obtain ⟨_,_,h2⟩ := hf _ (List.Mem.tail _ (List.Mem.tail _ (List.Mem.head _)))
 obtain ⟨x2,r2,g2⟩ := fG _ _ _ _ _ _ _ h2
 obtain ⟨_,_,h3⟩ := hf _ (List.Mem.tail _ (List.Mem.tail _ (List.Mem.tail _ (List.Mem.head _))))
 obtain ⟨x3,r3,g3⟩ := fG _ _ _ _ _ _ _ h3
 exact ⟨⟨x0,x1,x2,x3⟩,fE (off := 0) (sz := 1) r0 (fE (off := 1) (sz := 1) r1 (fE (off := 2) (sz := 1) r2 (MK (sz := 1) hl r3))),g0,g1,g2,g3⟩
theorem uR : Hi dp 26 (List AI) (G4 EG) := IT Tryz.underlying26 rfl rK
theorem fL {x : A1} {left : Int} (h0 : 0 ≤ left) (h1 : left ≤ 1048576) (hx : Iu x) : ∃ v,Y4 x left = some v ∧ v ≤ left ∧ (v < 0 ∨ (fun _ => True) x) := by
 unfold Y4
 have vi : x.Name.size ≤ 9223372036854775807 := hx.1
 obtain ⟨v0,e0,a0⟩ : ∃ v,AN (left - (x.Name.size : Int)) = v ∧ v ≤ left := ⟨_,rfl,by rw [CJ ⟨by omega,by omega⟩]; omega⟩
 rw [e0]
 rcases im (decide (v0 < (0 : Int))) with ua | ua
 ·rw [ua]; exact ⟨_,rfl,by omega, .inl (by decide)⟩
 rw [ua,rp]; simp only [rv] at ua
 exact ⟨_,rfl,by omega, .inr trivial⟩
theorem mC {x : List A1} {left : Int} (h0 : 0 ≤ left) (h1 : left ≤ 1048576) (hx : (G4 Iu) x) : ∃ v,pH x left = some v ∧ v ≤ left ∧ (v < 0 ∨ (I0 (fun _ => True)) x) := by
 unfold pH
 refine Te (g := Y4) (fit := Iu) (sm := (fun _ => True)) (fun x l a b c => fL b c a) (fun l i x hi => ?_) (fun l => ?_) h0 h1 hx
 ·unfold Sw
  simp only [Ci (BL hi),rq,AJ,hi,ba,dq]
 ·unfold Sw
  simp only [C5,rp,dq]
theorem fX {x : List Ac} {left : Int} (h0 : 0 ≤ left) (h1 : left ≤ 1048576) (hx : (G4 T3) x) : ∃ v,Zw x left = some v ∧ v ≤ left ∧ (v < 0 ∨ (I0 (fun _ => True)) x) := by
 unfold Zw
 obtain ⟨v,e1,e2,e3⟩ := jJ (xs := x) h0 h1 hx.1
 exact ⟨v,e1,e2,e3.imp id fun h => ⟨h.1,fun _ _ => trivial⟩⟩
theorem fM {x : AG} {left : Int} (h0 : 0 ≤ left) (h1 : left ≤ 1048576) (hx : It x) : ∃ v,Y5 x left = some v ∧ v ≤ left ∧ (v < 0 ∨ Fo x) := by
 unfold Y5
 have vi : x.Name.size ≤ 9223372036854775807 := hx.2.1
 obtain ⟨v0,e0,a0⟩ : ∃ v,AN (left - (x.Name.size : Int)) = v ∧ v ≤ left := ⟨_,rfl,by rw [CJ ⟨by omega,by omega⟩]; omega⟩
 rw [e0]
 rcases im (decide (v0 < (0 : Int))) with ua | ua
 ·rw [ua]; exact ⟨_,rfl,by omega, .inl (by decide)⟩
 rw [ua,rp]; simp only [rv] at ua
 obtain ⟨v1,e1,a1,b1⟩ := fX (x := x.Ends) (left := v0) (by omega) (by omega) hx.2.2
 rw [e1,ba]
 rcases im (decide (v1 < (0 : Int))) with uw | uw
 ·rw [uw]; exact ⟨_,rfl,by omega, .inl (by decide)⟩
 rw [uw,rp]; simp only [rv] at uw
 exact ⟨_,rfl,by omega, .inr (b1.resolve_left uw)⟩
theorem mD {x : List AG} {left : Int} (h0 : 0 ≤ left) (h1 : left ≤ 1048576) (hx : (G4 It) x) : ∃ v,pI x left = some v ∧ v ≤ left ∧ (v < 0 ∨ (I0 Fo) x) := by
 unfold pI
 refine Te (g := Y5) (fit := It) (sm := Fo) (fun x l a b c => fM b c a) (fun l i x hi => ?_) (fun l => ?_) h0 h1 hx
 ·unfold Sx
  simp only [Ci (BL hi),rq,AJ,hi,ba,dq]
 ·unfold Sx
  simp only [C5,rp,dq]
theorem qF {x : Bq} {left : Int} (h0 : 0 ≤ left) (h1 : left ≤ 1048576) (hx : Ek x) : ∃ v,f8 x left = some v ∧ v ≤ left ∧ (v < 0 ∨ Dz x) := by
 unfold f8
 obtain ⟨v0,e0,a0,b0⟩ := mC (x := x.A3) (left := left) (by omega) (by omega) hx.1
 rw [e0,ba]
 rcases im (decide (v0 < (0 : Int))) with ua | ua
 ·rw [ua]; exact ⟨_,rfl,by omega, .inl (by decide)⟩
 rw [ua,rp]; simp only [rv] at ua
 obtain ⟨v1,e1,a1,b1⟩ := mD (x := x.A4) (left := v0) (by omega) (by omega) hx.2
 rw [e1,ba]
 rcases im (decide (v1 < (0 : Int))) with uw | uw
 ·rw [uw]; exact ⟨_,rfl,by omega, .inl (by decide)⟩
 rw [uw,rp]; simp only [rv] at uw
 exact ⟨_,rfl,by omega, .inr ⟨b0.resolve_left ua,b1.resolve_left uw⟩⟩
theorem mF {x : AI} {left : Int} (h0 : 0 ≤ left) (h1 : left ≤ 1048576) (hx : EG x) : ∃ v,oA x left = some v ∧ v ≤ left ∧ (v < 0 ∨ (fun _ => True) x) := by
 unfold oA
 have vi : x.Name.size ≤ 9223372036854775807 := hx.1
 obtain ⟨v0,e0,a0⟩ : ∃ v,AN (left - (x.Name.size : Int)) = v ∧ v ≤ left := ⟨_,rfl,by rw [CJ ⟨by omega,by omega⟩]; omega⟩
 rw [e0]
 rcases im (decide (v0 < (0 : Int))) with ua | ua
 ·rw [ua]; exact ⟨_,rfl,by omega, .inl (by decide)⟩
 rw [ua,rp]; simp only [rv] at ua
 exact ⟨_,rfl,by omega, .inr trivial⟩
theorem qG {x : List AI} {left : Int} (h0 : 0 ≤ left) (h1 : left ≤ 1048576) (hx : (G4 EG) x) : ∃ v,f9 x left = some v ∧ v ≤ left ∧ (v < 0 ∨ (I0 (fun _ => True)) x) := by
 unfold f9
 refine Te (g := oA) (fit := EG) (sm := (fun _ => True)) (fun x l a b c => mF b c a) (fun l i x hi => ?_) (fun l => ?_) h0 h1 hx
 ·unfold XD
  simp only [Ci (BL hi),rq,AJ,hi,ba,dq]
 ·unfold XD
  simp only [C5,rp,dq]
theorem fO {x : A1} (hx : (fun _ => True) x) : Zd x = some x := by
 unfold Zd
 rfl
theorem mG {x : List A1} (hx : (I0 (fun _ => True)) x) : pK x = some x := by
 have hl := hx.1
 unfold pK
 rw [MX (by omega),ba]
 have := iL x (fun y => y) (⟨ByteArray.empty,0,0,0⟩ : A1) (F := PX x) (fun ys i y hi hy => ?_) (fun ys => ?_)
 ·rw [nw] at this; exact this
 ·have sd := BL hi
  unfold PX
  have hg := fO (x := y) (hx.2 _ (ee hi))
  simp only [Ci (BL hi),rq,AJ,hi,ba,hg]
  rw [dr (by omega),ba,B7 (by omega)]
  rfl
 ·unfold PX
  simp only [C5,rp,dq]
theorem gI {x : Ac} (hx : (fun _ => True) x) : aY x = some x := by
 unfold aY
 rfl
theorem fY {x : List Ac} (hx : (I0 (fun _ => True)) x) : aA x = some x := by
 have hl := hx.1
 unfold aA
 rw [MX (by omega),ba]
 have := iL x (fun y => y) (⟨0,0⟩ : Ac) (F := Lt x) (fun ys i y hi hy => ?_) (fun ys => ?_)
 ·rw [nw] at this; exact this
 ·have sd := BL hi
  unfold Lt
  have hg := gI (x := y) (hx.2 _ (ee hi))
  simp only [Ci (BL hi),rq,AJ,hi,ba,hg]
  rw [dr (by omega),ba,B7 (by omega)]
  rfl
 ·unfold Lt
  simp only [C5,rp,dq]
theorem fP {x : AG} (hx : Fo x) : Zf x = some x := by
 unfold Zf
 rw [fY (x := x.Ends) hx]
 rfl
theorem mH {x : List AG} (hx : (I0 Fo) x) : pL x = some x := by
 have hl := hx.1
 unfold pL
 rw [MX (by omega),ba]
 have := iL x (fun y => y) (⟨0,ByteArray.empty,[]⟩ : AG) (F := PY x) (fun ys i y hi hy => ?_) (fun ys => ?_)
 ·rw [nw] at this; exact this
 ·have sd := BL hi
  unfold PY
  have hg := fP (x := y) (hx.2 _ (ee hi))
  simp only [Ci (BL hi),rq,AJ,hi,ba,hg]
  rw [dr (by omega),ba,B7 (by omega)]
  rfl
 ·unfold PY
  simp only [C5,rp,dq]
theorem lZ {x : Bq} (hx : Dz x) : kG x = some x := by
 unfold kG
 rw [mG (x := x.A3) hx.1,mH (x := x.A4) hx.2]
 rfl
theorem mI {x : AI} (hx : (fun _ => True) x) : pN x = some x := by
 unfold pN
 rfl
theorem m5 {x : List AI} (hx : (I0 (fun _ => True)) x) : kH x = some x := by
 have hl := hx.1
 unfold kH
 rw [MX (by omega),ba]
 have := iL x (fun y => y) (⟨ByteArray.empty,0,0,0⟩ : AI) (F := PG x) (fun ys i y hi hy => ?_) (fun ys => ?_)
 ·rw [nw] at this; exact this
 ·have sd := BL hi
  unfold PG
  have hg := mI (x := y) (hx.2 _ (ee hi))
  simp only [Ci (BL hi),rq,AJ,hi,ba,hg]
  rw [dr (by omega),ba,B7 (by omega)]
  rfl
 ·unfold PG
  simp only [C5,rp,dq]
theorem gB {x : BR} (hx : (fun _ => True) x) : aH x x = some true := by
 unfold aH
 simp only [rz,sa,fo,rp]
theorem fQ {x : List BR} (hx : (I0 (fun _ => True)) x) : Zi x x = some true := by
 unfold Zi
 simp only [rz,rp]
 refine Ia (F := Lo x x) hx.1 (fun i y hi => ?_) ?_
 ·unfold Lo
  have hg := gB (x := y) (hx.2 _ (ee hi))
  simp only [Ci (BL hi),rq,AJ,hi,ba,hg,fo,rp]
 ·unfold Lo
  simp only [C5,rp,dq]
theorem gC {x : BQ} (hx : (fun _ => True) x) : aJ x x = some true := by
 unfold aJ
 simp only [rz,sa,fo,rp]
theorem fR {x : List BQ} (hx : (I0 (fun _ => True)) x) : Zk x x = some true := by
 unfold Zk
 simp only [rz,rp]
 refine Ia (F := Lp x x) hx.1 (fun i y hi => ?_) ?_
 ·unfold Lp
  have hg := gC (x := y) (hx.2 _ (ee hi))
  simp only [Ci (BL hi),rq,AJ,hi,ba,hg,fo,rp]
 ·unfold Lp
  simp only [C5,rp,dq]
theorem mO {x : List Int} (hx : (I0 (fun _ => True)) x) : qE x x = some true := by
 unfold qE
 simp only [rz,rp]
 refine Ia (F := Pu x x) hx.1 (fun i y hi => ?_) ?_
 ·unfold Pu
  simp only [Ci (BL hi),rq,AJ,hi,ba,rz,sa,fo,rp]
 ·unfold Pu
  simp only [C5,rp,dq]
theorem gE {x : Ai} (hx : (fun _ => True) x) : aM x x = some true := by
 unfold aM
 simp only [rz,sa,fo,rp]
theorem X8 {x : List Ai} (hx : (I0 (fun _ => True)) x) : YC x x = some true := by
 unfold YC
 simp only [rz,rp]
 refine Ia (F := Lq x x) hx.1 (fun i y hi => ?_) ?_
 ·unfold Lq
  have hg := gE (x := y) (hx.2 _ (ee hi))
  simp only [Ci (BL hi),rq,AJ,hi,ba,hg,fo,rp]
 ·unfold Lq
  simp only [C5,rp,dq]
theorem gF {x : AD} (hx : (fun _ => True) x) : aO x x = some true := by
 unfold aO
 simp only [rz,sa,fo,rp]
theorem fS {x : List AD} (hx : (I0 (fun _ => True)) x) : Zm x x = some true := by
 unfold Zm
 simp only [rz,rp]
 refine Ia (F := Lr x x) hx.1 (fun i y hi => ?_) ?_
 ·unfold Lr
  have hg := gF (x := y) (hx.2 _ (ee hi))
  simp only [Ci (BL hi),rq,AJ,hi,ba,hg,fo,rp]
 ·unfold Lr
  simp only [C5,rp,dq]
theorem mK {x : A8} (hx : Co x) : pP x x = some true := by
 unfold pP
 simp only [rz,sa,fo,rp,fQ (x := x.Steps) hx.1,fR (x := x.AK) hx.2.1,mO (x := x.A7) hx.2.2.1,X8 (x := x.AP) hx.2.2.2.1,X8 (x := x.C2) hx.2.2.2.2.1,fS (x := x.Ad) hx.2.2.2.2.2,ba]
theorem m8 {x : List A8} (hx : (I0 Co) x) : m7 x x = some true := by
 unfold m7
 simp only [rz,rp]
 refine Ia (F := PI x x) hx.1 (fun i y hi => ?_) ?_
 ·unfold PI
  have hg := mK (x := y) (hx.2 _ (ee hi))
  simp only [Ci (BL hi),rq,AJ,hi,ba,hg,fo,rp]
 ·unfold PI
  simp only [C5,rp,dq]
theorem fT {x : A1} (hx : (fun _ => True) x) : Zo x x = some true := by
 unfold Zo
 simp only [rz,sa,fo,rp]
theorem mL {x : List A1} (hx : (I0 (fun _ => True)) x) : pQ x x = some true := by
 unfold pQ
 simp only [rz,rp]
 refine Ia (F := Pa x x) hx.1 (fun i y hi => ?_) ?_
 ·unfold Pa
  have hg := fT (x := y) (hx.2 _ (ee hi))
  simp only [Ci (BL hi),rq,AJ,hi,ba,hg,fo,rp]
 ·unfold Pa
  simp only [C5,rp,dq]
theorem gK {x : Ac} (hx : (fun _ => True) x) : bF x x = some true := by
 unfold bF
 simp only [rz,sa,fo,rp]
theorem gG {x : List Ac} (hx : (I0 (fun _ => True)) x) : aQ x x = some true := by
 unfold aQ
 simp only [rz,rp]
 refine Ia (F := Lx x x) hx.1 (fun i y hi => ?_) ?_
 ·unfold Lx
  have hg := gK (x := y) (hx.2 _ (ee hi))
  simp only [Ci (BL hi),rq,AJ,hi,ba,hg,fo,rp]
 ·unfold Lx
  simp only [C5,rp,dq]
theorem fU {x : AG} (hx : Fo x) : Zq x x = some true := by
 unfold Zq
 simp only [rz,sa,fo,rp,gG (x := x.Ends) hx,ba]
theorem mM {x : List AG} (hx : (I0 Fo) x) : pR x x = some true := by
 unfold pR
 simp only [rz,rp]
 refine Ia (F := Pb x x) hx.1 (fun i y hi => ?_) ?_
 ·unfold Pb
  have hg := fU (x := y) (hx.2 _ (ee hi))
  simp only [Ci (BL hi),rq,AJ,hi,ba,hg,fo,rp]
 ·unfold Pb
  simp only [C5,rp,dq]
theorem m9 {x : Bq} (hx : Dz x) : oZ x x = some true := by
 unfold oZ
 simp only [rz,sa,fo,rp,mL (x := x.A3) hx.1,mM (x := x.A4) hx.2,ba]
theorem mN {x : AI} (hx : (fun _ => True) x) : pS x x = some true := by
 unfold pS
 simp only [rz,sa,fo,rp]
theorem mA {x : List AI} (hx : (I0 (fun _ => True)) x) : p9 x x = some true := by
 unfold p9
 simp only [rz,rp]
 refine Ia (F := PJ x x) hx.1 (fun i y hi => ?_) ?_
 ·unfold PJ
  have hg := mN (x := y) (hx.2 _ (ee hi))
  simp only [Ci (BL hi),rq,AJ,hi,ba,hg,fo,rp]
 ·unfold PJ
  simp only [C5,rp,dq]
theorem Sg {a b : ByteArray} (h : a.size + b.size ≤ 1099511627776) : ZM a b = some (a ++ b) := ru h
theorem SP : ∀ (n : Nat) (k : Int) (s : ByteArray),0 ≤ k → k ≤ 4611686018427387904 → k < ((10 ^ n : Nat) : Int) → s.size + n ≤ 1000 → ∃ r,AQ Pf (k,s) = some r
 | 0,k,s,h0,hb,h1,h2 => by
  have : k = 0 := by simp at h1; omega
  subst this
  rw [Ap]
  unfold Pf
  simp only [show decide ((0:Int) > 0) = false from rfl,rp]
  rw [Sg (by show 1 + s.size ≤ _; omega)]
  exact ⟨_,rfl⟩
 | n + 1,k,s,h0,hb,h1,h2 => by
  rw [Ap]
  unfold Pf
  by_cases hk : k > 0
  ·simp only [show decide (k > 0) = true by rw [ry]; exact hk,rq]
   rw [Nat.pow_succ] at h1
   have e1 : (Ve [⟨IntKind.wrap .u8 (AN (48 + k.tmod 10))⟩]).size = 1 := rfl
   rw [Sg (by rw [e1]; omega)]
   simp only [ba]
   have e2 : Int.tdiv k 10 = k / 10 := Int.tdiv_eq_ediv_of_nonneg h0
   rw [e2,CJ ⟨by omega,by omega⟩]
   exact SP n (k / 10) _ (by omega) (by omega) (by omega) (by rw [ByteArray.size_append,e1]; omega)
  ·simp only [show decide (k > 0) = false by rw [rv]; exact hk,rp]
   rw [Sg (by show 1 + s.size ≤ _; omega)]
   exact ⟨_,rfl⟩
def Uu (k : Int) : ByteArray := (iA k).getD ByteArray.empty
theorem dN {k : Int} (h0 : 0 ≤ k) (hb : k ≤ 4611686018427387904) : iA k = some (Uu k) := by
 have : ∃ r,iA k = some r := by
  unfold iA
  cases decide (k ≤ 0) with
  | true => exact ⟨_,rfl⟩
  | false =>
   simp only [rp]
   exact SP 19 k _ h0 hb (by omega) (by decide)
 obtain ⟨r,hr⟩ := this
 unfold Uu
 rw [hr]; rfl
theorem NN (a b : ByteArray) : (a.toList == b.toList) = decide (a = b) := by
 rw [gz,ry,ByteArray.toList_eq,ByteArray.toList_eq,beq_iff_eq]
 exact ⟨fun h => by cases a; cases b; simp only [Array.toList_inj] at h; rw [h],fun h => by rw [h]⟩
def CN {ρ : Type} (n : Nat) (b : Nat → Option ρ) (e : Option ρ) : Option ρ := match (gj n).findSome? b with | some r => some r | none => e
theorem Dt {ρ : Type} {n : Nat} {b : Nat → Option ρ} {e : Option ρ} (h : ∀ i,i < n → b i = none) : CN n b e = e := by
 unfold CN
 rw [og.2 (fun x hx => h x (ik.1 hx))]
theorem DZ {ρ : Type} {n : Nat} {b : Nat → Option ρ} {e : Option ρ} {i : Nat} {r : ρ} (hi : i < n) (h : ∀ j,j < i → b j = none) (hr : b i = some r) : CN n b e = some r := by
 unfold CN
 have e1 : n = i + ((n - i - 1) + 1) := by omega
 have h0 : (gj i).findSome? b = none := og.2 fun x hx => h x (ik.1 hx)
 rw [e1,List.range_add,List.findSome?_append,h0,List.range_succ_eq_map]
 simp [hr]
theorem FD {ρ : Type} (n : Nat) (b : Nat → Option ρ) : (∀ i,i < n → b i = none) ∨ ∃ i r,i < n ∧ (∀ j,j < i → b j = none) ∧ b i = some r := by
 induction n with
 | zero => exact .inl (fun i hi => by omega)
 | succ n ih =>
  rcases ih with h | ⟨i,r,h1,h2,h3⟩
  ·cases hb : b n with
   | none =>
    refine .inl (fun i hi => ?_)
    rcases fp i n with hl | hl
    ·exact h i hl
    ·have : i = n := by omega
     subst this; exact hb
   | some r => exact .inr ⟨n,r,by omega,h,hb⟩
  ·exact .inr ⟨i,r,by omega,h2,h3⟩
theorem Bp {σ ρ : Type} {F : σ → Option (σ ⊕ ρ)} (n : Nat) (st : Nat → σ) (b : Nat → Option ρ) (e : Option ρ) (h : ∀ i,i < n → (∀ j,j < i → b j = none) → F (st i) = some ((b i).elim (.inl (st (i + 1))) .inr)) (uh : (∀ j,j < n → b j = none) → F (st n) = e.map .inr) : AQ F (st 0) = CN n b e := by
 have key : ∀ k i,i + k = n → (∀ j,j < i → b j = none) → AQ F (st i) = CN n b e := by
  intro k
  induction k with
  | zero =>
   intro i hi hb
   have : i = n := by omega
   subst this
   rw [Ap,uh hb,Dt hb]
   cases e <;> rfl
  | succ k ih =>
   intro i hi hb
   rw [Ap,h i (by omega) hb]
   cases hr : b i with
   | some r => rw [DZ (by omega) hb hr]; rfl
   | none =>
    simp only [ba,Option.elim]
    refine ih (i + 1) (by omega) (fun j hj => ?_)
    rcases fp j i with hl | hl
    ·exact hb j hl
    ·have : j = i := by omega
     subst this; exact hr
 exact key n 0 (by omega) (fun j hj => by omega)
theorem KX {α β ρ : Type} {F : β × Int → Option ((β × Int) ⊕ ρ)} (xs : List α) (g : β → α → β) (a0 : β) (e : β → Option ρ) (h : ∀ (a : β) (i : Nat) (x : α),xs[i]? = some x → F (a,(i : Int)) = some (.inl (g a x,((i + 1 : Nat) : Int)))) (uh : ∀ a,F (a,(xs.length : Int)) = (e a).map .inr) : AQ F (a0,(0 : Int)) = e (xs.foldl g a0) := by
 have key : ∀ k i (a : β),i + k = xs.length → AQ F (a,(i : Int)) = e ((xs.drop i).foldl g a) := by
  intro k
  induction k with
  | zero =>
   intro i a hi
   have : i = xs.length := by omega
   subst this
   rw [Ap,uh,List.drop_length,List.foldl_nil]
   cases e a <;> rfl
  | succ k ih =>
   intro i a hi
   have sd : i < xs.length := by omega
   rw [Ap,h a i _ (dr sd),List.drop_eq_getElem_cons sd,lg]
   exact ih (i + 1) _ (by omega)
 have := key xs.length 0 a0 (by omega)
 simpa using this
section
variable {κ ν : Type} [DecidableEq κ]
theorem Qh {k : κ} : ∀ {m : List (κ × ν)} {i : Nat},DH k m i = none → ∀ j,DH k m j = none
 | [],_,_,_ => rfl
 | e :: m,i,h,j => by
  unfold DH at h ⊢
  split at h
  ·cases h
  ·rename_i hk; rw [rr hk]; exact Qh h (j + 1)
theorem Ga (k : κ) (e : κ × ν) (m : List (κ × ν)) (z : ν) : Dw k (e :: m) z = if k = e.1 then e.2 else Dw k m z := by
 by_cases hk : k = e.1
 ·rw [ru hk]
  unfold Dw DH
  rw [ru hk]
 ·rw [rr hk]
  unfold Dw
  have h0 : DH k (e :: m) 0 = DH k m (0 + 1) := by rw [DH,rr hk]
  rw [h0]
  have key : ∀ (m : List (κ × ν)) i j,(DH k m i).map (·.2) = (DH k m j).map (·.2) := by
   intro m
   induction m with
   | nil => intro i j; rfl
   | cons e m ih =>
    intro i j
    unfold DH
    split
    ·rfl
    ·exact ih _ _
  have := key m (0 + 1) 0
  cases h1 : DH k m (0 + 1) <;> cases h2 : DH k m 0 <;> rw [h1,h2] at this <;> simp_all
theorem Ng (k k' : κ) (v : ν) (z : ν) : ∀ (m : List (κ × ν)),DH k' m 0 = none → Dw k (m ++ [(k',v)]) z = if k = k' then v else Dw k m z
 | [],_ => by rw [gu,Ga]
 | e :: m,h => by
  have h' : k' ≠ e.1 ∧ DH k' m 0 = none := by
   unfold DH at h
   split at h
   ·cases h
   ·rename_i hk; exact ⟨hk,Qh h 0⟩
  rw [List.cons_append,Ga,Ng k k' v z m h'.2,Ga]
  by_cases h1 : k = e.1
  ·rw [ru h1,ru h1,rr (fun (h2 : k = k') => h'.1 (h2 ▸ h1))]
  ·rw [rr h1,rr h1]
theorem Qi (k k' : κ) (v : ν) (z : ν) : ∀ (m : List (κ × ν)) (n i : Nat) (x : ν),DH k' m n = some (n + i,x) → Dw k (m.set i (k',v)) z = if k = k' then v else Dw k m z
 | [],_,_,_,h => by cases h
 | e :: m,n,i,x,h => by
  unfold DH at h
  split at h
  ·rename_i hk
   simp only [an,Prod.mk.injEq] at h
   have : i = 0 := by omega
   subst this
   rw [List.set_cons_zero,Ga,Ga,hk]
   by_cases h1 : k = e.1
   ·rw [ru h1,ru h1]
   ·rw [rr h1,rr h1,rr h1]
  ·rename_i hk
   have hi := (N9 h).1
   simp only [] at hi
   obtain ⟨i',rfl⟩ : ∃ i',i = i' + 1 := ⟨i - 1,by omega⟩
   rw [List.set_cons_succ,Ga,Qi k k' v z m (n + 1) i' x (by rw [h]; congr 2; omega),Ga]
   by_cases h1 : k = e.1
   ·rw [ru h1,ru h1,rr (fun (h2 : k = k') => hk (h2 ▸ h1))]
   ·rw [rr h1,rr h1]
theorem NA (k k' : κ) (v z : ν) (m : List (κ × ν)) : Dw k (Dx k' v m) z = if k = k' then v else Dw k m z := by
 unfold Dx
 cases h : DH k' m 0 with
 | none => exact Ng k k' v z m h
 | some x =>
  obtain ⟨i,y⟩ := x
  exact Qi k k' v z m 0 i y (by rw [h,Nat.zero_add])
theorem Rz {α : Type} (p : α → Bool) (f : α → κ) (xs : List α) (k : κ) : Dw k (xs.foldl (fun m x => bif p x then Dx (f x) true m else m) []) false = xs.any fun x => p x && decide (f x = k) := by
 have key : ∀ (xs : List α) (m : List (κ × Bool)),Dw k (xs.foldl (fun m x => bif p x then Dx (f x) true m else m) m) false = (Dw k m false || xs.any fun x => p x && decide (f x = k)) := by
  intro xs
  induction xs with
  | nil => intro m; simp
  | cons x xs ih =>
   intro m
   rw [lg,ih,ou]
   cases hp : p x with
   | false => simp
   | true =>
    rw [rq,NA]
    by_cases hk : k = f x
    ·rw [ru hk]; simp [hk]
    ·rw [rr hk]
     have : decide (f x = k) = false := decide_eq_false (fun h => hk h.symm)
     simp [this]
 rw [key]
 rfl
end
theorem FC {ρ : Type} (n : Nat) (p : Nat → Bool) (r : ρ) (e : Option ρ) : CN n (fun i => bif p i then some r else none) e = bif (gj n).any p then some r else e := by
 rcases FD n (fun i => bif p i then some r else none) with h | ⟨i,r',hi,hj,hr⟩
 ·rw [Dt h]
  have : (gj n).any p = false := by
   rw [nx]
   intro x hx
   have := h x (ik.1 hx)
   cases hp : p x <;> simp_all
  rw [this]; rfl
 ·rw [DZ hi hj hr]
  have hp : p i = true := by cases hp : p i <;> simp_all
  have : (gj n).any p = true := ma.2 ⟨i,ik.2 hi,hp⟩
  rw [this]
  simp_all
theorem Py (n : Nat) (p : Nat → Bool) (e : Bool) : CN n (fun i => bif p i then none else some false) (some e) = some ((gj n).all p && e) := by
 have : (fun i => bif p i then (none : Option Bool) else some false) = fun i => bif !p i then some false else none := by funext i; cases p i <;> rfl
 rw [this,FC]
 have : ((gj n).any fun i => !p i) = !((gj n).all p) := by rw [List.not_all_eq_any_not]
 rw [this]
 cases (gj n).all p <;> rfl
theorem G3 {ρ : Type} (n : Nat) (b : Nat → Option ρ) {e : Option ρ} (h : ∃ r,e = some r) : ∃ r,CN n b e = some r := by
 unfold CN
 split
 ·exact ⟨_,rfl⟩
 ·exact h
theorem MJ {ρ : Type} {n : Nat} {b b' : Nat → Option ρ} {e e' : Option ρ} (h : ∀ i,i < n → b i = b' i) (he : (∀ i,i < n → b i = none) → e = e') : CN n b e = CN n b' e' := by
 rcases FD n b with h1 | ⟨i,r,hi,hj,hr⟩
 ·rw [Dt h1,Dt (fun i hi => by rw [← h i hi]; exact h1 i hi)]; exact he h1
 ·rw [DZ hi hj hr,DZ hi (fun j hl => by rw [← h j (by omega)]; exact hj j hl) (by rw [← h i hi]; exact hr)]
theorem EE {α : Type} (b : Bool) (x y : α) : (bif b then some x else some y) = some (bif b then x else y) := by cases b <;> rfl
theorem Cs {α : Type} (xs : List α) (g : α → Bool) : ∀ i,((gj i).any fun j => (xs[j]?).any g) = (xs.take i).any g
 | 0 => by simp
 | i + 1 => by
  rw [qn,qo,Cs xs g i,qf,qo,ou,List.any_nil,Bool.or_false]
  cases xs[i]? <;> simp [Option.any]
theorem L9 {α β : Type} (g : β → α → β) (a : β) {xs : List α} {i : Nat} {x : α} (h : xs[i]? = some x) : (xs.take (i + 1)).foldl g a = g ((xs.take i).foldl g a) x := by
 rw [qf,List.foldl_append,h]; rfl
theorem Rd {s : ByteArray} {i : Nat} (h : i < s.size) : HD s (i : Int) = some ((HD s (i : Int)).getD 0) := by
 unfold HD
 rw [ru (by omega),jv,getElem?_pos s i h]
 rfl
theorem LJ {σ ρ : Type} (F : σ → Option (σ ⊕ ρ)) (s : σ) : AQ F s = (F s).bind (Sum.elim (AQ F) some) := by
 rw [Ap]
 congr 1
 funext x
 cases x <;> rfl
theorem NZ {σ ρ : Type} (n : Nat) (b : Nat → Option ρ) (s : σ) (k : σ → Option ρ) : ((CN n (fun i => (b i).map Sum.inr) (some (.inl s))).bind (Sum.elim k some)) = CN n b (k s) := by
 rcases FD n b with h | ⟨i,r,hi,hj,hr⟩
 ·rw [Dt h,Dt (fun i hi => by rw [h i hi]; rfl)]; rfl
 ·rw [DZ hi hj hr,DZ (r := .inr r) hi (fun j hl => by rw [hj j hl]; rfl) (by rw [hr]; rfl)]; rfl
theorem Us {κ : Type} [DecidableEq κ] (xs : List κ) (k : κ) : Dw k (xs.foldl (fun m x => Dx x (AN (Dw x m 0 + 1)) m) []) 0 = xs.foldl (fun a x => bif decide (x = k) then AN (a + 1) else a) (0 : Int) := by
 have key : ∀ (xs : List κ) (m : List (κ × Int)),Dw k (xs.foldl (fun m x => Dx x (AN (Dw x m 0 + 1)) m) m) 0 = xs.foldl (fun a x => bif decide (x = k) then AN (a + 1) else a) (Dw k m 0) := by
  intro xs
  induction xs with
  | nil => intro m; rfl
  | cons x xs ih =>
   intro m
   rw [lg,ih,lg,NA]
   by_cases hk : x = k
   ·subst hk; simp
   ·rw [rr (fun h => hk h.symm)]; simp [hk]
 rw [key]
 rfl
theorem DQ {ρ : Type} {n : Nat} {b : Nat → Option ρ} {e : Option ρ} {r : ρ} (h : CN n b e = some r) : (∃ i,i < n ∧ b i = some r) ∨ ((∀ i,i < n → b i = none) ∧ e = some r) := by
 rcases FD n b with h1 | ⟨i,r',hi,hj,hr⟩
 ·rw [Dt h1] at h; exact .inr ⟨h1,h⟩
 ·rw [DZ hi hj hr] at h; exact .inl ⟨i,hi,hr.trans h⟩
theorem EY {α : Type} {b : Bool} {x y : α} (h : (bif b then some x else none) = some y) : b = true ∧ x = y := by
 cases b
 ·cases h
 ·exact ⟨rfl,by simpa using h⟩
theorem Gs {α : Type} {b : Bool} {x : α} (h : (bif b then some x else none) = none) : b = false := by
 cases b
 ·rfl
 ·cases h
theorem NY {σ ρ : Type} (n : Nat) (b : Nat → Option ρ) (s : σ) : CN n (fun i => (b i).map Sum.inr) (some (.inl s)) = some ((CN n b none).elim (.inl s) .inr) := by
 rcases FD n b with h | ⟨i,r,hi,hj,hr⟩
 ·rw [Dt h,Dt (fun i hi => by rw [h i hi]; rfl)]; rfl
 ·rw [DZ hi hj hr,DZ (r := .inr r) hi (fun j hl => by rw [hj j hl]; rfl) (by rw [hr]; rfl)]; rfl
theorem YK {ρ : Type} {n : Nat} {b : Nat → Option ρ} {e : Option ρ} (h : CN n b e = none) : ∀ i,i < n → b i = none := by
 rcases FD n b with h1 | ⟨i,r,hi,hj,hr⟩
 ·exact h1
 ·rw [DZ hi hj hr] at h; cases h
def Hv (c : Int) : Bool := ((decide (c ≥ (97:Int)) && decide (c ≤ (122:Int))) || (decide (c ≥ (48:Int)) && decide (c ≤ (57:Int)))) || (c == (95:Int))
def Fz (s : ByteArray) : Bool := ((gj s.size).all fun i => Hv ((HD s (i : Int)).getD 0)) && (decide ((s.size : Int) ≥ (1:Int)) && decide ((s.size : Int) ≤ (20:Int)))
theorem LH {s : ByteArray} (h : s.size ≤ 9223372036854775807) : Vu s = some (Fz s) := by
 unfold Vu
 refine (Bp s.size (fun i => (i : Int)) (fun i => bif Hv ((HD s (i : Int)).getD 0) then none else some false) (some (decide ((s.size : Int) ≥ (1:Int)) && decide ((s.size : Int) ≤ (20:Int)))) (fun i hi _ => ?_) (fun _ => ?_)).trans (Py _ _ _)
 ·unfold OG
  have hb := Rd hi
  generalize (HD s (i : Int)).getD 0 = c at hb ⊢
  simp only [Ci hi,rq,hb,ba,B7 (show i < 9223372036854775807 by omega)]
  show (bif !(Hv c) then _ else _) = _
  cases Hv c <;> rfl
 ·unfold OG
  simp only [C5,rp]
theorem Qm {s : ByteArray} (h : s.size ≤ 9223372036854775807) : Vt s = some (Fz s) := by
 unfold Vt
 have h1 : (decide ((s.size : Int) ≥ (1:Int)) && decide ((s.size : Int) ≤ (20:Int))) = !(decide ((s.size : Int) < (1:Int)) || decide ((s.size : Int) > (20:Int))) := by
  rw [gz]; simp
 unfold Fz
 rw [h1]
 cases decide ((s.size : Int) < (1:Int)) || decide ((s.size : Int) > (20:Int)) with
 | true => simp
 | false =>
  rw [rp]
  refine (Bp s.size (fun i => (i : Int)) (fun i => bif Hv ((HD s (i : Int)).getD 0) then none else some false) (some true) (fun i hi _ => ?_) (fun _ => ?_)).trans (Py _ _ _)
  ·unfold OF
   have hb := Rd hi
   generalize (HD s (i : Int)).getD 0 = c at hb ⊢
   simp only [Ci hi,rq,hb,ba,B7 (show i < 9223372036854775807 by omega)]
   show (bif !(Hv c) then _ else _) = _
   cases Hv c <;> rfl
  ·unfold OF
   simp only [C5,rp]
def j0 (p : A1) : Bool := ((((((Fz p.Name && decide (p.Bo ≥ (1:Int))) && decide (p.Bo ≤ (10000000:Int))) && decide (p.Cc ≥ (1:Int))) && decide (p.Cc ≤ (10000:Int))) && decide (p.DM ≥ (1:Int))) && decide (p.DM ≤ (1000:Int)))
def Sf (n : Bq) (i : Nat) : Bool := (n.A3[i]?).any fun p => !j0 p || (n.A3.take i).any fun q => decide (q.Name = p.Name)
def NB (n : Bq) (e : Ac) : Bool := (decide (e.A1 ≥ (0:Int)) && decide (e.A1 < (n.A3.length : Int))) && (decide (e.BI ≥ (0:Int)) && decide (e.BI ≤ (1:Int)))
def P3 (n : Bq) (c : AG) : Bool := (decide (c.Kind < (1:Int)) || decide (c.Kind > (4:Int))) || ((c.Ends.length : Int) != c.Kind) || c.Ends.any fun e => !NB n e
def LW (n : Bq) (i : Nat) (c : AG) : Bool := bif decide (c.Kind ≤ (2:Int)) then !decide (c.Name = ({ data := #[] } : ByteArray)) else !Fz c.Name || (n.A4.take i).any fun d => decide (d.Name = c.Name)
def L6 (n : Bq) : List Ac := n.A4.flatMap (·.Ends)
def FX (n : Bq) (e : Ac) : Int := (L6 n).foldl (fun a x => bif decide (x = e) then AN (a + 1) else a) 0
def Tw (n : Bq) (i : Nat) : Bool := (FX n ⟨(i : Int),0⟩ != 1) || (FX n ⟨(i : Int),1⟩ != 1)
def RS (n : Bq) : Option BW :=
 bif ((((n.A3.length : Int) == (0:Int)) || decide ((n.A3.length : Int) > (100:Int))) || decide ((n.A4.length : Int) > (120:Int))) then some ⟨1,0⟩ else
 CN n.A3.length (fun i => bif Sf n i then some ⟨2,(i : Int)⟩ else none) <|
 CN n.A4.length (fun i => bif (n.A4[i]?).any (P3 n) then some ⟨3,(i : Int)⟩ else none) <|
 CN n.A4.length (fun i => bif (n.A4[i]?).any (LW n i) then some ⟨4,(i : Int)⟩ else none) <|
 CN n.A3.length (fun i => bif Tw n i then some ⟨5,(i : Int)⟩ else none) (some ⟨0,0⟩)
theorem TN (n : Bq) : ∃ r,RS n = some r := by
 unfold RS
 cases ((((n.A3.length : Int) == (0:Int)) || decide ((n.A3.length : Int) > (100:Int))) || decide ((n.A4.length : Int) > (120:Int))) with
 | true => exact ⟨_,rfl⟩
 | false => exact G3 _ _ (G3 _ _ (G3 _ _ (G3 _ _ ⟨_,rfl⟩)))
theorem Uj (x a b : Int) : Z5 x a b = some (decide (x ≥ a) && decide (x ≤ b)) := rfl
theorem Wh {x : Bq} (hx : Ek x) (hs : Dz x) {i : Nat} (hi : i < x.A3.length) : M8 x (i : Int) = some ((bif Sf x i then some (⟨2,(i : Int)⟩ : BW) else none).elim (.inl (((i + 1 : Nat) : Int))) .inr) := by
 have hl := hs.1.1
 obtain ⟨p,hp⟩ : ∃ p,x.A3[i]? = some p := ⟨_,dr hi⟩
 have hf := hx.1.2 p (ee hp)
 have hL : AQ (M9 x (i : Int) p) (0 : Int) = some (bif (x.A3.take i).any fun q => decide (q.Name = p.Name) then .inr ⟨2,(i : Int)⟩ else .inl ((i + 1 : Nat) : Int)) := by
  refine (Bp i (fun j => (j : Int)) (fun j => bif (x.A3[j]?).any (fun q => decide (q.Name = p.Name)) then some (.inr ⟨2,(i : Int)⟩) else none) (some (.inl ((i + 1 : Nat) : Int))) (fun j hj _ => ?_) (fun _ => ?_)).trans ?_
  ·unfold M9
   have hjl : j < x.A3.length := by omega
   simp only [Ci hj,rq,AJ,dr hjl,ba,NN,B7 (show j < 9223372036854775807 by omega),fq]
   cases decide (x.A3[j].Name = p.Name) <;> rfl
  ·unfold M9
   simp only [C5,rp,B7 (show i < 9223372036854775807 by omega)]
  ·rw [FC,Cs,EE]
 unfold M8
 simp only [Ci hi,rq,AJ,hp,ba,LH hf.1,Uj,EE,hL]
 have hb : Sf x i = (!j0 p || (x.A3.take i).any fun q => decide (q.Name = p.Name)) := by unfold Sf; rw [hp]; rfl
 rw [hb]
 unfold j0
 cases Fz p.Name <;> cases decide (p.Bo ≥ (1:Int)) <;> cases decide (p.Bo ≤ (10000000:Int)) <;> cases decide (p.Cc ≥ (1:Int)) <;> cases decide (p.Cc ≤ (10000:Int)) <;> cases decide (p.DM ≥ (1:Int)) <;> cases decide (p.DM ≤ (1000:Int)) <;> cases ((x.A3.take i).any fun q => decide (q.Name = p.Name)) <;> rfl
def JP (x : Bq) (i : Nat) : List (ByteArray × Bool) := (x.A3.take i).foldl (fun m p => bif true then Dx p.Name true m else m) []
theorem WC {x : Bq} (hx : Ek x) (hs : Dz x) {i : Nat} (hi : i < x.A3.length) : Ly x (JP x i,(i : Int)) = some ((bif Sf x i then some (⟨2,(i : Int)⟩ : BW) else none).elim (.inl ((JP x (i + 1),((i + 1 : Nat) : Int)))) .inr) := by
 have hl := hs.1.1
 obtain ⟨p,hp⟩ : ∃ p,x.A3[i]? = some p := ⟨_,dr hi⟩
 have hf := hx.1.2 p (ee hp)
 have hm : Dw p.Name (JP x i) false = (x.A3.take i).any fun q => decide (q.Name = p.Name) := by
  unfold JP
  rw [Rz (fun _ => true) (fun q : A1 => q.Name)]
  rfl
 have hn : JP x (i + 1) = Dx p.Name true (JP x i) := L9 _ _ hp
 have hb : Sf x i = (!j0 p || (x.A3.take i).any fun q => decide (q.Name = p.Name)) := by unfold Sf; rw [hp]; rfl
 have ho : bH p = some (j0 p) := by
  unfold bH
  rw [Qm hf.1]; rfl
 unfold Ly
 simp only [Ci hi,rq,AJ,hp,ba,ho,hm,hb,hn,B7 (show i < 9223372036854775807 by omega)]
 cases j0 p <;> cases ((x.A3.take i).any fun q => decide (q.Name = p.Name)) <;> rfl
theorem lU {x : Bq} (hs : Dz x) (e : Ac) : bQ x e = some (NB x e) := by
 have h1 := hs.1.1
 unfold bQ
 simp only [Uj,ba,EE]
 rw [TI (by omega)]
 unfold NB
 cases decide (e.A1 ≥ (0:Int)) <;> cases decide (e.A1 < (x.A3.length : Int)) <;> rfl
theorem vT (k : Int) : decide (k < (3:Int)) = decide (k ≤ (2:Int)) := by congr 1; apply propext; omega
theorem Wg {x : Bq} (hx : Ek x) (hs : Dz x) {i : Nat} {c : AG} (hc : x.A4[i]? = some c) : bJ x (i : Int) = some (bif P3 x c then 3 else bif LW x i c then 4 else 0) := by
 have hi := BL hc
 have hl := hs.2.1
 have hm := ee hc
 have hf := hx.2.2 c hm
 have hel : c.Ends.length ≤ 1048576 := (hs.2.2 c hm).1
 have hL2 : AQ (MF x (i : Int) c) (0 : Int) = some (bif (x.A4.take i).any fun q => decide (q.Name = c.Name) then 4 else 0) := by
  refine (Bp i (fun j => (j : Int)) (fun j => bif (x.A4[j]?).any (fun q => decide (q.Name = c.Name)) then some 4 else none) (some 0) (fun j hj _ => ?_) (fun _ => ?_)).trans ?_
  ·unfold MF
   have hjl : j < x.A4.length := by omega
   simp only [Ci hj,rq,AJ,dr hjl,ba,NN,B7 (show j < 9223372036854775807 by omega),fq]
   cases decide (x.A4[j].Name = c.Name) <;> rfl
  ·unfold MF
   simp only [C5,rp]
  ·rw [FC,Cs,EE]
 have hL1 : AQ (ME x (i : Int) c) (0 : Int) = some (bif c.Ends.any (fun e => !NB x e) then 3 else bif LW x i c then 4 else 0) := by
  refine (Bp c.Ends.length (fun j => (j : Int)) (fun j => bif (c.Ends[j]?).any (fun e => !NB x e) then some 3 else none) (some (bif LW x i c then 4 else 0)) (fun j hj _ => ?_) (fun _ => ?_)).trans ?_
  ·unfold ME
   simp only [Ci hj,rq,AJ,dr hj,ba,lU hs,B7 (show j < 9223372036854775807 by omega),fq]
   cases NB x c.Ends[j] <;> rfl
  ·unfold ME
   simp only [C5,rp,LH hf.2.1,hL2,ba,NN,vT,EE]
   unfold LW
   cases decide (c.Kind ≤ (2:Int)) <;> cases decide (c.Name = ({ data := #[] } : ByteArray)) <;> cases Fz c.Name <;> cases ((x.A4.take i).any fun d => decide (d.Name = c.Name)) <;> rfl
  ·rw [FC,Cs,mi,EE]
 unfold bJ
 simp only [AJ,hc,ba,Uj,hL1,EE]
 have hk : (!(decide (c.Kind ≥ (1:Int)) && decide (c.Kind ≤ (4:Int)))) = (decide (c.Kind < (1:Int)) || decide (c.Kind > (4:Int))) := by
  rw [gz]; simp
 rw [hk]
 unfold P3
 cases (decide (c.Kind < (1:Int)) || decide (c.Kind > (4:Int))) <;> cases ((c.Ends.length : Int) != c.Kind) <;> cases (c.Ends.any fun e => !NB x e) <;> rfl
theorem Sk (a b : Ac) : ((a.A1 == b.A1) && ((a.BI == b.BI) && true)) = decide (a = b) := by
 cases a; cases b
 rw [gz]
 simp
theorem Yx {x : Bq} (hs : Dz x) (e : Ac) : bL x e = some (FX x e) := by
 have hl := hs.2.1
 unfold bL
 refine (KX x.A4 (fun a (c : AG) => c.Ends.foldl (fun a x => bif decide (x = e) then AN (a + 1) else a) a) 0 some (fun a i c hc => ?_) (fun a => ?_)).trans ?_
 ·have hi := BL hc
  have hel : c.Ends.length ≤ 1048576 := (hs.2.2 c (ee hc)).1
  unfold OS
  simp only [Ci hi,rq,AJ,hc,ba]
  refine (KX c.Ends (fun a x => bif decide (x = e) then AN (a + 1) else a) a (fun a => (some (.inl (a,((i + 1 : Nat) : Int))) : Option ((Int × Int) ⊕ Int))) (fun b j y hy => ?_) (fun b => ?_))
  ·have hj := BL hy
   unfold OT OU
   simp only [Ci hj,rq,AJ,hy,ba,Sk,B7 (show j < 9223372036854775807 by omega)]
   cases decide (y = e) <;> rfl
  ·unfold OT
   simp only [C5,rp,B7 (show i < 9223372036854775807 by omega)]
 ·unfold OS
  simp only [C5,rp]
 ·unfold FX L6
  rw [qa]
theorem vS {i : Nat} (h : i < 2) : decide ((i : Int) < (2:Int)) = true := by rw [ry]; omega
theorem Yv {x : Bq} (hs : Dz x) : AQ (KO x) (0 : Int) = CN x.A3.length (fun i => bif Tw x i then some ⟨5,(i : Int)⟩ else none) (some ⟨0,0⟩) := by
 have hl := hs.1.1
 refine Bp x.A3.length (fun i => (i : Int)) _ _ (fun i hi _ => ?_) (fun _ => ?_)
 ·unfold KO
  simp only [Ci hi,rq]
  refine (Bp 2 (fun s => (s : Int)) (fun s => bif FX x ⟨(i : Int),(s : Int)⟩ != 1 then some (.inr ⟨5,(i : Int)⟩) else none) (some (.inl ((i + 1 : Nat) : Int))) (fun s hs2 _ => ?_) (fun _ => ?_)).trans ?_
  ·unfold OQ
   simp only [vS hs2,rq,Yx hs,ba,B7 (show s < 9223372036854775807 by omega)]
   cases (FX x ⟨(i : Int),(s : Int)⟩ != 1) <;> rfl
  ·unfold OQ
   have : decide (((2 : Nat) : Int) < (2:Int)) = false := by decide
   simp only [this,rp,B7 (show i < 9223372036854775807 by omega)]
  ·rw [FC]
   unfold Tw
   have : ((gj 2).any fun s : Nat => FX x ⟨(i : Int),(s : Int)⟩ != 1) = ((FX x ⟨(i : Int),0⟩ != 1) || (FX x ⟨(i : Int),1⟩ != 1)) := by
    simp [qn]
   rw [this]
   cases ((FX x ⟨(i : Int),0⟩ != 1) || (FX x ⟨(i : Int),1⟩ != 1)) <;> rfl
 ·unfold KO
  simp only [C5,rp]
theorem SI {x : Bq} (hx : Ek x) (hs : Dz x) (k : Nat) (hk : k < 100) : AQ (JG x (k : Int)) (0 : Int) = CN x.A4.length (fun i => (bif (x.A4[i]?).any (fun c => (bif P3 x c then 3 else bif LW x i c then 4 else 0) == (k : Int)) then some (⟨(k : Int),(i : Int)⟩ : BW) else none).map Sum.inr) (some (.inl ((k + 1 : Nat) : Int))) := by
 have hl := hs.2.1
 refine Bp x.A4.length (fun i => (i : Int)) _ _ (fun i hi _ => ?_) (fun _ => ?_)
 ·unfold JG
  simp only [Ci hi,rq,Wg hx hs (dr hi),dr hi,fq,ba,B7 (show i < 9223372036854775807 by omega)]
  cases ((bif P3 x x.A4[i] then 3 else bif LW x i x.A4[i] then 4 else 0) == (k : Int)) <;> rfl
 ·unfold JG
  simp only [C5,rp,B7 (show k < 9223372036854775807 by omega)]
theorem eB {x : Bq} (hx : Ek x) (hs : Dz x) : aW x = RS x := by
 have hl := hs.1.1
 unfold aW RS
 cases ((((x.A3.length : Int) == (0:Int)) || decide ((x.A3.length : Int) > (100:Int))) || decide ((x.A4.length : Int) > (120:Int))) with
 | true => rfl
 | false =>
  rw [rp,rp]
  refine Bp x.A3.length (fun i => (i : Int)) _ _ (fun i hi _ => Wh hx hs hi) (fun _ => ?_)
  unfold M8
  simp only [C5,rp]
  congr 1
  rw [LJ]
  have e3 : MA x (3:Int) = AQ (JG x ((3 : Nat) : Int)) 0 := rfl
  have e4 : MA x (4:Int) = AQ (JG x ((4 : Nat) : Int)) 0 := rfl
  have e5 : MA x (5:Int) = (AQ (KO x) 0).map Sum.inr := rfl
  rw [e3,SI hx hs 3 (by decide),NZ]
  show CN _ _ (AQ _ (4 : Int)) = _
  rw [LJ,e4,SI hx hs 4 (by decide),NZ]
  show CN _ _ (CN _ _ (AQ _ (5 : Int))) = _
  rw [LJ,e5,Yv hs]
  refine MJ (fun i hi => ?_) (fun h3 => ?_)
  ·simp only [dr hi,fq]
   cases P3 x x.A4[i] <;> cases LW x i x.A4[i] <;> rfl
  ·refine MJ (fun i hi => ?_) (fun _ => ?_)
   ·have := h3 i hi
    simp only [dr hi,fq] at this ⊢
    revert this
    cases P3 x x.A4[i] <;> cases LW x i x.A4[i] <;> simp
   ·obtain ⟨r,hr⟩ := G3 x.A3.length (fun i => bif Tw x i then some (⟨5,(i : Int)⟩ : BW) else none) (e := some ⟨0,0⟩) ⟨_,rfl⟩
    rw [hr]; rfl
def Gz (x : Bq) (i : Nat) : List (ByteArray × Bool) := (x.A4.take i).foldl (fun m c => bif !decide (c.Kind ≤ (2:Int)) then Dx c.Name true m else m) []
theorem Uv : Fz ({ data := #[] } : ByteArray) = false := by decide
theorem Uh {x : Bq} (hs : Dz x) {i : Nat} (hi : i < x.A4.length) : Lz x (i : Int) = some ((bif (x.A4[i]?).any (P3 x) then some (⟨3,(i : Int)⟩ : BW) else none).elim (.inl ((i + 1 : Nat) : Int)) .inr) := by
 have hl := hs.2.1
 obtain ⟨c,hc⟩ : ∃ c,x.A4[i]? = some c := ⟨_,dr hi⟩
 have hel : c.Ends.length ≤ 1048576 := (hs.2.2 c (ee hc)).1
 have hL : AQ (M4 x (i : Int) c) (0 : Int) = some (bif c.Ends.any (fun e => !NB x e) then .inr ⟨3,(i : Int)⟩ else .inl ((i + 1 : Nat) : Int)) := by
  refine (Bp c.Ends.length (fun j => (j : Int)) (fun j => bif (c.Ends[j]?).any (fun e => !NB x e) then some (.inr ⟨3,(i : Int)⟩) else none) (some (.inl ((i + 1 : Nat) : Int))) (fun j hj _ => ?_) (fun _ => ?_)).trans ?_
  ·unfold M4
   have hb : (((decide (c.Ends[j].A1 < (0:Int)) || decide (c.Ends[j].A1 ≥ (x.A3.length : Int))) || decide (c.Ends[j].BI < (0:Int))) || decide (c.Ends[j].BI > (1:Int))) = !NB x c.Ends[j] := by
    unfold NB
    rw [gz]; simp; omega
   simp only [Ci hj,rq,AJ,dr hj,ba,hb,B7 (show j < 9223372036854775807 by omega),fq]
   cases NB x c.Ends[j] <;> rfl
  ·unfold M4
   simp only [C5,rp,B7 (show i < 9223372036854775807 by omega)]
  ·rw [FC,Cs,mi,EE]
 unfold Lz
 simp only [Ci hi,rq,AJ,hc,ba,hL,fq]
 unfold P3
 cases (decide (c.Kind < (1:Int)) || decide (c.Kind > (4:Int))) <;> cases ((c.Ends.length : Int) != c.Kind) <;> cases (c.Ends.any fun e => !NB x e) <;> rfl
theorem Ui {x : Bq} (hx : Ek x) (hs : Dz x) {i : Nat} (hi : i < x.A4.length) (hb : ∀ j,j < i → (bif (x.A4[j]?).any (LW x j) then some (⟨4,(j : Int)⟩ : BW) else none) = none) : M5 x (Gz x i,(i : Int)) = some ((bif (x.A4[i]?).any (LW x i) then some (⟨4,(i : Int)⟩ : BW) else none).elim (.inl (Gz x (i + 1),((i + 1 : Nat) : Int))) .inr) := by
 have hl := hs.2.1
 obtain ⟨c,hc⟩ : ∃ c,x.A4[i]? = some c := ⟨_,dr hi⟩
 have hf := hx.2.2 c (ee hc)
 have hn : Gz x (i + 1) = bif !decide (c.Kind ≤ (2:Int)) then Dx c.Name true (Gz x i) else Gz x i := L9 _ _ hc
 have hm : Dw c.Name (Gz x i) false = (x.A4.take i).any fun d => (!decide (d.Kind ≤ (2:Int))) && decide (d.Name = c.Name) := by
  unfold Gz
  rw [Rz (fun d : AG => !decide (d.Kind ≤ (2:Int))) (fun d : AG => d.Name)]
 have ha : Fz c.Name = true → ((x.A4.take i).any fun d => (!decide (d.Kind ≤ (2:Int))) && decide (d.Name = c.Name)) = (x.A4.take i).any fun d => decide (d.Name = c.Name) := by
  intro hn
  rw [← Cs, ← Cs,gz,ma,ma]
  constructor
  ·rintro ⟨j,hj,h⟩
   refine ⟨j,hj, ?_⟩
   cases hd : x.A4[j]? with
   | none => rw [hd] at h; cases h
   | some d => rw [hd] at h; simp only [fq,ec] at h ⊢; exact h.2
  ·rintro ⟨j,hj,h⟩
   refine ⟨j,hj, ?_⟩
   have hbj := hb j (ik.1 hj)
   cases hd : x.A4[j]? with
   | none => rw [hd] at h; cases h
   | some d =>
    rw [hd] at h hbj
    simp only [fq,ec] at h hbj ⊢
    refine ⟨?_,h⟩
    cases hk : decide (d.Kind ≤ (2:Int)) with
    | false => rfl
    | true =>
     exfalso
     unfold LW at hbj
     rw [hk,rq] at hbj
     simp only [ry] at h
     rw [h] at hbj
     cases he : decide (c.Name = ({ data := #[] } : ByteArray)) with
     | false => rw [he] at hbj; simp at hbj
     | true =>
      simp only [ry] at he
      rw [he,Uv] at hn
      cases hn
 unfold M5 OP
 simp only [Ci hi,rq,AJ,hc,ba,Qm hf.2.1,hm,fq,NN,B7 (show i < 9223372036854775807 by omega),hn]
 unfold LW
 cases decide (c.Kind ≤ (2:Int)) with
 | true => cases decide (c.Name = ({ data := #[] } : ByteArray)) <;> rfl
 | false =>
  cases hn : Fz c.Name with
  | false => rfl
  | true =>
   rw [ha hn]
   cases ((x.A4.take i).any fun d => decide (d.Name = c.Name)) <;> rfl
def P7 (x : Bq) : List (Ac × Int) := (L6 x).foldl (fun m e => Dx e (AN (Dw e m 0 + 1)) m) []
theorem YQ {x : Bq} (hs : Dz x) : AQ (M6 x) (([] : List (Ac × Int)),(0:Int)) = CN x.A3.length (fun i => bif Tw x i then some ⟨5,(i : Int)⟩ else none) (some ⟨0,0⟩) := by
 have hl := hs.2.1
 have hp := hs.1.1
 refine (KX x.A4 (fun m (c : AG) => c.Ends.foldl (fun m e => Dx e (AN (Dw e m 0 + 1)) m) m) [] (fun m => AQ (M7 x m) (0:Int)) (fun a i c hc => ?_) (fun a => ?_)).trans ?_
 ·have hi := BL hc
  have hel : c.Ends.length ≤ 1048576 := (hs.2.2 c (ee hc)).1
  unfold M6
  simp only [Ci hi,rq,AJ,hc,ba]
  refine (KX c.Ends (fun m e => Dx e (AN (Dw e m 0 + 1)) m) a (fun a => (some (.inl (a,((i + 1 : Nat) : Int))) : Option ((List (Ac × Int) × Int) ⊕ BW))) (fun b j y hy => ?_) (fun b => ?_))
  ·have hj := BL hy
   unfold OO
   simp only [Ci hj,rq,AJ,hy,ba,B7 (show j < 9223372036854775807 by omega)]
  ·unfold OO
   simp only [C5,rp,B7 (show i < 9223372036854775807 by omega)]
 ·unfold M6
  simp only [C5,rp]
 ·have he : x.A4.foldl (fun m (c : AG) => c.Ends.foldl (fun m e => Dx e (AN (Dw e m 0 + 1)) m) m) [] = P7 x := by
   unfold P7 L6
   rw [qa]
  have hu : ∀ e,Dw e (P7 x) 0 = FX x e := fun e => Us _ _
  rw [he]
  refine Bp x.A3.length (fun i => (i : Int)) _ _ (fun i hi _ => ?_) (fun _ => ?_)
  ·unfold M7
   simp only [Ci hi,rq,hu,B7 (show i < 9223372036854775807 by omega)]
   unfold Tw
   cases ((FX x ⟨(i : Int),0⟩ != 1) || (FX x ⟨(i : Int),1⟩ != 1)) <;> rfl
  ·unfold M7
   simp only [C5,rp]
theorem cY {x : Bq} (hx : Ek x) (hs : Dz x) : aS x = RS x := by
 have hl := hs.1.1
 have ye := hs.2.1
 unfold aS RS
 cases ((((x.A3.length : Int) == (0:Int)) || decide ((x.A3.length : Int) > (100:Int))) || decide ((x.A4.length : Int) > (120:Int))) with
 | true => rfl
 | false =>
  rw [rp,rp]
  refine Bp x.A3.length (fun i => (JP x i,(i : Int))) _ _ (fun i hi _ => WC hx hs hi) (fun _ => ?_)
  unfold Ly
  simp only [C5,rp]
  congr 1
  refine Bp x.A4.length (fun i => (i : Int)) _ _ (fun i hi _ => Uh hs hi) (fun _ => ?_)
  unfold Lz
  simp only [C5,rp]
  congr 1
  refine Bp x.A4.length (fun i => (Gz x i,(i : Int))) _ _ (fun i hi hb => Ui hx hs hi hb) (fun _ => ?_)
  unfold M5
  simp only [C5,rp]
  congr 1
  exact YQ hs
theorem Yc {x : Bq} {r : BW} (h : RS x = some r) : ((r.Code == 0) && ((r.At == 0) && true)) = (r.Code == 0) := by
 have key : r = ⟨0,0⟩ ∨ (r.Code == 0) = false := by
  unfold RS at h
  cases hc : ((((x.A3.length : Int) == (0:Int)) || decide ((x.A3.length : Int) > (100:Int))) || decide ((x.A4.length : Int) > (120:Int))) with
  | true => rw [hc] at h; simp only [rq,an] at h; subst h; exact .inr rfl
  | false =>
   rw [hc,rp] at h
   rcases DQ h with ⟨i,_,hi⟩ | ⟨_,h⟩
   ·rw [← (EY hi).2]; exact .inr rfl
   rcases DQ h with ⟨i,_,hi⟩ | ⟨_,h⟩
   ·rw [← (EY hi).2]; exact .inr rfl
   rcases DQ h with ⟨i,_,hi⟩ | ⟨_,h⟩
   ·rw [← (EY hi).2]; exact .inr rfl
   rcases DQ h with ⟨i,_,hi⟩ | ⟨_,h⟩
   ·rw [← (EY hi).2]; exact .inr rfl
   exact .inl (by simpa using h.symm)
 rcases key with rfl | h
 ·rfl
 ·rw [h]; rfl
def Bh (x : Bq) : Bool := (RS x).any fun r => r.Code == 0
structure ZB (x : Bq) : Prop where
 pos : 0 < x.A3.length
 le : x.A3.length ≤ 100
 w0 : x.A4.length ≤ 120
 p : ∀ i,i < x.A3.length → Sf x i = false
 j3 : ∀ i,i < x.A4.length → (x.A4[i]?).any (P3 x) = false
 j4 : ∀ i,i < x.A4.length → (x.A4[i]?).any (LW x i) = false
 e : ∀ i,i < x.A3.length → Tw x i = false
theorem Fy {x : Bq} (h : Bh x = true) : ZB x := by
 obtain ⟨r,hr⟩ := TN x
 unfold Bh at h
 rw [hr] at h
 simp only [fq,beq_iff_eq] at h
 have h2 := hr
 unfold RS at h2
 cases hc : ((((x.A3.length : Int) == (0:Int)) || decide ((x.A3.length : Int) > (100:Int))) || decide ((x.A4.length : Int) > (120:Int))) with
 | true => rw [hc] at h2; simp only [rq,an] at h2; subst h2; cases h
 | false =>
  rw [hc,rp] at h2
  rcases DQ h2 with ⟨i,_,hi⟩ | ⟨h3,h2⟩
  ·rw [← (EY hi).2] at h; cases h
  rcases DQ h2 with ⟨i,_,hi⟩ | ⟨h4,h2⟩
  ·rw [← (EY hi).2] at h; cases h
  rcases DQ h2 with ⟨i,_,hi⟩ | ⟨h5,h2⟩
  ·rw [← (EY hi).2] at h; cases h
  rcases DQ h2 with ⟨i,_,hi⟩ | ⟨h6,h2⟩
  ·rw [← (EY hi).2] at h; cases h
  simp only [ku,beq_eq_false_iff_ne,rv] at hc
  exact ⟨by omega,by omega,by omega,fun i hi => Gs (h3 i hi),fun i hi => Gs (h4 i hi),fun i hi => Gs (h5 i hi),fun i hi => Gs (h6 i hi)⟩
theorem QN {x : Bq} (h : Bh x = true) {i : Nat} {p : A1} (hp : x.A3[i]? = some p) : j0 p = true := by
 have := (Fy h).p i (BL hp)
 unfold Sf at this
 rw [hp] at this
 simp only [fq,ku,Bool.not_eq_false'] at this
 exact this.1
theorem iN {x : Bq} (hx : Ek x) (hs : Dz x) : Zu x = some (Bh x) := by
 obtain ⟨r,hr⟩ := TN x
 unfold Zu Bh
 rw [cY hx hs,hr,ba,Yc hr]; rfl
theorem dC {x : Bq} (hx : Ek x) (hs : Dz x) : Zy x = some (Bh x) := by
 obtain ⟨r,hr⟩ := TN x
 unfold Zy Bh
 rw [eB hx hs,hr]; rfl
def Ye (n : Bq) (s : AI) : Bool := (((Fz s.Name && (decide (s.A1 ≥ (0:Int)) && decide (s.A1 < (n.A3.length : Int)))) && !((s.Way != (1:Int)) && (s.Way != (-1:Int)))) && (decide (s.At ≥ (1:Int)) && (n.A3[s.A1.toNat]?).any fun p => decide (s.At < p.Bo)))
def Mh (a b : AI) : Bool := decide (a.Name = b.Name) || (((a.A1 == b.A1) && (a.At == b.At)) && (a.Way == b.Way))
def Mo (l : List AI) (i : Nat) : Bool := (l[i]?).any fun s => (l.take i).any fun q => Mh q s
def V9 (n : Bq) (l : List AI) : Option BW :=
 bif !Bh n then some ⟨1,0⟩ else bif decide ((l.length : Int) > (60:Int)) then some ⟨2,0⟩ else
 CN l.length (fun i => bif (l[i]?).any (fun s => !Ye n s) then some ⟨3,(i : Int)⟩ else none) <|
 CN l.length (fun i => bif Mo l i then some ⟨4,(i : Int)⟩ else none) (some ⟨0,0⟩)
theorem jF (n : Bq) (l : List AI) : ∃ r,V9 n l = some r := by
 unfold V9
 cases !Bh n
 ·cases decide ((l.length : Int) > (60:Int))
  ·exact G3 _ _ (G3 _ _ ⟨_,rfl⟩)
  ·exact ⟨_,rfl⟩
 ·exact ⟨_,rfl⟩
theorem dP {p : Int} {n : Nat} (h0 : 0 ≤ p) (h1 : p < (n : Int)) : ∃ k : Nat,p = (k : Int) ∧ k < n := ⟨p.toNat,by omega,by omega⟩
theorem SH {n : Bq} (hg : Bh n = true) (hx : Ek n) (s : AI) : (decide (s.A1 ≥ (0:Int)) && decide (s.A1 < (n.A3.length : Int))) = false ∨ ∃ (k : Nat) (p : A1),s.A1 = (k : Int) ∧ n.A3[k]? = some p ∧ 1 ≤ p.Bo ∧ p.Bo ≤ 10000000 ∧ (decide (s.A1 ≥ (0:Int)) && decide (s.A1 < (n.A3.length : Int))) = true := by
 cases h : (decide (s.A1 ≥ (0:Int)) && decide (s.A1 < (n.A3.length : Int))) with
 | false => exact .inl rfl
 | true =>
  have h' := h
  simp only [ec,ry] at h
  obtain ⟨k,hk,hl⟩ := dP h.1 h.2
  have hp := dr hl
  have ho := QN hg hp
  unfold j0 at ho
  simp only [ec,ry] at ho
  exact .inr ⟨k,_,hk,hp,ho.1.1.1.1.1.2,ho.1.1.1.1.2,rfl⟩
theorem oT {a n : Int} (h1 : 1 ≤ n) (h2 : n ≤ 10000000) : decide (a ≤ AN (n - 1)) = decide (a < n) := TI (by omega)
theorem oS {a n : Int} (h1 : 1 ≤ n) (h2 : n ≤ 10000000) : decide (a > AN (n - 1)) = !decide (a < n) := by
 rw [CJ (by omega),gz]; simp; omega
theorem eC {n : Bq} {l : List AI} (hg : Bh n = true) (hx : Ek n) (hl : G4 EG l) (hs : l.length ≤ 60) {i : Nat} (hi : i < l.length) : Le n l (i : Int) = some ((bif (l[i]?).any (fun s => !Ye n s) then some (⟨3,(i : Int)⟩ : BW) else none).elim (.inl ((i + 1 : Nat) : Int)) .inr) := by
 have hn := (Fy hg).le
 obtain ⟨s,hp⟩ : ∃ s,l[i]? = some s := ⟨_,dr hi⟩
 have hf := hl.2 s (ee hp)
 unfold Le
 simp only [Ci hi,rq,AJ,hp,ba,LH hf.1,Uj,EE,fq,TI (y := s.A1) (n := (n.A3.length : Int)) (by omega),B7 (show i < 9223372036854775807 by omega)]
 unfold Ye
 rcases SH hg hx s with h | ⟨k,p,hk,hp,h1,h2,h⟩
 ·rw [h]
  cases Fz s.Name <;> rfl
 ·rw [h,hk]
  simp only [AJ,hp,ba,jv,fq,oT h1 h2]
  cases Fz s.Name <;> cases ((s.Way != (1:Int)) && (s.Way != (-1:Int))) <;> cases decide (s.At ≥ (1:Int)) <;> cases decide (s.At < p.Bo) <;> rfl
theorem cZ {n : Bq} {l : List AI} (hg : Bh n = true) (hx : Ek n) (hl : G4 EG l) (hs : l.length ≤ 60) {i : Nat} (hi : i < l.length) : Pr n l (i : Int) = some ((bif (l[i]?).any (fun s => !Ye n s) then some (⟨3,(i : Int)⟩ : BW) else none).elim (.inl ((i + 1 : Nat) : Int)) .inr) := by
 have hn := (Fy hg).le
 obtain ⟨s,hp⟩ : ∃ s,l[i]? = some s := ⟨_,dr hi⟩
 have hf := hl.2 s (ee hp)
 have e1 : decide (s.A1 < (0:Int)) = !decide (s.A1 ≥ (0:Int)) := by rw [gz]; simp
 have e2 : decide (s.A1 ≥ (n.A3.length : Int)) = !decide (s.A1 < (n.A3.length : Int)) := by rw [gz]; simp
 have e3 : decide (s.At < (1:Int)) = !decide (s.At ≥ (1:Int)) := by rw [gz]; simp
 unfold Pr
 simp only [Ci hi,rq,AJ,hp,ba,Qm hf.1,EE,fq,e1,e2,e3,B7 (show i < 9223372036854775807 by omega)]
 unfold Ye
 rcases SH hg hx s with h | ⟨k,p,hk,hp,h1,h2,h⟩
 ·revert h
  cases decide (s.A1 ≥ (0:Int)) <;> cases decide (s.A1 < (n.A3.length : Int)) <;> cases Fz s.Name <;> intro h <;> first | rfl | cases h
 ·have h3 : decide (s.A1 ≥ (0:Int)) = true := (ec _ _ ▸ h).1
  have h4 : decide (s.A1 < (n.A3.length : Int)) = true := (ec _ _ ▸ h).2
  rw [h3,h4,hk]
  simp only [AJ,hp,ba,jv,fq,oS h1 h2]
  cases Fz s.Name <;> cases ((s.Way != (1:Int)) && (s.Way != (-1:Int))) <;> cases decide (s.At ≥ (1:Int)) <;> cases decide (s.At < p.Bo) <;> rfl
theorem Xt {l : List AI} (hs : l.length ≤ 60) {i : Nat} (hi : i < l.length) : a7 l (i : Int) = some (Mo l i) := by
 have hc := dr hi
 unfold a7
 refine (Bp i (fun j => (j : Int)) (fun j => bif (l[j]?).any (fun q => Mh q l[i]) then some true else none) (some false) (fun j hj _ => ?_) (fun _ => ?_)).trans ?_
 ·unfold OH
  have hjl : j < l.length := by omega
  simp only [Ci hj,rq,AJ,dr hjl,hc,ba,NN,B7 (show j < 9223372036854775807 by omega),fq]
  show (bif Mh l[j] l[i] then _ else _) = _
  cases Mh l[j] l[i] <;> rfl
 ·unfold OH
  simp only [C5,rp]
 ·rw [FC,Cs]
  unfold Mo
  rw [hc,fq]
  cases ((l.take i).any fun q => Mh q l[i]) <;> rfl
theorem Wi {l : List AI} (hs : l.length ≤ 60) : AQ (Lf l) (0 : Int) = CN l.length (fun i => bif Mo l i then some ⟨4,(i : Int)⟩ else none) (some ⟨0,0⟩) := by
 refine Bp l.length (fun i => (i : Int)) _ _ (fun i hi _ => ?_) (fun _ => ?_)
 ·unfold Lf
  simp only [Ci hi,rq,Xt hs hi,ba,B7 (show i < 9223372036854775807 by omega)]
  cases Mo l i <;> rfl
 ·unfold Lf
  simp only [C5,rp]
theorem Yr (a b : AI) : ((a.Name.toList == b.Name.toList) || (((a.A1 == b.A1) && (a.At == b.At)) && (a.Way == b.Way))) = Mh b a := by
 unfold Mh
 rw [NN,gz]
 simp only [gg,ec,ry,beq_iff_eq]
 constructor <;> rintro (h | ⟨⟨h1,h2⟩,h3⟩) <;> first | exact .inl h.symm | exact .inr ⟨⟨h1.symm,h2.symm⟩,h3.symm⟩
theorem Yy {α : Type} (xs : List α) {i : Nat} (h : i ≤ xs.length) : VB xs 0 (i : Int) = some (xs.take i) := by
 unfold VB
 rw [ru ⟨by omega,by omega,by omega⟩]
 simp
theorem WD {l : List AI} (hs : l.length ≤ 60) : AQ (Ps l) (0 : Int) = CN l.length (fun i => bif Mo l i then some ⟨4,(i : Int)⟩ else none) (some ⟨0,0⟩) := by
 refine Bp l.length (fun i => (i : Int)) _ _ (fun i hi _ => ?_) (fun _ => ?_)
 ·have hc := dr hi
  have hti : (l.take i).length = i := by rw [List.length_take]; omega
  have hL : AQ (Pt (i : Int) l[i] (l.take i)) (0 : Int) = some (bif Mo l i then .inr ⟨4,(i : Int)⟩ else .inl ((i + 1 : Nat) : Int)) := by
   refine (Bp (l.take i).length (fun j => (j : Int)) (fun j => bif ((l.take i)[j]?).any (fun q => Mh q l[i]) then some (.inr ⟨4,(i : Int)⟩) else none) (some (.inl ((i + 1 : Nat) : Int))) (fun j hj _ => ?_) (fun _ => ?_)).trans ?_
   ·unfold Pt
    simp only [Ci hj,rq,AJ,dr hj,ba,Yr,B7 (show j < 9223372036854775807 by omega),fq]
    cases Mh (l.take i)[j] l[i] <;> rfl
   ·unfold Pt
    simp only [C5,rp,B7 (show i < 9223372036854775807 by omega)]
   ·rw [FC,Cs,mi,EE]
    unfold Mo
    rw [hc,fq]
  unfold Ps
  simp only [Ci hi,rq,AJ,hc,ba,Yy l (Nat.le_of_lt hi),hL]
  cases Mo l i <;> rfl
 ·unfold Ps
  simp only [C5,rp]
theorem Yw {n : Bq} {l : List AI} (hx : Ek n) (hs : Dz n) (hl : G4 EG l) : ZW n l = V9 n l := by
 unfold ZW V9
 rw [dC hx hs,ba]
 cases hg : Bh n with
 | false => rfl
 | true =>
  simp only [fo,rp]
  cases hb : decide ((l.length : Int) > (60:Int)) with
  | true => rfl
  | false =>
   simp only [rv] at hb
   have h60 : l.length ≤ 60 := by omega
   rw [rp,rp]
   refine Bp l.length (fun i => (i : Int)) _ _ (fun i hi _ => eC hg hx hl h60 hi) (fun _ => ?_)
   unfold Le
   simp only [C5,rp,Wi h60]
theorem YR {n : Bq} {l : List AI} (hx : Ek n) (hs : Dz n) (hl : G4 EG l) : oD n l = V9 n l := by
 unfold oD V9
 rw [iN hx hs,ba]
 cases hg : Bh n with
 | false => rfl
 | true =>
  simp only [fo,rp]
  cases hb : decide ((l.length : Int) > (60:Int)) with
  | true => rfl
  | false =>
   simp only [rv] at hb
   have h60 : l.length ≤ 60 := by omega
   rw [rp,rp]
   refine Bp l.length (fun i => (i : Int)) _ _ (fun i hi _ => cZ hg hx hl h60 hi) (fun _ => ?_)
   unfold Pr
   simp only [C5,rp,WD h60]
theorem Nk {n : Bq} (hg : Bh n = true) (q : Int) : (decide (q ≥ (0:Int)) && decide (q < (n.A3.length : Int))) = false ∨ ∃ (k : Nat) (p : A1),q = (k : Int) ∧ n.A3[k]? = some p ∧ 1 ≤ p.Bo ∧ p.Bo ≤ 10000000 ∧ (decide (q ≥ (0:Int)) && decide (q < (n.A3.length : Int))) = true := by
 cases h : (decide (q ≥ (0:Int)) && decide (q < (n.A3.length : Int))) with
 | false => exact .inl rfl
 | true =>
  simp only [ec,ry] at h
  obtain ⟨k,hk,hl⟩ := dP h.1 h.2
  have hp := dr hl
  have ho := QN hg hp
  unfold j0 at ho
  simp only [ec,ry] at ho
  exact .inr ⟨k,_,hk,hp,ho.1.1.1.1.1.2,ho.1.1.1.1.2,rfl⟩
def Sl (n : Bq) (j : Nat) : List Ac := ((n.A4[j]?).map (·.Ends)).getD []
def ZK (n : Bq) (e : Ac) (j : Nat) : Option (Int × Int) := CN (Sl n j).length (fun k => bif ((Sl n j)[k]?).any (fun x => decide (x = e)) then some ((j : Int),(k : Int)) else none) none
def nY (n : Bq) (e : Ac) : Option (Int × Int) := CN n.A4.length (ZK n e) (some (-1, -1))
theorem IE {n : Bq} {j : Nat} {c : AG} (hc : n.A4[j]? = some c) : Sl n j = c.Ends := by unfold Sl; rw [hc]; rfl
theorem lV (a b : Ac) : ((b.A1 == a.A1) && ((b.BI == a.BI) && true)) = decide (a = b) := by
 rw [Sk,gz]
 simp only [ry]
 exact eq_comm
theorem KU {n : Bq} (hs : Dz n) (e : Ac) : UO n e = nY n e := by
 have hl := hs.2.1
 unfold UO
 refine Bp n.A4.length (fun j => (j : Int)) _ _ (fun j hj _ => ?_) (fun _ => ?_)
 ·have hc := dr hj
  have hel : n.A4[j].Ends.length ≤ 1048576 := (hs.2.2 _ (ee hc)).1
  unfold OM
  simp only [Ci hj,rq,AJ,hc,ba]
  unfold ZK
  rw [IE hc, ← NY]
  refine Bp n.A4[j].Ends.length (fun k => (k : Int)) _ _ (fun k hk _ => ?_) (fun _ => ?_)
  ·unfold ON
   simp only [Ci hk,rq,AJ,dr hk,ba,lV,fq,B7 (show k < 9223372036854775807 by omega)]
   cases decide (n.A4[j].Ends[k] = e) <;> rfl
  ·unfold ON
   simp only [C5,rp,B7 (show j < 9223372036854775807 by omega)]
 ·unfold OM
  simp only [C5,rp]
theorem SR {e : Ac} : ∀ (xs : List Ac) (a : Int),(∀ x ∈ xs,x ≠ e) → xs.foldl (fun a x => bif decide (x = e) then AN (a + 1) else a) a = a
 | [],_,_ => rfl
 | x :: xs,a,h => by
  rw [lg,decide_eq_false (h x (fh ..)),rp]
  exact SR xs a (fun y hy => h y (List.mem_cons_of_mem _ hy))
def DA (k : Nat) (b : Bool) : Ac := ⟨(k : Int),if b then 1 else 0⟩
theorem cP {n : Bq} (hg : Bh n = true) {k : Nat} (hk : k < n.A3.length) (b : Bool) : DA k b ∈ L6 n := by
 have h5 := (Fy hg).e k hk
 unfold Tw at h5
 simp only [ku,bne_eq_false_iff_eq] at h5
 have hu : FX n (DA k b) = 1 := by cases b; exact h5.1; exact h5.2
 refine jk fun hn => ?_
 have := SR (e := DA k b) (L6 n) 0 (fun x hx e => hn (e ▸ hx))
 unfold FX at hu
 rw [this] at hu
 cases hu
theorem Wy {n : Bq} (hg : Bh n = true) {k : Nat} (hk : k < n.A3.length) (b : Bool) : ∃ (j m : Nat) (c : AG),nY n (DA k b) = some ((j : Int),(m : Int)) ∧ n.A4[j]? = some c ∧ c.Ends[m]? = some (DA k b) := by
 obtain ⟨r,hr⟩ : ∃ r,nY n (DA k b) = some r := G3 _ _ ⟨_,rfl⟩
 rcases DQ hr with ⟨j,hj,h⟩ | ⟨h,_⟩
 ·obtain ⟨c,hc⟩ : ∃ c,n.A4[j]? = some c := ⟨_,dr hj⟩
  unfold ZK at h
  rw [IE hc] at h
  rcases DQ h with ⟨m,hm,h⟩ | ⟨_,h⟩
  ·obtain ⟨h1,h2⟩ := EY h
   refine ⟨j,m,c,by rw [hr, ← h2],hc, ?_⟩
   rw [dr hm] at h1 ⊢
   simp only [fq,ry] at h1
   rw [h1]
  ·cases h
 ·exfalso
  have hm := cP hg hk b
  unfold L6 at hm
  obtain ⟨c,hc,he⟩ := List.mem_flatMap.1 hm
  obtain ⟨j,hj,hcj⟩ := mj hc
  obtain ⟨m,hm,hem⟩ := mj he
  have tv : n.A4[j]? = some c := by rw [dr hj,hcj]
  have h1 := h j hj
  unfold ZK at h1
  rw [IE tv] at h1
  have h2 := YK h1 m hm
  have h3 := Gs h2
  rw [dr hm,hem] at h3
  simp at h3
theorem GD {n : Bq} (hg : Bh n = true) {j : Nat} {c : AG} (hc : n.A4[j]? = some c) : (1 ≤ c.Kind ∧ c.Kind ≤ 4) ∧ (c.Ends.length : Int) = c.Kind ∧ ∀ e ∈ c.Ends,NB n e = true := by
 have h := (Fy hg).j3 j (BL hc)
 rw [hc,fq] at h
 unfold P3 at h
 simp only [ku,rv,bne_eq_false_iff_eq,nx,jj,Bool.not_eq_false] at h
 exact ⟨by omega,h.1.2,h.2⟩
def Lc (c : AG) (i : Nat) : Ac := c.Ends.getD i ⟨0,0⟩
def CU (c : AG) (k : Nat) : List Ac :=
 if c.Kind = 2 then [Lc c (1 - k)] else if c.Kind = 3 then (if k = 0 then [Lc c 1,Lc c 2] else [Lc c 0]) else if c.Kind = 4 then [Lc c ([1,0,3,2].getD k 0)] else []
def TH (c : AG) (k : Nat) : List Int :=
 if c.Kind = 2 then [0] else if c.Kind = 3 then (if k = 0 then [1,2] else [(k : Int)]) else if c.Kind = 4 then [0] else []
theorem G5 {c : AG} (h : (1 ≤ c.Kind ∧ c.Kind ≤ 4) ∧ (c.Ends.length : Int) = c.Kind) : (∃ a b,c = ⟨1,a,[b]⟩) ∨ (∃ a b d,c = ⟨2,a,[b,d]⟩) ∨ (∃ a b d e,c = ⟨3,a,[b,d,e]⟩) ∨ ∃ a b d e f,c = ⟨4,a,[b,d,e,f]⟩ := by
 obtain ⟨K,N,E⟩ := c
 simp only [] at h
 match E,h with
 | [],⟨h1,h2⟩ => simp only [et] at h2; omega
 | [b],⟨h1,h2⟩ => simp only [er,et] at h2; have : K = 1 := (by omega); subst this; exact .inl ⟨N,b,rfl⟩
 | [b,d],⟨h1,h2⟩ => simp only [er,et] at h2; have : K = 2 := (by omega); subst this; exact .inr (.inl ⟨N,b,d,rfl⟩)
 | [b,d,e],⟨h1,h2⟩ => simp only [er,et] at h2; have : K = 3 := (by omega); subst this; exact .inr (.inr (.inl ⟨N,b,d,e,rfl⟩))
 | [b,d,e,f],⟨h1,h2⟩ => simp only [er,et] at h2; have : K = 4 := (by omega); subst this; exact .inr (.inr (.inr ⟨N,b,d,e,f,rfl⟩))
 | b :: d :: e :: f :: g :: r,⟨h1,h2⟩ => simp only [er] at h2; omega
theorem TT {n : Bq} (hs : Dz n) (hg : Bh n = true) {e : Ac} {j k : Nat} {c : AG} (ha : nY n e = some ((j : Int),(k : Int))) (hc : n.A4[j]? = some c) (hk : k < c.Ends.length) : Vx n e = some (CU c k,TH c k) := by
 have h := GD hg hc
 unfold Vx
 rw [KU hs,ha]
 have hj : decide (((j : Nat) : Int) < (0:Int)) = false := by rw [rv]; omega
 simp only [ba,hj,rp,AJ,hc]
 rcases G5 ⟨h.1,h.2.1⟩ with ⟨a,b,rfl⟩ | ⟨a,b,d,rfl⟩ | ⟨a,b,d,e,rfl⟩ | ⟨a,b,d,e,f,rfl⟩
 ·rfl
 ·match k,hk with
  | 0,_ => rfl
  | 1,_ => rfl
 ·match k,hk with
  | 0,_ => rfl
  | 1,_ => rfl
  | 2,_ => rfl
 ·match k,hk with
  | 0,_ => rfl
  | 1,_ => rfl
  | 2,_ => rfl
  | 3,_ => rfl
theorem VX (c : AG) (k : Nat) : (CU c k).length ≤ 2 := by
 unfold CU
 split
 ·simp
 ·split
  ·split <;> simp
  ·split <;> simp
def HJ (p w : Int) : Ac := bif w == 1 then ⟨p,1⟩ else ⟨p,0⟩
theorem N7 (p w : Int) : YG p w = some (HJ p w) := by
 unfold YG HJ
 cases w == 1 <;> rfl
theorem YY (k : Nat) (w : Int) : HJ (k : Int) w = DA k (w == 1) := by
 unfold HJ DA
 cases w == 1 <;> rfl
theorem Wz {n : Bq} (hg : Bh n = true) {k : Nat} (hk : k < n.A3.length) (w : Int) : ∃ (j m : Nat) (c : AG),nY n (HJ (k : Int) w) = some ((j : Int),(m : Int)) ∧ n.A4[j]? = some c ∧ c.Ends[m]? = some (HJ (k : Int) w) := by
 rw [YY]; exact Wy hg hk _
theorem K4 {σ τ ρ ρ' : Type} {F : σ → Option (σ ⊕ ρ)} {F' : τ → Option (τ ⊕ ρ')} (n : Nat) (R : Nat → σ → τ → Prop) (Q : ρ → ρ' → Prop) (h : ∀ i s t,i < n → R i s t → (∃ s' t',F s = some (.inl s') ∧ F' t = some (.inl t') ∧ R (i + 1) s' t') ∨ ∃ r r',F s = some (.inr r) ∧ F' t = some (.inr r') ∧ Q r r') (uh : ∀ s t,R n s t → ∃ r r',F s = some (.inr r) ∧ F' t = some (.inr r') ∧ Q r r') (s : σ) (t : τ) (h0 : R 0 s t) : ∃ r r',AQ F s = some r ∧ AQ F' t = some r' ∧ Q r r' := by
 have key : ∀ k i s t,i + k = n → R i s t → ∃ r r',AQ F s = some r ∧ AQ F' t = some r' ∧ Q r r' := by
  intro k
  induction k with
  | zero =>
   intro i s t hi hR
   have : i = n := by omega
   subst this
   obtain ⟨r,r',h1,h2,h3⟩ := uh s t hR
   exact ⟨r,r',by rw [Ap,h1]; rfl,by rw [Ap,h2]; rfl,h3⟩
  | succ k ih =>
   intro i s t hi hR
   rcases h i s t (by omega) hR with ⟨s',t',h1,h2,h3⟩ | ⟨r,r',h1,h2,h3⟩
   ·obtain ⟨r,r',h5,h6,h7⟩ := ih (i + 1) s' t' (by omega) h3
    exact ⟨r,r',by rw [Ap,h1]; exact h5,by rw [Ap,h2]; exact h6,h7⟩
   ·exact ⟨r,r',by rw [Ap,h1]; rfl,by rw [Ap,h2]; rfl,h3⟩
 exact key n 0 s t (by omega) h0
theorem EP {α : Type} {b : Nat} {xs ys : List α} (hb : b ≤ 1000) (h : xs.length + ys.length ≤ 4194304) : CL b xs ys = some (xs ++ ys) := fH (by
 have := Nat.mul_le_mul h (show b + 1 ≤ 1001 by omega)
 omega)
theorem XN : ∀ (n : Nat) (xs : List Nat),xs.Nodup → (∀ x ∈ xs,x < n) → xs.length ≤ n
 | 0,[],_,_ => dz _
 | 0,x :: xs,_,h => absurd (h x (fh ..)) (Nat.not_lt_zero _)
 | n + 1,xs,hn,h => by
  have h1 := XN n (xs.erase n) (hn.erase n) (fun x hx => by
   have h2 := (hn.mem_erase_iff).1 hx
   have h3 := h x h2.2
   have h4 := h2.1
   omega)
  by_cases hm : n ∈ xs
  ·rw [List.length_erase_of_mem hm] at h1; omega
  ·rw [List.erase_of_not_mem hm] at h1; omega
theorem Uw {α : Type} (f : α → Nat) (n : Nat) {xs : List α} (hn : xs.Nodup) (h : ∀ x ∈ xs,f x < n) (hf : ∀ x ∈ xs, ∀ y ∈ xs,f x = f y → x = y) : xs.length ≤ n := by
 have h1 : (xs.map f).Nodup := by
  unfold List.Nodup
  rw [List.pairwise_map]
  exact hn.imp_of_mem fun {a b} ha hb sq e => sq (hf a ha b hb e)
 have := XN n (xs.map f) h1 (fun x hx => by
  obtain ⟨y,hy,rfl⟩ := List.mem_map.1 hx
  exact h y hy)
 rwa [List.length_map] at this
theorem Qn {α : Type} {xs : List α} {x : α} (h : xs.Nodup) (hx : x ∉ xs) : (xs ++ [x]).Nodup := by
 rw [List.nodup_append]
 refine ⟨h,by simp,fun a ha b hb e => ?_⟩
 rw [dt] at hb
 exact hx (hb ▸ e ▸ ha)
theorem P1 {α : Type} [DecidableEq α] {xs : List α} {x : α} : (xs.any fun y => decide (y = x)) = decide (x ∈ xs) := by
 rw [gz,ma,ry]
 constructor
 ·rintro ⟨y,hy,h⟩; rw [ry] at h; exact h ▸ hy
 ·intro h; exact ⟨x,h,by simp⟩
def FL (L w a : Int) : Int := if w = 1 then a else L - a
theorem Se (L w a : Int) : FL L w (FL L w a) = a := by unfold FL; split <;> omega
theorem N0 {n : Bq} {k : Nat} {p : A1} (hp : n.A3[k]? = some p) (h1 : 1 ≤ p.Bo) (h2 : p.Bo ≤ 10000000) {w a : Int} (ha : 0 ≤ a) (hb : a ≤ p.Bo) : Vz n (k : Int) a w = some (FL p.Bo w a) := by
 unfold Vz FL
 by_cases hw : w = 1
 ·rw [hw]; rfl
 ·rw [rr hw,beq_eq_false_iff_ne.2 hw,rp]
  simp only [AJ,hp,ba]
  rw [CJ (by omega)]
theorem RA {w a b : Int} (hw : w = 1 ∨ w = -1) (ha : 0 ≤ a ∧ a ≤ 10000000) (hb : 0 ≤ b ∧ b ≤ 10000000) : AN (AN (a - b) * w) = if w = 1 then a - b else b - a := by
 rcases hw with rfl | rfl
 ·rw [CJ (x := a - b) (by omega),rm,CJ (by omega),ru rfl]
 ·rw [CJ (x := a - b) (by omega),show (a - b) * -1 = b - a by omega,CJ (by omega),rr (by decide)]
theorem S6 {n : Bq} (hg : Bh n = true) {s : AI} (h : Ye n s = true) : ∃ (k : Nat) (p : A1),s.A1 = (k : Int) ∧ n.A3[k]? = some p ∧ 1 ≤ p.Bo ∧ p.Bo ≤ 10000000 ∧ (s.Way = 1 ∨ s.Way = -1) ∧ 1 ≤ s.At ∧ s.At < p.Bo := by
 unfold Ye at h
 simp only [ec] at h
 obtain ⟨⟨⟨_,hp⟩,hw⟩,ha,hl⟩ := h
 rcases Nk hg s.A1 with h1 | ⟨k,p,hk,hp2,h1,h2,h3⟩
 ·rw [kn] at h1
  rcases h1 with h1 | h1
  ·rw [h1] at hp; exact absurd hp.1 (by decide)
  ·rw [h1] at hp; exact absurd hp.2 (by decide)
 ·rw [hk,jv,hp2] at hl
  simp only [fq,ry] at hl ha
  refine ⟨k,p,hk,hp2,h1,h2, ?_,ha,hl⟩
  simp only [jj,kn,bne_eq_false_iff_eq] at hw
  exact hw
theorem Qq {n : Bq} (hg : Bh n = true) {s : AI} (h : Ye n s = true) {k : Nat} {p : A1} (hk : s.A1 = (k : Int)) (hp : n.A3[k]? = some p) : (s.Way = 1 ∨ s.Way = -1) ∧ 1 ≤ s.At ∧ s.At < p.Bo := by
 obtain ⟨k2,p2,e,hp2,_,_,h3⟩ := S6 hg h
 have : k2 = k := by omega
 subst this
 rw [hp] at hp2
 cases hp2
 exact h3
def Rc (sg : List AI) (k : Nat) (w : Int) (f : AI → Prop) (v : Int) : Prop := v < 0 ∨ ∃ (i : Nat) (s : AI),v = (i : Int) ∧ sg[i]? = some s ∧ s.A1 = (k : Int) ∧ s.Way = w ∧ f s
theorem Yb {n : Bq} {sg : List AI} (hg : Bh n = true) (hsg : ∀ s ∈ sg,Ye n s = true) (hl : sg.length ≤ 60) {k : Nat} {p : A1} (hp : n.A3[k]? = some p) (h1 : 1 ≤ p.Bo) (h2 : p.Bo ≤ 10000000) {w far : Int} (hw : w = 1 ∨ w = -1) (hf0 : 0 ≤ far) (hf1 : far ≤ p.Bo) : ∃ v : Int,Y6 n sg (k : Int) w far = some v ∧ YF sg ⟨(k : Int),FL p.Bo w far,w⟩ = some v ∧ Rc sg k w (fun s => far < FL p.Bo w s.At) v := by
 suffices h : ∃ r r',Y6 n sg (k : Int) w far = some r ∧ YF sg ⟨(k : Int),FL p.Bo w far,w⟩ = some r' ∧ (r = r' ∧ Rc sg k w (fun s => far < FL p.Bo w s.At) r) by
  obtain ⟨r,r',h1,h2,rfl,h3⟩ := h
  exact ⟨r,h1,h2,h3⟩
 unfold Y6 YF
 refine K4 sg.length (fun i s t => s = t ∧ s.2 = (i : Int) ∧ Rc sg k w (fun s => far < FL p.Bo w s.At) s.1) _ (fun i s t hi hR => .inl ?_) (fun s t hR => ?_) _ _ ⟨rfl,rfl, .inl (by decide)⟩
 ·obtain ⟨rfl,hs,hb⟩ := hR
  obtain ⟨b,j⟩ := s
  simp only [] at hs hb
  subst hs
  obtain ⟨c,hc⟩ : ∃ c,sg[i]? = some c := ⟨_,dr hi⟩
  have vm := hsg c (ee hc)
  unfold O8 OK Lg OL
  simp only [Ci hi,rq,AJ,hc,ba,B7 (show i < 9223372036854775807 by omega)]
  by_cases hon : c.A1 = (k : Int) ∧ c.Way = w
  ·obtain ⟨hk,hcw⟩ := hon
   obtain ⟨_,a1,a2⟩ := Qq hg vm hk hp
   have e1 : ((c.A1 != (k : Int)) || (c.Way != w)) = false := by rw [hk,hcw]; simp
   have e2 : ((c.A1 == (k : Int)) && (c.Way == w)) = true := by rw [hk,hcw]; simp
   have e3 : decide (AN (AN (c.At - FL p.Bo w far) * w) > 0) = !decide (FL p.Bo w c.At ≤ far) := by
    rw [RA hw ⟨by omega,by omega⟩ (by unfold FL; split <;> omega), ← decide_not]
    congr 1; apply propext
    unfold FL; split <;> omega
   rw [e1,e2,e3]
   simp only [rp,Bool.true_and,N0 hp h1 h2 (show 0 ≤ c.At by omega) (show c.At ≤ p.Bo by omega),ba]
   by_cases hf : FL p.Bo w c.At ≤ far
   ·rw [decide_eq_true hf]
    exact ⟨_,_,rfl,rfl,rfl,rfl,hb⟩
   ·rw [decide_eq_false hf]
    have xf : Rc sg k w (fun s => far < FL p.Bo w s.At) (i : Int) := .inr ⟨i,c,rfl,hc,hk,hcw,by omega⟩
    simp only [rp,oh,rq]
    by_cases ua : b < 0
    ·rw [decide_eq_true ua]
     exact ⟨_,_,rfl,rfl,rfl,rfl,xf⟩
    ·rw [decide_eq_false ua]
     obtain ⟨j,q,rfl,hq,hqk,hqw,hqf⟩ := hb.resolve_left ua
     obtain ⟨_,b1,b2⟩ := Qq hg (hsg q (ee hq)) hqk hp
     have e4 : decide (AN (AN (c.At - q.At) * w) < 0) = decide (FL p.Bo w c.At < FL p.Bo w q.At) := by
      rw [RA hw ⟨by omega,by omega⟩ ⟨by omega,by omega⟩]
      congr 1; apply propext
      unfold FL; split <;> omega
     simp only [rp,AJ,hq,ba,N0 hp h1 h2 (show 0 ≤ q.At by omega) (show q.At ≤ p.Bo by omega),e4]
     cases decide (FL p.Bo w c.At < FL p.Bo w q.At)
     ·exact ⟨_,_,rfl,rfl,rfl,rfl,hb⟩
     ·exact ⟨_,_,rfl,rfl,rfl,rfl,xf⟩
  ·have e1 : ((c.A1 != (k : Int)) || (c.Way != w)) = true := by
    rw [gg,bne_iff_ne,bne_iff_ne]
    by_cases hk : c.A1 = (k : Int)
    ·exact .inr fun e => hon ⟨hk,e⟩
    ·exact .inl hk
   have e2 : ((c.A1 == (k : Int)) && (c.Way == w)) = false := by
    rw [kn,beq_eq_false_iff_ne,beq_eq_false_iff_ne]
    by_cases hk : c.A1 = (k : Int)
    ·exact .inr fun e => hon ⟨hk,e⟩
    ·exact .inl hk
   rw [e1,e2]
   exact ⟨_,_,rfl,rfl,rfl,rfl,hb⟩
 ·obtain ⟨rfl,hs,hb⟩ := hR
  obtain ⟨b,j⟩ := s
  simp only [] at hs hb
  subst hs
  unfold O8 OK
  simp only [C5,rp,dq]
  exact ⟨_,_,rfl,rfl,rfl,hb⟩
theorem NG {n : Bq} {k : Nat} {p : A1} (hp : n.A3[k]? = some p) (h1 : 1 ≤ p.Bo) (h2 : p.Bo ≤ 10000000) {w a b : Int} (hw : w = 1 ∨ w = -1) (ha : 0 ≤ a) (hab : a ≤ b) (hb : b ≤ p.Bo) : ∃ q,Vq n (k : Int) w a b = some q ∧ Vw (k : Int) (FL p.Bo w a) (FL p.Bo w b) = some q := by
 unfold Vq Vw O9 FL
 rcases hw with rfl | rfl
 ·refine ⟨_,rfl, ?_⟩
  congr 2
  ·simp only [if_true]; split <;> omega
  ·simp only [if_true]; split <;> omega
 ·simp only [AJ,hp,ba,CJ (show -9223372036854775808 ≤ p.Bo - b ∧ p.Bo - b ≤ 9223372036854775807 by omega),CJ (show -9223372036854775808 ≤ p.Bo - a ∧ p.Bo - a ≤ 9223372036854775807 by omega)]
  refine ⟨_,rfl, ?_⟩
  have e : ¬ ((-1 : Int) = 1) := by decide
  simp only [rr e]
  congr 2
  ·split <;> omega
  ·split <;> omega
theorem J7 {n : Bq} (hs : Dz n) (e : Ac) : Vr n e = nY n e := by
 have hl := hs.2.1
 unfold Vr
 refine Bp n.A4.length (fun j => (j : Int)) _ _ (fun j hj _ => ?_) (fun _ => ?_)
 ·have hc := dr hj
  have hel : n.A4[j].Ends.length ≤ 1048576 := (hs.2.2 _ (ee hc)).1
  unfold OB
  simp only [Ci hj,rq,AJ,hc,ba]
  unfold ZK
  rw [IE hc, ← NY]
  refine Bp n.A4[j].Ends.length (fun k => (k : Int)) _ _ (fun k hk _ => ?_) (fun _ => ?_)
  ·unfold OC
   simp only [Ci hk,rq,AJ,dr hk,ba,Sk,fq,B7 (show k < 9223372036854775807 by omega)]
   cases decide (n.A4[j].Ends[k] = e) <;> rfl
  ·unfold OC
   simp only [C5,rp,B7 (show j < 9223372036854775807 by omega)]
 ·unfold OB
  simp only [C5,rp]
theorem KR (p w : Int) : Y8 p w = some (HJ p w) := by
 unfold Y8 HJ
 cases w == 1 <;> rfl
theorem NT {c : AG} (h : (1 ≤ c.Kind ∧ c.Kind ≤ 4) ∧ (c.Ends.length : Int) = c.Kind) {k : Nat} (hk : k < c.Ends.length) : Zb c (k : Int) = some (CU c k) := by
 rcases G5 h with ⟨a,b,rfl⟩ | ⟨a,b,d,rfl⟩ | ⟨a,b,d,e,rfl⟩ | ⟨a,b,d,e,f,rfl⟩
 ·rfl
 ·match k,hk with
  | 0,_ => rfl
  | 1,_ => rfl
 ·match k,hk with
  | 0,_ => rfl
  | 1,_ => rfl
  | 2,_ => rfl
 ·match k,hk with
  | 0,_ => rfl
  | 1,_ => rfl
  | 2,_ => rfl
  | 3,_ => rfl
theorem VY {c : AG} (h : (1 ≤ c.Kind ∧ c.Kind ≤ 4) ∧ (c.Ends.length : Int) = c.Kind) {k : Nat} (hk : k < c.Ends.length) : ∀ e ∈ CU c k,e ∈ c.Ends := by
 rcases G5 h with ⟨a,b,rfl⟩ | ⟨a,b,d,rfl⟩ | ⟨a,b,d,e,rfl⟩ | ⟨a,b,d,e,f,rfl⟩
 ·intro e he; simp [CU] at he
 ·match k,hk with
  | 0,_ => intro x hx; simp [CU,Lc] at hx; simp [hx]
  | 1,_ => intro x hx; simp [CU,Lc] at hx; simp [hx]
 ·match k,hk with
  | 0,_ => intro x hx; simp [CU,Lc] at hx; rcases hx with h | h <;> simp [h]
  | 1,_ => intro x hx; simp [CU,Lc] at hx; simp [hx]
  | 2,_ => intro x hx; simp [CU,Lc] at hx; simp [hx]
 ·match k,hk with
  | 0,_ => intro x hx; simp [CU,Lc] at hx; simp [hx]
  | 1,_ => intro x hx; simp [CU,Lc] at hx; simp [hx]
  | 2,_ => intro x hx; simp [CU,Lc] at hx; simp [hx]
  | 3,_ => intro x hx; simp [CU,Lc] at hx; simp [hx]
theorem Md {n : Bq} (hg : Bh n = true) {e : Ac} (h : NB n e = true) : ∃ (k : Nat) (p : A1) (b : Bool),e = DA k b ∧ n.A3[k]? = some p ∧ 1 ≤ p.Bo ∧ p.Bo ≤ 10000000 := by
 unfold NB at h
 simp only [ec] at h
 rcases Nk hg e.A1 with h1 | ⟨k,p,hk,hp,h1,h2,_⟩
 ·rw [kn] at h1
  rcases h1 with h1 | h1
  ·rw [h1] at h; exact absurd h.1.1 (by decide)
  ·rw [h1] at h; exact absurd h.1.2 (by decide)
 ·have h3 := h.2
  simp only [ry] at h3
  obtain ⟨P,S⟩ := e
  simp only [] at hk h3
  rcases (show S = 0 ∨ S = 1 by omega) with rfl | rfl
  ·exact ⟨k,p,false,by rw [hk]; rfl,hp,h1,h2⟩
  ·exact ⟨k,p,true,by rw [hk]; rfl,hp,h1,h2⟩
theorem KV {n : Bq} (hg : Bh n = true) {j : Nat} {c : AG} (hc : n.A4[j]? = some c) {m : Nat} (hm : m < c.Ends.length) {e : Ac} (he : e ∈ CU c m) : NB n e = true :=
 (GD hg hc).2.2 e (VY ⟨(GD hg hc).1,(GD hg hc).2.1⟩ hm e he)
def NS (b : Bool) : Int := if b then -1 else 1
theorem Tn (b : Bool) : NS b = 1 ∨ NS b = -1 := by cases b <;> simp [NS]
theorem UA {n : Bq} {k : Nat} {p : A1} (hp : n.A3[k]? = some p) (b : Bool) : YH n (DA k b) = some ⟨(k : Int),FL p.Bo (NS b) 0,NS b⟩ := by
 unfold YH
 cases b
 ·rfl
 ·show (AR n.A3 (k : Int)).bind _ = _
  simp only [AJ,hp,ba]
  unfold FL NS DA
  simp
theorem Ty {n : Bq} (hs : Dz n) (hg : Bh n = true) {F : Cb} (hF : F.xN = n) : ∀ (left k : Nat) (p : A1) (w far : Int) (parts : List Ai),left ≤ 100000 → n.A3[k]? = some p → 1 ≤ p.Bo → p.Bo ≤ 10000000 → (w = 1 ∨ w = -1) → 0 ≤ far → far < p.Bo → parts.length + left ≤ 100000 → ∃ r,AQ (Lh F) ((k : Int),w,far,parts,(left : Int)) = some r ∧ AQ (MC n) ((k : Int),FL p.Bo w far,w,(left : Int),parts) = some r ∧ r.length ≤ 100000 := by
 intro left
 induction left using Nat.strongRecOn with
 | ind left ih =>
  intro k p w far parts hL hp h1 h2 hw hf0 hf1 hlen
  rcases ke left with rfl | hpos
  ·refine ⟨parts, ?_, ?_,by omega⟩
   ·rw [Ap]; rfl
   ·rw [Ap]; rfl
  ·have hgt : decide ((left : Int) > (0:Int)) = true := by rw [ry]; omega
   obtain ⟨stop,wi⟩ : ∃ s : Int,s = if far + left > p.Bo then p.Bo else far + left := ⟨_,rfl⟩
   have wx : far < stop ∧ stop ≤ p.Bo ∧ stop - far ≤ left := by rw [wi]; split <;> omega
   have hmin : (if (left : Int) < p.Bo - far then (left : Int) else p.Bo - far) = stop - far := by rw [wi]; split <;> split <;> omega
   obtain ⟨q,vn,zy⟩ := NG hp h1 h2 hw hf0 (show far ≤ stop by omega) wx.2.1
   obtain ⟨j,m,c,ha,hc,hm⟩ := Wz hg (BL hp) w
   have hml := BL hm
   have ho := GD hg hc
   obtain ⟨l2,ye⟩ : ∃ l2 : Nat,(l2 : Int) = left - (stop - far) := ⟨(left - (stop - far)).toNat,by omega⟩
   have e1 : Lh F ((k : Int),w,far,parts,(left : Int)) = JE F (k : Int) w far (left : Int) stop (parts ++ [q]) := by
    have hk2 : Li F (k : Int) w far (left : Int) parts stop = JE F (k : Int) w far (left : Int) stop (parts ++ [q]) := by
     unfold Li
     rw [decide_eq_true (show stop > far by omega),rq,hF,vn,ba,EP (by decide) (by simp only [er,et]; omega),ba]
    unfold Lh
    simp only [hgt,rq,hF,AJ,hp,ba,CJ (show -9223372036854775808 ≤ far + (left : Int) ∧ far + (left : Int) ≤ 9223372036854775807 by omega)]
    by_cases hb : far + (left : Int) > p.Bo
    ·rw [decide_eq_true hb,rq]
     rw [ru hb] at wi
     rw [← wi]; exact hk2
    ·rw [decide_eq_false hb,rp]
     rw [rr hb] at wi
     rw [← wi]; exact hk2
   have hw1 : AN ((left : Int) - AN (stop - far)) = (l2 : Int) := by rw [CJ (x := stop - far) (by omega),CJ (by omega),ye]
   have f1 : MC n ((k : Int),FL p.Bo w far,w,(left : Int),parts) = IG n (left : Int) (HJ (k : Int) w) (p.Bo - far) (parts ++ [q]) := by
    have hk3 : MD n (k : Int) (FL p.Bo w far) w (left : Int) (HJ (k : Int) w) parts (p.Bo - far) = IG n (left : Int) (HJ (k : Int) w) (p.Bo - far) (parts ++ [q]) := by
     have hto : AN (FL p.Bo w far + AN ((stop - far) * w)) = FL p.Bo w stop := by
      unfold FL
      rcases hw with rfl | rfl
      ·rw [rm,CJ (x := stop - far) (by omega),CJ (by rw [ru rfl]; omega),ru rfl,ru rfl]; omega
      ·have e : ¬ ((-1 : Int) = 1) := by decide
       rw [show (stop - far) * -1 = far - stop by omega,CJ (x := far - stop) (by omega),CJ (by rw [rr e]; omega),rr e,rr e]; omega
     unfold MD
     rw [hmin,decide_eq_true (show stop - far > 0 by omega),rq,hto,zy,ba,EP (by decide) (by simp only [er,et]; omega),ba]
    unfold MC
    simp only [hgt,rq,N7,ba]
    rcases hw with rfl | rfl
    ·have e : AN (p.Bo - FL p.Bo 1 far) = p.Bo - far := by unfold FL; rw [ru rfl,CJ (by omega)]
     simp only [sa,rq,AJ,hp,ba,e]
     exact hk3
    ·exact hk3
   have hp2 : (parts ++ [q]).length + l2 ≤ 100000 := by simp only [dw,er,et]; omega
   by_cases hkind : c.Kind = 2
   ·obtain ⟨e,he,hgi,hgo⟩ : ∃ e,NB n e = true ∧ AR c.Ends (AN ((1:Int) - (m : Int))) = some e ∧ AR (CU c m) 0 = some e := by
     rcases G5 ⟨ho.1,ho.2.1⟩ with ⟨a,b,rfl⟩ | ⟨a,b,d,rfl⟩ | ⟨a,b,d,e,rfl⟩ | ⟨a,b,d,e,f,rfl⟩
     ·cases hkind
     ·have h2 : m < 2 := hml
      obtain rfl | rfl : m = 0 ∨ m = 1 := by omega
      ·exact ⟨d,ho.2.2 d (by simp),rfl,rfl⟩
      ·exact ⟨b,ho.2.2 b (by simp),rfl,rfl⟩
     ·cases hkind
     ·cases hkind
    obtain ⟨k2,p2,b2,rfl,hp2',g1,g2⟩ := Md hg he
    have f2 : IG n (left : Int) (HJ (k : Int) w) (p.Bo - far) (parts ++ [q]) = some (.inl ((k2 : Int),FL p2.Bo (NS b2) 0,NS b2,(l2 : Int),parts ++ [q])) := by
     unfold IG
     have hk : (c.Kind != (2:Int)) = false := by rw [hkind]; rfl
     simp only [KU hs,ha,ba,AJ,hc,hk,rp,TT hs hg ha hc hml,hgo,UA hp2',hmin]
     rw [← ye,CJ (by omega)]
    obtain ⟨r,i1,i2,i3⟩ := ih l2 (by omega) k2 p2 (NS b2) 0 (parts ++ [q]) (by omega) hp2' g1 g2 (Tn b2) (px _) (by omega) hp2
    refine ⟨r, ?_,by rw [Ap,f1,f2]; exact i2,i3⟩
    rw [Ap,e1]
    unfold JE OA
    simp only [KR,hF,J7 hs,ha,ba,AJ,hc,hw1,hgi]
    rcases ke l2 with rfl | hl2p
    ·have : r = parts ++ [q] := by
      rw [Ap] at i1
      exact (dv i1).symm
     subst this
     rfl
    ·have hz : (((l2 : Nat) : Int) == (0:Int)) = false := by rw [beq_eq_false_iff_ne]; omega
     have hk : (c.Kind != (2:Int)) = false := by rw [hkind]; rfl
     simp only [hz,rp,ba,hk]
     cases b2
     ·exact i1
     ·exact i1
   ·have hk : (c.Kind != (2:Int)) = true := by rw [bne_iff_ne]; exact hkind
    refine ⟨parts ++ [q], ?_, ?_,by omega⟩
    ·rw [Ap,e1]
     unfold JE
     simp only [KR,hF,J7 hs,ha,ba,AJ,hc,hw1,hk]
     cases (((l2 : Nat) : Int) == (0:Int)) <;> rfl
    ·rw [Ap,f1]
     unfold IG OR
     simp only [KU hs,ha,ba,AJ,hc,hk,rq]
     rfl
theorem GH {ρ : Type} {F : Int → Option (Int ⊕ ρ)} : ∀ (n : Nat),(∀ i,i < n → F (i : Int) = some (.inl ((i + 1 : Nat) : Int))) → AQ F (0 : Int) = AQ F (n : Int)
 | 0,_ => rfl
 | n + 1,h => by
  rw [GH n (fun i hi => h i (by omega)),Ap,h n (by omega)]; rfl
theorem R5 {α : Type} (b : α → Bool) (xs : List α) : (∀ (i : Nat) (x : α),xs[i]? = some x → b x = false) ∨ ∃ (i : Nat) (x : α),xs[i]? = some x ∧ b x = true ∧ ∀ (j : Nat) (y : α),j < i → xs[j]? = some y → b y = false := by
 rcases FD xs.length (fun i => bif (xs[i]?).any b then some () else none) with h | ⟨i,r,hi,hj,hr⟩
 ·refine .inl fun i x hx => ?_
  have := Gs (h i (BL hx))
  rwa [hx] at this
 ·refine .inr ⟨i,xs[i],dr hi, ?_,fun j y hl hy => ?_⟩
  ·have := (EY hr).1
   rwa [dr hi] at this
  ·have := Gs (hj j hl)
   rwa [hy] at this
theorem JU {α : Type} {b : α → Bool} {xs : List α} (h : ∀ (i : Nat) (x : α),xs[i]? = some x → b x = false) : xs.any b = false := by
 rw [nx]
 intro x hx
 obtain ⟨i,hi,rfl⟩ := mj hx
 rw [h i _ (dr hi)]; decide
theorem LP {α : Type} {b : α → Bool} {xs : List α} {i : Nat} {x : α} (hx : xs[i]? = some x) (hb : b x = true) : xs.any b = true := ma.2 ⟨x,ee hx,hb⟩
instance : DecidableEq BR := fun a b => decidable_of_iff (a.A1 = b.A1 ∧ a.Way = b.Way) ⟨fun h => by cases a; cases b; simp_all,fun h => h ▸ ⟨rfl,rfl⟩⟩
instance : DecidableEq BQ := fun a b => decidable_of_iff (a.AG = b.AG ∧ a.BQ = b.BQ) ⟨fun h => by cases a; cases b; simp_all,fun h => h ▸ ⟨rfl,rfl⟩⟩
theorem jG (a b : BR) : ((b.A1 == a.A1) && ((b.Way == a.Way) && true)) = decide (a = b) := by
 cases a; cases b
 rw [gz]
 simp only [pw,ec,beq_iff_eq,ry,BR.mk.injEq]
 exact ⟨fun h => ⟨h.1.symm,h.2.symm⟩,fun h => ⟨h.1.symm,h.2.symm⟩⟩
theorem nC (a b : BQ) : ((b.AG == a.AG) && ((b.BQ == a.BQ) && true)) = decide (a = b) := by
 cases a; cases b
 rw [gz]
 simp only [pw,ec,beq_iff_eq,ry,BQ.mk.injEq]
 exact ⟨fun h => ⟨h.1.symm,h.2.symm⟩,fun h => ⟨h.1.symm,h.2.symm⟩⟩
theorem Xy {xs : List BR} (hl : xs.length ≤ 1048576) (v : BR) : aC xs v = some (xs.any fun y => decide (y = v)) := by
 unfold aC gJ
 have h : ∀ (i : Nat) (x : BR),xs[i]? = some x → MB xs v (i : Int) = some (bif decide (x = v) then .inr (i : Int) else .inl ((i + 1 : Nat) : Int)) := fun i x hx => by
  have hi := BL hx
  unfold MB
  simp only [Ci hi,rq,AJ,hx,ba,jG,B7 (show i < 9223372036854775807 by omega)]
  cases decide (x = v) <;> rfl
 rcases R5 (fun y => decide (y = v)) xs with h0 | ⟨i,x,hx,hb,hj⟩
 ·rw [GH xs.length (fun i hi => by rw [h i _ (dr hi)]; have := h0 i _ (dr hi); rw [this]; rfl),JU h0,Ap]
  unfold MB
  simp only [C5,rp]
  rfl
 ·have hi := BL hx
  rw [GH i (fun j hl => by
   have hy := dr (show j < xs.length by omega)
   rw [h j _ hy]; have := hj j _ hl hy; rw [this]; rfl),LP (b := fun y => decide (y = v)) hx hb,Ap,h i x hx]
  rw [hb]
  show some (decide ((i : Int) ≥ 0)) = _
  rw [decide_eq_true (by omega)]
theorem Xx {xs : List BQ} (hl : xs.length ≤ 1048576) (v : BQ) : bO xs v = some (xs.any fun y => decide (y = v)) := by
 unfold bO gL
 have h : ∀ (i : Nat) (x : BQ),xs[i]? = some x → MH xs v (i : Int) = some (bif decide (x = v) then .inr (i : Int) else .inl ((i + 1 : Nat) : Int)) := fun i x hx => by
  have hi := BL hx
  unfold MH
  simp only [Ci hi,rq,AJ,hx,ba,nC,B7 (show i < 9223372036854775807 by omega)]
  cases decide (x = v) <;> rfl
 rcases R5 (fun y => decide (y = v)) xs with h0 | ⟨i,x,hx,hb,hj⟩
 ·rw [GH xs.length (fun i hi => by rw [h i _ (dr hi)]; have := h0 i _ (dr hi); rw [this]; rfl),JU h0,Ap]
  unfold MH
  simp only [C5,rp]
  rfl
 ·have hi := BL hx
  rw [GH i (fun j hl => by
   have hy := dr (show j < xs.length by omega)
   rw [h j _ hy]; have := hj j _ hl hy; rw [this]; rfl),LP (b := fun y => decide (y = v)) hx hb,Ap,h i x hx]
  rw [hb]
  show some (decide ((i : Int) ≥ 0)) = _
  rw [decide_eq_true (by omega)]
def P0 (seen : List Ac) (m : List (Ac × Bool)) : Prop := ∀ x,Dw x m false = decide (x ∈ seen)
theorem Ys : P0 [] [] := fun x => rfl
theorem P0.snoc {seen : List Ac} {m : List (Ac × Bool)} (h : P0 seen m) (e : Ac) : P0 (seen ++ [e]) (Dx e true m) := fun x => by
 rw [NA,h x]
 by_cases hx : x = e
 ·rw [ru hx,hx]; simp
 ·rw [rr hx]; simp [hx]
theorem Sn {n : Bq} (hg : Bh n = true) {xs : List Ac} (hn : xs.Nodup) (h : ∀ x ∈ xs,NB n x = true) : xs.length ≤ 200 := by
 have h1 := (Fy hg).le
 have key : ∀ x ∈ xs, ∃ k b,x = DA k b ∧ k < n.A3.length := fun x hx => by
  obtain ⟨k,p,b,e,hp,_⟩ := Md hg (h x hx)
  exact ⟨k,b,e,BL hp⟩
 have := Uw (fun x : Ac => 2 * x.A1.toNat + x.BI.toNat) (2 * n.A3.length) hn (fun x hx => by
  obtain ⟨k,b,rfl,hk⟩ := key x hx
  cases b <;> simp [DA] <;> omega) (fun x hx y hy e => by
  obtain ⟨k,b,rfl,_⟩ := key x hx
  obtain ⟨k',b',rfl,_⟩ := key y hy
  cases b <;> cases b' <;> simp [DA] at e ⊢ <;> omega)
 omega
structure SX (n : Bq) (seen : List Ac) (flS flI : List AD) (r : (List Ac) × List AD) (r' : (List (Ac × Bool)) × List AD) (add : List AD) : Prop where
 s : r.2 = flS ++ add
 i : r'.2 = flI ++ add
 le : add.length + seen.length ≤ r.1.length
 nd : r.1.Nodup
 ok : ∀ x ∈ r.1,NB n x = true
 m : P0 r.1 r'.1
theorem qT {sg : List AI} {lie : BQ} {n : Bq} {R : A8} {rc : Ac → (List (Ac × Bool)) → (List AI) → (List AD) → BQ → Bq → A8 → Option ((List (Ac × Bool)) × List AD)} {x : Ac} {hs : List Int} {m : List (Ac × Bool)} {fl : List AD} : AQ (OV sg lie n R rc ([x],hs)) (m,fl,0) = rc x m sg fl lie n R := by
 rw [Ap]
 show ((rc x m sg fl lie n R).bind fun tz => some (Sum.inl (tz.1,tz.2,(1:Int)))).bind _ = _
 cases rc x m sg fl lie n R with
 | none => rfl
 | some z => simp only [ba]; rw [Ap]; rfl
theorem qU {sg : List AI} {lie : BQ} {n : Bq} {R : A8} {rc : Ac → (List (Ac × Bool)) → (List AI) → (List AD) → BQ → Bq → A8 → Option ((List (Ac × Bool)) × List AD)} {x y : Ac} {hs : List Int} {m : List (Ac × Bool)} {fl : List AD} : AQ (OV sg lie n R rc ([x,y],hs)) (m,fl,0) = (rc x m sg fl lie n R).bind fun z => rc y z.1 sg z.2 lie n R := by
 rw [Ap]
 show ((rc x m sg fl lie n R).bind fun tz => some (Sum.inl (tz.1,tz.2,(1:Int)))).bind _ = _
 cases rc x m sg fl lie n R with
 | none => rfl
 | some z =>
  simp only [ba]
  rw [Ap]
  show ((rc y z.1 sg z.2 lie n R).bind fun tz => some (Sum.inl (tz.1,tz.2,(2:Int)))).bind _ = _
  cases rc y z.1 sg z.2 lie n R with
  | none => rfl
  | some z => simp only [ba]; rw [Ap]; rfl
theorem iM (k : Nat) (b : Bool) : (⟨(DA k b).A1,AN ((1:Int) - (DA k b).BI)⟩ : Ac) = DA k (!b) := by
 cases b
 ·show (⟨(k : Int),AN (1 - 0)⟩ : Ac) = ⟨(k : Int),1⟩
  rw [CJ (by omega)]; rfl
 ·show (⟨(k : Int),AN (1 - 1)⟩ : Ac) = ⟨(k : Int),0⟩
  rw [CJ (by omega)]; rfl
def Mp (b : Bool) : Int := if b then 1 else -1
theorem QU {n : Bq} (hg : Bh n = true) {j m : Nat} {c : AG} (hc : n.A4[j]? = some c) (hm : m < c.Ends.length) : c.Kind = 1 ∨ (c.Kind = 3 ∧ m = 0 ∧ ∃ x y,AR c.Ends 1 = some x ∧ AR c.Ends 2 = some y ∧ CU c m = [x,y]) ∨ (c.Kind = 3 ∧ 1 ≤ m ∧ m ≤ 2 ∧ ∃ x,CU c m = [x]) ∨ ((c.Kind = 2 ∨ c.Kind = 4) ∧ ∃ x,CU c m = [x]) := by
 have ho := GD hg hc
 rcases G5 ⟨ho.1,ho.2.1⟩ with ⟨a,b,rfl⟩ | ⟨a,b,d,rfl⟩ | ⟨a,b,d,e,rfl⟩ | ⟨a,b,d,e,f,rfl⟩
 ·exact .inl rfl
 ·exact .inr (.inr (.inr ⟨.inl rfl,_,rfl⟩))
 ·match m,hm with
  | 0,_ => exact .inr (.inl ⟨rfl,rfl,_,_,rfl,rfl,rfl⟩)
  | 1,_ => exact .inr (.inr (.inl ⟨rfl,by omega,by omega,_,rfl⟩))
  | 2,_ => exact .inr (.inr (.inl ⟨rfl,by omega,by omega,_,rfl⟩))
 ·exact .inr (.inr (.inr ⟨.inr rfl,_,rfl⟩))
theorem nB (x : BQ) (j m : Int) : ((x.AG == j) && (x.BQ == m)) = decide (x = ⟨j,m⟩) := by
 cases x
 rw [gz]
 simp only [ec,beq_iff_eq,ry,BQ.mk.injEq]
theorem dJ {R : A8} (hl : R.AK.length ≤ 1000) (hf : R.Ad.length ≤ 2000000) {a : Int} {z : List Ac} {j m : Int} : AQ (KM R a z (j,m)) (0 : Int) = some (z,R.Ad ++ [bif R.AK.any (fun y => decide (y = ⟨j,m⟩)) then ⟨a,4,j,0⟩ else ⟨a,3,j,AN (3 - m)⟩]) := by
 have h : ∀ (i : Nat) (x : BQ),R.AK[i]? = some x → KM R a z (j,m) (i : Int) = some (bif decide (x = ⟨j,m⟩) then .inr (z,R.Ad ++ [⟨a,4,j,0⟩]) else .inl ((i + 1 : Nat) : Int)) := fun i x hx => by
  have hi := BL hx
  unfold KM
  simp only [Ci hi,rq,AJ,hx,ba,nB,B7 (show i < 9223372036854775807 by omega)]
  rw [EP (by decide) (by simp only [er,et]; omega)]
  cases decide (x = ⟨j,m⟩) <;> rfl
 rcases R5 (fun y => decide (y = (⟨j,m⟩ : BQ))) R.AK with h0 | ⟨i,x,hx,hb,hj⟩
 ·rw [GH R.AK.length (fun i hi => by rw [h i _ (dr hi)]; have := h0 i _ (dr hi); rw [this]; rfl),JU h0,Ap]
  unfold KM
  simp only [C5,rp]
  rw [EP (by decide) (by simp only [er,et]; omega)]
  rfl
 ·have hi := BL hx
  rw [GH i (fun j hl => by
   have hy := dr (show j < R.AK.length by omega)
   rw [h j _ hy]; have := hj j _ hl hy; rw [this]; rfl),LP (b := fun y => decide (y = (⟨j,m⟩ : BQ))) hx hb,Ap,h i x hx,hb]
  rfl
theorem W0 {n : Bq} {sg : List AI} {lies : List BQ} {a : Int} (hs : Dz n) (hg : Bh n = true) (hsg : ∀ s ∈ sg,Ye n s = true) (hl : sg.length ≤ 60) (hll : lies.length ≤ 1000) : ∀ (N : Nat) (F : Cb) (R R2 : A8) (m : List (Ac × Bool)) (e : Ac) (lie : BQ) (fl : List AD),F.xN = n → F.A9 = sg → R.AK = lies → R2.AK = lies → lie.AG = a → NB n e = true → F.Bk.Nodup → (∀ x ∈ F.Bk,NB n x = true) → P0 F.Bk m → 201 ≤ F.Bk.length + N → R.Ad.length ≤ 1000000 + F.Bk.length → fl.length ≤ 1000000 + F.Bk.length → ∃ r r' add,Su N F R a e = some r ∧ YI N e m sg fl lie n R2 = some r' ∧ SX n F.Bk R.Ad fl r r' add := by
 intro N
 induction N with
 | zero =>
  intro F R R2 m e lie fl _ _ _ _ _ _ yi vm _ hN _ _
  have := Sn hg yi vm
  omega
 | succ N ih =>
  intro F R R2 m e lie fl hFn hFs hR hR2 hat he yi vm hm hN hf1 hf2
  subst hFn hFs hR hat
  have hsl := Sn hg yi vm
  show ∃ r r' add,PL (Su N) F R lie.AG e = some r ∧ PS (YI N) e m F.A9 fl lie F.xN R2 = some r' ∧ _
  unfold PL PS
  have uk : ∀ (i : Nat) (x : Ac),F.Bk[i]? = some x → KL F R lie.AG e (Su N) (i : Int) = some (bif decide (x = e) then .inr (F.Bk,R.Ad) else .inl ((i + 1 : Nat) : Int)) := fun i x hx => by
   have hi := BL hx
   unfold KL
   simp only [Ci hi,rq,AJ,hx,ba,Sk,B7 (show i < 9223372036854775807 by omega)]
   cases decide (x = e) <;> rfl
  rcases R5 (fun y => decide (y = e)) F.Bk with h0 | ⟨i,x,hx,hb,hj⟩
  rotate_left
  ·have hi := BL hx
   have hmem : e ∈ F.Bk := by rw [ry] at hb; exact hb ▸ ee hx
   refine ⟨(F.Bk,R.Ad),(m,fl),[], ?_, ?_,⟨(gi _).symm,(gi _).symm,by simp,yi,vm,hm⟩⟩
   ·rw [GH i (fun j hl => by
     have hy := dr (show j < F.Bk.length by omega)
     rw [uk j _ hy]; have := hj j _ hl hy; rw [this]; rfl),Ap,uk i x hx,hb]
    rfl
   ·rw [hm e,decide_eq_true hmem]; rfl
  ·have yg : e ∉ F.Bk := fun h => by
    have := JU h0
    rw [P1,rv] at this
    exact this h
   rw [GH F.Bk.length (fun i hi => by rw [uk i _ (dr hi)]; have := h0 i _ (dr hi); rw [this]; rfl),Ap,hm e,decide_eq_false yg,rp]
   obtain ⟨k,p,b,rfl,hp,h1,h2⟩ := Md hg he
   obtain ⟨z,vi⟩ : ∃ z,z = F.Bk ++ [DA k b] := ⟨_,rfl⟩
   have ug : z.length = F.Bk.length + 1 := by rw [vi]; simp
   have hznd : z.Nodup := by rw [vi]; exact Qn yi yg
   have hzok : ∀ x ∈ z,NB F.xN x = true := fun x hx => by
    rw [vi,eb,dt] at hx
    rcases hx with hx | rfl
    ·exact vm x hx
    ·exact he
   have hzm : P0 z (Dx (DA k b) true m) := by rw [vi]; exact hm.snoc _
   have hz : CL 16 F.Bk [DA k b] = some z := by rw [vi]; exact EP (by decide) (by simp only [er,et]; omega)
   have uh : KL F R lie.AG (DA k b) (Su N) (F.Bk.length : Int) = (KN F R lie.AG (DA k b) (Su N) z (Mp b)).map Sum.inr := by
    unfold KL
    simp only [C5,rp,hz,ba]
    cases b <;> rfl
   rw [uh]
   suffices H : ∃ r r',KN F R lie.AG (DA k b) (Su N) z (Mp b) = some r ∧ AQ (MG (DA k b) m F.A9 fl lie F.xN R2 (YI N)) ((-1:Int),(0:Int)) = some r' ∧ ∃ add,SX F.xN F.Bk R.Ad fl r r' add by
    obtain ⟨r,r',h3,h4,add,h5⟩ := H
    exact ⟨r,r',add,by rw [h3]; rfl,h4,h5⟩
   have hwy : AN ((1:Int) - AN ((2:Int) * (DA k b).BI)) = NS b := by
    cases b
    ·show AN (1 - AN (2 * 0)) = 1
     rw [CJ (x := 2 * 0) (by omega),CJ (by omega)]; rfl
    ·show AN (1 - AN (2 * 1)) = -1
     rw [CJ (x := 2 * 1) (by omega),CJ (by omega)]; rfl
   have hwf : AN (0 - NS b) = Mp b := by
    cases b
    ·show AN (0 - 1) = -1
     rw [CJ (by omega)]; rfl
    ·show AN (0 - -1) = 1
     rw [CJ (by omega)]; rfl
   unfold KN
   refine K4 F.A9.length (fun i s t => s = t ∧ s.2 = (i : Int) ∧ Rc F.A9 k (Mp b) (fun _ => True) s.1) (fun r r' => ∃ add,SX F.xN F.Bk R.Ad fl r r' add) (fun i s t hi hR' => .inl ?_) (fun s t hR' => ?_) _ _ ⟨rfl,rfl, .inl (by decide)⟩
   ·obtain ⟨rfl,hss,hb⟩ := hR'
    obtain ⟨best,i2⟩ := s
    simp only [] at hss hb
    subst hss
    obtain ⟨c,hc⟩ : ∃ c,F.A9[i]? = some c := ⟨_,dr hi⟩
    have hcok := hsg c (ee hc)
    unfold OI MG OJ OW
    simp only [Ci hi,rq,AJ,hc,ba,B7 (show i < 9223372036854775807 by omega),hwy,hwf]
    cases hon : ((c.A1 == (DA k b).A1) && (c.Way == Mp b)) with
    | false => exact ⟨_,_,rfl,rfl,rfl,rfl,hb⟩
    | true =>
     rw [ec,beq_iff_eq,beq_iff_eq] at hon
     have hk : c.A1 = (k : Int) := hon.1
     obtain ⟨_,a1,a2⟩ := Qq hg hcok hk hp
     have xf : Rc F.A9 k (Mp b) (fun _ => True) (i : Int) := .inr ⟨i,c,rfl,hc,hk,hon.2,trivial⟩
     by_cases ua : best < 0
     ·rw [decide_eq_true ua]
      exact ⟨_,_,rfl,rfl,rfl,rfl,xf⟩
     ·rw [decide_eq_false ua]
      obtain ⟨j,q,rfl,hq,hqk,hqw,_⟩ := hb.resolve_left ua
      obtain ⟨_,b1,b2⟩ := Qq hg (hsg q (ee hq)) hqk hp
      have e4 : decide (AN (AN (c.At - q.At) * NS b) < 0) = decide (FL p.Bo (Mp b) c.At > FL p.Bo (Mp b) q.At) := by
       rw [RA (Tn b) ⟨by omega,by omega⟩ ⟨by omega,by omega⟩]
       congr 1; apply propext
       cases b
       ·show (if (1 : Int) = 1 then c.At - q.At else q.At - c.At) < 0 ↔ FL p.Bo (-1) c.At > FL p.Bo (-1) q.At
        unfold FL
        rw [ru rfl,rr (by decide),rr (by decide)]; omega
       ·show (if (-1 : Int) = 1 then c.At - q.At else q.At - c.At) < 0 ↔ FL p.Bo 1 c.At > FL p.Bo 1 q.At
        unfold FL
        rw [ru rfl,ru rfl,rr (by decide)]; omega
      have g1 : Vz F.xN (DA k b).A1 c.At (Mp b) = some (FL p.Bo (Mp b) c.At) := N0 hp h1 h2 (by omega) (by omega)
      have g2 : Vz F.xN (DA k b).A1 q.At (Mp b) = some (FL p.Bo (Mp b) q.At) := N0 hp h1 h2 (by omega) (by omega)
      simp only [rp,rq,AJ,hq,ba,g1,g2,e4]
      cases decide (FL p.Bo (Mp b) c.At > FL p.Bo (Mp b) q.At)
      ·exact ⟨_,_,rfl,rfl,rfl,rfl,hb⟩
      ·exact ⟨_,_,rfl,rfl,rfl,rfl,xf⟩
   ·obtain ⟨rfl,hss,hb⟩ := hR'
    obtain ⟨best,i2⟩ := s
    simp only [] at hss hb
    subst hss
    have fin1 : ∀ x : AD,SX F.xN F.Bk R.Ad fl (z,R.Ad ++ [x]) (Dx (DA k b) true m,fl ++ [x]) [x] := fun x => ⟨rfl,rfl,by simp only [er,et]; omega,hznd,hzok,hzm⟩
    have app1 : ∀ x : AD,CL 32 R.Ad [x] = some (R.Ad ++ [x]) := fun x => EP (by decide) (by simp only [er,et]; omega)
    have app2 : ∀ x : AD,CL 32 fl [x] = some (fl ++ [x]) := fun x => EP (by decide) (by simp only [er,et]; omega)
    unfold OI MG OX OY
    simp only [C5,rp]
    by_cases ua : best < 0
    ·rw [decide_eq_false (show ¬ best ≥ 0 by omega)]
     obtain ⟨j,mm,c,ha,hc,hmm⟩ := Wy hg (BL hp) (!b)
     have hml := BL hmm
     simp only [rp,iM,J7 hs,KU hs,TT hs hg ha hc hml,ha,ba,AJ,hc]
     rcases QU hg hc hml with hk | ⟨hk,rfl,x,y,hx,hy,hac⟩ | ⟨hk,hm1,hm2,x,hac⟩ | ⟨hk,x,hac⟩
     ·have e1 : (c.Kind == (1:Int)) = true := by rw [hk]; rfl
      simp only [e1,rq,app1,app2,ba,dq]
      exact ⟨_,_,rfl,rfl,_,fin1 _⟩
     ·have e1 : (c.Kind == (1:Int)) = false := by rw [hk]; rfl
      have e3 : (c.Kind == (3:Int)) = true := by rw [hk]; rfl
      have e0 : (((0 : Nat) : Int) == (0:Int)) = true := rfl
      have e0' : decide (((0 : Nat) : Int) > (0:Int)) = false := rfl
      have hxo : NB F.xN x = true := KV hg hc hml (by rw [hac]; simp)
      have hyo : NB F.xN y = true := KV hg hc hml (by rw [hac]; simp)
      obtain ⟨r1,r1',add1,i1,i2,q1⟩ := ih ⟨F.xN,F.A9,F.Ak,F.BU,F.An,z⟩ R R2 (Dx (DA k b) true m) x lie fl rfl rfl rfl hR2 rfl hxo hznd hzok hzm (by show 201 ≤ z.length + N; omega) (by show _ ≤ 1000000 + z.length; omega) (by show _ ≤ 1000000 + z.length; omega)
      have q1le : add1.length + z.length ≤ r1.1.length := q1.le
      have q1s := congrArg pr q1.s
      have q1i := congrArg pr q1.i
      rw [dw] at q1s q1i
      obtain ⟨r2,r2',add2,i3,i4,q2⟩ := ih ⟨F.xN,F.A9,F.Ak,F.BU,F.An,r1.1⟩ ⟨R.AY,R.To,R.Steps,R.AK,R.A7,R.AP,R.C2,r1.2⟩ R2 r1'.1 y lie r1'.2 rfl rfl rfl hR2 rfl hyo q1.nd q1.ok q1.m (by show 201 ≤ r1.1.length + N; omega) (by show r1.2.length ≤ 1000000 + r1.1.length; omega) (by show _ ≤ 1000000 + r1.1.length; omega)
      have q2le : add2.length + r1.1.length ≤ r2.1.length := q2.le
      simp only [e1,e3,e0,e0',rq,rp,hx,hy,ba,hac,qU,i1,i2,i3,i4,dq]
      refine ⟨_,_,rfl,rfl,add1 ++ add2, ?_, ?_, ?_,q2.nd,q2.ok,q2.m⟩
      ·rw [← eo, ← q1.s]; exact q2.s
      ·rw [← eo, ← q1.i]; exact q2.i
      ·rw [dw]; show _ ≤ r2.1.length; omega
     ·have e1 : (c.Kind == (1:Int)) = false := by rw [hk]; rfl
      have e3 : (c.Kind == (3:Int)) = true := by rw [hk]; rfl
      have e0 : (((mm : Nat) : Int) == (0:Int)) = false := by rw [beq_eq_false_iff_ne]; omega
      have e0' : decide (((mm : Nat) : Int) > (0:Int)) = true := by rw [ry]; omega
      simp only [e1,e3,e0,e0',rq,rp,dJ (R := R) hll (by omega),hR2,Xx (xs := R.AK) (by omega),ba,dq,app2]
      cases R.AK.any (fun y => decide (y = (⟨(j : Int),(mm : Int)⟩ : BQ)))
      ·exact ⟨_,_,rfl,rfl,_,fin1 _⟩
      ·exact ⟨_,_,rfl,rfl,_,fin1 _⟩
     ·have e1 : (c.Kind == (1:Int)) = false := by rcases hk with hk | hk <;> rw [hk] <;> rfl
      have e3 : (c.Kind == (3:Int)) = false := by rcases hk with hk | hk <;> rw [hk] <;> rfl
      have hxo : NB F.xN x = true := KV hg hc hml (by rw [hac]; simp)
      obtain ⟨r1,r1',add1,i1,i2,q1⟩ := ih ⟨F.xN,F.A9,F.Ak,F.BU,F.An,z⟩ R R2 (Dx (DA k b) true m) x lie fl rfl rfl rfl hR2 rfl hxo hznd hzok hzm (by show 201 ≤ z.length + N; omega) (by show _ ≤ 1000000 + z.length; omega) (by show _ ≤ 1000000 + z.length; omega)
      have q1le : add1.length + z.length ≤ r1.1.length := q1.le
      have ho := GD hg hc
      have eg : AR [x] 0 = some x := rfl
      simp only [e1,e3,rq,rp,NT ⟨ho.1,ho.2.1⟩ hml,hac,eg,ba,qT,i1,i2,dq]
      exact ⟨_,_,rfl,rfl,add1,q1.s,q1.i,by show _ ≤ r1.1.length; omega,q1.nd,q1.ok,q1.m⟩
    ·rw [decide_eq_true (show best ≥ 0 by omega)]
     simp only [rq,app1,app2,ba,dq]
     exact ⟨_,_,rfl,rfl,_,fin1 _⟩
def Wx (n : Bq) (l : BQ) : Prop := ∃ (j q : Nat) (c : AG),l.AG = (j : Int) ∧ n.A4[j]? = some c ∧ c.Kind = 3 ∧ l.BQ = (q : Int) ∧ 1 ≤ q ∧ q ≤ 2
theorem iS {n : Bq} (hg : Bh n = true) {l : BQ} (h : Wx n l) : ∃ (c : AG) (e : Ac),AR n.A4 l.AG = some c ∧ AR c.Ends (AN ((3:Int) - l.BQ)) = some e ∧ NB n e = true := by
 obtain ⟨j,q,c,hj,hc,hk,hq,h1,h2⟩ := h
 have ho := GD hg hc
 rw [hj,hq]
 rcases G5 ⟨ho.1,ho.2.1⟩ with ⟨a,b,rfl⟩ | ⟨a,b,d,rfl⟩ | ⟨a,b,d,e,rfl⟩ | ⟨a,b,d,e,f,rfl⟩
 ·cases hk
 ·cases hk
 ·obtain rfl | rfl : q = 1 ∨ q = 2 := by omega
  ·exact ⟨_,e,by rw [AJ]; exact hc,rfl,ho.2.2 e (by simp)⟩
  ·exact ⟨_,d,by rw [AJ]; exact hc,rfl,ho.2.2 d (by simp)⟩
 ·cases hk
theorem Rh {n : Bq} {sg : List AI} (hs : Dz n) (hg : Bh n = true) (hsg : ∀ s ∈ sg,Ye n s = true) (hl : sg.length ≤ 60) {F : Cb} {W : Fa} (hFn : F.xN = n) (hFs : F.A9 = sg) (hWn : W.xN = n) (hWs : W.A9 = sg) (hout : W.BU = F.BU) (hol : F.BU.length ≤ 1000) {a b : Int} {st : List BR} {li : List BQ} {cr : List Int} {pa ov o2 : List Ai} (hli : ∀ l ∈ li,Wx n l) (hll : li.length ≤ 1000) : ∃ (seen : List Ac) (fl : List AD),Y7 F ⟨a,b,st,li,cr,pa,ov,[]⟩ = some (F.BU ++ [⟨a,b,st,li,cr,pa,ov,fl⟩],seen) ∧ Lv W ⟨a,b,st,li,cr,pa,o2,[]⟩ ov = some (F.BU ++ [⟨a,b,st,li,cr,pa,ov,fl⟩]) ∧ fl.length ≤ 200000 := by
 unfold Y7 Lv
 suffices H : ∃ (r : (List A8) × List Ac) (r' : List A8),AQ (Lj F ⟨a,b,st,li,cr,pa,ov,[]⟩) ([],F.Bk,0) = some r ∧ AQ (Lu W ⟨a,b,st,li,cr,pa,o2,[]⟩ ov) ([],0) = some r' ∧ ∃ fl,r.1 = F.BU ++ [⟨a,b,st,li,cr,pa,ov,fl⟩] ∧ r' = F.BU ++ [⟨a,b,st,li,cr,pa,ov,fl⟩] ∧ fl.length ≤ 200000 by
  obtain ⟨r,r',h1,h2,fl,h3,h4,h5⟩ := H
  exact ⟨r.2,fl,by rw [h1, ← h3],by rw [h2,h4],h5⟩
 refine K4 li.length (fun i (s : (List AD) × List Ac × Int) (t : (List AD) × Int) => s.1 = t.1 ∧ s.2.2 = (i : Int) ∧ t.2 = (i : Int) ∧ s.1.length ≤ 200 * i) (fun (r : (List A8) × List Ac) (r' : List A8) => ∃ fl,r.1 = F.BU ++ [⟨a,b,st,li,cr,pa,ov,fl⟩] ∧ r' = F.BU ++ [⟨a,b,st,li,cr,pa,ov,fl⟩] ∧ fl.length ≤ 200000) (fun i s t hi hR => .inl ?_) (fun s t hR => ?_) ([],F.Bk,0) ([],0) ⟨rfl,rfl,rfl,by simp⟩
 ·obtain ⟨f1,seen,i1⟩ := s
  obtain ⟨f2,i2⟩ := t
  simp only [] at hR
  obtain ⟨rfl,rfl,rfl,hlen⟩ := hR
  obtain ⟨l,hlx⟩ : ∃ l,li[i]? = some l := ⟨_,dr hi⟩
  obtain ⟨c,e,hc,he,vm⟩ := iS hg (hli l (ee hlx))
  obtain ⟨r,r',add,j1,j2,q⟩ := W0 (n := n) (sg := sg) (lies := li) (a := l.AG) hs hg hsg hl hll 1000 ⟨F.xN,F.A9,F.Ak,F.BU,F.An,[]⟩ ⟨a,b,st,li,cr,pa,ov,f1⟩ ⟨a,b,st,li,cr,pa,ov,f1⟩ [] e l [] hFn hFs rfl rfl rfl vm mw (fun x hx => by cases hx) Ys (by simp) (by simp only [et]; omega) (by simp)
  have hadd := q.le
  have hr := Sn hg q.nd q.ok
  have wx := congrArg pr q.s
  rw [dw] at wx
  simp only [et] at hadd
  have hi2 : r'.2 = add := q.i
  have e1 : bD W.xN W.A9 ⟨a,b,st,li,cr,pa,ov,f1⟩ l = some add := by
   unfold bD
   simp only [hWn,hWs,hc,he,j2,ba,hi2]
  unfold Lj Lu
  simp only [Ci hi,rq,AJ,hlx,ba,hFn,hc,he,e1,B7 (show i < 9223372036854775807 by omega)]
  rw [hFn] at j1
  simp only [j1,ba,EP (b := 32) (xs := f1) (ys := add) (by decide) (by omega)]
  refine ⟨_,_,rfl,rfl,q.s,rfl,rfl, ?_⟩
  show r.2.length ≤ 200 * (i + 1)
  simp only [] at wx
  omega
 ·obtain ⟨f1,seen,i1⟩ := s
  obtain ⟨f2,i2⟩ := t
  simp only [] at hR
  obtain ⟨rfl,rfl,rfl,hlen⟩ := hR
  unfold Lj Lu
  simp only [C5,rp,hout]
  rw [EP (by decide) (by simp only [er,et]; omega)]
  exact ⟨_,_,rfl,rfl,f1,rfl,rfl,by omega⟩
theorem dI {R : A8} (hl : R.AK.length ≤ 1000) (j l : Int) : (Iq R.AK j = some (-1) ∧ Y9 R j l = some (R.AK ++ [⟨j,l⟩],true)) ∨ ∃ (i : Nat) (x : BQ),R.AK[i]? = some x ∧ Iq R.AK j = some (i : Int) ∧ Y9 R j l = some (R.AK,x.BQ == l) := by
 unfold Iq Y9
 have h1 : ∀ (i : Nat) (x : BQ),R.AK[i]? = some x → Gt R.AK j (i : Int) = some (bif (x.AG == j) then .inr (i : Int) else .inl ((i + 1 : Nat) : Int)) := fun i x hx => by
  have hi := BL hx
  unfold Gt gA
  simp only [Ci hi,rq,AJ,hx,ba,B7 (show i < 9223372036854775807 by omega)]
  cases (x.AG == j) <;> rfl
 have h2 : ∀ (i : Nat) (x : BQ),R.AK[i]? = some x → Ll R j l (i : Int) = some (bif (x.AG == j) then .inr (R.AK,x.BQ == l) else .inl ((i + 1 : Nat) : Int)) := fun i x hx => by
  have hi := BL hx
  unfold Ll
  simp only [Ci hi,rq,AJ,hx,ba,B7 (show i < 9223372036854775807 by omega)]
  cases (x.AG == j) <;> rfl
 rcases R5 (fun x : BQ => x.AG == j) R.AK with h0 | ⟨i,x,hx,hb,hj⟩
 ·left
  rw [GH R.AK.length (fun i hi => by rw [h1 i _ (dr hi)]; have := h0 i _ (dr hi); rw [this]; rfl),GH R.AK.length (fun i hi => by rw [h2 i _ (dr hi)]; have := h0 i _ (dr hi); rw [this]; rfl),Ap,Ap]
  unfold Gt Ll
  simp only [C5,rp]
  rw [EP (by decide) (by simp only [er,et]; omega)]
  exact ⟨rfl,rfl⟩
 ·right
  have hi := BL hx
  refine ⟨i,x,hx, ?_, ?_⟩
  ·rw [GH i (fun j hl => by
    have hy := dr (show j < R.AK.length by omega)
    rw [h1 j _ hy]; have := hj j _ hl hy; rw [this]; rfl),Ap,h1 i x hx,hb]
   rfl
  ·rw [GH i (fun j hl => by
    have hy := dr (show j < R.AK.length by omega)
    rw [h2 j _ hy]; have := hj j _ hl hy; rw [this]; rfl),Ap,h2 i x hx,hb]
   rfl
theorem X5 {R : A8} (h1 : R.Steps.length ≤ 1000) (h2 : R.AK.length ≤ 1000) (h3 : R.A7.length ≤ 1000) (h4 : R.AP.length ≤ 1000) : UE R = some ⟨R.AY,R.To,R.Steps,R.AK,R.A7,R.AP,[],[]⟩ := by
 unfold UE
 simp only [EP (b := 16) (xs := ([] : List BR)) (ys := R.Steps) (by decide) (by simp only [et]; omega),EP (b := 16) (xs := ([] : List BQ)) (ys := R.AK) (by decide) (by simp only [et]; omega),EP (b := 8) (xs := ([] : List Int)) (ys := R.A7) (by decide) (by simp only [et]; omega),EP (b := 24) (xs := ([] : List Ai)) (ys := R.AP) (by decide) (by simp only [et]; omega),ba,gu]
theorem e8 {α β ρ : Type} {F : β × Int → Option ((β × Int) ⊕ ρ)} (xs : List α) (g : β → α → β) (a0 : β) (h : ∀ (a : β) (i : Nat) (x : α),xs[i]? = some x → F (a,(i : Int)) = some (.inl (g a x,((i + 1 : Nat) : Int)))) : AQ F (a0,(0 : Int)) = AQ F (xs.foldl g a0,(xs.length : Int)) := by
 have key : ∀ i,i ≤ xs.length → AQ F (a0,(0 : Int)) = AQ F ((xs.take i).foldl g a0,(i : Int)) := by
  intro i
  induction i with
  | zero => intro _; rfl
  | succ i ih =>
   intro hi
   rw [ih (by omega),Ap,h _ i xs[i] (dr (by omega)),L9 g a0 (dr (by omega))]
   rfl
 have := key xs.length (dz _)
 rwa [mi] at this
theorem V6 (p w : Int) : ∀ (xs : List BR) (a : Bool),xs.foldl (fun a x => a || ((x.A1 == p) && (x.Way == w))) a = (a || xs.any fun y => decide (y = ⟨p,w⟩))
 | [],a => by simp
 | x :: xs,a => by
  rw [lg,V6 p w xs,ou]
  have : ((x.A1 == p) && (x.Way == w)) = decide (x = ⟨p,w⟩) := by
   cases x
   rw [gz]
   simp only [ec,beq_iff_eq,ry,BR.mk.injEq]
  rw [this,Bool.or_assoc]
def VW (n : Bq) (x : BR) : Prop := ∃ k : Nat,x.A1 = (k : Int) ∧ k < n.A3.length ∧ (x.Way = 1 ∨ x.Way = -1)
structure kD (n : Bq) (R : A8) : Prop where
 nd : R.Steps.Nodup
 st : ∀ x ∈ R.Steps,VW n x
 li : ∀ l ∈ R.AK,Wx n l
 ll : R.AK.length ≤ R.Steps.length
 cl : R.A7.length ≤ R.Steps.length
 pl : R.AP.length ≤ R.Steps.length
theorem VA {n : Bq} (hg : Bh n = true) {xs : List BR} (hn : xs.Nodup) (h : ∀ x ∈ xs,VW n x) : xs.length ≤ 200 := by
 have h1 := (Fy hg).le
 have := Uw (fun x : BR => 2 * x.A1.toNat + (x.Way + 1).toNat / 2) (2 * n.A3.length) hn (fun x hx => by
  obtain ⟨k,e,hk,hw⟩ := h x hx
  simp only [e,jv]
  rcases hw with hw | hw <;> rw [hw] <;> simp <;> omega) (fun x hx y hy e => by
  obtain ⟨k,e1,hk,hw⟩ := h x hx
  obtain ⟨k',e1',hk',hw'⟩ := h y hy
  obtain ⟨P,V⟩ := x
  obtain ⟨P',V'⟩ := y
  simp only [] at e1 e1' hw hw' e
  subst e1 e1'
  simp only [jv] at e
  rcases hw with rfl | rfl <;> rcases hw' with rfl | rfl <;> simp at e ⊢ <;> omega)
 omega
theorem Gf {α : Type} {b : Nat} {xs : List α} (hb : b ≤ 1000) (h : xs.length ≤ 4194304) : CL b [] xs = some xs := by
 rw [EP hb (by simp only [et]; omega),gu]
theorem kP {R : A8} (h1 : R.Steps.length ≤ 1048576) (h2 : R.AK.length ≤ 1048576) (h3 : R.A7.length ≤ 1048576) (h4 : R.AP.length ≤ 1048576) (h5 : R.C2.length ≤ 1048576) (h6 : R.Ad.length ≤ 1048576) : Co R := ⟨⟨h1,fun _ _ => trivial⟩,⟨h2,fun _ _ => trivial⟩,⟨h3,fun _ _ => trivial⟩,⟨h4,fun _ _ => trivial⟩,⟨h5,fun _ _ => trivial⟩,⟨h6,fun _ _ => trivial⟩⟩
theorem XY {xs : List A8} (h : ∀ x ∈ xs,Co x) {x : A8} (hx : Co x) : ∀ y ∈ xs ++ [x],Co y := fun y hy => by
 rcases eb.1 hy with hy | hy
 ·exact h y hy
 ·rw [dt] at hy; exact hy ▸ hx
theorem Z1 {n : Bq} {sg : List AI} {ov : Nat} (hs : Dz n) (hg : Bh n = true) (hsg : ∀ s ∈ sg,Ye n s = true) (hl : sg.length ≤ 60) (hov : ov ≤ 100000) : ∀ (N : Nat) (F : Cb) (R : A8) (k : Nat) (p : A1) (w far : Int),F.xN = n → F.A9 = sg → F.Ak = (ov : Int) → n.A3[k]? = some p → 1 ≤ p.Bo → p.Bo ≤ 10000000 → (w = 1 ∨ w = -1) → 0 ≤ far → far ≤ p.Bo → kD n R → 201 ≤ R.Steps.length + N → F.BU.length ≤ 301 → (∀ x ∈ F.BU,Co x) → ∃ r r',gQ N F R (k : Int) w far = some r ∧ Nu N ⟨F.xN,F.A9,F.Ak,F.BU,AN (F.An + (1:Int))⟩ R ⟨(k : Int),FL p.Bo w far,w⟩ = some r' ∧ r.1 = r'.1 ∧ r.2.1 = r'.2 ∧ r.1.length ≤ 301 ∧ ∀ x ∈ r.1,Co x := by
 intro N
 induction N with
 | zero =>
  intro F R k p w far _ _ _ _ _ _ _ _ _ hI hN _ _
  have := VA hg hI.nd hI.st
  omega
 | succ N ih =>
  intro F R k p w far hFn hFs hFo hp h1 h2 hw hf0 hf1 hI hN hol hsm
  subst hFn hFs
  have hsl := VA hg hI.nd hI.st
  have hll := hI.ll
  have td := hI.cl
  have hpl := hI.pl
  show ∃ r r',UQ (gQ N) F R (k : Int) w far = some r ∧ PF (Nu N) ⟨F.xN,F.A9,F.Ak,F.BU,AN (F.An + (1:Int))⟩ R ⟨(k : Int),FL p.Bo w far,w⟩ = some r' ∧ _
  unfold UQ PF YB
  simp only [ba]
  cases hfull : (decide ((F.BU.length : Int) > (300:Int)) || decide (AN (F.An + (1:Int)) > (20000:Int))) with
  | true => exact ⟨_,_,rfl,rfl,rfl,rfl,hol,hsm⟩
  | false =>
   simp only [rp]
   have ho3 : F.BU.length ≤ 300 := by
    rw [ku,rv] at hfull
    omega
   obtain ⟨st,wi⟩ : ∃ st,st = R.Steps ++ [(⟨(k : Int),w⟩ : BR)] := ⟨_,rfl⟩
   have hstl : st.length = R.Steps.length + 1 := by rw [wi]; simp
   have hcopy : UE ⟨R.AY,R.To,R.Steps,R.AK,R.A7,R.AP,[],[]⟩ = some ⟨R.AY,R.To,R.Steps,R.AK,R.A7,R.AP,[],[]⟩ := X5 (by show R.Steps.length ≤ 1000; omega) (by show R.AK.length ≤ 1000; omega) (by show R.A7.length ≤ 1000; omega) (by show R.AP.length ≤ 1000; omega)
   have za : CL 16 R.Steps [(⟨(k : Int),w⟩ : BR)] = some st := by rw [wi]; exact EP (by decide) (by simp only [er,et]; omega)
   have hap0 : CL 16 ([] : List BR) R.Steps = some R.Steps := Gf (by decide) (by omega)
   have hpa0 : CL 24 ([] : List Ai) R.AP = some R.AP := Gf (by decide) (by omega)
   have hpa : ∀ q : Ai,CL 24 R.AP [q] = some (R.AP ++ [q]) := fun q => EP (by decide) (by simp only [er,et]; omega)
   rw [e8 (F := Jw F R (k : Int) w far (gQ N)) R.Steps (fun a x => a || ((x.A1 == (k : Int)) && (x.Way == w))) false (fun a i x hx => by
    have hi := BL hx
    unfold Jw
    simp only [Ci hi,rq,AJ,hx,ba,B7 (show i < 9223372036854775807 by omega)]),V6,qz,P1,Ap,Xy (by omega)]
   obtain ⟨v,v1,v2,hv⟩ := Yb hg hsg hl hp h1 h2 hw hf0 hf1
   by_cases hv0 : v < 0
   ·have d0 : decide (v < (0:Int)) = true := decide_eq_true hv0
    have d1 : decide (v ≥ (0:Int)) = false := decide_eq_false (by omega)
    by_cases xb : (⟨(k : Int),w⟩ : BR) ∈ R.Steps
    ·refine ⟨(F.BU,AN (F.An + (1:Int)),F.Bk),(F.BU,AN (F.An + (1:Int))), ?_, ?_,rfl,rfl,hol,hsm⟩
     ·unfold Jw
      simp only [C5,rp,hcopy,za,v1,ba,d0,decide_eq_true xb,ra,rq]
      rfl
     ·simp only [ba,hap0,za,v2,d1,rp,P1,decide_eq_true xb,rq]
    ·obtain ⟨q,vn,zy⟩ := NG hp h1 h2 hw hf0 hf1 (px _)
     obtain ⟨j,m,c,ha,hc,hm⟩ := Wz hg (BL hp) w
     have hml := BL hm
     have ho := GD hg hc
     have hov2 := TT hs hg ha hc hml
     have hac := NT ⟨ho.1,ho.2.1⟩ hml
     have himp : (bif (HJ (k : Int) w).BI == (1:Int) then ((AR F.xN.A3 (k : Int)).bind fun c54 => IF ⟨F.xN,F.A9,F.Ak,F.BU,AN (F.An + (1:Int))⟩ R ⟨(k : Int),FL p.Bo w far,w⟩ (Nu N) st (HJ (k : Int) w) c54.Bo) else IF ⟨F.xN,F.A9,F.Ak,F.BU,AN (F.An + (1:Int))⟩ R ⟨(k : Int),FL p.Bo w far,w⟩ (Nu N) st (HJ (k : Int) w) (0:Int)) = IF ⟨F.xN,F.A9,F.Ak,F.BU,AN (F.An + (1:Int))⟩ R ⟨(k : Int),FL p.Bo w far,w⟩ (Nu N) st (HJ (k : Int) w) (FL p.Bo w p.Bo) := by
      rcases hw with rfl | rfl
      ·have e : FL p.Bo 1 p.Bo = p.Bo := ru rfl
       rw [e,AJ,hp]; rfl
      ·have e : FL p.Bo (-1) p.Bo = 0 := by unfold FL; rw [rr (by decide)]; omega
       rw [e]; rfl
     by_cases zr : c.Kind = 1
     ·have hkt : (c.Kind == (1:Int)) = true := by rw [zr]; rfl
      obtain ⟨seen,fl,e1,e2,e3⟩ := Rh hs hg hsg hl (F := ⟨F.xN,F.A9,F.Ak,F.BU,AN (F.An + (1:Int)),F.Bk⟩) (W := ⟨F.xN,F.A9,F.Ak,F.BU,AN (F.An + (1:Int))⟩) rfl rfl rfl rfl rfl (by show F.BU.length ≤ 1000; omega) (a := R.AY) (b := -1) (st := st) (li := R.AK) (cr := R.A7) (pa := R.AP ++ [q]) (ov := []) (o2 := []) hI.li (by omega)
      have hfound : UL ⟨F.xN,F.A9,F.Ak,F.BU,AN (F.An + (1:Int))⟩ ⟨R.AY,(-1:Int),st,R.AK,R.A7,R.AP ++ [q],[],[]⟩ = some (F.BU ++ [⟨R.AY,(-1:Int),st,R.AK,R.A7,R.AP ++ [q],[],fl⟩]) := by
       unfold UL
       exact e2
      refine ⟨(F.BU ++ [⟨R.AY,(-1:Int),st,R.AK,R.A7,R.AP ++ [q],[],fl⟩],AN (F.An + (1:Int)),seen),(_,_), ?_, ?_,rfl,rfl, ?_,XY hsm (kP ?_ ?_ ?_ ?_ ?_ ?_)⟩
      ·unfold Jw
       simp only [C5,rp,hcopy,za,v1,ba,d0,d1,decide_eq_false xb,qw,AJ,hp,vn,hpa,KR,J7 hs,ha,hc,hkt,rq,e1,dq]
      ·simp only [ba,hap0,za,v2,d1,rp,P1,decide_eq_false xb,N7,himp]
       unfold IF
       simp only [hpa0,hpa,zy,KU hs,ha,AJ,hc,ba,hkt,rq,hfound]
      ·simp only [dw,er,et]; omega
      ·show st.length ≤ _; omega
      ·show R.AK.length ≤ _; omega
      ·show R.A7.length ≤ _; omega
      ·simp only [dw,er,et]; omega
      ·exact Nat.zero_le _
      ·show fl.length ≤ _; omega
     ·have hkf : (c.Kind == (1:Int)) = false := by rw [beq_eq_false_iff_ne]; exact zr
      suffices H : ∃ (r : (List A8) × Int × List Ac) (r' : (List A8) × Int),AQ (PT F (gQ N) ⟨R.AY,R.To,R.Steps,R.AK,R.A7,R.AP,[],[]⟩ st (R.AP ++ [q]) ((j : Int),(m : Int)) c (CU c m)) (F.BU,AN (F.An + (1:Int)),F.Bk,(0:Int)) = some r ∧ AQ (Lm ⟨F.xN,F.A9,F.Ak,F.BU,AN (F.An + (1:Int))⟩ R (Nu N) st (R.AP ++ [q]) ((j : Int),(m : Int)) c (CU c m,TH c m)) (F.BU,AN (F.An + (1:Int)),(0:Int)) = some r' ∧ (r.1 = r'.1 ∧ r.2.1 = r'.2 ∧ r.1.length ≤ 301 ∧ ∀ x ∈ r.1,Co x) by
       obtain ⟨r,r',g1,g2,g3⟩ := H
       refine ⟨r,r', ?_, ?_,g3⟩
       ·unfold Jw
        simp only [C5,rp,hcopy,za,v1,ba,d0,d1,decide_eq_false xb,qw,AJ,hp,vn,hpa,KR,J7 hs,ha,hc,hkf,hac,g1,dq]
       ·simp only [ba,hap0,za,v2,d1,rp,P1,decide_eq_false xb,N7,himp]
        unfold IF
        simp only [hpa0,hpa,zy,KU hs,ha,AJ,hc,ba,hkf,rp,hov2,g2]
      refine K4 (CU c m).length (fun i (s : (List A8) × Int × List Ac × Int) (t : (List A8) × Int × Int) => s.1 = t.1 ∧ s.2.1 = t.2.1 ∧ s.2.2.2 = (i : Int) ∧ t.2.2 = (i : Int) ∧ s.1.length ≤ 301 ∧ ∀ x ∈ s.1,Co x) (fun (r : (List A8) × Int × List Ac) (r' : (List A8) × Int) => r.1 = r'.1 ∧ r.2.1 = r'.2 ∧ r.1.length ≤ 301 ∧ ∀ x ∈ r.1,Co x) (fun i s t hi hR => .inl ?_) (fun s t hR => ?_) _ _ ⟨rfl,rfl,rfl,rfl,hol,hsm⟩
      ·obtain ⟨out,tr,seen,i1⟩ := s
       obtain ⟨out',tr',i2⟩ := t
       simp only [] at hR
       obtain ⟨rfl,rfl,rfl,rfl,hol2,hsm2⟩ := hR
       obtain ⟨x,hx⟩ : ∃ x,(CU c m)[i]? = some x := ⟨_,dr hi⟩
       have wz := Nat.lt_of_lt_of_le hi (VX c m)
       obtain ⟨k2,p2,b2,rfl,hp2,g1,g2⟩ := Md hg (KV hg hc hml (ee hx))
       have hcopy2 : UE ⟨R.AY,R.To,st,R.AK,R.A7,R.AP ++ [q],[],[]⟩ = some ⟨R.AY,R.To,st,R.AK,R.A7,R.AP ++ [q],[],[]⟩ := X5 (by show st.length ≤ 1000; omega) (by show R.AK.length ≤ 1000; omega) (by show R.A7.length ≤ 1000; omega) (by simp only [dw,er,et]; omega)
       have hwi : AN ((i : Int) + (1:Int)) = ((i + 1 : Nat) : Int) := B7 (by omega)
       have core : ∀ (li : List BQ) (cr : List Int),(∀ l ∈ li,Wx F.xN l) → li.length ≤ R.Steps.length + 1 → cr.length ≤ R.Steps.length + 1 → ∃ s' t',PV F (gQ N) out tr seen (i : Int) (DA k2 b2) ⟨R.AY,R.To,st,R.AK,R.A7,R.AP ++ [q],[],[]⟩ li cr = some (.inl s') ∧ KK ⟨F.xN,F.A9,F.Ak,F.BU,AN (F.An + (1:Int))⟩ R (Nu N) st (R.AP ++ [q]) out tr (i : Int) (DA k2 b2) cr li = some (.inl t') ∧ (s'.1 = t'.1 ∧ s'.2.1 = t'.2.1 ∧ s'.2.2.2 = ((i + 1 : Nat) : Int) ∧ t'.2.2 = ((i + 1 : Nat) : Int) ∧ s'.1.length ≤ 301 ∧ ∀ x ∈ s'.1,Co x) := fun li cr hli hlil hcrl => by
        have hWI : kD F.xN ⟨R.AY,R.To,st,li,cr,R.AP ++ [q],[],[]⟩ := by
         refine ⟨?_, ?_,hli, ?_, ?_, ?_⟩
         ·show st.Nodup
          rw [wi]; exact Qn hI.nd xb
         ·show ∀ x ∈ st,VW F.xN x
          intro y hy
          rw [wi,eb,dt] at hy
          rcases hy with hy | rfl
          ·exact hI.st y hy
          ·exact ⟨k,rfl,BL hp,hw⟩
         ·show li.length ≤ st.length; omega
         ·show cr.length ≤ st.length; omega
         ·show (R.AP ++ [q]).length ≤ st.length
          simp only [dw,er,et]; omega
        obtain ⟨r,r',j1,j2,j3,j4,j5,j6⟩ := ih ⟨F.xN,F.A9,F.Ak,out,tr,seen⟩ ⟨R.AY,R.To,st,li,cr,R.AP ++ [q],[],[]⟩ k2 p2 (NS b2) 0 rfl rfl hFo hp2 g1 g2 (Tn b2) (px _) (by omega) hWI (by show 201 ≤ st.length + N; omega) hol2 hsm2
        refine ⟨(r.1,r.2.1,r.2.2,AN ((i : Int) + (1:Int))),(r'.1,r'.2,AN ((i : Int) + (1:Int))), ?_, ?_,j3,j4,hwi,hwi,j5,j6⟩
        ·unfold PV Sy PU
         cases b2
         ·exact (congrArg (fun o => rb o _) j1).trans rfl
         ·exact (congrArg (fun o => rb o _) j1).trans rfl
        ·unfold KK Ln
         simp only [UA hp2,ba,j2]
       have core3 : c.Kind = 3 → ∀ h : Nat,1 ≤ h → h ≤ 2 → AR (TH c m) (i : Int) = some (h : Int) → ∃ s' t',PW F (gQ N) ((j : Int),(m : Int)) c out tr seen (i : Int) (DA k2 b2) ⟨R.AY,R.To,st,R.AK,R.A7,R.AP ++ [q],[],[]⟩ (h : Int) = some (.inl s') ∧ (bif c.Kind == (4:Int) then ((CL 8 ([] : List Int) R.A7).bind fun z51 => ((CL 8 z51 ([(j : Int)] : List Int)).bind fun z53 => JF ⟨F.xN,F.A9,F.Ak,F.BU,AN (F.An + (1:Int))⟩ R (Nu N) st (R.AP ++ [q]) ((j : Int),(m : Int)) c (CU c m,TH c m) out tr (i : Int) (DA k2 b2) z53)) else JF ⟨F.xN,F.A9,F.Ak,F.BU,AN (F.An + (1:Int))⟩ R (Nu N) st (R.AP ++ [q]) ((j : Int),(m : Int)) c (CU c m,TH c m) out tr (i : Int) (DA k2 b2) R.A7) = some (.inl t') ∧ (s'.1 = t'.1 ∧ s'.2.1 = t'.2.1 ∧ s'.2.2.2 = ((i + 1 : Nat) : Int) ∧ t'.2.2 = ((i + 1 : Nat) : Int) ∧ s'.1.length ≤ 301 ∧ ∀ x ∈ s'.1,Co x) := fun hk h hh1 hh2 hhow => by
        have e3 : (c.Kind == (3:Int)) = true := by rw [hk]; rfl
        have e4 : (c.Kind == (4:Int)) = false := by rw [hk]; rfl
        unfold PW JF
        simp only [e3,e4,rq,rp]
        rcases dI (R := ⟨R.AY,R.To,st,R.AK,R.A7,R.AP ++ [q],[],[]⟩) (by show R.AK.length ≤ 1000; omega) (j : Int) (h : Int) with ⟨l1,l2⟩ | ⟨i3,y,hy,l1,l2⟩
        ·simp only [] at l1 l2
         have xq : CL 16 ([] : List BQ) R.AK = some R.AK := Gf (by decide) (by omega)
         have ha2 : CL 16 R.AK [(⟨(j : Int),(h : Int)⟩ : BQ)] = some (R.AK ++ [⟨(j : Int),(h : Int)⟩]) := EP (by decide) (by simp only [er,et]; omega)
         have hneg : decide ((-1 : Int) < (0:Int)) = true := rfl
         simp only [l1,l2,ba,fo,rp,hneg,rq,hhow,xq,ha2]
         unfold Mz
         simp only [e4,rp]
         exact core (R.AK ++ [⟨(j : Int),(h : Int)⟩]) R.A7 (fun l hlm => by
          rw [eb,dt] at hlm
          rcases hlm with hlm | rfl
          ·exact hI.li l hlm
          ·exact ⟨j,h,c,rfl,hc,hk,rfl,hh1,hh2⟩) (by simp only [dw,er,et]; omega) (by omega)
        ·simp only [] at l1 l2 hy
         have hneg : decide ((i3 : Int) < (0:Int)) = false := decide_eq_false (by omega)
         have va : (y.BQ != (h : Int)) = !(y.BQ == (h : Int)) := rfl
         simp only [l1,l2,ba,hneg,rp,AJ,hy,hhow,va]
         simp only [AJ] at hhow
         cases (y.BQ == (h : Int)) with
         | false =>
          simp only [hhow,ba,oh,rq]
          unfold PU Ln
          exact ⟨_,_,rfl,rfl,rfl,rfl,hwi,hwi,hol2,hsm2⟩
         | true =>
          simp only [hhow,ba,fo,rp]
          unfold Mz
          simp only [e4,rp]
          exact core R.AK R.A7 hI.li (by omega) (by omega)
       unfold PT Lm
       simp only [Ci hi,rq,AJ,hx,ba,hcopy2]
       rcases QU hg hc hml with hk | hk3 | hk3 | ⟨hk,_⟩
       ·exact absurd hk zr
       ·obtain ⟨hk,rfl,x,y,_,_,hxy⟩ := hk3
        have e3 : (c.Kind == (3:Int)) = true := by rw [hk]; rfl
        have e0 : (((0 : Nat) : Int) == (0:Int)) = true := rfl
        have hh : TH c 0 = [1,2] := by unfold TH; rw [rr (by rw [hk]; decide),ru hk,ru rfl]
        simp only [e3,e0,rq,hwi]
        refine core3 hk (i + 1) (by omega) (by omega) ?_
        rw [hh]
        obtain rfl | rfl : i = 0 ∨ i = 1 := by omega
        ·rfl
        ·rfl
       ·obtain ⟨hk,hm1,hm2,x,hxy⟩ := hk3
        have e3 : (c.Kind == (3:Int)) = true := by rw [hk]; rfl
        have e0 : (((m : Nat) : Int) == (0:Int)) = false := by rw [beq_eq_false_iff_ne]; omega
        have hh : TH c m = [(m : Int)] := by unfold TH; rw [rr (by rw [hk]; decide),ru hk,rr (by omega)]
        simp only [e3,e0,rq,rp]
        refine core3 hk m hm1 hm2 ?_
        rw [hxy] at hi
        have : i = 0 := by simp only [er,et] at hi; omega
        subst this
        rw [hh]; rfl
       ·have e3 : (c.Kind == (3:Int)) = false := by rcases hk with hk | hk <;> rw [hk] <;> rfl
        unfold Mz JF
        simp only [e3,rp]
        rcases hk with hk | hk
        ·have e4 : (c.Kind == (4:Int)) = false := by rw [hk]; rfl
         simp only [e4,rp]
         exact core R.AK R.A7 hI.li (by omega) (by omega)
        ·have e4 : (c.Kind == (4:Int)) = true := by rw [hk]; rfl
         have hc8 : CL 8 ([] : List Int) R.A7 = some R.A7 := Gf (by decide) (by omega)
         have vk : CL 8 R.A7 [(j : Int)] = some (R.A7 ++ [(j : Int)]) := EP (by decide) (by simp only [er,et]; omega)
         simp only [e4,rq,hc8,vk,ba]
         exact core R.AK (R.A7 ++ [(j : Int)]) hI.li (by omega) (by simp only [dw,er,et]; omega)
      ·obtain ⟨out,tr,seen,i1⟩ := s
       obtain ⟨out',tr',i2⟩ := t
       simp only [] at hR
       obtain ⟨rfl,rfl,rfl,rfl,hol2,hsm2⟩ := hR
       unfold PT Lm
       simp only [C5,rp,dq]
       exact ⟨_,_,rfl,rfl,rfl,rfl,hol2,hsm2⟩
   ·obtain ⟨i,s,rfl,hsi,hsk,hsw,hfar⟩ := hv.resolve_left hv0
    obtain ⟨_,a1,a2⟩ := Qq hg (hsg s (ee hsi)) hsk hp
    have d0 : decide ((i : Int) < (0:Int)) = false := decide_eq_false (by omega)
    have d1 : decide ((i : Int) ≥ (0:Int)) = true := decide_eq_true (by omega)
    have ua : 0 ≤ FL p.Bo w s.At ∧ FL p.Bo w s.At < p.Bo := by unfold FL; split <;> omega
    have hf44 : Vz F.xN (k : Int) s.At w = some (FL p.Bo w s.At) := N0 hp h1 h2 (by omega) (by omega)
    obtain ⟨q,vn,zy⟩ := NG hp h1 h2 hw hf0 (show far ≤ FL p.Bo w s.At by omega) (by omega)
    rw [Se] at zy
    obtain ⟨bp,c1,c2,c3⟩ := Ty hs hg (F := ⟨F.xN,F.A9,F.Ak,F.BU,AN (F.An + (1:Int)),F.Bk⟩) rfl ov k p w (FL p.Bo w s.At) [] hov hp h1 h2 hw ua.1 ua.2 (by simp only [et]; omega)
    rw [Se] at c2
    have hbey : ZZ ⟨F.xN,F.A9,F.Ak,F.BU,AN (F.An + (1:Int)),F.Bk⟩ (k : Int) w (FL p.Bo w s.At) = some bp := by
     unfold ZZ
     show AQ _ ((k : Int),w,FL p.Bo w s.At,([] : List Ai),F.Ak) = _
     rw [hFo]; exact c1
    have hbeh : bB F.xN ⟨s.A1,s.At,s.Way⟩ F.Ak = some bp := by
     unfold bB
     rw [hsk,hsw,hFo]; exact c2
    obtain ⟨seen,fl,e1,e2,e3⟩ := Rh hs hg hsg hl (F := ⟨F.xN,F.A9,F.Ak,F.BU,AN (F.An + (1:Int)),F.Bk⟩) (W := ⟨F.xN,F.A9,F.Ak,F.BU,AN (F.An + (1:Int))⟩) rfl rfl rfl rfl rfl (by show F.BU.length ≤ 1000; omega) (a := R.AY) (b := (i : Int)) (st := st) (li := R.AK) (cr := R.A7) (pa := R.AP ++ [q]) (ov := bp) (o2 := []) hI.li (by omega)
    have hfound : UL ⟨F.xN,F.A9,F.Ak,F.BU,AN (F.An + (1:Int))⟩ ⟨R.AY,(i : Int),st,R.AK,R.A7,R.AP ++ [q],[],[]⟩ = some (F.BU ++ [⟨R.AY,(i : Int),st,R.AK,R.A7,R.AP ++ [q],bp,fl⟩]) := by
     unfold UL
     simp only [d1,rq,AJ,hsi,ba,hbeh]
     exact e2
    refine ⟨(F.BU ++ [⟨R.AY,(i : Int),st,R.AK,R.A7,R.AP ++ [q],bp,fl⟩],AN (F.An + (1:Int)),seen),(_,_), ?_, ?_,rfl,rfl, ?_,XY hsm (kP ?_ ?_ ?_ ?_ ?_ ?_)⟩
    ·unfold Jw
     simp only [C5,rp,hcopy,za,v1,ba,d0,d1,Bool.false_and,rq,AJ,hsi,hf44,vn,hpa,hbey,e1,dq]
    ·simp only [ba,hap0,za,v2,d1,rq,AJ,hsi,hpa0,zy,hpa,hfound]
    ·simp only [dw,er,et]; omega
    ·show st.length ≤ _; omega
    ·show R.AK.length ≤ _; omega
    ·show R.A7.length ≤ _; omega
    ·simp only [dw,er,et]; omega
    ·show bp.length ≤ _; omega
    ·show fl.length ≤ _; omega
theorem R6 {n : Bq} {l : List AI} {r : BW} (h : V9 n l = some r) : (r.Code == 0) = false ∨ (r = ⟨0,0⟩ ∧ Bh n = true ∧ l.length ≤ 60 ∧ ∀ s ∈ l,Ye n s = true) := by
 unfold V9 at h
 cases hg : Bh n with
 | false =>
  rw [hg] at h
  simp only [oh,rq,an] at h
  subst h; exact .inl rfl
 | true =>
  rw [hg] at h
  simp only [fo,rp] at h
  cases hc : decide ((l.length : Int) > (60:Int)) with
  | true =>
   rw [hc] at h
   simp only [rq,an] at h
   subst h; exact .inl rfl
  | false =>
   rw [hc,rp] at h
   rcases DQ h with ⟨i,_,hi⟩ | ⟨h3,h⟩
   ·rw [← (EY hi).2]; exact .inl rfl
   rcases DQ h with ⟨i,_,hi⟩ | ⟨_,h⟩
   ·rw [← (EY hi).2]; exact .inl rfl
   rw [rv] at hc
   refine .inr ⟨(dv h).symm,rfl,by omega,fun s hs => ?_⟩
   obtain ⟨i,hi,rfl⟩ := mj hs
   have := Gs (h3 i hi)
   rw [dr hi,fq] at this
   simpa using this
theorem Tt {xs : List A8} (hl : xs.length ≤ 1000) (hs : ∀ x ∈ xs,Co x) : mJ xs = some () := by
 unfold mJ
 have h0 : YU xs = some () := ru (by omega)
 rw [h0,ba,GH xs.length (fun i hi => ?_),Ap]
 ·unfold Sz
  simp only [C5,rp]
  rfl
 ·obtain ⟨x,hx⟩ : ∃ x,xs[i]? = some x := ⟨_,dr hi⟩
  obtain ⟨h1,h2,h3,h4,h5,h6⟩ := hs x (ee hx)
  have b1 := h1.1
  have b2 := h2.1
  have b3 := h3.1
  have b4 := h4.1
  have b5 := h5.1
  have b6 := h6.1
  unfold Sz
  simp only [Ci hi,rq,AJ,hx,ba,B7 (show i < 9223372036854775807 by omega),Gf (b := 16) (xs := x.Steps) (by decide) (by omega),Gf (b := 16) (xs := x.AK) (by decide) (by omega),Gf (b := 8) (xs := x.A7) (by decide) (by omega),Gf (b := 24) (xs := x.AP) (by decide) (by omega),Gf (b := 24) (xs := x.C2) (by decide) (by omega),Gf (b := 32) (xs := x.Ad) (by decide) (by omega)]
theorem qX {n : Bq} {s : List AI} {o : Int} (hn : Ek n) (hs : G4 EG s) (ho : Iv o) (hsn : Dz n) (hss : I0 (fun _ => True) s) : ∃ r,oY n s o = some r ∧ nZ n s o = some r ∧ I0 Co r := by
 obtain ⟨f,hf⟩ := jF n s
 have hall : pJ n s = some (f.Code == 0) := by
  unfold pJ
  rw [Yw hn hsn hs,hf]; rfl
 have himp : oD n s = some f := by rw [YR hn hsn hs,hf]
 have hcode : ((f.Code == 0) && ((f.At == 0) && true)) = (f.Code == 0) := by
  rcases R6 hf with h | ⟨rfl,_⟩
  ·rw [h]; rfl
  ·rfl
 have hap0 : mJ ([] : List A8) = some () := Tt (by simp) (fun x hx => by cases hx)
 unfold oY nZ sW
 simp only [hall,himp,ba,hcode,Uj]
 by_cases vm : (f.Code == 0) = true ∧ 0 ≤ o ∧ o ≤ 100000
 ·obtain ⟨h0,wo,ho2⟩ := vm
  rcases R6 hf with h | ⟨_,hg,hl,hsg⟩
  ·rw [h] at h0; cases h0
  rw [h0,decide_eq_true (show o ≥ 0 by omega),decide_eq_true ho2,decide_eq_false (show ¬ o < 0 by omega),decide_eq_false (show ¬ o > 100000 by omega)]
  simp only [fo,rp,ra,ba,Bool.or_self]
  obtain ⟨ov,hov⟩ : ∃ ov : Nat,o = (ov : Int) := ⟨o.toNat,by omega⟩
  subst hov
  suffices H : ∃ (r : List A8) (r' : (List A8) × Bool),AQ (PC n s (ov : Int)) (([] : List A8),0,([] : List Ac),(0:Int)) = some r ∧ AQ (PZ n s (ov : Int)) (([] : List A8),0,(0:Int)) = some r' ∧ (r' = (r,true) ∧ r.length ≤ 301 ∧ ∀ x ∈ r,Co x) by
   obtain ⟨r,r',h1,h2,rfl,h3,h4⟩ := H
   refine ⟨r,h1, ?_,by omega,h4⟩
   rw [h2,ba]
   show (mJ r).bind _ = _
   rw [Tt (by omega) h4]; rfl
  refine K4 s.length (fun i (a : (List A8) × Int × List Ac × Int) (b : (List A8) × Int × Int) => a.1 = b.1 ∧ a.2.1 = b.2.1 ∧ a.2.2.2 = (i : Int) ∧ b.2.2 = (i : Int) ∧ a.1.length ≤ 301 ∧ ∀ x ∈ a.1,Co x) (fun (r : List A8) (r' : (List A8) × Bool) => r' = (r,true) ∧ r.length ≤ 301 ∧ ∀ x ∈ r,Co x) (fun i a b hi hR => .inl ?_) (fun a b hR => ?_) _ _ ⟨rfl,rfl,rfl,rfl,by simp,fun x hx => by cases hx⟩
  ·obtain ⟨out,tr,seen,i1⟩ := a
   obtain ⟨out',tr',i2⟩ := b
   simp only [] at hR
   obtain ⟨rfl,rfl,rfl,rfl,hol,hsm⟩ := hR
   obtain ⟨c,hc⟩ : ∃ c,s[i]? = some c := ⟨_,dr hi⟩
   obtain ⟨k,p,hk,hp,h1,h2,hw,xq,ha2⟩ := S6 hg (hsg c (ee hc))
   have hfar : Vz n c.A1 c.At c.Way = some (FL p.Bo c.Way c.At) := by rw [hk]; exact N0 hp h1 h2 (by omega) (by omega)
   have hb : 0 ≤ FL p.Bo c.Way c.At ∧ FL p.Bo c.Way c.At ≤ p.Bo := by unfold FL; split <;> omega
   obtain ⟨r,r',j1,j2,j3,j4,j5,j6⟩ := Z1 hsn hg hsg hl (show ov ≤ 100000 by omega) 1000 ⟨n,s,(ov : Int),out,tr,seen⟩ ⟨(i : Int),0,[],[],[],[],[],[]⟩ k p c.Way (FL p.Bo c.Way c.At) rfl rfl rfl hp h1 h2 hw hb.1 hb.2 ⟨mw,fun x hx => (by cases hx),fun x hx => (by cases hx),dz _,dz _,dz _⟩ (by simp) hol hsm
   rw [Se] at j2
   rw [← hk] at j1 j2
   have hwi : AN ((i : Int) + (1:Int)) = ((i + 1 : Nat) : Int) := B7 (by omega)
   refine ⟨(r.1,r.2.1,r.2.2,AN ((i : Int) + (1:Int))),(r'.1,r'.2,AN ((i : Int) + (1:Int))), ?_, ?_,j3,j4,hwi,hwi,j5,j6⟩
   ·unfold PC
    simp only [Ci hi,rq,AJ,hc,ba,hfar,j1]
   ·unfold PZ
    simp only [Ci hi,rq,AJ,hc,ba,j2]
  ·obtain ⟨out,tr,seen,i1⟩ := a
   obtain ⟨out',tr',i2⟩ := b
   simp only [] at hR
   obtain ⟨rfl,rfl,rfl,rfl,hol,hsm⟩ := hR
   unfold PC PZ YB
   simp only [C5,rp,ba]
   cases (decide ((out.length : Int) > (300:Int)) || decide (tr > (20000:Int))) with
   | true => exact ⟨_,_,rfl,rfl,rfl,by simp,fun x hx => by cases hx⟩
   | false => exact ⟨_,_,rfl,rfl,rfl,hol,hsm⟩
 ·have hbad : ((!(f.Code == 0) || decide (o < (0:Int))) || decide (o > (100000:Int))) = true := by
   cases hc : (f.Code == 0) with
   | false => rfl
   | true =>
    rw [fo,qz,gg,ry,ry]
    refine jk fun hno => vm ⟨hc, ?_, ?_⟩ <;> omega
  refine ⟨[], ?_, ?_,by simp,fun x hx => by cases hx⟩
  ·cases hc : (f.Code == 0) with
   | false => rfl
   | true =>
    have : (decide (o ≥ (0:Int)) && decide (o ≤ (100000:Int))) = false := by
     rw [kn,rv,rv]
     rcases Classical.em (0 ≤ o) with h | h
     ·exact .inr fun h2 => vm ⟨hc,h,h2⟩
     ·exact .inl h
    rw [this]; rfl
  ·rw [hbad]
   simp only [rq,ba,hap0]
def Qk (x : A1) (k : Int) : A1 := ⟨Uu k,k + 1,k + 1 + 1,k + 1 + 1 + 1⟩
def ED (x : A1) : Nat := 1 + (1 + (1 + (1)))
def WO (x : Ac) (k : Int) : Ac := ⟨k,k + 1⟩
def GU (x : Ac) : Nat := 1 + (1)
def Qj (x : AG) (k : Int) : AG := ⟨k,Uu (k + 1),BA WO GU x.Ends (k + 1 + 1)⟩
def FB (x : AG) : Nat := 1 + (1 + (B1 GU x.Ends))
def nF (x : Bq) (k : Int) : Bq := ⟨BA Qk ED x.A3 k,BA Qj FB x.A4 (k + ((B1 ED x.A3 : Nat) : Int))⟩
def Hn (x : Bq) : Nat := B1 ED x.A3 + (B1 FB x.A4)
theorem bV {x : List A1} {k : Int} (hx : (I0 (fun _ => True)) x) (h0 : 0 ≤ k) (hb : k + ((B1 ED x : Nat) : Int) ≤ 4611686018427387904) : pT x k = some (BA Qk ED x k,k + ((B1 ED x : Nat) : Int)) := by
 have hl := hx.1
 unfold pT
 refine EH (F := Pc) (fun xs k i => (xs,k,i)) Qk ED (fun _ => True) x.length (fun pre y post k hp h0 hb hn => ?_) (fun ys k hn => ?_) x [] k hx.2 h0 hb rfl
 ·have hlen := Gi hn
  have tp : k + ((1 + (1 + (1 + (1))) : Nat) : Int) ≤ 4611686018427387904 := hb
  unfold Pc
  simp (disch := omega) only [Ii,rq,Fe,Gk,ba,FY,dN]
  rw [show k + ((ED y : Nat) : Int) = k + 1 + 1 + 1 + 1 from by show k + ((1 + (1 + (1 + (1))) : Nat) : Int) = _; omega]
  rfl
 ·unfold Pc
  simp only [← hn,C5,rp,dq]
theorem YD {x : List Ac} {k : Int} (hx : (I0 (fun _ => True)) x) (h0 : 0 ≤ k) (hb : k + ((B1 GU x : Nat) : Int) ≤ 4611686018427387904) : Zs x k = some (BA WO GU x k,k + ((B1 GU x : Nat) : Int)) := by
 have hl := hx.1
 unfold Zs
 refine EH (F := Ls) (fun xs k i => (xs,k,i)) WO GU (fun _ => True) x.length (fun pre y post k hp h0 hb hn => ?_) (fun ys k hn => ?_) x [] k hx.2 h0 hb rfl
 ·have hlen := Gi hn
  have tp : k + ((1 + (1) : Nat) : Int) ≤ 4611686018427387904 := hb
  unfold Ls
  simp (disch := omega) only [Ii,rq,Fe,Gk,ba,FY]
  rw [show k + ((GU y : Nat) : Int) = k + 1 + 1 from by show k + ((1 + (1) : Nat) : Int) = _; omega]
  rfl
 ·unfold Ls
  simp only [← hn,C5,rp,dq]
theorem bW {x : List AG} {k : Int} (hx : (I0 Fo) x) (h0 : 0 ≤ k) (hb : k + ((B1 FB x : Nat) : Int) ≤ 4611686018427387904) : pW x k = some (BA Qj FB x k,k + ((B1 FB x : Nat) : Int)) := by
 have hl := hx.1
 unfold pW
 refine EH (F := Pe) (fun xs k i => (xs,k,i)) Qj FB Fo x.length (fun pre y post k hp h0 hb hn => ?_) (fun ys k hn => ?_) x [] k hx.2 h0 hb rfl
 ·have hlen := Gi hn
  have tp : k + ((1 + (1 + (B1 GU y.Ends)) : Nat) : Int) ≤ 4611686018427387904 := hb
  unfold Pe
  simp (disch := omega) only [Ii,rq,Fe,Gk,ba,FY,dN,YD (x := y.Ends) hp]
  rw [show k + ((FB y : Nat) : Int) = k + 1 + 1 + ((B1 GU y.Ends : Nat) : Int) from by show k + ((1 + (1 + (B1 GU y.Ends)) : Nat) : Int) = _; omega]
  rfl
 ·unfold Pe
  simp only [← hn,C5,rp,dq]
theorem aF {x : Bq} {k : Int} (hx : Dz x) (h0 : 0 ≤ k) (hb : k + ((Hn x : Nat) : Int) ≤ 4611686018427387904) : pC x k = some (nF x k,k + ((Hn x : Nat) : Int)) := by
 unfold Hn at hb
 unfold pC
 rw [bV (x := x.A3) (k := k) hx.1 (by omega) (by omega),ba]
 dsimp only
 rw [bW (x := x.A4) (k := k + ((B1 ED x.A3 : Nat) : Int)) hx.2 (by omega) (by omega),ba]
 dsimp only
 rw [show k + ((Hn x : Nat) : Int) = k + ((B1 ED x.A3 : Nat) : Int) + ((B1 FB x.A4 : Nat) : Int) from by unfold Hn; omega]
 rfl
theorem U6 (x : A1) (hx : (fun _ => True) x) : ED x ≤ 4 := by
 unfold ED
 omega
theorem Xv (x : Ac) (hx : (fun _ => True) x) : GU x ≤ 2 := by
 unfold GU
 omega
theorem U5 (x : AG) (hx : Fo x) : FB x ≤ 2097154 := by
 unfold FB
 have h0 : (B1 GU) x.Ends ≤ 2097152 := by
  have h := (fun _ hx => GB (p := (fun _ => True)) Xv hx.1 hx.2) x.Ends hx
  exact h
 omega
theorem Xz (x : Bq) (hx : Dz x) : Hn x ≤ 2199029547008 := by
 unfold Hn
 have h0 : (B1 ED) x.A3 ≤ 4194304 := by
  have h := (fun _ hx => GB (p := (fun _ => True)) U6 hx.1 hx.2) x.A3 hx.1
  exact h
 have h1 : (B1 FB) x.A4 ≤ 2199025352704 := by
  have h := (fun _ hx => GB (p := Fo) U5 hx.1 hx.2) x.A4 hx.2
  exact h
 omega
def S4 (x : AI) (k : Int) : AI := ⟨Uu k,k + 1,k + 1 + 1,k + 1 + 1 + 1⟩
def FM (x : AI) : Nat := 1 + (1 + (1 + (1)))
theorem aL {x : List AI} {k : Int} (hx : (I0 (fun _ => True)) x) (h0 : 0 ≤ k) (hb : k + ((B1 FM x : Nat) : Int) ≤ 4611686018427387904) : pD x k = some (BA S4 FM x k,k + ((B1 FM x : Nat) : Int)) := by
 have hl := hx.1
 unfold pD
 refine EH (F := PO) (fun xs k i => (xs,k,i)) S4 FM (fun _ => True) x.length (fun pre y post k hp h0 hb hn => ?_) (fun ys k hn => ?_) x [] k hx.2 h0 hb rfl
 ·have hlen := Gi hn
  have tp : k + ((1 + (1 + (1 + (1))) : Nat) : Int) ≤ 4611686018427387904 := hb
  unfold PO
  simp (disch := omega) only [Ii,rq,Fe,Gk,ba,FY,dN]
  rw [show k + ((FM y : Nat) : Int) = k + 1 + 1 + 1 + 1 from by show k + ((1 + (1 + (1 + (1))) : Nat) : Int) = _; omega]
  rfl
 ·unfold PO
  simp only [← hn,C5,rp,dq]
theorem Sh (x : AI) (hx : (fun _ => True) x) : FM x ≤ 4 := by
 unfold FM
 omega
def IP (x : BR) (k : Int) : BR := ⟨k,k + 1⟩
def CD (x : BR) : Nat := 1 + (1)
def K7 (x : BQ) (k : Int) : BQ := ⟨k,k + 1⟩
def D8 (x : BQ) : Nat := 1 + (1)
def HU (x : Ai) (k : Int) : Ai := ⟨k,k + 1,k + 1 + 1⟩
def Bf (x : Ai) : Nat := 1 + (1 + (1))
def H4 (x : AD) (k : Int) : AD := ⟨k,k + 1,k + 1 + 1,k + 1 + 1 + 1⟩
def CF (x : AD) : Nat := 1 + (1 + (1 + (1)))
def Hu (x : A8) (k : Int) : A8 := ⟨k,k + 1,BA IP CD x.Steps (k + 1 + 1),BA K7 D8 x.AK (k + 1 + 1 + ((B1 CD x.Steps : Nat) : Int)),BA kK (fun _ => 1) x.A7 (k + 1 + 1 + ((B1 CD x.Steps : Nat) : Int) + ((B1 D8 x.AK : Nat) : Int)),BA HU Bf x.AP (k + 1 + 1 + ((B1 CD x.Steps : Nat) : Int) + ((B1 D8 x.AK : Nat) : Int) + ((B1 (fun _ => 1) x.A7 : Nat) : Int)),BA HU Bf x.C2 (k + 1 + 1 + ((B1 CD x.Steps : Nat) : Int) + ((B1 D8 x.AK : Nat) : Int) + ((B1 (fun _ => 1) x.A7 : Nat) : Int) + ((B1 Bf x.AP : Nat) : Int)),BA H4 CF x.Ad (k + 1 + 1 + ((B1 CD x.Steps : Nat) : Int) + ((B1 D8 x.AK : Nat) : Int) + ((B1 (fun _ => 1) x.A7 : Nat) : Int) + ((B1 Bf x.AP : Nat) : Int) + ((B1 Bf x.C2 : Nat) : Int))⟩
def DS (x : A8) : Nat := 1 + (1 + (B1 CD x.Steps + (B1 D8 x.AK + (B1 (fun _ => 1) x.A7 + (B1 Bf x.AP + (B1 Bf x.C2 + (B1 CF x.Ad)))))))
theorem bX {x : List BR} {k : Int} (hx : (I0 (fun _ => True)) x) (h0 : 0 ≤ k) (hb : k + ((B1 CD x : Nat) : Int) ≤ 4611686018427387904) : pY x k = some (BA IP CD x k,k + ((B1 CD x : Nat) : Int)) := by
 have hl := hx.1
 unfold pY
 refine EH (F := Pg) (fun xs k i => (xs,k,i)) IP CD (fun _ => True) x.length (fun pre y post k hp h0 hb hn => ?_) (fun ys k hn => ?_) x [] k hx.2 h0 hb rfl
 ·have hlen := Gi hn
  have tp : k + ((1 + (1) : Nat) : Int) ≤ 4611686018427387904 := hb
  unfold Pg
  simp (disch := omega) only [Ii,rq,Fe,Gk,ba,FY]
  rw [show k + ((CD y : Nat) : Int) = k + 1 + 1 from by show k + ((1 + (1) : Nat) : Int) = _; omega]
  rfl
 ·unfold Pg
  simp only [← hn,C5,rp,dq]
theorem bY {x : List BQ} {k : Int} (hx : (I0 (fun _ => True)) x) (h0 : 0 ≤ k) (hb : k + ((B1 D8 x : Nat) : Int) ≤ 4611686018427387904) : pZ x k = some (BA K7 D8 x k,k + ((B1 D8 x : Nat) : Int)) := by
 have hl := hx.1
 unfold pZ
 refine EH (F := Ph) (fun xs k i => (xs,k,i)) K7 D8 (fun _ => True) x.length (fun pre y post k hp h0 hb hn => ?_) (fun ys k hn => ?_) x [] k hx.2 h0 hb rfl
 ·have hlen := Gi hn
  have tp : k + ((1 + (1) : Nat) : Int) ≤ 4611686018427387904 := hb
  unfold Ph
  simp (disch := omega) only [Ii,rq,Fe,Gk,ba,FY]
  rw [show k + ((D8 y : Nat) : Int) = k + 1 + 1 from by show k + ((1 + (1) : Nat) : Int) = _; omega]
  rfl
 ·unfold Ph
  simp only [← hn,C5,rp,dq]
theorem bZ {x : List Int} {k : Int} (hx : (I0 (fun _ => True)) x) (h0 : 0 ≤ k) (hb : k + ((B1 (fun _ => 1) x : Nat) : Int) ≤ 4611686018427387904) : q8 x k = some (BA kK (fun _ => 1) x k,k + ((B1 (fun _ => 1) x : Nat) : Int)) := by
 have hl := hx.1
 unfold q8
 refine EH (F := Pj) (fun xs k i => (xs,k,i)) kK (fun _ => 1) (fun _ => True) x.length (fun pre y post k hp h0 hb hn => ?_) (fun ys k hn => ?_) x [] k hx.2 h0 hb rfl
 ·have hlen := Gi hn
  have tp : k + ((1 : Nat) : Int) ≤ 4611686018427387904 := hb
  unfold Pj
  simp (disch := omega) only [Ii,rq,Fe,Gk,ba,FY]
  rw [show k + (((fun _ => 1) y : Nat) : Int) = k + 1 from by show k + ((1 : Nat) : Int) = _; omega]
  rfl
 ·unfold Pj
  simp only [← hn,C5,rp,dq]
theorem UR {x : List Ai} {k : Int} (hx : (I0 (fun _ => True)) x) (h0 : 0 ≤ k) (hb : k + ((B1 Bf x : Nat) : Int) ≤ 4611686018427387904) : oB x k = some (BA HU Bf x k,k + ((B1 Bf x : Nat) : Int)) := by
 have hl := hx.1
 unfold oB
 refine EH (F := Pk) (fun xs k i => (xs,k,i)) HU Bf (fun _ => True) x.length (fun pre y post k hp h0 hb hn => ?_) (fun ys k hn => ?_) x [] k hx.2 h0 hb rfl
 ·have hlen := Gi hn
  have tp : k + ((1 + (1 + (1)) : Nat) : Int) ≤ 4611686018427387904 := hb
  unfold Pk
  simp (disch := omega) only [Ii,rq,Fe,Gk,ba,FY]
  rw [show k + ((Bf y : Nat) : Int) = k + 1 + 1 + 1 from by show k + ((1 + (1 + (1)) : Nat) : Int) = _; omega]
  rfl
 ·unfold Pk
  simp only [← hn,C5,rp,dq]
theorem cA {x : List AD} {k : Int} (hx : (I0 (fun _ => True)) x) (h0 : 0 ≤ k) (hb : k + ((B1 CF x : Nat) : Int) ≤ 4611686018427387904) : q9 x k = some (BA H4 CF x k,k + ((B1 CF x : Nat) : Int)) := by
 have hl := hx.1
 unfold q9
 refine EH (F := Pl) (fun xs k i => (xs,k,i)) H4 CF (fun _ => True) x.length (fun pre y post k hp h0 hb hn => ?_) (fun ys k hn => ?_) x [] k hx.2 h0 hb rfl
 ·have hlen := Gi hn
  have tp : k + ((1 + (1 + (1 + (1))) : Nat) : Int) ≤ 4611686018427387904 := hb
  unfold Pl
  simp (disch := omega) only [Ii,rq,Fe,Gk,ba,FY]
  rw [show k + ((CF y : Nat) : Int) = k + 1 + 1 + 1 + 1 from by show k + ((1 + (1 + (1 + (1))) : Nat) : Int) = _; omega]
  rfl
 ·unfold Pl
  simp only [← hn,C5,rp,dq]
theorem aU {x : List A8} {k : Int} (hx : (I0 Co) x) (h0 : 0 ≤ k) (hb : k + ((B1 DS x : Nat) : Int) ≤ 4611686018427387904) : pG x k = some (BA Hu DS x k,k + ((B1 DS x : Nat) : Int)) := by
 have hl := hx.1
 unfold pG
 refine EH (F := PQ) (fun xs k i => (xs,k,i)) Hu DS Co x.length (fun pre y post k hp h0 hb hn => ?_) (fun ys k hn => ?_) x [] k hx.2 h0 hb rfl
 ·have hlen := Gi hn
  have tp : k + ((1 + (1 + (B1 CD y.Steps + (B1 D8 y.AK + (B1 (fun _ => 1) y.A7 + (B1 Bf y.AP + (B1 Bf y.C2 + (B1 CF y.Ad))))))) : Nat) : Int) ≤ 4611686018427387904 := hb
  unfold PQ
  simp (disch := omega) only [Ii,rq,Fe,Gk,ba,FY,bX (x := y.Steps) hp.1,bY (x := y.AK) hp.2.1,bZ (x := y.A7) hp.2.2.1,UR (x := y.AP) hp.2.2.2.1,UR (x := y.C2) hp.2.2.2.2.1,cA (x := y.Ad) hp.2.2.2.2.2]
  rw [show k + ((DS y : Nat) : Int) = k + 1 + 1 + ((B1 CD y.Steps : Nat) : Int) + ((B1 D8 y.AK : Nat) : Int) + ((B1 (fun _ => 1) y.A7 : Nat) : Int) + ((B1 Bf y.AP : Nat) : Int) + ((B1 Bf y.C2 : Nat) : Int) + ((B1 CF y.Ad : Nat) : Int) from by show k + ((1 + (1 + (B1 CD y.Steps + (B1 D8 y.AK + (B1 (fun _ => 1) y.A7 + (B1 Bf y.AP + (B1 Bf y.C2 + (B1 CF y.Ad))))))) : Nat) : Int) = _; omega]
  rfl
 ·unfold PQ
  simp only [← hn,C5,rp,dq]
theorem Vg (x : BR) (hx : (fun _ => True) x) : CD x ≤ 2 := by
 unfold CD
 omega
theorem Xw (x : BQ) (hx : (fun _ => True) x) : D8 x ≤ 2 := by
 unfold D8
 omega
theorem P4 (x : Ai) (hx : (fun _ => True) x) : Bf x ≤ 3 := by
 unfold Bf
 omega
theorem U4 (x : AD) (hx : (fun _ => True) x) : CF x ≤ 4 := by
 unfold CF
 omega
theorem U7 (x : A8) (hx : Co x) : DS x ≤ 15728642 := by
 unfold DS
 have h0 : (B1 CD) x.Steps ≤ 2097152 := by
  have h := (fun _ hx => GB (p := (fun _ => True)) Vg hx.1 hx.2) x.Steps hx.1
  exact h
 have h1 : (B1 D8) x.AK ≤ 2097152 := by
  have h := (fun _ hx => GB (p := (fun _ => True)) Xw hx.1 hx.2) x.AK hx.2.1
  exact h
 have h2 : (B1 (fun _ => 1)) x.A7 ≤ 1048576 := by
  have h := (fun _ hx => GB (p := (fun _ => True)) (fun _ _ => dz 1) hx.1 hx.2) x.A7 hx.2.2.1
  exact h
 have h3 : (B1 Bf) x.AP ≤ 3145728 := by
  have h := (fun _ hx => GB (p := (fun _ => True)) P4 hx.1 hx.2) x.AP hx.2.2.2.1
  exact h
 have h4 : (B1 Bf) x.C2 ≤ 3145728 := by
  have h := (fun _ hx => GB (p := (fun _ => True)) P4 hx.1 hx.2) x.C2 hx.2.2.2.2.1
  exact h
 have h5 : (B1 CF) x.Ad ≤ 4194304 := by
  have h := (fun _ hx => GB (p := (fun _ => True)) U4 hx.1 hx.2) x.Ad hx.2.2.2.2.2
  exact h
 omega
theorem cB {x : List BR} {k : Int} (hx : (I0 (fun _ => True)) x) (h0 : 0 ≤ k) (hb : k + ((B1 CD x : Nat) : Int) ≤ 4611686018427387904) : qA (BA IP CD x k) k = some (k + ((B1 CD x : Nat) : Int)) := by
 have hl := hx.1
 unfold qA
 refine GZ (F := Pm (BA IP CD x k)) (fun k i => (k,i)) IP CD (fun _ => True) (BA IP CD x k) (fun i y k hp h0 hb hy => ?_) (fun k2 => ?_) x [] k rfl hx.2 h0 hb
 ·have hlen := BL hy
  have sd := Ci hlen
  rw [FI] at hlen
  have tp : k + ((1 + (1) : Nat) : Int) ≤ 4611686018427387904 := hb
  unfold Pm
  simp (disch := omega) only [sd,rq,AJ,hy,ba,IP,rz,sa,fo,rp,FY,iY]
  rw [show k + ((CD y : Nat) : Int) = k + 1 + 1 from by show k + ((1 + (1) : Nat) : Int) = _; omega]
  rfl
 ·unfold Pm
  simp only [C5,rp,dq]
theorem cC {x : List BQ} {k : Int} (hx : (I0 (fun _ => True)) x) (h0 : 0 ≤ k) (hb : k + ((B1 D8 x : Nat) : Int) ≤ 4611686018427387904) : qB (BA K7 D8 x k) k = some (k + ((B1 D8 x : Nat) : Int)) := by
 have hl := hx.1
 unfold qB
 refine GZ (F := Pn (BA K7 D8 x k)) (fun k i => (k,i)) K7 D8 (fun _ => True) (BA K7 D8 x k) (fun i y k hp h0 hb hy => ?_) (fun k2 => ?_) x [] k rfl hx.2 h0 hb
 ·have hlen := BL hy
  have sd := Ci hlen
  rw [FI] at hlen
  have tp : k + ((1 + (1) : Nat) : Int) ≤ 4611686018427387904 := hb
  unfold Pn
  simp (disch := omega) only [sd,rq,AJ,hy,ba,K7,rz,sa,fo,rp,FY,iY]
  rw [show k + ((D8 y : Nat) : Int) = k + 1 + 1 from by show k + ((1 + (1) : Nat) : Int) = _; omega]
  rfl
 ·unfold Pn
  simp only [C5,rp,dq]
theorem cD {x : List Int} {k : Int} (hx : (I0 (fun _ => True)) x) (h0 : 0 ≤ k) (hb : k + ((B1 (fun _ => 1) x : Nat) : Int) ≤ 4611686018427387904) : qC (BA kK (fun _ => 1) x k) k = some (k + ((B1 (fun _ => 1) x : Nat) : Int)) := by
 have hl := hx.1
 unfold qC
 refine GZ (F := Po (BA kK (fun _ => 1) x k)) (fun k i => (k,i)) kK (fun _ => 1) (fun _ => True) (BA kK (fun _ => 1) x k) (fun i y k hp h0 hb hy => ?_) (fun k2 => ?_) x [] k rfl hx.2 h0 hb
 ·have hlen := BL hy
  have sd := Ci hlen
  rw [FI] at hlen
  have tp : k + ((1 : Nat) : Int) ≤ 4611686018427387904 := hb
  unfold Po
  simp (disch := omega) only [sd,rq,AJ,hy,ba,kK,rz,sa,fo,rp,FY,iY]
  rw [show k + (((fun _ => 1) y : Nat) : Int) = k + 1 from by show k + ((1 : Nat) : Int) = _; omega]
  rfl
 ·unfold Po
  simp only [C5,rp,dq]
theorem US {x : List Ai} {k : Int} (hx : (I0 (fun _ => True)) x) (h0 : 0 ≤ k) (hb : k + ((B1 Bf x : Nat) : Int) ≤ 4611686018427387904) : oC (BA HU Bf x k) k = some (k + ((B1 Bf x : Nat) : Int)) := by
 have hl := hx.1
 unfold oC
 refine GZ (F := Pp (BA HU Bf x k)) (fun k i => (k,i)) HU Bf (fun _ => True) (BA HU Bf x k) (fun i y k hp h0 hb hy => ?_) (fun k2 => ?_) x [] k rfl hx.2 h0 hb
 ·have hlen := BL hy
  have sd := Ci hlen
  rw [FI] at hlen
  have tp : k + ((1 + (1 + (1)) : Nat) : Int) ≤ 4611686018427387904 := hb
  unfold Pp
  simp (disch := omega) only [sd,rq,AJ,hy,ba,HU,rz,sa,fo,rp,FY,iY]
  rw [show k + ((Bf y : Nat) : Int) = k + 1 + 1 + 1 from by show k + ((1 + (1 + (1)) : Nat) : Int) = _; omega]
  rfl
 ·unfold Pp
  simp only [C5,rp,dq]
theorem cE {x : List AD} {k : Int} (hx : (I0 (fun _ => True)) x) (h0 : 0 ≤ k) (hb : k + ((B1 CF x : Nat) : Int) ≤ 4611686018427387904) : qD (BA H4 CF x k) k = some (k + ((B1 CF x : Nat) : Int)) := by
 have hl := hx.1
 unfold qD
 refine GZ (F := Pq (BA H4 CF x k)) (fun k i => (k,i)) H4 CF (fun _ => True) (BA H4 CF x k) (fun i y k hp h0 hb hy => ?_) (fun k2 => ?_) x [] k rfl hx.2 h0 hb
 ·have hlen := BL hy
  have sd := Ci hlen
  rw [FI] at hlen
  have tp : k + ((1 + (1 + (1 + (1))) : Nat) : Int) ≤ 4611686018427387904 := hb
  unfold Pq
  simp (disch := omega) only [sd,rq,AJ,hy,ba,H4,rz,sa,fo,rp,FY,iY]
  rw [show k + ((CF y : Nat) : Int) = k + 1 + 1 + 1 + 1 from by show k + ((1 + (1 + (1 + (1))) : Nat) : Int) = _; omega]
  rfl
 ·unfold Pq
  simp only [C5,rp,dq]
theorem aV {x : List A8} {k : Int} (hx : (I0 Co) x) (h0 : 0 ≤ k) (hb : k + ((B1 DS x : Nat) : Int) ≤ 4611686018427387904) : o0 (BA Hu DS x k) k = some (k + ((B1 DS x : Nat) : Int)) := by
 have hl := hx.1
 unfold o0
 refine GZ (F := PR (BA Hu DS x k)) (fun k i => (k,i)) Hu DS Co (BA Hu DS x k) (fun i y k hp h0 hb hy => ?_) (fun k2 => ?_) x [] k rfl hx.2 h0 hb
 ·have hlen := BL hy
  have sd := Ci hlen
  rw [FI] at hlen
  have tp : k + ((1 + (1 + (B1 CD y.Steps + (B1 D8 y.AK + (B1 (fun _ => 1) y.A7 + (B1 Bf y.AP + (B1 Bf y.C2 + (B1 CF y.Ad))))))) : Nat) : Int) ≤ 4611686018427387904 := hb
  unfold PR
  simp (disch := omega) only [sd,rq,AJ,hy,ba,Hu,rz,sa,fo,rp,FY,iY,cB (x := y.Steps) hp.1,cC (x := y.AK) hp.2.1,cD (x := y.A7) hp.2.2.1,US (x := y.AP) hp.2.2.2.1,US (x := y.C2) hp.2.2.2.2.1,cE (x := y.Ad) hp.2.2.2.2.2]
  rw [show k + ((DS y : Nat) : Int) = k + 1 + 1 + ((B1 CD y.Steps : Nat) : Int) + ((B1 D8 y.AK : Nat) : Int) + ((B1 (fun _ => 1) y.A7 : Nat) : Int) + ((B1 Bf y.AP : Nat) : Int) + ((B1 Bf y.C2 : Nat) : Int) + ((B1 CF y.Ad : Nat) : Int) from by show k + ((1 + (1 + (B1 CD y.Steps + (B1 D8 y.AK + (B1 (fun _ => 1) y.A7 + (B1 Bf y.AP + (B1 Bf y.C2 + (B1 CF y.Ad))))))) : Nat) : Int) = _; omega]
  rfl
 ·unfold PR
  simp only [C5,rp,dq]
theorem tX (bz : Bq) (ao : List AI) (bq : Int) (haAN0 : Ek bz) (xy : (G4 EG) ao) (haAOver2 : Iv bq) : f3 bz ao bq = some true := by
 unfold f3
 obtain ⟨v0,e0,a0,b0⟩ := qF (x := bz) (left := 1048576) (by omega) (by omega) haAN0
 rw [e0,ba]
 rcases im (decide (v0 < (0 : Int))) with ua | ua
 ·rw [ua]; rfl
 rw [ua,rp]; simp only [rv] at ua
 have saAN0 := b0.resolve_left ua
 obtain ⟨v1,e1,a1,b1⟩ := qG (x := ao) (left := v0) (by omega) (by omega) xy
 rw [e1,ba]
 rcases im (decide (v1 < (0 : Int))) with uw | uw
 ·rw [uw]; rfl
 rw [uw,rp]; simp only [rv] at uw
 have saASignals1 := b1.resolve_left uw
 obtain ⟨r,m1,m2,m3⟩ := qX haAN0 xy haAOver2 saAN0 saASignals1
 have u0 : Hn bz ≤ 2199029547008 := by
  have h := Xz bz saAN0
  exact h
 have k0 := aF (x := bz) (k := (1 : Int)) saAN0 (by omega) (by omega)
 have u1 : (B1 FM) ao ≤ 4194304 := by
  have h := (fun _ hx => GB (p := (fun _ => True)) Sh hx.1 hx.2) ao saASignals1
  exact h
 have k1 := aL (x := ao) (k := (1 : Int) + ((Hn bz : Nat) : Int)) saASignals1 (by omega) (by omega)
 have u2 : (B1 DS) r ≤ 16492676513792 := by
  have h := (fun _ hx => GB (p := Co) U7 hx.1 hx.2) r m3
  exact h
 have k2 := aU (x := r) (k := (1 : Int)) m3 (by omega) (by omega)
 have j2 := aV (x := r) (k := (1 : Int)) m3 (by omega) (by omega)
 simp only [lZ (x := bz) saAN0,m5 (x := ao) saASignals1,m8 (x := r) m3,m9 (x := bz) saAN0,mA (x := ao) saASignals1,k0,iY (show (0:Int) ≤ (1 : Int) + ((Hn bz : Nat) : Int) by omega),k1,iY (show (0:Int) ≤ (1 : Int) + ((Hn bz : Nat) : Int) + (((B1 FM) ao : Nat) : Int) by omega),k2,iY (show (0:Int) ≤ (1 : Int) + (((B1 DS) r : Nat) : Int) by omega),j2,ba,m1,m2,rz,sa,fo,rp]
end
end Go.Proofs.YtjklepgidjimfaaGreat.K

