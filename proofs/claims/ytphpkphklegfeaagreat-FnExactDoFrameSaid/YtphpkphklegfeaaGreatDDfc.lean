/-
 The functions that FnExactDoFrame reaches, as typed Lean functions, and that the interpreter computes them. Part 3 of 4. No conditions.
-/
import Derived.Test.YtphpkphklegfeaaGreatDDfb
set_option linter.unusedVariables false
set_option linter.unusedSimpArgs false
set_option maxRecDepth 100000
set_option autoImplicit true
set_option relaxedAutoImplicit true
namespace Go.Proofs.YtphpkphklegfeaaGreat.K
open Tryz renaming prog → ai
open Option.some renaming inj → av
open List renaming length_append → an, length_singleton → cn
noncomputable section
variable {H : A6} {lk : Lk}
def O6 (aP0 : AT) (x15 : Int) : Int → Option (Int ⊕ (Int ⊕ Bt)) := fun s =>
 (bif decide (s < (aP0.A3.length : Int)) then ((AH aP0.Bk x15).bind fun c17 => ((AH c17 s).bind fun c18 => ((AH aP0.Bk s).bind fun c19 => ((AH c19 x15).bind fun c20 => ((bif !(c18 == c20) then some true else ((bif (x15 != s) then ((AH aP0.Bk x15).bind fun c23 => ((AH c23 s).bind fun c24 => some (!c24))) else some false).bind fun t22 => ((bif t22 then ((AH aP0.A3 x15).bind fun c26 => ((AH aP0.A3 s).bind fun c27 => ((gM c26.A0 c27.A0).bind fun v28 => some v28))) else some false).bind fun t25 => some t25))).bind fun t21 => (bif t21 then (((some ({ Code := (5:Int), At := x15 } : Bt)).map Sum.inr).map Sum.inr) else some (.inl (BE (s + 1))))))))) else ((some (.inl (BE (x15 + 1)))).map Sum.inr))
def Hr (aP0 : AT) : Int → Option (Int ⊕ Bt) := fun s =>
 (bif decide (s < (aP0.A3.length : Int)) then (AG (O6 aP0 s) ((0:Int))) else ((some ({ Code := 0, At := 0 } : Bt)).map Sum.inr))
def KK (aP0 : AT) : Int → Option (Int ⊕ Bt) := fun s =>
 (bif decide (s < (aP0.Bk.length : Int)) then ((AH aP0.Bk s).bind fun c14 => (bif ((c14.length : Int) != (aP0.A3.length : Int)) then ((some ({ Code := (4:Int), At := s } : Bt)).map Sum.inr) else some (.inl (BE (s + 1))))) else ((AG (Hr aP0) ((0:Int))).map Sum.inr))
def KJ (aP0 : AT) : Int → Option (Int ⊕ Bt) := fun s =>
 (bif decide (s < (aP0.A3.length : Int)) then ((AH aP0.A3 s).bind fun c10 => ((Yy aP0 c10).bind fun v12 => (bif !v12 then ((some ({ Code := (3:Int), At := s } : Bt)).map Sum.inr) else some (.inl (BE (s + 1)))))) else ((bif ((aP0.Bk.length : Int) != (aP0.A3.length : Int)) then some ({ Code := (4:Int), At := (0:Int) } : Bt) else (AG (KK aP0) ((0:Int)))).map Sum.inr))
def Iv (aP0 : AT) : Int → Option (Int ⊕ Bt) := fun s =>
 (bif decide (s < (aP0.A5.length : Int)) then ((AH aP0.A5 s).bind fun c7 => ((RD c7 (0:Int) (BE (aP0.A0 - 1))).bind fun v8 => (bif !v8 then ((some ({ Code := (2:Int), At := s } : Bt)).map Sum.inr) else some (.inl (BE (s + 1)))))) else ((AG (KJ aP0) ((0:Int))).map Sum.inr))
def Yl (aP0 : AT) : Option Bt :=
 ((RD aP0.A0 (1:Int) (60:Int)).bind fun v3 => ((bif !v3 then some true else ((RD aP0.DX (1:Int) (300:Int)).bind fun v5 => some (!v5))).bind fun t4 => (bif ((t4 || decide ((aP0.A5.length : Int) > 40)) || decide ((aP0.A3.length : Int) > 100)) then some ({ Code := (1:Int), At := (0:Int) } : Bt) else (AG (Iv aP0) ((0:Int))))))
theorem Ym (hk : Yl aP0 = some r) (hlk : 0 < lk.length := by simp) : Am ai hh 107 [.agg (AY l1 0 l2 m3 l4 m5 aP0)] H lk = some (.agg [iv r.Code, iv r.At], H) := by
 refine AF Tryz.func107 rfl Tryz.ntmps107 Tryz.results107 rfl rfl fun hO => ?_
 unfold Yl at hk
 refine sr (BR (cs := [_, _, _, _, _]) hO C0 (fun b1 G hO => C9 hO DN GG (fun b2 G hO => pg (AV (sr ?_)))))
 refine Ad ES hO 1 (.int _ _) B3 (bk hk fun v3 hv3 hk => ?_)
 refine AM (fun _ => Dk hv3) ?_
 refine pU ?_
 refine pM (.bool _) (bk hk fun t4 ht hk => ?_)
 refine AP (l1 := [_, _, _, _, _]) [16, 17, 18, 19, 20] 20 (.bool t4) ?_ ?_
 ·refine bc (b := !v3) ?_ ?_ <;> intro hg
  ·replace hk := ct hg ht
   repeat refine Bg hg ?_
   refine Cm hg (.bool _) ?_
   cases hk; exact pE ek
  replace hk := cf hg ht
  refine AA hg (pF JL (AA hg ?_))
  refine CT hO 1 (.int _ _) B3 (AA hg (bk hk fun v5 hv5 hk => ?_))
  refine AM (fun _ => Dk hv5) (AA hg ?_)
  refine pU ?_
  refine Cl hg (.bool _) ?_
  cases hk; exact pE ek
 intro J
 refine pM (.bool _) ?_
 refine AP (l1 := [_, _, _, _, _]) [22, 23, 24, 25, 26] 26 (.bool (t4 || decide ((aP0.A5.length : Int) > 40))) ?_ ?_
 ·refine bc (b := t4) ?_ ?_ <;> intro hg
  ·repeat refine Bg hg ?_
   refine Cm hg (.bool _) ?_
   exact pE (ek (by rw [hg]; rfl))
  refine AA hg (pF D4 (AA hg ?_))
  refine CT hO 1 (.lit _ _ _) BN (AA hg ?_)
  refine Ae DA (AA hg ?_)
  refine AO ?_
  refine Cl hg (.bool _) ?_
  exact pE (ek (by rw [hg]; rfl))
 intro J
 refine pM (.bool _) ?_
 refine AP (l1 := [_, _, _, _, _]) [28, 29, 30, 31, 32] 32 (.bool ((t4 || decide ((aP0.A5.length : Int) > 40)) || decide ((aP0.A3.length : Int) > 100))) ?_ ?_
 ·refine bc (b := (t4 || decide ((aP0.A5.length : Int) > 40))) ?_ ?_ <;> intro hg
  ·repeat refine Bg hg ?_
   refine Cm hg (.bool _) ?_
   exact pE (ek (by rw [hg]; rfl))
  refine AA hg (pF BY (AA hg ?_))
  refine CT hO 1 (.lit _ _ _) Df (AA hg ?_)
  refine Ae Im (AA hg ?_)
  refine AO ?_
  refine Cl hg (.bool _) ?_
  exact pE (ek (by rw [hg]; rfl))
 intro J
 refine pg (Ak hk ?_ ?_) <;> intro hk
 ·refine sr (NB [_, _] GG HW ?_)
  refine Cg (xs := [_, _]) hO 0 DN rfl (fun G hO => pg (Au (gr ?_)))
  replace hk := av hk; subst hk; exact He hO (EN (n := 2) (DY (C8 _ _) (DY (C8 _ _) (IG)))) (FB hO 0 [_, _] I9 DN DQ)
 refine Ao (gn (AV (sr (Ad D4 hO 1 (.lit _ _ _) BN ?_))))
 refine Ae DA ?_
 refine pM (.int _ _) (pg (BO ?_))
 refine A9 (F := Iv aP0) (fun s S' => ∃ J G, A4 H G [.AW b2 (.cells 2 [iv 0, iv 0]), .AW b1 (.cells 5 (AY l1 0 l2 m3 l4 m5 aP0))] ∧ S' = ⟨CM [(1, .ptr b1 0),(2, .ptr b2 0),(35, AK l1 0 aP0.A5),(36, iv (aP0.A5.length : Int)),(37, iv s)] J, G⟩) hk ⟨_, _, hO, sh⟩ ?_
 rintro x6 _ y1 ⟨J, G, hO, rfl⟩ hk hx1
 refine sr (AO (pg (AV (Ak hk ?_ ?_)))) <;> intro hk
 ·refine Ao (gn (AV (BO (sr (pM (.int _ _) (bk hk fun c7 hc7 hk => ?_))))))
  refine pX hc7 CG DB ?_
  refine Bq (.int _ _) (Cu (lm := 0) (off := 0) hc7 B3) ?_
  refine pA (.int _ _) ?_
  refine pA (.int _ _) (pg (sr ?_))
  refine pM (.int _ _) ?_
  refine Ad ES hO 1 (.int _ _) B3 ?_
  refine AO (bk hk fun v8 hv8 hk => ?_)
  refine AM (fun _ => Dk hv8) ?_
  refine pU (pg (Ak hk ?_ ?_)) <;> intro hk
  ·refine sr (pM (.int _ _) ?_)
   refine NB [_, _] GG HW ?_
   refine Cg (xs := [_, _]) hO 0 DN rfl (fun G hO => pg (Au (br (gr (gr (br (gr (have hk := lx hx1 hk; ?_))))))))
   replace hk := av hk; subst hk; exact He hO (EN (n := 2) (DY (C8 _ _) (DY (C8 _ _) (IG)))) (FB hO 0 [_, _] I9 DN DQ)
  refine Ao (bn (gn (Bs (AO ?_))))
  refine pM (.int _ _) (pg ?_)
  cases hk; exact ⟨_, rfl, _, _, hO, sh⟩
 refine D5 (ge (ge (be (gn (have hk := lx hx1 hk; AV (sr (Ad BY hO 1 (.lit _ _ _) Df ?_)))))))
 refine Ae Im ?_
 refine pM (.int _ _) (pg (BO ?_))
 refine A9 (F := KJ aP0) (fun s S' => ∃ J G, A4 H G [.AW b2 (.cells 2 [iv 0, iv 0]), .AW b1 (.cells 5 (AY l1 0 l2 m3 l4 m5 aP0))] ∧ S' = ⟨CM [(1, .ptr b1 0),(2, .ptr b2 0),(52, AK l2 m3 aP0.A3),(53, iv (aP0.A3.length : Int)),(54, iv s)] J, G⟩) hk ⟨_, _, hO, sh⟩ ?_
 rintro x9 _ y1 ⟨J, G, hO, rfl⟩ hk hx1
 refine sr (AO (pg (AV (Ak hk ?_ ?_)))) <;> intro hk
 ·refine Ao (gn (AV (BO (sr (pM (.int _ _) (bk hk fun c10 hc10 hk => ?_))))))
  refine pX hc10 EY Ay ?_
  refine Bq (.agg [_, _, _, _, _]) (GC (lm := m3) (off := 0) hc10 Ec Ay) (C9 hO Ay Il (fun b11 G hO => ?_))
  refine pA (.int _ _) ?_
  refine Cg (xs := [_, _, _, _, _]) hO 0 Ay rfl (fun G hO => pg (sr ?_))
  refine D9 hO 2 [_, _, _, _, _] EP C0 ?_
  refine D9 hO 0 [_, _, _, _, _] Ec Ay (bk hk fun v12 hv12 hk => ?_)
  refine AM (fun _ => Yz hv12) ?_
  refine pU (pg (Ak hk ?_ ?_)) <;> intro hk
  ·refine sr (pM (.int _ _) ?_)
   refine NB [_, _] GG HW ?_
   refine Cg (xs := [_, _]) hO 1 DN rfl (fun G hO => pg (Au (br (gr (gr (br (gr (have hk := lx hx1 hk; ?_))))))))
   replace hk := av hk; subst hk; exact He hO (EN (n := 2) (DY (C8 _ _) (DY (C8 _ _) (IG)))) (FB hO 1 [_, _] I9 DN DQ)
  refine Ao (bn (gn (Bs (AO ?_))))
  refine pM (.int _ _) (pg ?_)
  cases hk; exact ⟨_, rfl, _, _, (pk hO [1, 2]), sh⟩
 refine D5 (ge (ge (be (gn (have hk := lx hx1 hk; AV (sr (Ad Er hO 1 (.lit _ _ _) JX ?_)))))))
 refine Ae NN ?_
 refine Ad BY hO 1 (.lit _ _ _) Df ?_
 refine Ae Im ?_
 refine AO (pg (Ak hk ?_ ?_)) <;> intro hk
 ·refine sr (NB [_, _] GG HW ?_)
  refine Cg (xs := [_, _]) hO 0 DN rfl (fun G hO => pg (Au (gr ?_)))
  replace hk := av hk; subst hk; exact He hO (EN (n := 2) (DY (C8 _ _) (DY (C8 _ _) (IG)))) (FB hO 0 [_, _] I9 DN DQ)
 refine Ao (gn (AV (sr (Ad Er hO 1 (.lit _ _ _) JX ?_))))
 refine Ae NN ?_
 refine pM (.int _ _) (pg (BO ?_))
 refine A9 (F := KK aP0) (fun s S' => ∃ J G, A4 H G [.AW b2 (.cells 2 [iv 0, iv 0]), .AW b1 (.cells 5 (AY l1 0 l2 m3 l4 m5 aP0))] ∧ S' = ⟨CM [(1, .ptr b1 0),(2, .ptr b2 0),(75, AK l4 m5 aP0.Bk),(76, iv (aP0.Bk.length : Int)),(77, iv s)] J, G⟩) hk ⟨_, _, hO, sh⟩ ?_
 rintro x13 _ y1 ⟨J, G, hO, rfl⟩ hk hx1
 refine sr (AO (pg (AV (Ak hk ?_ ?_)))) <;> intro hk
 ·refine Ao (gn (AV (BO (sr (pM (.int _ _) (bk hk fun c14 hc14 hk => ?_))))))
  refine pX hc14 JZ Gs ?_
  refine Bq (.lit _ _ _) (Cu (lm := m5) (off := 0) hc14 C5) ?_
  refine pA (.int _ _) ?_
  refine pA (.lit _ _ _) (pg (sr ?_))
  refine pM (.lit _ _ _) ?_
  refine Ae Hj ?_
  refine Ad BY hO 1 (.lit _ _ _) Df ?_
  refine Ae Im ?_
  refine AO (pg (Ak hk ?_ ?_)) <;> intro hk
  ·refine sr (pM (.int _ _) ?_)
   refine NB [_, _] GG HW ?_
   refine Cg (xs := [_, _]) hO 0 DN rfl (fun G hO => pg (Au (br (gr (gr (br (gr (have hk := lx hx1 hk; ?_))))))))
   replace hk := av hk; subst hk; exact He hO (EN (n := 2) (DY (C8 _ _) (DY (C8 _ _) (IG)))) (FB hO 0 [_, _] I9 DN DQ)
  refine Ao (bn (gn (Bs (AO ?_))))
  refine pM (.int _ _) (pg ?_)
  cases hk; exact ⟨_, rfl, _, _, hO, sh⟩
 refine D5 (ge (ge (be (gn (have hk := lx hx1 hk; AV (sr (Ad BY hO 1 (.lit _ _ _) Df ?_)))))))
 refine Ae Im ?_
 refine pM (.int _ _) (pg (BO ?_))
 refine A9 (F := Hr aP0) (fun s S' => ∃ J G, A4 H G [.AW b2 (.cells 2 [iv 0, iv 0]), .AW b1 (.cells 5 (AY l1 0 l2 m3 l4 m5 aP0))] ∧ S' = ⟨CM [(1, .ptr b1 0),(2, .ptr b2 0),(93, iv (aP0.A3.length : Int)),(94, iv s)] J, G⟩) hk ⟨_, _, hO, sh⟩ ?_
 rintro x15 _ y1 ⟨J, G, hO, rfl⟩ hk hx1
 refine sr (AO (pg (AV (Ak hk ?_ ?_)))) <;> intro hk
 ·refine Ao (gn (AV (BO (sr (pM (.int _ _) ?_)))))
  refine pA (.int _ _) (pg (sr ?_))
  refine Ad BY hO 1 (.lit _ _ _) Df ?_
  refine Ae Im ?_
  refine pM (.int _ _) (pg (BO ?_))
  refine A9 (F := O6 aP0 x15) (fun s S' => ∃ J G, A4 H G [.AW b2 (.cells 2 [iv 0, iv 0]), .AW b1 (.cells 5 (AY l1 0 l2 m3 l4 m5 aP0))] ∧ S' = ⟨CM [(1, .ptr b1 0),(2, .ptr b2 0),(9, iv x15),(93, iv (aP0.A3.length : Int)),(94, iv x15),(99, iv (aP0.A3.length : Int)),(100, iv s)] J, G⟩) hk ⟨_, _, hO, sh⟩ ?_
  rintro x16 _ y2 ⟨J, G, hO, rfl⟩ hk hx2
  refine sr (AO (pg (AV (Ak hk ?_ ?_)))) <;> intro hk
  ·refine Ao (gn (AV (BO (sr (pM (.int _ _) ?_)))))
   refine pA (.int _ _) (pg (AV ?_))
   refine HY [1,3,5,7,9,11,13,15,17,19,21,23,25,27,29,31,32,34,36,38,40,42,44,47,49,50,53,55,56,59,60,62,64,67,69,71,73,75,77,79,81,83,85,87,89,90,92,94] [_,_,_,_,_,_,_,_,_,_,_,_,_,_,_,_,_,_,_,_,_,_,_,_,_,_,_,_,_,_,_,_,_,_,_,_,_,_,_,_,_,_,_,_,_,_,_,_] ?_
   refine Ad Er hO 1 (.lit _ _ _) JX ?_
   refine pM (.int _ _) (bk hk fun c17 hc17 hk => ?_)
   refine pX hc17 JZ Gs ?_
   refine Bq (.lit _ _ _) (Cu (lm := m5) (off := 0) hc17 C5) ?_
   refine pM (.int _ _) (bk hk fun c18 hc18 hk => ?_)
   refine pX hc18 Cd Eu ?_
   refine Bq (.bool _) (Cu (lm := 0) (off := 0) hc18 Fu) ?_
   refine Ad Er hO 1 (.lit _ _ _) JX ?_
   refine pM (.int _ _) (bk hk fun c19 hc19 hk => ?_)
   refine pX hc19 JZ Gs ?_
   refine Bq (.lit _ _ _) (Cu (lm := m5) (off := 0) hc19 C5) ?_
   refine pM (.int _ _) (bk hk fun c20 hc20 hk => ?_)
   refine pX hc20 Cd Eu ?_
   refine Bq (.bool _) (Cu (lm := 0) (off := 0) hc20 Fu) ?_
   refine Zu Tryz.underlying4 ?_
   refine pM (.bool _) (bk hk fun t21 ht hk => ?_)
   refine AP (l1 := [_, _, _, _, _, _, _, _, _, _, _, _, _, _, _, _, _, _, _, _, _, _, _, _, _, _, _, _, _, _]) [121, 122, 123, 124, 125, 126, 127, 128, 129, 130, 131, 132, 133, 134, 135, 136, 137, 138, 139, 140, 141, 142, 143, 144, 145, 146, 147, 148, 149, 150] 150 (.bool t21) ?_ ?_
   ·refine bc (b := !(c18 == c20)) ?_ ?_ <;> intro hg
    ·replace hk := ct hg ht
     repeat refine Bg hg ?_
     refine Cp (Cp (Cp (Cp (Cp (Cp (Cp (Cp (Cp (Bg hg (Bg hg (Cp (Cp (Cp (Cp (Cp (Cp (Cp (Cp (Cp (Cp (Cp (Cp (Cp (Bg hg (Cm hg (.bool _) ?_)))))))))))))))))))))))))
     cases hk; exact pE ek
    replace hk := cf hg ht
    refine AA hg (pM (.int _ _) (AA hg ?_))
    refine pM (.int _ _) (AA hg ?_)
    refine AO (AA hg ?_)
    refine pM (.bool _) (bk hk fun t22 ht hk => ?_)
    refine AP (l1 := [_, _, _, _, _, _, _, _, _, _]) [125, 126, 127, 128, 129, 130, 131, 132, 133, 134] 134 (.bool t22) ?_ ?_
    ·refine bc (b := (x15 != x16)) (fun hg2 => ?_) (fun hg2 => ?_)
     ·replace hk := ct hg2 ht
      refine AA hg2 (pF Er (AA hg2 ?_))
      refine CT hO 1 (.lit _ _ _) JX (AA hg2 ?_)
      refine pM (.int _ _) (AA hg2 (bk hk fun c23 hc23 hk => ?_))
      refine pX hc23 JZ Gs (AA hg2 ?_)
      refine Bq (.lit _ _ _) (Cu (lm := m5) (off := 0) hc23 C5) (AA hg2 ?_)
      refine pM (.int _ _) (AA hg2 (bk hk fun c24 hc24 hk => ?_))
      refine pX hc24 Cd Eu (AA hg2 ?_)
      refine Bq (.bool _) (Cu (lm := 0) (off := 0) hc24 Fu) (AA hg2 ?_)
      refine pU (AA hg ?_)
      refine Cm hg2 (.bool _) ?_
      cases hk; exact pE ek
     replace hk := cf hg2 ht
     repeat refine Bg hg2 ?_
     refine AA hg (Cl hg2 (.bool _) ?_)
     cases hk; exact pE ek
    intro J
    refine AA hg (pM (.bool _) (bk hk fun t25 ht hk => ?_))
    refine AP (l1 := [_, _, _, _, _, _, _, _, _, _, _, _, _, _]) [136, 137, 138, 139, 140, 141, 142, 143, 144, 145, 146, 147, 148, 149] 149 (.bool t25) ?_ ?_
    ·refine bc (b := t22) (fun hg2 => ?_) (fun hg2 => ?_)
     ·replace hk := ct hg2 ht
      refine AA hg2 (pF BY (AA hg2 ?_))
      refine CT hO 1 (.lit _ _ _) Df (AA hg2 ?_)
      refine pM (.int _ _) (AA hg2 (bk hk fun c26 hc26 hk => ?_))
      refine pX hc26 EY Ay (AA hg2 ?_)
      refine pF BS (AA hg2 ?_)
      refine Bq (.lit _ _ _) (Cu (lm := m3) (off := 0) hc26 BN) (AA hg2 ?_)
      refine pF BY (AA hg2 ?_)
      refine CT hO 1 (.lit _ _ _) Df (AA hg2 ?_)
      refine pM (.int _ _) (AA hg2 (bk hk fun c27 hc27 hk => ?_))
      refine pX hc27 EY Ay (AA hg2 ?_)
      refine pF BS (AA hg2 ?_)
      refine Bq (.lit _ _ _) (Cu (lm := m3) (off := 0) hc27 BN) (AA hg2 (bk hk fun v28 hv28 hk => ?_))
      refine AM (fun _ => OM hv28) (AA hg ?_)
      refine Cm hg2 (.bool _) ?_
      cases hk; exact pE ek
     replace hk := cf hg2 ht
     repeat refine Bg hg2 ?_
     refine AA hg (Cl hg2 (.bool _) ?_)
     cases hk; exact pE ek
    intro J
    refine Cl hg (.bool _) ?_
    cases hk; exact pE ek
   intro J
   refine pg (Ak hk ?_ ?_) <;> intro hk
   ·refine sr (pM (.int _ _) ?_)
    refine NB [_, _] GG HW ?_
    refine Cg (xs := [_, _]) hO 0 DN rfl (fun G hO => pg (Au (br (gr (gr (br (br (gr (gr (br (gr (have hk := lx hx2 hk; have hk := lx hx1 hk; ?_))))))))))))
    replace hk := av hk; subst hk; exact He hO (EN (n := 2) (DY (C8 _ _) (DY (C8 _ _) (IG)))) (FB hO 0 [_, _] I9 DN DQ)
   refine Ao (bn (gn (Bs (AO ?_))))
   refine pM (.int _ _) (pg ?_)
   cases hk; exact ⟨_, rfl, _, _, hO, sh⟩
  refine D5 (ge (ge (be (bn (gn (have hk := lx hx2 hk; Bs (AO ?_)))))))
  refine pM (.int _ _) (pg ?_)
  cases hk; exact ⟨_, rfl, _, _, hO, sh⟩
 refine D5 (ge (ge (be (gn (have hk := lx hx1 hk; sr (NB [_, _] GG HW ?_))))))
 refine Cg (xs := [_, _]) hO 0 DN rfl (fun G hO => pg (Au ?_))
 replace hk := av hk; subst hk; exact He hO (EN (n := 2) (DY (C8 _ _) (DY (C8 _ _) (IG)))) (FB hO 0 [_, _] I9 DN DQ)
def nK (aP0 : AT) : Option Bool :=
 ((Yl aP0).bind fun v2 => some ((v2.Code == 0) && ((v2.At == 0) && true)))
theorem e6 (hk : nK aP0 = some r) (hlk : 0 < lk.length := by simp) : Am ai hh 79 [.agg (AY l1 0 l2 m3 l4 m5 aP0)] H lk = some (.bool r, H) := by
 refine AF Tryz.func79 rfl Tryz.ntmps79 Tryz.results79 rfl rfl fun hO => ?_
 unfold nK at hk
 refine sr (BR (cs := [_, _, _, _, _]) hO C0 (fun b1 G hO => ?_))
 refine pA (.bool _) (pg (sr ?_))
 refine D9 hO 0 [_, _, _, _, _] EP C0 (bk hk fun v2 hv2 hk => ?_)
 refine AM (fun _ => Ym hv2) ?_
 refine NB [_, _] GG HW ?_
 refine s5 pG (lD (lE _ _ _) (lD (lE _ _ _) (rfl))) ?_
 refine pA (.bool _) (pg (Au ?_))
 cases hk; exact AQ hO
def OH (aS0 : List Bool) (aV1 : Bool) : Int → Option (Int ⊕ Int) := fun s =>
 (bif decide (s < (aS0.length : Int)) then ((AH aS0 s).bind fun c2 => (bif (aV1 == c2) then ((some s).map Sum.inr) else some (.inl (BE (s + 1))))) else ((some (-1:Int)).map Sum.inr))
def Z4 (aS0 : List Bool) (aV1 : Bool) : Option Int :=
 (AG (OH aS0 aV1) ((0:Int)))
theorem Z5 (hk : Z4 aS0 aV1 = some r) (hlk : 0 < lk.length := by simp) : Am ai hh 131 [AK l1 0 aS0, .bool aV1] H lk = some (iv r, H) := by
 refine AF Tryz.func131 rfl Tryz.ntmps131 Tryz.results131 rfl rfl fun hO => ?_
 unfold Z4 at hk
 refine sr (pA (.int _ _) (pg (AV (sr ?_))))
 refine pM (.lit _ _ _) ?_
 refine Ae Hj ?_
 refine pM (.int _ _) (pg (BO ?_))
 refine A9 (F := OH aS0 aV1) (fun s S' => ∃ J G, A4 H G [] ∧ S' = ⟨CM [(0, AK l1 0 aS0),(1, .bool aV1),(7, iv (aS0.length : Int)),(8, iv s)] J, G⟩) hk ⟨_, _, hO, sh⟩ ?_
 rintro x1 _ y1 ⟨J, G, hO, rfl⟩ hk hx1
 refine sr (AO (pg (AV (Ak hk ?_ ?_)))) <;> intro hk
 ·refine Ao (gn (AV (BO (sr (pM (.int _ _) ?_)))))
  refine pA (.int _ _) (pg (sr ?_))
  refine pM (.bool _) ?_
  refine pM (.lit _ _ _) ?_
  refine pM (.int _ _) (bk hk fun c2 hc2 hk => ?_)
  refine pX hc2 Cd Eu ?_
  refine Bq (.bool _) (Cu (lm := 0) (off := 0) hc2 Fu) ?_
  refine rZ Tryz.underlying4 (pg (Ak hk ?_ ?_)) <;> intro hk
  ·refine sr (pM (.int _ _) ?_)
   refine pA (.int _ _) (pg (Au (br (gr (gr (br (gr (have hk := lx hx1 hk; ?_))))))))
   cases hk; exact AQ hO
  refine Ao (bn (gn (Bs (AO ?_))))
  refine pM (.int _ _) (pg ?_)
  cases hk; exact ⟨_, rfl, _, _, hO, sh⟩
 refine D5 (ge (ge (be (gn (have hk := lx hx1 hk; sr (pA (.int _ _) (pg (Au ?_))))))))
 cases hk; exact AQ hO
def XY (aS0 : List Bool) (aV1 : Bool) : Option Bool :=
 ((Z4 aS0 aV1).bind fun v1 => some (decide (v1 ≥ 0)))
theorem Tg (hk : XY aS0 aV1 = some r) (hlk : 0 < lk.length := by simp) : Am ai hh 123 [AK l1 0 aS0, .bool aV1] H lk = some (.bool r, H) := by
 refine AF Tryz.func123 rfl Tryz.ntmps123 Tryz.results123 rfl rfl fun hO => ?_
 unfold XY at hk
 refine sr (pA (.bool _) (pg (sr ?_)))
 refine pM (.lit _ _ _) ?_
 refine pM (.bool _) (bk hk fun v1 hv1 hk => ?_)
 refine AM (fun _ => Z5 hv1) ?_
 refine AO ?_
 refine pA (.bool _) (pg (Au ?_))
 cases hk; exact AQ hO
def O7 (aH1 : AD) : Option Bool :=
 some (!((aH1.State == 0) && aH1.Shown) && !(((aH1.State == 2) || (aH1.State == 3)) && !aH1.Shown))
def Lb (aP0 : AT) (aH1 : AD) : Option Bool :=
 (bif (aH1.State == 3) then ((RD aH1.Timer (1:Int) aP0.DX).bind fun v7 => (bif !v7 then some false else (O7 aH1))) else (bif (aH1.Timer != 0) then some false else (O7 aH1)))
def Yn (aP0 : AT) (aH1 : AD) (aW2 : CA) : Option Bool :=
 ((RD aH1.State (0:Int) (4:Int)).bind fun v4 => ((bif (!v4 || ((aH1.Ac.length : Int) != (aW2.A0.length : Int))) then some true else ((RD aH1.Aj (0:Int) (BE ((aW2.A0.length : Int) - 1))).bind fun v6 => some (!v6))).bind fun t5 => (bif t5 then some false else (bif (aH1.State != 4) then ((bif (aH1.Aj != 0) then some true else ((XY aH1.Ac true).bind fun v9 => some v9)).bind fun t8 => (bif t8 then some false else (Lb aP0 aH1))) else ((TJ aH1.Ac (0:Int) aH1.Aj).bind fun y10 => ((XY y10 false).bind fun v11 => (bif v11 then some false else (Lb aP0 aH1))))))))
theorem Yo (hk : Yn aP0 aH1 aW2 = some r) (hlk : 0 < lk.length := by simp) : Am ai hh 108 [.agg (AY l1 0 l2 m3 l4 m5 aP0), .agg [iv aH1.State, iv aH1.Aj, AK l6 0 aH1.Ac, .bool aH1.Shown, iv aH1.Timer], .agg (DG l7 0 l8 0 l9 0 l10 0 l11 0 aW2)] H lk = some (.bool r, H) := by
 refine AF Tryz.func108 rfl Tryz.ntmps108 Tryz.results108 rfl rfl fun hO => ?_
 unfold Yn at hk
 refine sr (BR (cs := [_, _, _, _, _]) hO C0 (fun b1 G hO => ?_))
 refine BR (cs := [_, _, _, _, _]) hO Av (fun b2 G hO => ?_)
 refine BR (cs := [_, _, _, _, _]) hO Ay (fun b3 G hO => ?_)
 refine pA (.bool _) (pg (sr ?_))
 refine Ad BS hO 0 (.lit _ _ _) BN ?_
 refine Ae DA ?_
 refine pA (.int _ _) (pg (AV (sr ?_)))
 refine Ad Az hO 1 (.int _ _) B3 (bk hk fun v4 hv4 hk => ?_)
 refine AM (fun _ => Dk hv4) ?_
 refine pU ?_
 refine pM (.bool _) ?_
 refine AP (l1 := [_, _, _, _, _, _]) [16, 17, 18, 19, 20, 21] 21 (.bool (!v4 || ((aH1.Ac.length : Int) != (aW2.A0.length : Int)))) ?_ ?_
 ·refine bc (b := !v4) ?_ ?_ <;> intro hg
  ·repeat refine Bg hg ?_
   refine Cm hg (.bool _) ?_
   exact pE (ek (by rw [hg]; rfl))
  refine AA hg (pF CC (AA hg ?_))
  refine CT hO 1 (.lit _ _ _) C5 (AA hg ?_)
  refine Ae Hj (AA hg ?_)
  refine pM (.int _ _) (AA hg ?_)
  refine AO ?_
  refine Cl hg (.bool _) ?_
  exact pE (ek (by rw [hg]; rfl))
 intro J
 refine pM (.bool _) (bk hk fun t5 ht hk => ?_)
 refine AP (l1 := [_, _, _, _, _, _, _]) [23, 24, 25, 26, 27, 28, 29] 29 (.bool t5) ?_ ?_
 ·refine bc (b := (!v4 || ((aH1.Ac.length : Int) != (aW2.A0.length : Int)))) ?_ ?_ <;> intro hg
  ·replace hk := ct hg ht
   repeat refine Bg hg ?_
   refine Cm hg (.bool _) ?_
   cases hk; exact pE ek
  replace hk := cf hg ht
  refine AA hg (pF C7 (AA hg ?_))
  refine CT hO 1 (.int _ _) B3 (AA hg ?_)
  refine pM (.int _ _) (AA hg ?_)
  refine AO (AA hg (bk hk fun v6 hv6 hk => ?_))
  refine AM (fun _ => Dk hv6) (AA hg ?_)
  refine pU ?_
  refine Cl hg (.bool _) ?_
  cases hk; exact pE ek
 intro J
 refine pg (Ak hk ?_ ?_) <;> intro hk
 ·refine sr (pA (.bool _) (pg (Au (gr ?_))))
  cases hk; exact AQ hO
 refine Ao (gn (By (fun S' => ∃  (J : Nat → V) (G : A6), Lb aP0 aH1 = some r ∧ A4 H G [.AW b2 (.cells 5 [iv aH1.State, iv aH1.Aj, AK l6 0 aH1.Ac, .bool aH1.Shown, iv aH1.Timer]), .AW b1 (.cells 5 (AY l1 0 l2 m3 l4 m5 aP0))] ∧ S' = ⟨CM [(3, .ptr b1 0),(4, .ptr b2 0)] J, G⟩) ?_ ?_))
 ·refine sr (Ad Az hO 1 (.int _ _) B3 ?_)
  refine AO (pg (Ak hk ?_ ?_)) <;> intro hk
  ·refine sr (Ad C7 hO 1 (.int _ _) B3 ?_)
   refine AO ?_
   refine pM (.bool _) (bk hk fun t8 ht hk => ?_)
   refine AP (l1 := [_, _, _, _]) [37, 38, 39, 40] 40 (.bool t8) ?_ ?_
   ·refine bc (b := (aH1.Aj != 0)) ?_ ?_ <;> intro hg
    ·replace hk := ct hg ht
     refine Bg hg (Bg hg (Bg hg (Cm hg (.bool _) ?_)))
     cases hk; exact pE ek
    replace hk := cf hg ht
    refine AA hg (pF CC (AA hg ?_))
    refine CT hO 1 (.lit _ _ _) C5 (AA hg (bk hk fun v9 hv9 hk => ?_))
    refine AM (fun _ => Tg hv9) ?_
    refine Cl hg (.bool _) ?_
    cases hk; exact pE ek
   intro J
   refine pg (Ak hk ?_ ?_) <;> intro hk
   ·refine sr (pA (.bool _) (pg (Au (gr ?_))))
    cases hk; exact AQ hO
   exact Ao (gn (⟨_, _, hk, (pk hO [1, 2]), sh⟩))
  refine sr (Ad CC hO 1 (.lit _ _ _) C5 ?_)
  refine Ad C7 hO 1 (.int _ _) B3 (bk hk fun y10 hy10 hk => ?_)
  refine oI hy10 Cd Eu (bk hk fun v11 hv11 hk => ?_)
  refine AM (fun _ => Tg hv11) (pg (Ak hk ?_ ?_)) <;> intro hk
  ·refine sr (pA (.bool _) (pg (Au (gr ?_))))
   cases hk; exact AQ hO
  exact Ao (gn (⟨_, _, hk, (pk hO [1, 2]), sh⟩))
 rintro _ ⟨J, G, hk, hO, rfl⟩
 refine By (fun S' => ∃  (J : Nat → V) (G : A6), O7 aH1 = some r ∧ A4 H G [.AW b2 (.cells 5 [iv aH1.State, iv aH1.Aj, AK l6 0 aH1.Ac, .bool aH1.Shown, iv aH1.Timer])] ∧ S' = ⟨CM [(4, .ptr b2 0)] J, G⟩) ?_ ?_
 ·refine sr (Ad Az hO 0 (.int _ _) B3 ?_)
  refine AO (pg (Ak hk ?_ ?_)) <;> intro hk
  ·refine sr (Ad Ce hO 0 (.int _ _) B3 ?_)
   refine Ad JL hO 1 (.int _ _) B3 (bk hk fun v7 hv7 hk => ?_)
   refine AM (fun _ => Dk hv7) ?_
   refine pU (pg (Ak hk ?_ ?_)) <;> intro hk
   ·refine sr (pA (.bool _) (pg (Au (gr ?_))))
    cases hk; exact AQ hO
   exact Ao (gn (⟨_, _, hk, (pk hO [0]), sh⟩))
  refine sr (Ad Ce hO 0 (.int _ _) B3 ?_)
  refine AO (pg (Ak hk ?_ ?_)) <;> intro hk
  ·refine sr (pA (.bool _) (pg (Au (gr ?_))))
   cases hk; exact AQ hO
  exact Ao (gn (⟨_, _, hk, (pk hO [0]), sh⟩))
 rintro _ ⟨J, G, hk, hO, rfl⟩
 refine sr (Ad Az hO 0 (.int _ _) B3 ?_)
 refine AO ?_
 refine pM (.bool _) ?_
 refine AP (l1 := [_, _, _]) [63, 64, 65] 65 (.bool ((aH1.State == 0) && aH1.Shown)) ?_ ?_
 ·refine bc (b := (aH1.State == 0)) ?_ ?_ <;> intro hg
  ·refine AA hg (pF DW (AA hg ?_))
   refine CT hO 0 (.bool _) Fu ?_
   refine Cm hg (.bool _) ?_
   exact pE (ek (by rw [hg]; rfl))
  refine Bg hg (Bg hg (Cl hg (.bool _) ?_))
  exact pE (ek (by rw [hg]; rfl))
 intro J
 refine pU ?_
 refine pM (.bool _) ?_
 refine AP (l1 := [_, _, _, _, _, _, _, _, _, _, _, _, _, _, _]) [68, 69, 70, 71, 72, 73, 74, 75, 76, 77, 78, 79, 80, 81, 82] 82 (.bool (!((aH1.State == 0) && aH1.Shown) && !(((aH1.State == 2) || (aH1.State == 3)) && !aH1.Shown))) ?_ ?_
 ·refine bc (b := !((aH1.State == 0) && aH1.Shown)) ?_ ?_ <;> intro hg
  ·refine AA hg (pF Az (AA hg ?_))
   refine CT hO 0 (.int _ _) B3 (AA hg ?_)
   refine AO (AA hg ?_)
   refine pM (.bool _) ?_
   refine AP (l1 := [_, _, _, _]) [72, 73, 74, 75] 75 (.bool ((aH1.State == 2) || (aH1.State == 3))) ?_ ?_
   ·refine bc (b := (aH1.State == 2)) (fun hg2 => ?_) (fun hg2 => ?_)
    ·refine Bg hg2 (Bg hg2 (Bg hg2 (AA hg (Cm hg2 (.bool _) ?_))))
     exact pE (ek (by rw [hg2]; rfl))
    refine AA hg2 (pF Az (AA hg2 ?_))
    refine CT hO 0 (.int _ _) B3 (AA hg2 ?_)
    refine AO (AA hg ?_)
    refine Cl hg2 (.bool _) ?_
    exact pE (ek (by rw [hg2]; rfl))
   intro J
   refine AA hg (pM (.bool _) ?_)
   refine AP (l1 := [_, _, _, _]) [77, 78, 79, 80] 80 (.bool (((aH1.State == 2) || (aH1.State == 3)) && !aH1.Shown)) ?_ ?_
   ·refine bc (b := ((aH1.State == 2) || (aH1.State == 3))) (fun hg2 => ?_) (fun hg2 => ?_)
    ·refine AA hg2 (pF DW (AA hg2 ?_))
     refine CT hO 0 (.bool _) Fu (AA hg2 ?_)
     refine pU (AA hg ?_)
     refine Cm hg2 (.bool _) ?_
     exact pE (ek (by rw [hg2]; rfl))
    refine Bg hg2 (Bg hg2 (Bg hg2 (AA hg (Cl hg2 (.bool _) ?_))))
    exact pE (ek (by rw [hg2]; rfl))
   intro J
   refine AA hg (pU ?_)
   refine Cm hg (.bool _) ?_
   exact pE (ek (by rw [hg]; rfl))
  repeat refine Bg hg ?_
  refine Cp (Cp (Cp (Bg hg (Bg hg (Cp (Cp (Cp (Bg hg (Bg hg (Cl hg (.bool _) ?_))))))))))
  exact pE (ek (by rw [hg]; rfl))
 intro J
 refine pA (.bool _) (pg (Au ?_))
 cases hk; exact AQ hO
def Pa (aF0 : Frame) (z3 : List Bool) (z5 : List AZ) : Int → Option (Int ⊕ Frame) := fun s =>
 (bif decide (s < (aF0.A3.length : Int)) then ((AH aF0.A3 s).bind fun c14 => ((DP 1 ([] : List Bool) c14.Ac).bind fun z16 => ((AH aF0.A3 s).bind fun c18 => some (.inl (BE (s + 1)))))) else ((some ({ Ok := aF0.Ok, B1 := z3, A1 := z5, A3 := aF0.A3 } : Frame)).map Sum.inr))
def gN (aF0 : Frame) : Option Frame :=
 ((DP 1 ([] : List Bool) aF0.B1).bind fun z3 => ((DP 16 ([] : List AZ) aF0.A1).bind fun z5 => ((DP 56 ([] : List AD) aF0.A3).bind fun z7 => (AG (Pa aF0 z3 z5) ((0:Int))))))
theorem WV (hk : gN aF0 = some r) (hlk : 0 < lk.length := by simp) (hvm4 : m4 ≤ lk.length := by simp only [an, cn]; omega) : ∃ v H1, Am ai hh 95 [.agg (Ah l1 0 l2 0 l3 m4 aF0)] H lk = some (v, H1) ∧ GH H r v H1 := by
 refine B0 Tryz.func95 rfl Tryz.ntmps95 Tryz.results95 rfl rfl ?_
 have hO := A4.nil H
 unfold gN at hk
 refine sr (BR (cs := [_, _, _, _]) hO BZ (fun b1 G hO => C9 hO BZ Qx (fun b2 G hO => pg (AV ?_))))
 refine HY [1,3,7,9,13,15,5,18,11,16,20,22,24,26,28] [_,_,_,_,_,_,_,_,_,_,_,_,_,_,_] ?_
 refine Ad CP hO 1 (.lit _ _ _) C5 ?_
 refine Ad Cv hO 1 (.lit _ _ _) H9 ?_
 refine Ad BT hO 1 (.lit _ _ _) DZ (bk hk fun z3 hz3 hk => ?_)
 refine T9 (xs := aF0.B1) hO hz3 Tryz.func115 gZ Cd Eu kM gV (fun u4 F4 G hO => ?_)
 refine pF CP (bk hk fun z5 hz5 hk => ?_)
 refine T9 (xs := aF0.A1) hO hz5 Tryz.func116 oY Gm Dq kN UQ (fun u6 F6 G hO => bk hk fun z7 hz7 hk => ?_)
 refine eY (xs := aF0.A3) hO hz7 Tryz.func117 oZ Da Av aQ G8 (fun u8 F8 G hO => ?_)
 have hc9 := AN hO (j := 2) rfl
 refine Cg (xs := [_]) hO 4 Gs rfl (fun G hO => ?_) (h3 := hc9.1) (h6 := Bw hc9.2)
 refine pF Cv ?_
 have hc10 := AN hO (j := 1) rfl
 refine Cg (xs := [_]) hO 4 kV rfl (fun G hO => ?_) (h3 := hc10.1) (h6 := Bw hc10.2)
 refine pF BT ?_
 have hc11 := Xo hO (j := 0) rfl
 refine Cg (xs := [_]) hO 4 kW rfl (fun G hO => ?_) (h3 := hc11.1) (h6 := Bw hc11.2)
 refine pg (AV (sr (Ad BT hO 4 u8 DZ ?_)))
 refine oD hO 0 Hk ?_
 refine pM (.int _ _) (pg (BO ?_))
 refine A9 (F := Pa aF0 z3 z5) (fun s S' => ∃ F12 J G, A4 H G [WA m4 F12 aF0.A3 u8 s.toNat, AI [] F6 z5 [u6], AI [] F4 z3 [u4], .AW b2 (.cells 4 [.bool false, (.tl 0 []), (.tl 0 []), (.tl 0 [])]), .AW b1 (.cells 4 [.bool aF0.Ok, u4, u6, u8])] ∧ S' = ⟨CM [(1, .ptr b1 0),(2, .ptr b2 0),(18, iv (aF0.A3.length : Int)),(19, iv s)] J, G⟩) hk ⟨F8, _, _, hO, sh⟩ ?_
 rintro x13 _ y1 ⟨F12, J, G, hO, rfl⟩ hk hx1
 refine sr (AO (pg (AV ?_)))
 refine rR (b := decide (x13 < (aF0.A3.length : Int))) (fun hb => ?_) (fun hb => ?_)
 ·replace hk := ct hb hk
  refine Ao (gn (AV (BO (sr (pM (.int _ _) ?_)))))
  refine pA (.int _ _) (pg ?_)
  refine HY [1,3,5,7,9,11,13,15,17,19,20,22,24] [_,_,_,_,_,_,_,_,_,_,_,_,_] ?_
  refine Ad BT hO 4 u8 DZ ?_
  refine pM (.int _ _) ?_
  refine Ad BT hO 4 u8 DZ ?_
  refine pM (.int _ _) (bk hk fun c14 hc14 hk => ?_)
  refine rT hO 0 hc14 Da Av (fun b15 hb15 => ?_)
  refine pF CC ?_
  refine s6 (off := 2) hO 0 hb15 hc14 C5 ?_ (w := AK m4 0 c14.Ac)
  refine bk hk fun z16 hz16 hk => T9 (xs := c14.Ac) hO hz16 Tryz.func115 gZ Cd Eu kM gV (fun u17 F17 G hO => bk hk fun c18 hc18 hk => ?_)
  refine rT hO 1 hc18 Da Av (fun b19 hb19 => ?_)
  refine pF CC ?_
  have hqc : z16 = c18.Ac := (YQ hz16).trans (congrArg AD.Ac (av (hc14.symm.trans hc18)))
  rw [hqc] at hO
  replace hO : A4 H G (AI [] F17 c18.Ac [u17] :: [WA m4 F12 aF0.A3 u8 x13.toNat, AI [] F6 z5 [u6], AI [] F4 z3 [u4], .AW b2 (.cells 4 [.bool false, (.tl 0 []), (.tl 0 []), (.tl 0 [])]), .AW b1 (.cells 4 [.bool aF0.Ok, u4, u6, u8])]) := hO
  refine s9 hO 0 hb19 hc18 Gs rfl (fun G F h => TrE.Nm (c18.State : Int) (TrE.Nm (c18.Aj : Int) (TrE.U9 ((c18.Shown, c18.Timer) : Bool × Int) h))) rfl (fun G hO => pE (bn (gn (Bs ?_))))
  refine AO ?_
  refine pM (.int _ _) (pg ?_)
  replace hO := hO.o0 (j := 0) rfl (bH hz7 hc18)
  cases hk; exact ⟨_, rfl, (F12 ++ F17), _, _, hO, sh⟩
 replace hk := cf hb hk
 refine D5 (ge (ge (be (gn (have hk := lx hx1 hk; sr ?_)))))
 replace hO := hO.eN (j := 0) rfl (kA hb)
 refine D9 hO 4 [_, _, _, _] DT BZ ?_
 have hc20 := AN hO (j := 2) rfl
 have hc21 := AN hO (j := 1) rfl
 have hc22 := AN hO (j := 0) rfl
 refine Cg (xs := [_, _, _, _]) hO 3 BZ rfl (fun G hO => ?_) (h6 := (Aa rfl (Aa hc20.2 (Aa hc21.2 (Aa hc22.2 DL)))))
 refine pg (Au ?_)
 replace hk := av hk; subst hk; exact FG hO (Es (As (c1 := [_]) (FD aF0.Ok) (As (c1 := [_]) (BW 2) (As (c1 := [_]) (BW 1) (BW 0))))) (FB hO 3 [_, _, _, _] DT BZ DQ)
def ZG (aW0 : CA) : Option (List Af) :=
 ((DP 16 ([] : List Af) aW0.AJ).bind fun z2 => ((DP 16 z2 aW0.A7).bind fun z4 => some z4))
theorem Se (hk : ZG aW0 = some r) (hlk : 0 < lk.length := by simp) : Am ai hh 92 [.agg (DG l1 0 l2 0 l3 0 l4 0 l5 0 aW0)] H lk = some (AK 0 0 r, H) := by
 refine AF Tryz.func92 rfl Tryz.ntmps92 Tryz.results92 rfl rfl fun hO => ?_
 unfold ZG at hk
 refine sr (BR (cs := [_, _, _, _, _]) hO Ay (fun b1 G hO => ?_))
 refine pA (.tl 0 []) (pg (AV ?_))
 refine HY [1,3,7,9,5,10,12] [_,_,_,_,_,_,_] ?_
 refine Ad ER hO 0 (.lit _ _ _) Db ?_
 refine Ad Ed hO 0 (.lit _ _ _) Db (bk hk fun z2 hz2 hk => ?_)
 refine Zx (xs := aW0.AJ) hO hz2 Tryz.func114 gY Dy BA UR Fo (fun o2 G hno2 hO => bk hk fun z4 hz4 hk => ?_)
 refine Uf (xs := z2) hO 0 hz4 (IS _ aW0.A7) Dy BA UR Fo Dy rfl (fun o4 G hno4 hO => ?_)
 refine pA o4 (pg (Au ?_))
 replace hk := av hk; subst hk; exact He hO (HO (xs := z4) hlk 0) (Kc o4 DQ)
def cI (aS0 : Int) (aA1 : Frame) : Option Bool :=
 ((AH aA1.B1 aS0).bind fun c1 => some c1)
theorem Yr (hk : cI aS0 aA1 = some r) (hq0 : H[q0]? = some (.cells 4 (Ah l1 0 l2 0 l3 m4 aA1))) (hlk : 0 < lk.length := by simp) : Am ai hh 118 [iv aS0, .ptr q0 0] H lk = some (.bool r, H) := by
 refine AF Tryz.func118 rfl Tryz.ntmps118 Tryz.results118 rfl rfl fun hO => ?_
 unfold cI at hk
 refine sr (pA (.bool _) (pg (sr ?_)))
 refine pF CP ?_
 refine qA (.lit _ _ _) hO hq0 C5 ?_
 refine pM (.int _ _) (bk hk fun c1 hc1 hk => ?_)
 refine pX hc1 Cd Eu ?_
 refine Bq (.bool _) (Cu (lm := 0) (off := 0) hc1 Fu) ?_
 refine pA (.bool _) (pg (Au ?_))
 cases hk; exact AQ hO
def Ht (aS0 : List Int) (aC1_0 : Frame) : Int → Option (Int ⊕ Int) := fun s =>
 (bif decide (s < (aS0.length : Int)) then ((AH aS0 s).bind fun c2 => ((cI c2 aC1_0).bind fun v3 => (bif v3 then ((some s).map Sum.inr) else some (.inl (BE (s + 1)))))) else ((some (-1:Int)).map Sum.inr))
def Jm (aS0 : List Int) (aC1_0 : Frame) : Option Int :=
 (AG (Ht aS0 aC1_0) ((0:Int)))
theorem SA (hk : Jm aS0 aC1_0 = some r) (hq0 : H[q0]? = some (.cells 4 (Ah l2 0 l3 0 l4 m5 aC1_0))) (hlk : 0 < lk.length := by simp) : Am ai hh 127 [AK l1 0 aS0, .fn 118 [.ptr q0 0]] H lk = some (iv r, H) := by
 refine AF Tryz.func127 rfl Tryz.ntmps127 Tryz.results127 rfl rfl fun hO => ?_
 unfold Jm at hk
 refine sr (pA (.int _ _) (pg (AV (sr ?_))))
 refine pM (.lit _ _ _) ?_
 refine Ae DA ?_
 refine pM (.int _ _) (pg (BO ?_))
 refine A9 (F := Ht aS0 aC1_0) (fun s S' => ∃ J G, A4 H G [] ∧ S' = ⟨CM [(0, AK l1 0 aS0),(1, .fn 118 [.ptr q0 0]),(7, iv (aS0.length : Int)),(8, iv s)] J, G⟩) hk ⟨_, _, hO, sh⟩ ?_
 rintro x1 _ y1 ⟨J, G, hO, rfl⟩ hk hx1
 refine sr (AO (pg (AV (Ak hk ?_ ?_)))) <;> intro hk
 ·refine Ao (gn (AV (BO (sr (pM (.int _ _) ?_)))))
  refine pA (.int _ _) (pg (sr ?_))
  refine pM (.fn _ _) ?_
  refine pM (.lit _ _ _) ?_
  refine pM (.int _ _) (bk hk fun c2 hc2 hk => ?_)
  refine pX hc2 CG DB ?_
  refine Bq (.int _ _) (Cu (lm := 0) (off := 0) hc2 B3) (bk hk fun v3 hv3 hk => ?_)
  refine AM (fun _ => Yr hv3 (I5 hO hq0)) (pg (Ak hk ?_ ?_)) <;> intro hk
  ·refine sr (pM (.int _ _) ?_)
   refine pA (.int _ _) (pg (Au (br (gr (gr (br (gr (have hk := lx hx1 hk; ?_))))))))
   cases hk; exact AQ hO
  refine Ao (bn (gn (Bs (AO ?_))))
  refine pM (.int _ _) (pg ?_)
  cases hk; exact ⟨_, rfl, _, _, hO, sh⟩
 refine D5 (ge (ge (be (gn (have hk := lx hx1 hk; sr (pA (.int _ _) (pg (Au ?_))))))))
 cases hk; exact AQ hO
def Lh (aS0 : List Int) (aC1_0 : Frame) : Option Bool :=
 ((Jm aS0 aC1_0).bind fun v1 => some (decide (v1 ≥ 0)))
theorem S8 (hk : Lh aS0 aC1_0 = some r) (hq0 : H[q0]? = some (.cells 4 (Ah l2 0 l3 0 l4 m5 aC1_0))) (hlk : 0 < lk.length := by simp) : Am ai hh 112 [AK l1 0 aS0, .fn 118 [.ptr q0 0]] H lk = some (.bool r, H) := by
 refine AF Tryz.func112 rfl Tryz.ntmps112 Tryz.results112 rfl rfl fun hO => ?_
 unfold Lh at hk
 refine sr (pA (.bool _) (pg (sr ?_)))
 refine pM (.lit _ _ _) ?_
 refine pM (.fn _ _) (bk hk fun v1 hv1 hk => ?_)
 refine AM (fun _ => SA hv1 (I5 hO hq0)) ?_
 refine AO ?_
 refine pA (.bool _) (pg (Au ?_))
 cases hk; exact AQ hO
def jT (aF0 : Frame) (aL1 : List Int) : Option Bool :=
 ((Lh aL1 aF0).bind fun v2 => some v2)
theorem Sg (hk : jT aF0 aL1 = some r) (hlk : 0 < lk.length := by simp) : Am ai hh 97 [.agg (Ah l1 0 l2 0 l3 m4 aF0), AK l5 0 aL1] H lk = some (.bool r, H) := by
 refine AF Tryz.func97 rfl Tryz.ntmps97 Tryz.results97 rfl rfl fun hO => ?_
 unfold jT at hk
 refine sr (BR (cs := [_, _, _, _]) hO BZ (fun b1 G hO => ?_))
 refine pA (.bool _) (pg (sr ?_))
 refine pM (.lit _ _ _) ?_
 refine q9 (vs := [_]) (bk hk fun v2 hv2 hk => ?_)
 refine AM (fun _ => S8 hv2 (hO.get (k := 0) rfl).1) ?_
 refine pA (.bool _) (pg (Au ?_))
 cases hk; exact AQ hO
def Li (aF1 : Frame) (c3 : CA) (v5 : (List Af)) : Int → Option (Int ⊕ Bool) := fun s =>
 (bif decide (s < (v5.length : Int)) then ((AH v5 s).bind fun c7 => ((AH aF1.A1 c7.Switch).bind fun c9 => (bif !((c9.Want == c7.CK) && ((c9.AJ == c7.CK) && true)) then ((some false).map Sum.inr) else some (.inl (BE (s + 1)))))) else (((jT aF1 c3.A0).bind fun v10 => ((bif !v10 then ((jT aF1 c3.Bl).bind fun v12 => some (!v12)) else some false).bind fun t11 => some t11)).map Sum.inr))
def Ys (aP0 : AT) (aF1 : Frame) (aWay2 : Int) : Option Bool :=
 ((AH aP0.A3 aWay2).bind fun c3 => ((ZG c3).bind fun v5 => (AG (Li aF1 c3 v5) ((0:Int)))))
theorem Yt (hk : Ys aP0 aF1 aWay2 = some r) (hlk : 0 < lk.length := by simp) : Am ai hh 119 [.agg (AY l1 0 l2 m3 l4 m5 aP0), .agg (Ah l6 0 l7 0 l8 m9 aF1), iv aWay2] H lk = some (.bool r, H) := by
 refine AF Tryz.func119 rfl Tryz.ntmps119 Tryz.results119 rfl rfl fun hO => ?_
 unfold Ys at hk
 refine sr (BR (cs := [_, _, _, _, _]) hO C0 (fun b1 G hO => ?_))
 refine BR (cs := [_, _, _, _]) hO BZ (fun b2 G hO => ?_)
 refine pA (.bool _) (pg (sr ?_))
 refine Ad BY hO 1 (.lit _ _ _) Df ?_
 refine pM (.int _ _) (bk hk fun c3 hc3 hk => ?_)
 refine pX hc3 EY Ay ?_
 refine Bq (.agg [_, _, _, _, _]) (GC (lm := m3) (off := 0) hc3 Ec Ay) (C9 hO Ay Il (fun b4 G hO => ?_))
 refine Cg (xs := [_, _, _, _, _]) hO 0 Ay rfl (fun G hO => pg (AV (sr ?_)))
 refine D9 hO 0 [_, _, _, _, _] Ec Ay (bk hk fun v5 hv5 hk => ?_)
 refine AM (fun _ => Se hv5) ?_
 refine Ae FF ?_
 refine pM (.int _ _) (pg (BO ?_))
 refine A9 (F := Li aF1 c3 v5) (fun s S' => ∃ J G, A4 H G [.AW b4 (.cells 5 (DG m3 0 m3 0 m3 0 m3 0 m3 0 c3)), .AW b2 (.cells 4 (Ah l6 0 l7 0 l8 m9 aF1))] ∧ S' = ⟨CM [(4, .ptr b2 0),(7, .ptr b4 0),(16, AK 0 0 v5),(17, iv (v5.length : Int)),(18, iv s)] J, G⟩) hk ⟨_, _, (pk hO [0, 1]), sh⟩ ?_
 rintro x6 _ y1 ⟨J, G, hO, rfl⟩ hk hx1
 refine sr (AO (pg (AV (Ak hk ?_ ?_)))) <;> intro hk
 ·refine Ao (gn (AV (BO (sr (bk hk fun c7 hc7 hk => pX hc7 Dy BA ?_)))))
  refine Bq (.agg [_, _]) (GC (lm := 0) (off := 0) hc7 G9 BA) (C9 hO BA Fo (fun b8 G hO => ?_))
  refine Cg (xs := [_, _]) hO 0 BA rfl (fun G hO => pg (AV ?_))
  refine HY [1,3,5,7,9,11,13,15,17,19,21,22] [_,_,_,_,_,_,_,_,_,_,_,_] ?_
  refine Ad Cv hO 2 (.lit _ _ _) H9 ?_
  refine Ad CU hO 0 (.int _ _) B3 (bk hk fun c9 hc9 hk => ?_)
  refine pX hc9 Gm Dq ?_
  refine Bq (.agg [_, _]) (GC (lm := 0) (off := 0) hc9 TM Dq) ?_
  refine Ad E7 hO 0 (.int _ _) B3 ?_
  refine Ad E7 hO 0 (.int _ _) B3 ?_
  refine NB [_, _] UQ rI ?_
  refine oC pH (lD (lE _ _ _) (lD (lE _ _ _) (rfl))) (pg (Ak hk ?_ ?_)) <;> intro hk
  ·refine sr (pA (.bool _) (pg (Au (br (gr (gr (br (gr (have hk := lx hx1 hk; ?_)))))))))
   cases hk; exact AQ hO
  refine Ao (bn (gn (Bs (AO ?_))))
  refine pM (.int _ _) (pg ?_)
  cases hk; exact ⟨_, rfl, _, _, (pk hO [1, 2]), sh⟩
 refine D5 (ge (ge (be (gn (have hk := lx hx1 hk; sr (D9 hO 1 [_, _, _, _] DT BZ ?_))))))
 refine Ad BS hO 0 (.lit _ _ _) BN (bk hk fun v10 hv10 hk => ?_)
 refine AM (fun _ => Sg hv10) ?_
 refine pU ?_
 refine pM (.bool _) (bk hk fun t11 ht hk => ?_)
 refine AP (l1 := [_, _, _, _, _, _]) [41, 42, 43, 44, 45, 46] 46 (.bool t11) ?_ ?_
 ·refine bc (b := !v10) ?_ ?_ <;> intro hg
  ·replace hk := ct hg ht
   refine AA hg (D9 hO 1 [_, _, _, _] DT BZ (AA hg ?_))
   refine pF E6 (AA hg ?_)
   refine CT hO 0 (.lit _ _ _) BN (AA hg (bk hk fun v12 hv12 hk => ?_))
   refine AM (fun _ => Sg hv12) (AA hg ?_)
   refine pU ?_
   refine Cm hg (.bool _) ?_
   cases hk; exact pE ek
  replace hk := cf hg ht
  repeat refine Bg hg ?_
  refine Cl hg (.bool _) ?_
  cases hk; exact pE ek
 intro J
 refine pA (.bool _) (pg (Au ?_))
 cases hk; exact AQ hO
def gO (aW0 : CA) : Option AD :=
 ((Gv 1 (aW0.A0.length : Int)).bind fun m3 => some ({ State := 0, Aj := 0, Ac := List.replicate m3 (false : Bool), Shown := false, Timer := 0 } : AD))
theorem Sh (hk : gO aW0 = some r) (hlk : 0 < lk.length := by simp) : ∃ v H1, Am ai hh 98 [.agg (DG l1 0 l2 0 l3 0 l4 0 l5 0 aW0)] H lk = some (v, H1) ∧ GH H r v H1 := by
 refine B0 Tryz.func98 rfl Tryz.ntmps98 Tryz.results98 rfl rfl ?_
 have hO := A4.nil H
 unfold gO at hk
 refine sr (BR (cs := [_, _, _, _, _]) hO Ay (fun b1 G hO => C9 hO Av G8 (fun b2 G hO => pg (sr ?_))))
 refine Ad BS hO 1 (.lit _ _ _) BN ?_
 refine Ae DA (bk hk fun m3 hm3 hk => ?_)
 refine lQ hO hm3 (false : Bool) Cd Eu kM gV (fun b4 G hO => ?_)
 refine NB [_, _, _, _, _] G8 hZ ?_
 refine Cg (xs := [_, _, _, _, _]) hO 1 Av rfl (fun G hO => pg (Au ?_))
 replace hk := av hk; subst hk; exact FG hO (X0 (As (c1 := [_]) (FJ 0) (As (c1 := [_]) (FJ 0) (As (c1 := [_]) (MN List.length_replicate hlk 0) (As (c1 := [_]) (FD false) (FJ 0)))))) (FB hO 1 [_, _, _, _, _] Gl Av DQ)
def HM (x4 : Int) (x5 : List AD) : Option (((List AD) × Int) ⊕ Frame) :=
 some (.inl (x5, BE (x4 + 1)))
def Ky (aF1 : Frame) (x4 : Int) (c9 : CA) : ((List AD) × AD) → Option (((List AD) × AD) ⊕ (((List AD) × Int) ⊕ Frame)) := fun s =>
 ((bif decide (s.2.Aj < (c9.A0.length : Int)) then ((AH s.2.Ac s.2.Aj).bind fun c46 => some c46) else some false).bind fun t44 => ((bif t44 then ((AH c9.A0 s.2.Aj).bind fun c49 => ((AH aF1.B1 c49).bind fun c50 => some (!c50))) else some false).bind fun t48 => ((bif t48 then ((bif (s.2.Aj == (BE ((c9.A0.length : Int) - 1))) then some true else ((AH s.2.Ac (BE (s.2.Aj + 1))).bind fun c55 => some c55)).bind fun t53 => some t53) else some false).bind fun t52 => (bif t52 then some (.inl (s.1.set x4.toNat ({ s.2 with Aj := BE (s.2.Aj + 1) }), ({ s.2 with Aj := BE (s.2.Aj + 1) } : AD))) else ((bif (s.2.Aj == (c9.A0.length : Int)) then ((gO c9).bind fun v58 => (HM x4 (s.1.set x4.toNat v58))) else (HM x4 s.1)).map Sum.inr)))))
def Mr (aF1 : Frame) (x4 : Int) (c9 : CA) : ((List AD) × AD × Int) → Option (((List AD) × AD × Int) ⊕ (((List AD) × Int) ⊕ Frame)) := fun s =>
 (bif decide (s.2.2 < (c9.A0.length : Int)) then ((AH c9.A0 s.2.2).bind fun c29 => ((AH s.2.1.Ac s.2.2).bind fun c32 => ((bif c32 then some true else ((AH aF1.B1 c29).bind fun c35 => some c35)).bind fun t34 => ((AH s.2.1.Ac s.2.2).bind fun c37 => some (.inl (s.1.set x4.toNat ({ s.2.1 with Ac := s.2.1.Ac.set s.2.2.toNat t34 }), ({ s.2.1 with Ac := s.2.1.Ac.set s.2.2.toNat t34 } : AD), BE (s.2.2 + 1))))))) else ((AG (Ky aF1 x4 c9) (s.1, s.2.1)).map Sum.inr))
def Pc (aP0 : AT) (aF1 : Frame) (x4 : Int) (c9 : CA) (x11 : List AD) (c13 : AD) (x16 : Bool) : Option (((List AD) × Int) ⊕ Frame) :=
 (bif x16 then ((Ys aP0 ({ Ok := aF1.Ok, B1 := aF1.B1, A1 := aF1.A1, A3 := x11.set x4.toNat ({ c13 with State := (1:Int) }) } : Frame) x4).bind fun v18 => (bif v18 then (HM x4 (((x11.set x4.toNat ({ c13 with State := (1:Int) })).set x4.toNat ({ ({ c13 with State := (1:Int) } : AD) with State := (2:Int) })).set x4.toNat ({ ({ ({ c13 with State := (1:Int) } : AD) with State := (2:Int) } : AD) with Shown := true }))) else (HM x4 (x11.set x4.toNat ({ c13 with State := (1:Int) }))))) else (bif (c13.State == 4) then (AG (Mr aF1 x4 c9) (x11, c13, (0:Int))) else (HM x4 x11)))
def Ms (aP0 : AT) (aF1 : Frame) (x4 : Int) (c9 : CA) (x11 : List AD) (c13 : AD) : Option (((List AD) × Int) ⊕ Frame) :=
 (bif (c13.State == 1) then (Pc aP0 aF1 x4 c9 x11 c13 (c13.State == 1)) else (Pc aP0 aF1 x4 c9 x11 c13 (c13.State == 2)))
def Pb (aP0 : AT) (aF1 : Frame) : ((List AD) × Int) → Option (((List AD) × Int) ⊕ Frame) := fun s =>
 (bif decide (s.2 < (aF1.A3.length : Int)) then ((AH s.1 s.2).bind fun c7 => ((AH aP0.A3 s.2).bind fun c9 => (bif (c7.State == 0) then (HM s.2 s.1) else ((bif (c7.State != 4) then ((AH c9.A0 (0:Int)).bind fun c61 => ((AH aF1.B1 c61).bind fun c62 => some c62)) else some false).bind fun t60 => (bif t60 then (Ms aP0 aF1 s.2 c9 ((s.1.set s.2.toNat ({ c7 with State := (4:Int) })).set s.2.toNat ({ ({ c7 with State := (4:Int) } : AD) with Timer := (0:Int) })) ({ ({ c7 with State := (4:Int) } : AD) with Timer := (0:Int) } : AD)) else (Ms aP0 aF1 s.2 c9 s.1 c7)))))) else ((some ({ Ok := aF1.Ok, B1 := aF1.B1, A1 := aF1.A1, A3 := s.1 } : Frame)).map Sum.inr))
def bW (aP0 : AT) (aF1 : Frame) : Option Frame :=
 (AG (Pb aP0 aF1) (aF1.A3, (0:Int)))
theorem WW (hk : bW aP0 aF1 = some r) (hO : A4 H H [.Cs S0 q0 (.cells 4 [.bool aF1.Ok, vp1, vp2, vp3]), AI S0 Fp1 aF1.B1 [vp1], AI S0 Fp2 aF1.A1 [vp2], AI S0 Fp3 aF1.A3 [vp3]]) (hS : ∀ b ∈ S0, AX lk b = true) (hlt : ∀ b ∈ S0, b < H.length) (hlo : EE lk H.length) (hlk : 0 < lk.length := by simp) : ∃ v H1, Am ai hh 99 [.agg (AY l1 0 l2 m3 l4 m5 aP0), .ptr q0 0] H lk = some (v, H1) ∧ v = .GS [] ∧ ∃ (Fs : List Nat × List Nat × List Nat) (Hm : A6), Bu H Hm (S0) ∧ A4 Hm H1 [.Cs S0 q0 (.cells 4 [.bool r.Ok, vp1, vp2, vp3]), AI S0 Fs.1 r.B1 [vp1], AI S0 Fs.2.1 r.A1 [vp2], AI S0 Fs.2.2 r.A3 [vp3]] := by
 refine B0 Tryz.func99 rfl Tryz.ntmps99 Tryz.results99 rfl rfl ?_
 have hFr := Bu.refl H (S0)
 unfold bW at hk
 have hq := (List.getElem?_eq_some_iff.1 (hO.VD (k := 0) rfl).1).1
 refine sr (BR (cs := [_, _, _, _, _]) hO C0 (fun b1 G hO => pg (sr ?_)))
 refine pM (.ptr _ _) ?_
 refine C4 ?_
 refine pF BT ?_
 refine Wm hO 1 vp3 DZ ?_
 refine K9 hO 4 Hk ?_
 refine pM (.int _ _) (pg (BO ?_))
 refine A9 (F := Pb aP0 aF1) (fun s S' => ∃ F3 J G H1, Bu H H1 S0 ∧ A4 H1 G [.AW b1 (.cells 5 (AY l1 0 l2 m3 l4 m5 aP0)), .Cs S0 q0 (.cells 4 [.bool aF1.Ok, vp1, vp2, vp3]), AI S0 Fp1 aF1.B1 [vp1], AI S0 Fp2 aF1.A1 [vp2], AI S0 F3 s.1 [vp3]] ∧ S' = ⟨CM [(1, .ptr q0 0),(2, .ptr b1 0),(13, iv (aF1.A3.length : Int)),(14, iv s.2)] J, G⟩) hk ⟨Fp3, _, _, _, hFr, hO, sh⟩ ?_
 rintro ⟨x2, x4⟩ _ y1 ⟨F3, J, G, H1, hFr, hO, rfl⟩ hk hx1
 refine sr (AO (pg (AV (Ak hk ?_ ?_)))) <;> intro hk
 ·refine Ao (gn (By (fun S' => ∃ x5 F6 J G H1, HM x4 x5 = some y1 ∧ Bu H H1 S0 ∧ A4 H1 G [.AW b1 (.cells 5 (AY l1 0 l2 m3 l4 m5 aP0)), .Cs S0 q0 (.cells 4 [.bool aF1.Ok, vp1, vp2, vp3]), AI S0 Fp1 aF1.B1 [vp1], AI S0 Fp2 aF1.A1 [vp2], AI S0 F6 x5 [vp3]] ∧ S' = ⟨CM [(1, .ptr q0 0),(2, .ptr b1 0),(13, iv (aF1.A3.length : Int)),(14, iv x4)] J, G⟩) ?_ ?_))
  ·refine BO (sr (pM (.int _ _) ?_))
   refine pA (.int _ _) (pg (sr ?_))
   refine pM (.ptr _ _) ?_
   refine C4 ?_
   refine pF BT ?_
   refine Wm hO 1 vp3 DZ ?_
   refine pM (.int _ _) (bk hk fun c7 hc7 hk => ?_)
   refine HZ hO 4 hc7 Da Av (fun b8 hb8 => ?_)
   refine pA (.ptr _ _) (pg (sr ?_))
   refine Ad BY hO 0 (.lit _ _ _) Df ?_
   refine pM (.int _ _) (bk hk fun c9 hc9 hk => ?_)
   refine pX hc9 EY Ay ?_
   refine Bq (.agg [_, _, _, _, _]) (GC (lm := m3) (off := 0) hc9 Ec Ay) (C9 hO Ay Il (fun b10 G hO => ?_))
   refine Cg (xs := [_, _, _, _, _]) hO 0 Ay hFr.1.symm (fun G hO => pg (AV (sr ?_)))
   refine pM (.ptr _ _) ?_
   refine C4 ?_
   refine pF Az ?_
   refine EV Al (.int _ _) hO 5 hb8 hc7 B3 ?_
   refine AO (pg (Ak hk ?_ ?_)) <;> intro hk
   ·exact D5 (ge (be (gn (⟨x2, F3, _, _, _, hk, hFr, (pk hO [1, 2, 3, 4, 5]), sh⟩))))
   refine Ao (gn (By (fun S' => ∃ x11 c13 F12 J G H1, Ms aP0 aF1 x4 c9 x11 c13 = some y1 ∧ AH x11 x4 = some c13 ∧ vp3 = .sl b8 0 x11.length ∧ Bu H H1 S0 ∧ A4 H1 G [.AW b10 (.cells 5 (DG m3 0 m3 0 m3 0 m3 0 m3 0 c9)), .AW b1 (.cells 5 (AY l1 0 l2 m3 l4 m5 aP0)), .Cs S0 q0 (.cells 4 [.bool aF1.Ok, vp1, vp2, vp3]), AI S0 Fp1 aF1.B1 [vp1], AI S0 Fp2 aF1.A1 [vp2], AI S0 F12 x11 [vp3]] ∧ S' = ⟨CM [(1, .ptr q0 0),(2, .ptr b1 0),(4, iv x4),(5, .ptr b8 (x4.toNat * 5)),(6, .ptr b10 0),(13, iv (aF1.A3.length : Int)),(14, iv x4)] J, G⟩) ?_ ?_))
   ·refine AV (HY [0,2,4,7,8,10,13,15,17,19,21,23,25,27,28,31,32] [_,_,_,_,_,_,_,_,_,_,_,_,_,_,_,_,_] ?_)
    refine pM (.ptr _ _) ?_
    refine C4 ?_
    refine pF Az ?_
    refine EV Al (.int _ _) hO 5 hb8 hc7 B3 ?_
    refine AO ?_
    refine pM (.bool _) (bk hk fun t60 ht hk => ?_)
    refine AP (l1 := [_, _, _, _, _, _, _, _, _, _, _]) [39, 40, 41, 42, 43, 44, 45, 46, 47, 48, 49] 49 (.bool t60) ?_ ?_
    ·refine bc (b := (c7.State != 4)) ?_ ?_ <;> intro hg
     ·replace hk := ct hg ht
      refine AA hg (pM (.ptr _ _) (AA hg ?_))
      refine C4 (AA hg ?_)
      refine pF CP (AA hg ?_)
      refine Wm hO 2 vp1 C5 (AA hg ?_)
      refine pF BS (AA hg ?_)
      refine CT hO 0 (.lit _ _ _) BN (AA hg (bk hk fun c61 hc61 hk => ?_))
      refine pX hc61 CG DB (AA hg ?_)
      refine Bq (.int _ _) (Cu (lm := 0) (off := 0) hc61 B3) (AA hg (bk hk fun c62 hc62 hk => ?_))
      refine HZ hO 3 hc62 Cd Eu (fun b63 hb63 => AA hg ?_)
      refine EV (Br.all (α := Bool)) (.bool _) hO 3 hb63 hc62 Fu ?_
      refine Cm hg (.bool _) ?_
      cases hk; exact pE ek
     replace hk := cf hg ht
     repeat refine Bg hg ?_
     refine Cl hg (.bool _) ?_
     cases hk; exact pE ek
    intro J
    refine pg (Ak hk ?_ ?_) <;> intro hk
    ·refine Bs (pM (.ptr _ _) ?_)
     refine pM (.ptr _ _) ?_
     refine C4 ?_
     refine pF Az ?_
     refine Kb Al (y' := (4:Int)) hO 5 hb8 hc7 DB (fun _ => ⟨rfl, rfl⟩) hFr hS rfl (fun H1 G hFr hO => ?_)
     have hc_64 := B2 hc7 ({ c7 with State := (4:Int) } : AD)
     have hv_64 := Bn (j := x4.toNat) (y := ({ c7 with State := (4:Int) } : AD)) hb8
     refine C4 ?_
     refine pF Ce ?_
     refine Kb CE (y' := (0:Int)) hO 5 hv_64 hc_64 DB (fun _ => ⟨rfl, rfl⟩) hFr hS rfl (fun H1 G hFr hO => ?_)
     have hc_65 := B2 hc_64 ({ ({ c7 with State := (4:Int) } : AD) with Timer := (0:Int) } : AD)
     have hv_65 := Bn (j := x4.toNat) (y := ({ ({ c7 with State := (4:Int) } : AD) with Timer := (0:Int) } : AD)) hv_64
     exact pg (⟨(x2.set x4.toNat ({ c7 with State := (4:Int) })).set x4.toNat ({ ({ c7 with State := (4:Int) } : AD) with Timer := (0:Int) }), ({ ({ c7 with State := (4:Int) } : AD) with Timer := (0:Int) } : AD), F3, _, _, _, hk, hc_65, hv_65, hFr, hO, sh⟩)
    exact Ao (gn (⟨x2, c7, F3, _, _, _, hk, hc7, hb8, hFr, hO, sh⟩))
   rintro _ ⟨x11, c13, F12, J, G, H1, hk, hc13, hv14, hFr, hO, rfl⟩
   refine sr (pM (.ptr _ _) ?_)
   refine C4 ?_
   refine pF Az ?_
   refine EV Al (.int _ _) hO 5 hv14 hc13 B3 (pg (BO ?_))
   refine By (fun S' => ∃ x16 F15 J G H1, Pc aP0 aF1 x4 c9 x11 c13 x16 = some y1 ∧ AH x11 x4 = some c13 ∧ vp3 = .sl b8 0 x11.length ∧ Bu H H1 S0 ∧ A4 H1 G [.AW b10 (.cells 5 (DG m3 0 m3 0 m3 0 m3 0 m3 0 c9)), .AW b1 (.cells 5 (AY l1 0 l2 m3 l4 m5 aP0)), .Cs S0 q0 (.cells 4 [.bool aF1.Ok, vp1, vp2, vp3]), AI S0 Fp1 aF1.B1 [vp1], AI S0 Fp2 aF1.A1 [vp2], AI S0 F15 x11 [vp3]] ∧ S' = ⟨CM [(1, .ptr q0 0),(2, .ptr b1 0),(4, iv x4),(5, .ptr b8 (x4.toNat * 5)),(6, .ptr b10 0),(13, iv (aF1.A3.length : Int)),(14, iv x4),(59, iv c13.State),(60, .bool x16)] J, G⟩) ?_ ?_
   ·refine sr (AO ?_)
    refine pA (.bool _) (pg (Ak hk ?_ ?_)) <;> intro hk
    ·exact Ao (gn (⟨(c13.State == 1), F12, _, _, _, hk, hc13, hv14, hFr, hO, sh⟩))
    refine Bs (AO ?_)
    refine pA (.bool _) (pg ?_)
    exact ⟨(c13.State == 2), F12, _, _, _, hk, hc13, hv14, hFr, hO, sh⟩
   rintro _ ⟨x16, F15, J, G, H1, hk, hc13, hv14, hFr, hO, rfl⟩
   refine Ak hk ?_ ?_ <;> intro hk
   ·refine sr (pM (.ptr _ _) ?_)
    refine C4 ?_
    refine pF Az ?_
    refine Kb Al (y' := (1:Int)) hO 5 hv14 hc13 DB (fun _ => ⟨rfl, rfl⟩) hFr hS rfl (fun H1 G hFr hO => ?_)
    have hc_17 := B2 hc13 ({ c13 with State := (1:Int) } : AD)
    have hv_17 := Bn (j := x4.toNat) (y := ({ c13 with State := (1:Int) } : AD)) hv14
    refine pg (AV (HY [1,3,5,7,9,10] [_,_,_,_,_,_] ?_))
    refine D9 hO 1 [_, _, _, _, _] EP C0 ?_
    refine pM (.ptr _ _) ?_
    refine C4 ?_
    refine oG hO 2 DT BZ ?_
    refine pM (.int _ _) (bk hk fun v18 hv18 hk => ?_)
    obtain ⟨_, hm19⟩ := Nh hO (j := 5) rfl (lk.length + 1) 7
    obtain ⟨_, hm20⟩ := G3 hO (j := 4) rfl (lk.length + 1) 7
    obtain ⟨_, hm21⟩ := G3 hO (j := 3) rfl (lk.length + 1) 7
    refine AM (vs := [(.agg [_, _, _, _, _]), (.agg [_, _, _, _]), (.int _ _)]) (caps := []) (fun _ => Yt hv18) ?_ (h3 := (B9 rfl (B9 (L9 (CB rfl (CB hm21 (CB hm20 (CB hm19 LA))))) (B9 rfl EB))))
    refine pg (Ak hk ?_ ?_) <;> intro hk
    ·refine Bs (pM (.ptr _ _) ?_)
     refine pM (.ptr _ _) ?_
     refine C4 ?_
     refine pF Az ?_
     refine Kb Al (y' := (2:Int)) hO 5 hv_17 hc_17 DB (fun _ => ⟨rfl, rfl⟩) hFr hS rfl (fun H1 G hFr hO => ?_)
     have hc_22 := B2 hc_17 ({ ({ c13 with State := (1:Int) } : AD) with State := (2:Int) } : AD)
     have hv_22 := Bn (j := x4.toNat) (y := ({ ({ c13 with State := (1:Int) } : AD) with State := (2:Int) } : AD)) hv_17
     refine C4 ?_
     refine pF DW ?_
     refine Kb Ei (y' := true) hO 5 hv_22 hc_22 Eu (fun _ => ⟨rfl, rfl⟩) hFr hS rfl (fun H1 G hFr hO => ?_)
     have hc_23 := B2 hc_22 ({ ({ ({ c13 with State := (1:Int) } : AD) with State := (2:Int) } : AD) with Shown := true } : AD)
     have hv_23 := Bn (j := x4.toNat) (y := ({ ({ ({ c13 with State := (1:Int) } : AD) with State := (2:Int) } : AD) with Shown := true } : AD)) hv_22
     exact pE (bn (bn (gn (⟨((x11.set x4.toNat ({ c13 with State := (1:Int) })).set x4.toNat ({ ({ c13 with State := (1:Int) } : AD) with State := (2:Int) })).set x4.toNat ({ ({ ({ c13 with State := (1:Int) } : AD) with State := (2:Int) } : AD) with Shown := true }), F15, _, _, _, hk, hFr, (pk hO [1, 2, 3, 4, 5]), sh⟩))))
    exact Ao (bn (bn (gn (⟨x11.set x4.toNat ({ c13 with State := (1:Int) }), F15, _, _, _, hk, hFr, (pk hO [1, 2, 3, 4, 5]), sh⟩))))
   refine sr (AO ?_)
   refine pA (.bool _) (pg (Ak hk ?_ ?_)) <;> intro hk
   ·refine AV (sr (Ad BS hO 0 (.lit _ _ _) BN ?_))
    refine Ae DA ?_
    refine pM (.int _ _) (pg (BO ?_))
    refine A9 (F := Mr aF1 x4 c9) (fun s S' => ∃ F25 J G H1, AH s.1 x4 = some s.2.1 ∧ vp3 = .sl b8 0 s.1.length ∧ Bu H H1 S0 ∧ A4 H1 G [.AW b10 (.cells 5 (DG m3 0 m3 0 m3 0 m3 0 m3 0 c9)), .AW b1 (.cells 5 (AY l1 0 l2 m3 l4 m5 aP0)), .Cs S0 q0 (.cells 4 [.bool aF1.Ok, vp1, vp2, vp3]), AI S0 Fp1 aF1.B1 [vp1], AI S0 Fp2 aF1.A1 [vp2], AI S0 F25 s.1 [vp3]] ∧ S' = ⟨CM [(1, .ptr q0 0),(2, .ptr b1 0),(5, .ptr b8 (x4.toNat * 5)),(6, .ptr b10 0),(13, iv (aF1.A3.length : Int)),(14, iv x4),(81, AK m3 0 c9.A0),(82, iv (c9.A0.length : Int)),(83, iv s.2.2)] J, G⟩) hk ⟨F15, _, _, _, hc13, hv14, hFr, hO, sh⟩ ?_
    rintro ⟨x24, c26, x28⟩ _ y2 ⟨F25, J, G, H1, hc26, hv27, hFr, hO, rfl⟩ hk hx2
    refine sr (AO (pg (AV (Ak hk ?_ ?_)))) <;> intro hk
    ·refine Ao (gn (AV (BO (sr (pM (.int _ _) (bk hk fun c29 hc29 hk => ?_))))))
     refine pX hc29 CG DB ?_
     refine Bq (.int _ _) (Cu (lm := 0) (off := 0) hc29 B3) ?_
     refine pA (.int _ _) ?_
     refine pA (.int _ _) (pg ?_)
     refine HY [1,3,5,7,9,11,13,15,17,19,21,23,25,27,29,31,33,35,37,39,41,42,44] [_,_,_,_,_,_,_,_,_,_,_,_,_,_,_,_,_,_,_,_,_,_,_] ?_
     refine pM (.ptr _ _) ?_
     refine C4 ?_
     refine pF CC ?_
     refine Vl D0 hO 5 hv27 hc26 C5 (fun u30 fs30 hs30 => ?_)
     refine pM (.int _ _) ?_
     refine pM (.ptr _ _) ?_
     refine C4 ?_
     refine pF CC ?_
     refine Vl D0 hO 5 hv27 hc26 C5 (fun u31 fs31 hs31 => ?_)
     refine pM (.int _ _) (bk hk fun c32 hc32 hk => ?_)
     refine kF hs31 hc32 Cd Eu (fun b33 hb33 => ?_)
     refine Zy (.bool _) hs31 hb33 hc32 Fu ?_
     refine pM (.bool _) (bk hk fun t34 ht hk => ?_)
     refine AP (l1 := [_, _, _, _, _, _, _, _]) [101, 102, 103, 104, 105, 106, 107, 108] 108 (.bool t34) ?_ ?_
     ·refine bc (b := c32) ?_ ?_ <;> intro hg
      ·replace hk := ct hg ht
       repeat refine Bg hg ?_
       refine Cm hg (.bool _) ?_
       cases hk; exact pE ek
      replace hk := cf hg ht
      refine AA hg (pM (.ptr _ _) (AA hg ?_))
      refine C4 (AA hg ?_)
      refine pF CP (AA hg ?_)
      refine Wm hO 2 vp1 C5 (AA hg ?_)
      refine pM (.int _ _) (AA hg (bk hk fun c35 hc35 hk => ?_))
      refine HZ hO 3 hc35 Cd Eu (fun b36 hb36 => AA hg ?_)
      refine EV (Br.all (α := Bool)) (.bool _) hO 3 hb36 hc35 Fu ?_
      refine Cl hg (.bool _) ?_
      cases hk; exact pE ek
     intro J
     refine bk hk fun c37 hc37 hk => kF hs30 hc37 Cd Eu (fun b38 hb38 => ?_)
     refine oH (y' := t34) hO 5 hs30 hb38 hc37 Eu (fun _ => ⟨rfl, rfl⟩) hFr hS rfl (fun H1 G hFr hO => ?_)
     replace hO : A4 H1 G [.AW b10 (.cells 5 (DG m3 0 m3 0 m3 0 m3 0 m3 0 c9)), .AW b1 (.cells 5 (AY l1 0 l2 m3 l4 m5 aP0)), .Cs S0 q0 (.cells 4 [.bool aF1.Ok, vp1, vp2, vp3]), AI S0 Fp1 aF1.B1 [vp1], AI S0 Fp2 aF1.A1 [vp2], AI S0 F25 (x24.set x4.toNat ({ c26 with Ac := c26.Ac.set x28.toNat t34 })) [vp3]] := hO
     have hc_39 := B2 hc26 ({ c26 with Ac := c26.Ac.set x28.toNat t34 } : AD)
     have hv_39 := Bn (j := x4.toNat) (y := ({ c26 with Ac := c26.Ac.set x28.toNat t34 } : AD)) hv27
     refine pE (bn (gn (Bs (AO ?_))))
     refine pM (.int _ _) (pg ?_)
     cases hk; exact ⟨_, rfl, F25, _, _, _, hc_39, hv_39, hFr, hO, sh⟩
    refine D5 (ge (ge (be (gn (have hk := lx hx2 hk; AV (BO (A9 (F := Ky aF1 x4 c9) (fun s S' => ∃ F41 J G H1, AH s.1 x4 = some s.2 ∧ vp3 = .sl b8 0 s.1.length ∧ Bu H H1 S0 ∧ A4 H1 G [.AW b10 (.cells 5 (DG m3 0 m3 0 m3 0 m3 0 m3 0 c9)), .AW b1 (.cells 5 (AY l1 0 l2 m3 l4 m5 aP0)), .Cs S0 q0 (.cells 4 [.bool aF1.Ok, vp1, vp2, vp3]), AI S0 Fp1 aF1.B1 [vp1], AI S0 Fp2 aF1.A1 [vp2], AI S0 F41 s.1 [vp3]] ∧ S' = ⟨CM [(1, .ptr q0 0),(2, .ptr b1 0),(5, .ptr b8 (x4.toNat * 5)),(6, .ptr b10 0),(13, iv (aF1.A3.length : Int)),(14, iv x4)] J, G⟩) hk ⟨F25, _, _, _, hc26, hv27, hFr, hO, sh⟩ ?_)))))))
    rintro ⟨x40, c42⟩ _ y2 ⟨F41, J, G, H1, hc42, hv43, hFr, hO, rfl⟩ hk hx2
    refine AV (AV (HY [1,3,5,7,9,11,13,14,16,19,21,23,25,27,29,31,33,34,37,38,40,43,45,47,49,51,53,55,57,59,61,63,65,66,69,70,72,74,77,79,81,83,85,87,89,91,92,94,97,99,101,103,105,107,109,111,113,114,117,118,120] [_,_,_,_,_,_,_,_,_,_,_,_,_,_,_,_,_,_,_,_,_,_,_,_,_,_,_,_,_,_,_,_,_,_,_,_,_,_,_,_,_,_,_,_,_,_,_,_,_,_,_,_,_,_,_,_,_,_,_,_,_] ?_))
    refine pM (.ptr _ _) ?_
    refine C4 ?_
    refine pF C7 ?_
    refine EV C3 (.int _ _) hO 5 hv43 hc42 B3 ?_
    refine Ad BS hO 0 (.lit _ _ _) BN ?_
    refine Ae DA ?_
    refine AO ?_
    refine pM (.bool _) (bk hk fun t44 ht hk => ?_)
    refine AP (l1 := [_, _, _, _, _, _, _, _, _, _, _]) [120, 121, 122, 123, 124, 125, 126, 127, 128, 129, 130] 130 (.bool t44) ?_ ?_
    ·refine bc (b := decide (c42.Aj < (c9.A0.length : Int))) ?_ ?_ <;> intro hg
     ·replace hk := ct hg ht
      refine AA hg (pM (.ptr _ _) (AA hg ?_))
      refine C4 (AA hg ?_)
      refine pF CC (AA hg ?_)
      refine Vl D0 hO 5 hv43 hc42 C5 (fun u45 fs45 hs45 => AA hg ?_)
      refine pM (.ptr _ _) (AA hg ?_)
      refine C4 (AA hg ?_)
      refine pF C7 (AA hg ?_)
      refine EV C3 (.int _ _) hO 5 hv43 hc42 B3 (AA hg (bk hk fun c46 hc46 hk => ?_))
      refine kF hs45 hc46 Cd Eu (fun b47 hb47 => AA hg ?_)
      refine Zy (.bool _) hs45 hb47 hc46 Fu ?_
      refine Cm hg (.bool _) ?_
      cases hk; exact pE ek
     replace hk := cf hg ht
     repeat refine Bg hg ?_
     refine Cl hg (.bool _) ?_
     cases hk; exact pE ek
    intro J
    refine pM (.bool _) (bk hk fun t48 ht hk => ?_)
    refine AP (l1 := [_, _, _, _, _, _, _, _, _, _, _, _, _, _, _, _]) [132, 133, 134, 135, 136, 137, 138, 139, 140, 141, 142, 143, 144, 145, 146, 147] 147 (.bool t48) ?_ ?_
    ·refine bc (b := t44) ?_ ?_ <;> intro hg
     ·replace hk := ct hg ht
      refine AA hg (pM (.ptr _ _) (AA hg ?_))
      refine C4 (AA hg ?_)
      refine pF CP (AA hg ?_)
      refine Wm hO 2 vp1 C5 (AA hg ?_)
      refine pF BS (AA hg ?_)
      refine CT hO 0 (.lit _ _ _) BN (AA hg ?_)
      refine pM (.ptr _ _) (AA hg ?_)
      refine C4 (AA hg ?_)
      refine pF C7 (AA hg ?_)
      refine EV C3 (.int _ _) hO 5 hv43 hc42 B3 (AA hg (bk hk fun c49 hc49 hk => ?_))
      refine pX hc49 CG DB (AA hg ?_)
      refine Bq (.int _ _) (Cu (lm := 0) (off := 0) hc49 B3) (AA hg (bk hk fun c50 hc50 hk => ?_))
      refine HZ hO 3 hc50 Cd Eu (fun b51 hb51 => AA hg ?_)
      refine EV (Br.all (α := Bool)) (.bool _) hO 3 hb51 hc50 Fu (AA hg ?_)
      refine pU ?_
      refine Cm hg (.bool _) ?_
      cases hk; exact pE ek
     replace hk := cf hg ht
     repeat refine Bg hg ?_
     refine Cl hg (.bool _) ?_
     cases hk; exact pE ek
    intro J
    refine pM (.bool _) (bk hk fun t52 ht hk => ?_)
    refine AP (l1 := [_, _, _, _, _, _, _, _, _, _, _, _, _, _, _, _, _, _, _, _, _, _, _]) [149, 150, 151, 152, 153, 154, 155, 156, 157, 158, 159, 160, 161, 162, 163, 164, 165, 166, 167, 168, 169, 170, 171] 171 (.bool t52) ?_ ?_
    ·refine bc (b := t48) ?_ ?_ <;> intro hg
     ·replace hk := ct hg ht
      refine AA hg (pM (.ptr _ _) (AA hg ?_))
      refine C4 (AA hg ?_)
      refine pF C7 (AA hg ?_)
      refine EV C3 (.int _ _) hO 5 hv43 hc42 B3 (AA hg ?_)
      refine pF BS (AA hg ?_)
      refine CT hO 0 (.lit _ _ _) BN (AA hg ?_)
      refine Ae DA (AA hg ?_)
      refine AO (AA hg ?_)
      refine AO (AA hg ?_)
      refine pM (.bool _) (bk hk fun t53 ht hk => ?_)
      refine AP (l1 := [_, _, _, _, _, _, _, _, _, _, _, _]) [159, 160, 161, 162, 163, 164, 165, 166, 167, 168, 169, 170] 170 (.bool t53) ?_ ?_
      ·refine bc (b := (c42.Aj == (BE ((c9.A0.length : Int) - 1)))) (fun hg2 => ?_) (fun hg2 => ?_)
       ·replace hk := ct hg2 ht
        repeat refine Bg hg2 ?_
        refine AA hg (Cm hg2 (.bool _) ?_)
        cases hk; exact pE ek
       replace hk := cf hg2 ht
       refine AA hg2 (pM (.ptr _ _) (AA hg2 ?_))
       refine C4 (AA hg2 ?_)
       refine pF CC (AA hg2 ?_)
       refine Vl D0 hO 5 hv43 hc42 C5 (fun u54 fs54 hs54 => AA hg2 ?_)
       refine pM (.ptr _ _) (AA hg2 ?_)
       refine C4 (AA hg2 ?_)
       refine pF C7 (AA hg2 ?_)
       refine EV C3 (.int _ _) hO 5 hv43 hc42 B3 (AA hg2 ?_)
       refine AO (AA hg2 (bk hk fun c55 hc55 hk => ?_))
       refine kF hs54 hc55 Cd Eu (fun b56 hb56 => AA hg2 ?_)
       refine Zy (.bool _) hs54 hb56 hc55 Fu (AA hg ?_)
       refine Cl hg2 (.bool _) ?_
       cases hk; exact pE ek
      intro J
      refine Cm hg (.bool _) ?_
      cases hk; exact pE ek
     replace hk := cf hg ht
     repeat refine Bg hg ?_
     refine Cp (Cp (Cp (Cp (Cp (Cp (Cp (Cp (Cp (Cp (Cp (Bg hg (Cl hg (.bool _) ?_))))))))))))
     cases hk; exact pE ek
    intro J
    refine pg (Ak hk ?_ ?_) <;> intro hk
    ·refine Ao (gn (BO (Bs (pM (.ptr _ _) ?_))))
     refine C4 ?_
     refine pF C7 ?_
     refine EV C3 (.int _ _) hO 5 hv43 hc42 B3 ?_
     refine AO ?_
     refine C4 ?_
     refine pF C7 ?_
     refine Kb C3 (y' := (BE (c42.Aj + 1))) hO 5 hv43 hc42 DB (fun _ => ⟨rfl, rfl⟩) hFr hS rfl (fun H1 G hFr hO => ?_)
     have hc_57 := B2 hc42 ({ c42 with Aj := BE (c42.Aj + 1) } : AD)
     have hv_57 := Bn (j := x4.toNat) (y := ({ c42 with Aj := BE (c42.Aj + 1) } : AD)) hv43
     refine pE (bn (gn ?_))
     cases hk; exact ⟨_, rfl, F41, _, _, _, hc_57, hv_57, hFr, hO, sh⟩
    refine D5 (ge (ge (be (gn (have hk := lx hx2 hk; AV (HY [1,3,5,7,9,11,13,14] [_,_,_,_,_,_,_,_] ?_))))))
    refine pM (.ptr _ _) ?_
    refine C4 ?_
    refine pF C7 ?_
    refine EV C3 (.int _ _) hO 5 hv43 hc42 B3 ?_
    refine Ad BS hO 0 (.lit _ _ _) BN ?_
    refine Ae DA ?_
    refine AO (pg (Ak hk ?_ ?_)) <;> intro hk
    ·refine Bs (pM (.ptr _ _) ?_)
     refine D9 hO 0 [_, _, _, _, _] Ec Ay (bk hk fun v58 hv58 hk => ?_)
     refine K8 hO (fun _ => Sh hv58) (fun u59 F59 G hO => ?_)
     refine C4 ?_
     refine gT hO 5 hv43 hc42 Av hFr hS rfl (fun H1 G hFr hO => pE (bn (bn (gn ?_))))
     exact ⟨x40.set x4.toNat v58, (F41 ++ F59), _, _, _, hk, hFr, (pk hO [1, 2, 3, 4, 5]), sh⟩
    exact Ao (bn (bn (gn (⟨x40, F41, _, _, _, hk, hFr, (pk hO [1, 2, 3, 4, 5]), sh⟩))))
   exact Ao (bn (bn (gn (⟨x11, F15, _, _, _, hk, hFr, (pk hO [1, 2, 3, 4, 5]), sh⟩))))
  rintro _ ⟨x5, F6, J, G, H1, hk, hFr, hO, rfl⟩
  refine Bs (AO ?_)
  refine pM (.int _ _) (pg ?_)
  cases hk; exact ⟨_, rfl, F6, _, _, _, hFr, hO, sh⟩
 refine D5 (ge (ge (be (have hk := lx hx1 hk; ?_))))
 replace hk := av hk; subst hk; exact Sj (Fp1, Fp2, F3) (pk hO [1, 2, 3, 4]) hFr (FI (UI hq) (FI Gr (FI Gr (FI Gr TD)))) rfl rfl rfl rfl (by first | exact Or.inl rfl | exact Or.inr rfl)
def O9 (aS10 : List Bool) (aS21 : List Bool) : Int → Option (Int ⊕ Bool) := fun s =>
 (bif decide (s < (aS10.length : Int)) then ((AH aS10 s).bind fun c2 => ((AH aS21 s).bind fun c3 => (bif !(c2 == c3) then ((some false).map Sum.inr) else some (.inl (BE (s + 1)))))) else ((some true).map Sum.inr))
def XZ (aS10 : List Bool) (aS21 : List Bool) : Option Bool :=
 (bif ((aS10.length : Int) != (aS21.length : Int)) then some false else (AG (O9 aS10 aS21) ((0:Int))))
theorem Th (hk : XZ aS10 aS21 = some r) (hlk : 0 < lk.length := by simp) : Am ai hh 124 [AK l1 0 aS10, AK l2 0 aS21] H lk = some (.bool r, H) := by
 refine AF Tryz.func124 rfl Tryz.ntmps124 Tryz.results124 rfl rfl fun hO => ?_
 unfold XZ at hk
 refine sr (pA (.bool _) (pg (AV (sr ?_))))
 refine pM (.lit _ _ _) ?_
 refine Ae Hj ?_
 refine pM (.lit _ _ _) ?_
 refine Ae Hj ?_
 refine AO (pg (Ak hk ?_ ?_)) <;> intro hk
 ·refine sr (pA (.bool _) (pg (Au (gr ?_))))
  cases hk; exact AQ hO
 refine Ao (gn (AV (sr (pM (.lit _ _ _) ?_))))
 refine Ae Hj ?_
 refine pM (.int _ _) (pg (BO ?_))
 refine A9 (F := O9 aS10 aS21) (fun s S' => ∃ J G, A4 H G [] ∧ S' = ⟨CM [(0, AK l1 0 aS10),(1, AK l2 0 aS21),(12, iv (aS10.length : Int)),(13, iv s)] J, G⟩) hk ⟨_, _, hO, sh⟩ ?_
 rintro x1 _ y1 ⟨J, G, hO, rfl⟩ hk hx1
 refine sr (AO (pg (AV (Ak hk ?_ ?_)))) <;> intro hk
 ·refine Ao (gn (AV (BO (sr (pM (.int _ _) ?_)))))
  refine pA (.int _ _) (pg (AV ?_))
  refine HY [1,3,5,7,9,11,13,15,16] [_,_,_,_,_,_,_,_,_] ?_
  refine pM (.lit _ _ _) ?_
  refine pM (.int _ _) (bk hk fun c2 hc2 hk => ?_)
  refine pX hc2 Cd Eu ?_
  refine Bq (.bool _) (Cu (lm := 0) (off := 0) hc2 Fu) ?_
  refine pM (.lit _ _ _) ?_
  refine pM (.int _ _) (bk hk fun c3 hc3 hk => ?_)
  refine pX hc3 Cd Eu ?_
  refine Bq (.bool _) (Cu (lm := 0) (off := 0) hc3 Fu) ?_
  refine Zu Tryz.underlying4 (pg (Ak hk ?_ ?_)) <;> intro hk
  ·refine sr (pA (.bool _) (pg (Au (br (gr (gr (br (gr (have hk := lx hx1 hk; ?_)))))))))
   cases hk; exact AQ hO
  refine Ao (bn (gn (Bs (AO ?_))))
  refine pM (.int _ _) (pg ?_)
  cases hk; exact ⟨_, rfl, _, _, hO, sh⟩
 refine D5 (ge (ge (be (gn (have hk := lx hx1 hk; sr (pA (.bool _) (pg (Au ?_))))))))
 cases hk; exact AQ hO
def OA (aS10 : List AZ) (aS21 : List AZ) : Int → Option (Int ⊕ Bool) := fun s =>
 (bif decide (s < (aS10.length : Int)) then ((AH aS10 s).bind fun c2 => ((AH aS21 s).bind fun c3 => (bif !((c2.Want == c3.Want) && ((c2.AJ == c3.AJ) && true)) then ((some false).map Sum.inr) else some (.inl (BE (s + 1)))))) else ((some true).map Sum.inr))
def Z0 (aS10 : List AZ) (aS21 : List AZ) : Option Bool :=
 (bif ((aS10.length : Int) != (aS21.length : Int)) then some false else (AG (OA aS10 aS21) ((0:Int))))
theorem Z1 (hk : Z0 aS10 aS21 = some r) (hlk : 0 < lk.length := by simp) : Am ai hh 125 [AK l1 0 aS10, AK l2 0 aS21] H lk = some (.bool r, H) := by
 refine AF Tryz.func125 rfl Tryz.ntmps125 Tryz.results125 rfl rfl fun hO => ?_
 unfold Z0 at hk
 refine sr (pA (.bool _) (pg (AV (sr ?_))))
 refine pM (.lit _ _ _) ?_
 refine Ae O3 ?_
 refine pM (.lit _ _ _) ?_
 refine Ae O3 ?_
 refine AO (pg (Ak hk ?_ ?_)) <;> intro hk
 ·refine sr (pA (.bool _) (pg (Au (gr ?_))))
  cases hk; exact AQ hO
 refine Ao (gn (AV (sr (pM (.lit _ _ _) ?_))))
 refine Ae O3 ?_
 refine pM (.int _ _) (pg (BO ?_))
 refine A9 (F := OA aS10 aS21) (fun s S' => ∃ J G, A4 H G [] ∧ S' = ⟨CM [(0, AK l1 0 aS10),(1, AK l2 0 aS21),(12, iv (aS10.length : Int)),(13, iv s)] J, G⟩) hk ⟨_, _, hO, sh⟩ ?_
 rintro x1 _ y1 ⟨J, G, hO, rfl⟩ hk hx1
 refine sr (AO (pg (AV (Ak hk ?_ ?_)))) <;> intro hk
 ·refine Ao (gn (AV (BO (sr (pM (.int _ _) ?_)))))
  refine pA (.int _ _) (pg (AV ?_))
  refine HY [1,3,5,7,9,11,13,15,16] [_,_,_,_,_,_,_,_,_] ?_
  refine pM (.lit _ _ _) ?_
  refine pM (.int _ _) (bk hk fun c2 hc2 hk => ?_)
  refine pX hc2 Gm Dq ?_
  refine Bq (.agg [_, _]) (GC (lm := 0) (off := 0) hc2 TM Dq) ?_
  refine pM (.lit _ _ _) ?_
  refine pM (.int _ _) (bk hk fun c3 hc3 hk => ?_)
  refine pX hc3 Gm Dq ?_
  refine Bq (.agg [_, _]) (GC (lm := 0) (off := 0) hc3 TM Dq) ?_
  refine oC pH (lD (lE _ _ _) (lD (lE _ _ _) (rfl))) (pg (Ak hk ?_ ?_)) <;> intro hk
  ·refine sr (pA (.bool _) (pg (Au (br (gr (gr (br (gr (have hk := lx hx1 hk; ?_)))))))))
   cases hk; exact AQ hO
  refine Ao (bn (gn (Bs (AO ?_))))
  refine pM (.int _ _) (pg ?_)
  cases hk; exact ⟨_, rfl, _, _, hO, sh⟩
 refine D5 (ge (ge (be (gn (have hk := lx hx1 hk; sr (pA (.bool _) (pg (Au ?_))))))))
 cases hk; exact AQ hO
def Lc (aA0 : Frame) (aB1 : Frame) : Int → Option (Int ⊕ Bool) := fun s =>
 (bif decide (s < (aA0.A3.length : Int)) then ((AH aA0.A3 s).bind fun c7 => ((AH aB1.A3 s).bind fun c9 => ((bif ((((c7.State != c9.State) || (c7.Aj != c9.Aj)) || !(c7.Shown == c9.Shown)) || (c7.Timer != c9.Timer)) then some true else ((XZ c7.Ac c9.Ac).bind fun v12 => some (!v12))).bind fun t11 => (bif t11 then ((some false).map Sum.inr) else some (.inl (BE (s + 1))))))) else ((some true).map Sum.inr))
def Uz (aA0 : Frame) (aB1 : Frame) : Option Bool :=
 ((XZ aA0.B1 aB1.B1).bind fun v3 => ((bif !v3 then some true else ((Z0 aA0.A1 aB1.A1).bind fun v5 => some (!v5))).bind fun t4 => (bif (t4 || ((aA0.A3.length : Int) != (aB1.A3.length : Int))) then some false else (AG (Lc aA0 aB1) ((0:Int))))))
theorem Yp (hk : Uz aA0 aB1 = some r) (hlk : 0 < lk.length := by simp) : Am ai hh 109 [.agg (Ah l1 0 l2 0 l3 m4 aA0), .agg (Ah l5 0 l6 0 l7 m8 aB1)] H lk = some (.bool r, H) := by
 refine AF Tryz.func109 rfl Tryz.ntmps109 Tryz.results109 rfl rfl fun hO => ?_
 unfold Uz at hk
 refine sr (BR (cs := [_, _, _, _]) hO BZ (fun b1 G hO => ?_))
 refine BR (cs := [_, _, _, _]) hO BZ (fun b2 G hO => ?_)
 refine pA (.bool _) (pg (AV (sr ?_)))
 refine Ad CP hO 1 (.lit _ _ _) C5 ?_
 refine Ad CP hO 0 (.lit _ _ _) C5 (bk hk fun v3 hv3 hk => ?_)
 refine AM (fun _ => Th hv3) ?_
 refine pU ?_
 refine pM (.bool _) (bk hk fun t4 ht hk => ?_)
 refine AP (l1 := [_, _, _, _, _, _, _]) [15, 16, 17, 18, 19, 20, 21] 21 (.bool t4) ?_ ?_
 ·refine bc (b := !v3) ?_ ?_ <;> intro hg
  ·replace hk := ct hg ht
   repeat refine Bg hg ?_
   refine Cm hg (.bool _) ?_
   cases hk; exact pE ek
  replace hk := cf hg ht
  refine AA hg (pF Cv (AA hg ?_))
  refine CT hO 1 (.lit _ _ _) H9 (AA hg ?_)
  refine pF Cv (AA hg ?_)
  refine CT hO 0 (.lit _ _ _) H9 (AA hg (bk hk fun v5 hv5 hk => ?_))
  refine AM (fun _ => Z1 hv5) (AA hg ?_)
  refine pU ?_
  refine Cl hg (.bool _) ?_
  cases hk; exact pE ek
 intro J
 refine pM (.bool _) ?_
 refine AP (l1 := [_, _, _, _, _, _, _, _]) [23, 24, 25, 26, 27, 28, 29, 30] 30 (.bool (t4 || ((aA0.A3.length : Int) != (aB1.A3.length : Int)))) ?_ ?_
 ·refine bc (b := t4) ?_ ?_ <;> intro hg
  ·repeat refine Bg hg ?_
   refine Cm hg (.bool _) ?_
   exact pE (ek (by rw [hg]; rfl))
  refine AA hg (pF BT (AA hg ?_))
  refine CT hO 1 (.lit _ _ _) DZ (AA hg ?_)
  refine Ae Hk (AA hg ?_)
  refine pF BT (AA hg ?_)
  refine CT hO 0 (.lit _ _ _) DZ (AA hg ?_)
  refine Ae Hk (AA hg ?_)
  refine AO ?_
  refine Cl hg (.bool _) ?_
  exact pE (ek (by rw [hg]; rfl))
 intro J
 refine pg (Ak hk ?_ ?_) <;> intro hk
 ·refine sr (pA (.bool _) (pg (Au (gr ?_))))
  cases hk; exact AQ hO
 refine Ao (gn (AV (sr (Ad BT hO 1 (.lit _ _ _) DZ ?_))))
 refine Ae Hk ?_
 refine pM (.int _ _) (pg (BO ?_))
 refine A9 (F := Lc aA0 aB1) (fun s S' => ∃ J G, A4 H G [.AW b2 (.cells 4 (Ah l5 0 l6 0 l7 m8 aB1))] ∧ S' = ⟨CM [(3, .ptr b2 0),(32, AK l3 m4 aA0.A3),(33, iv (aA0.A3.length : Int)),(34, iv s)] J, G⟩) hk ⟨_, _, (pk hO [0]), sh⟩ ?_
 rintro x6 _ y1 ⟨J, G, hO, rfl⟩ hk hx1
 refine sr (AO (pg (AV (Ak hk ?_ ?_)))) <;> intro hk
 ·refine Ao (gn (AV (BO (sr (pM (.int _ _) (bk hk fun c7 hc7 hk => ?_))))))
  refine pX hc7 Da Av ?_
  refine Bq (.agg [_, _, _, _, _]) (GC (lm := m4) (off := 0) hc7 Gl Av) (C9 hO Av G8 (fun b8 G hO => ?_))
  refine pA (.int _ _) ?_
  refine Cg (xs := [_, _, _, _, _]) hO 0 Av rfl (fun G hO => pg (sr ?_))
  refine Ad BT hO 1 (.lit _ _ _) DZ ?_
  refine pM (.int _ _) (bk hk fun c9 hc9 hk => ?_)
  refine pX hc9 Da Av ?_
  refine Bq (.agg [_, _, _, _, _]) (GC (lm := m8) (off := 0) hc9 Gl Av) (C9 hO Av G8 (fun b10 G hO => ?_))
  refine Cg (xs := [_, _, _, _, _]) hO 0 Av rfl (fun G hO => pg (sr ?_))
  refine Ad Az hO 1 (.int _ _) B3 ?_
  refine Ad Az hO 0 (.int _ _) B3 ?_
  refine AO ?_
  refine pM (.bool _) ?_
  refine AP (l1 := [_, _, _, _, _, _]) [50, 51, 52, 53, 54, 55] 55 (.bool ((c7.State != c9.State) || (c7.Aj != c9.Aj))) ?_ ?_
  ·refine bc (b := (c7.State != c9.State)) ?_ ?_ <;> intro hg
   ·repeat refine Bg hg ?_
    refine Cm hg (.bool _) ?_
    exact pE (ek (by rw [hg]; rfl))
   refine AA hg (pF C7 (AA hg ?_))
   refine CT hO 1 (.int _ _) B3 (AA hg ?_)
   refine pF C7 (AA hg ?_)
   refine CT hO 0 (.int _ _) B3 (AA hg ?_)
   refine AO ?_
   refine Cl hg (.bool _) ?_
   exact pE (ek (by rw [hg]; rfl))
  intro J
  refine pM (.bool _) ?_
  refine AP (l1 := [_, _, _, _, _, _]) [57, 58, 59, 60, 61, 62] 62 (.bool (((c7.State != c9.State) || (c7.Aj != c9.Aj)) || !(c7.Shown == c9.Shown))) ?_ ?_
  ·refine bc (b := ((c7.State != c9.State) || (c7.Aj != c9.Aj))) ?_ ?_ <;> intro hg
   ·repeat refine Bg hg ?_
    refine Cm hg (.bool _) ?_
    exact pE (ek (by rw [hg]; rfl))
   refine AA hg (pF DW (AA hg ?_))
   refine CT hO 1 (.bool _) Fu (AA hg ?_)
   refine pF DW (AA hg ?_)
   refine CT hO 0 (.bool _) Fu (AA hg ?_)
   refine Zu Tryz.underlying4 ?_
   refine Cl hg (.bool _) ?_
   exact pE (ek (by rw [hg]; rfl))
  intro J
  refine pM (.bool _) ?_
  refine AP (l1 := [_, _, _, _, _, _]) [64, 65, 66, 67, 68, 69] 69 (.bool ((((c7.State != c9.State) || (c7.Aj != c9.Aj)) || !(c7.Shown == c9.Shown)) || (c7.Timer != c9.Timer))) ?_ ?_
  ·refine bc (b := (((c7.State != c9.State) || (c7.Aj != c9.Aj)) || !(c7.Shown == c9.Shown))) ?_ ?_ <;> intro hg
   ·repeat refine Bg hg ?_
    refine Cm hg (.bool _) ?_
    exact pE (ek (by rw [hg]; rfl))
   refine AA hg (pF Ce (AA hg ?_))
   refine CT hO 1 (.int _ _) B3 (AA hg ?_)
   refine pF Ce (AA hg ?_)
   refine CT hO 0 (.int _ _) B3 (AA hg ?_)
   refine AO ?_
   refine Cl hg (.bool _) ?_
   exact pE (ek (by rw [hg]; rfl))
  intro J
  refine pM (.bool _) (bk hk fun t11 ht hk => ?_)
  refine AP (l1 := [_, _, _, _, _, _, _]) [71, 72, 73, 74, 75, 76, 77] 77 (.bool t11) ?_ ?_
  ·refine bc (b := ((((c7.State != c9.State) || (c7.Aj != c9.Aj)) || !(c7.Shown == c9.Shown)) || (c7.Timer != c9.Timer))) ?_ ?_ <;> intro hg
   ·replace hk := ct hg ht
    repeat refine Bg hg ?_
    refine Cm hg (.bool _) ?_
    cases hk; exact pE ek
   replace hk := cf hg ht
   refine AA hg (pF CC (AA hg ?_))
   refine CT hO 1 (.lit _ _ _) C5 (AA hg ?_)
   refine pF CC (AA hg ?_)
   refine CT hO 0 (.lit _ _ _) C5 (AA hg (bk hk fun v12 hv12 hk => ?_))
   refine AM (fun _ => Th hv12) (AA hg ?_)
   refine pU ?_
   refine Cl hg (.bool _) ?_
   cases hk; exact pE ek
  intro J
  refine pg (Ak hk ?_ ?_) <;> intro hk
  ·refine sr (pA (.bool _) (pg (Au (br (gr (gr (br (gr (have hk := lx hx1 hk; ?_)))))))))
   cases hk; exact AQ hO
  refine Ao (bn (gn (Bs (AO ?_))))
  refine pM (.int _ _) (pg ?_)
  cases hk; exact ⟨_, rfl, _, _, (pk hO [2]), sh⟩
 refine D5 (ge (ge (be (gn (have hk := lx hx1 hk; sr (pA (.bool _) (pg (Au ?_))))))))
 cases hk; exact AQ hO
def Sa (aP0 : AT) (aF1 : Frame) (x9 : Int) (c10 : AD) : Int → Option (Int ⊕ (Int ⊕ Bool)) := fun s =>
 (bif decide (s < x9) then ((bif (c10.State != 0) then ((AH aF1.A3 s).bind fun c16 => some (c16.State != 0)) else some false).bind fun t15 => ((bif t15 then ((AH aP0.Bk x9).bind fun c18 => ((AH c18 s).bind fun c19 => some c19)) else some false).bind fun t17 => (bif t17 then (((some false).map Sum.inr).map Sum.inr) else some (.inl (BE (s + 1)))))) else ((some (.inl (BE (x9 + 1)))).map Sum.inr))
def Kw (aP0 : AT) (aF1 : Frame) : Int → Option (Int ⊕ Bool) := fun s =>
 (bif decide (s < (aF1.A3.length : Int)) then ((AH aF1.A3 s).bind fun c10 => ((AH aP0.A3 s).bind fun c12 => ((Yn aP0 c10 c12).bind fun v13 => (bif !v13 then ((some false).map Sum.inr) else (AG (Sa aP0 aF1 s c10) ((0:Int))))))) else (((gN aF1).bind fun v20 => ((bW aP0 v20).bind fun z33 => ((Uz aF1 z33).bind fun v35 => some v35))).map Sum.inr))
def PR (aP0 : AT) (aF1 : Frame) : Int → Option (Int ⊕ Bool) := fun s =>
 (bif decide (s < (aF1.A1.length : Int)) then ((AH aF1.A1 s).bind fun c4 => ((RD c4.Want (1:Int) (2:Int)).bind fun v6 => ((bif !v6 then some true else ((RD c4.AJ (0:Int) (2:Int)).bind fun v8 => some (!v8))).bind fun t7 => (bif t7 then ((some false).map Sum.inr) else some (.inl (BE (s + 1))))))) else ((AG (Kw aP0 aF1) ((0:Int))).map Sum.inr))
def pS (aP0 : AT) (aF1 : Frame) : Option Bool :=
 (bif (((!aF1.Ok || ((aF1.B1.length : Int) != aP0.A0)) || ((aF1.A1.length : Int) != (aP0.A5.length : Int))) || ((aF1.A3.length : Int) != (aP0.A3.length : Int))) then some false else (AG (PR aP0 aF1) ((0:Int))))
theorem e7 (hk : pS aP0 aF1 = some r) (hlk : 0 < lk.length := by simp) (hlo : EE lk H.length := by simp [EE]) (hvm9 : m9 ≤ lk.length := by simp only [an, cn]; omega) : Am ai hh 80 [.agg (AY l1 0 l2 m3 l4 m5 aP0), .agg (Ah l6 0 l7 0 l8 m9 aF1)] H lk = some (.bool r, H) := by
 refine AF Tryz.func80 rfl Tryz.ntmps80 Tryz.results80 rfl rfl fun hO => ?_
 unfold pS at hk
 refine sr (BR (cs := [_, _, _, _, _]) hO C0 (fun b1 G hO => ?_))
 refine BR (cs := [_, _, _, _]) hO BZ (fun b2 G hO => ?_)
 refine pA (.bool _) (pg (AV (sr ?_)))
 refine Ad NL hO 0 (.bool _) Fu ?_
 refine pU ?_
 refine pM (.bool _) ?_
 refine AP (l1 := [_, _, _, _, _, _, _]) [15, 16, 17, 18, 19, 20, 21] 21 (.bool (!aF1.Ok || ((aF1.B1.length : Int) != aP0.A0))) ?_ ?_
 ·refine bc (b := !aF1.Ok) ?_ ?_ <;> intro hg
  ·repeat refine Bg hg ?_
   refine Cm hg (.bool _) ?_
   exact pE (ek (by rw [hg]; rfl))
  refine AA hg (pF CP (AA hg ?_))
  refine CT hO 0 (.lit _ _ _) C5 (AA hg ?_)
  refine Ae Hj (AA hg ?_)
  refine pF ES (AA hg ?_)
  refine CT hO 1 (.int _ _) B3 (AA hg ?_)
  refine AO ?_
  refine Cl hg (.bool _) ?_
  exact pE (ek (by rw [hg]; rfl))
 intro J
 refine pM (.bool _) ?_
 refine AP (l1 := [_, _, _, _, _, _, _, _]) [23, 24, 25, 26, 27, 28, 29, 30] 30 (.bool ((!aF1.Ok || ((aF1.B1.length : Int) != aP0.A0)) || ((aF1.A1.length : Int) != (aP0.A5.length : Int)))) ?_ ?_
 ·refine bc (b := (!aF1.Ok || ((aF1.B1.length : Int) != aP0.A0))) ?_ ?_ <;> intro hg
  ·repeat refine Bg hg ?_
   refine Cm hg (.bool _) ?_
   exact pE (ek (by rw [hg]; rfl))
  refine AA hg (pF Cv (AA hg ?_))
  refine CT hO 0 (.lit _ _ _) H9 (AA hg ?_)
  refine Ae O3 (AA hg ?_)
  refine pF D4 (AA hg ?_)
  refine CT hO 1 (.lit _ _ _) BN (AA hg ?_)
  refine Ae DA (AA hg ?_)
  refine AO ?_
  refine Cl hg (.bool _) ?_
  exact pE (ek (by rw [hg]; rfl))
 intro J
 refine pM (.bool _) ?_
 refine AP (l1 := [_, _, _, _, _, _, _, _]) [32, 33, 34, 35, 36, 37, 38, 39] 39 (.bool (((!aF1.Ok || ((aF1.B1.length : Int) != aP0.A0)) || ((aF1.A1.length : Int) != (aP0.A5.length : Int))) || ((aF1.A3.length : Int) != (aP0.A3.length : Int)))) ?_ ?_
 ·refine bc (b := ((!aF1.Ok || ((aF1.B1.length : Int) != aP0.A0)) || ((aF1.A1.length : Int) != (aP0.A5.length : Int)))) ?_ ?_ <;> intro hg
  ·repeat refine Bg hg ?_
   refine Cm hg (.bool _) ?_
   exact pE (ek (by rw [hg]; rfl))
  refine AA hg (pF BT (AA hg ?_))
  refine CT hO 0 (.lit _ _ _) DZ (AA hg ?_)
  refine Ae Hk (AA hg ?_)
  refine pF BY (AA hg ?_)
  refine CT hO 1 (.lit _ _ _) Df (AA hg ?_)
  refine Ae Im (AA hg ?_)
  refine AO ?_
  refine Cl hg (.bool _) ?_
  exact pE (ek (by rw [hg]; rfl))
 intro J
 refine pg (Ak hk ?_ ?_) <;> intro hk
 ·refine sr (pA (.bool _) (pg (Au (gr ?_))))
  cases hk; exact AQ hO
 refine Ao (gn (AV (sr (Ad Cv hO 0 (.lit _ _ _) H9 ?_))))
 refine Ae O3 ?_
 refine pM (.int _ _) (pg (BO ?_))
 refine A9 (F := PR aP0 aF1) (fun s S' => ∃ J G, A4 H G [.AW b2 (.cells 4 (Ah l6 0 l7 0 l8 m9 aF1)), .AW b1 (.cells 5 (AY l1 0 l2 m3 l4 m5 aP0))] ∧ S' = ⟨CM [(2, .ptr b1 0),(3, .ptr b2 0),(41, AK l7 0 aF1.A1),(42, iv (aF1.A1.length : Int)),(43, iv s)] J, G⟩) hk ⟨_, _, hO, sh⟩ ?_
 rintro x3 _ y1 ⟨J, G, hO, rfl⟩ hk hx1
 refine sr (AO (pg (AV (Ak hk ?_ ?_)))) <;> intro hk
 ·refine Ao (gn (AV (BO (sr (bk hk fun c4 hc4 hk => pX hc4 Gm Dq ?_)))))
  refine Bq (.agg [_, _]) (GC (lm := 0) (off := 0) hc4 TM Dq) (C9 hO Dq UQ (fun b5 G hO => ?_))
  refine Cg (xs := [_, _]) hO 0 Dq rfl (fun G hO => pg (sr ?_))
  refine Ad GA hO 0 (.int _ _) B3 (bk hk fun v6 hv6 hk => ?_)
  refine AM (fun _ => Dk hv6) ?_
  refine pU ?_
  refine pM (.bool _) (bk hk fun t7 ht hk => ?_)
  refine AP (l1 := [_, _, _, _, _]) [52, 53, 54, 55, 56] 56 (.bool t7) ?_ ?_
  ·refine bc (b := !v6) ?_ ?_ <;> intro hg
   ·replace hk := ct hg ht
    repeat refine Bg hg ?_
    refine Cm hg (.bool _) ?_
    cases hk; exact pE ek
   replace hk := cf hg ht
   refine AA hg (pF IN (AA hg ?_))
   refine CT hO 0 (.int _ _) B3 (AA hg (bk hk fun v8 hv8 hk => ?_))
   refine AM (fun _ => Dk hv8) (AA hg ?_)
   refine pU ?_
   refine Cl hg (.bool _) ?_
   cases hk; exact pE ek
  intro J
  refine pg (Ak hk ?_ ?_) <;> intro hk
  ·refine sr (pA (.bool _) (pg (Au (br (gr (gr (br (gr (have hk := lx hx1 hk; ?_)))))))))
   cases hk; exact AQ hO
  refine Ao (bn (gn (Bs (AO ?_))))
  refine pM (.int _ _) (pg ?_)
  cases hk; exact ⟨_, rfl, _, _, (pk hO [1, 2]), sh⟩
 refine D5 (ge (ge (be (gn (have hk := lx hx1 hk; AV (sr (Ad BT hO 0 (.lit _ _ _) DZ ?_)))))))
 refine Ae Hk ?_
 refine pM (.int _ _) (pg (BO ?_))
 refine A9 (F := Kw aP0 aF1) (fun s S' => ∃ J G, A4 H G [.AW b2 (.cells 4 (Ah l6 0 l7 0 l8 m9 aF1)), .AW b1 (.cells 5 (AY l1 0 l2 m3 l4 m5 aP0))] ∧ S' = ⟨CM [(2, .ptr b1 0),(3, .ptr b2 0),(59, AK l8 m9 aF1.A3),(60, iv (aF1.A3.length : Int)),(61, iv s)] J, G⟩) hk ⟨_, _, hO, sh⟩ ?_
 rintro x9 _ y1 ⟨J, G, hO, rfl⟩ hk hx1
 refine sr (AO (pg (AV (Ak hk ?_ ?_)))) <;> intro hk
 ·refine Ao (gn (AV (BO (sr (pM (.int _ _) (bk hk fun c10 hc10 hk => ?_))))))
  refine pX hc10 Da Av ?_
  refine Bq (.agg [_, _, _, _, _]) (GC (lm := m9) (off := 0) hc10 Gl Av) (C9 hO Av G8 (fun b11 G hO => ?_))
  refine pA (.int _ _) ?_
  refine Cg (xs := [_, _, _, _, _]) hO 0 Av rfl (fun G hO => pg (AV (AV ?_)))
  refine HY [1,3,5,7,9,11,13,14,16] [_,_,_,_,_,_,_,_,_] ?_
  refine D9 hO 2 [_, _, _, _, _] EP C0 ?_
  refine D9 hO 0 [_, _, _, _, _] Gl Av ?_
  refine Ad BY hO 2 (.lit _ _ _) Df ?_
  refine pM (.int _ _) (bk hk fun c12 hc12 hk => ?_)
  refine pX hc12 EY Ay ?_
  refine Bq (.agg [_, _, _, _, _]) (GC (lm := m3) (off := 0) hc12 Ec Ay) (bk hk fun v13 hv13 hk => ?_)
  refine AM (fun _ => Yo hv13) ?_
  refine pU (pg (Ak hk ?_ ?_)) <;> intro hk
  ·refine sr (pA (.bool _) (pg (Au (gr (br (gr (gr (br (gr (have hk := lx hx1 hk; ?_))))))))))
   cases hk; exact AQ hO
  refine Ao (gn (sr (pM (.int _ _) ?_)))
  refine pM (.int _ _) (pg (BO ?_))
  refine A9 (F := Sa aP0 aF1 x9 c10) (fun s S' => ∃ J G, A4 H G [.AW b11 (.cells 5 [iv c10.State, iv c10.Aj, AK m9 0 c10.Ac, .bool c10.Shown, iv c10.Timer]), .AW b2 (.cells 4 (Ah l6 0 l7 0 l8 m9 aF1)), .AW b1 (.cells 5 (AY l1 0 l2 m3 l4 m5 aP0))] ∧ S' = ⟨CM [(2, .ptr b1 0),(3, .ptr b2 0),(7, iv x9),(8, .ptr b11 0),(59, AK l8 m9 aF1.A3),(60, iv (aF1.A3.length : Int)),(61, iv x9),(75, iv x9),(76, iv s)] J, G⟩) hk ⟨_, _, hO, sh⟩ ?_
  rintro x14 _ y2 ⟨J, G, hO, rfl⟩ hk hx2
  refine sr (AO (pg (AV (Ak hk ?_ ?_)))) <;> intro hk
  ·refine Ao (gn (AV (BO (sr (pM (.int _ _) ?_)))))
   refine pA (.int _ _) (pg (sr ?_))
   refine Ad Az hO 0 (.int _ _) B3 ?_
   refine AO ?_
   refine pM (.bool _) (bk hk fun t15 ht hk => ?_)
   refine AP (l1 := [_, _, _, _, _, _, _, _]) [83, 84, 85, 86, 87, 88, 89, 90] 90 (.bool t15) ?_ ?_
   ·refine bc (b := (c10.State != 0)) ?_ ?_ <;> intro hg
    ·replace hk := ct hg ht
     refine AA hg (pF BT (AA hg ?_))
     refine CT hO 1 (.lit _ _ _) DZ (AA hg ?_)
     refine pM (.int _ _) (AA hg (bk hk fun c16 hc16 hk => ?_))
     refine pX hc16 Da Av (AA hg ?_)
     refine pF Az (AA hg ?_)
     refine Bq (.int _ _) (Cu (lm := m9) (off := 0) hc16 B3) (AA hg ?_)
     refine AO ?_
     refine Cm hg (.bool _) ?_
     cases hk; exact pE ek
    replace hk := cf hg ht
    repeat refine Bg hg ?_
    refine Cl hg (.bool _) ?_
    cases hk; exact pE ek
   intro J
   refine pM (.bool _) (bk hk fun t17 ht hk => ?_)
   refine AP (l1 := [_, _, _, _, _, _, _, _, _]) [92, 93, 94, 95, 96, 97, 98, 99, 100] 100 (.bool t17) ?_ ?_
   ·refine bc (b := t15) ?_ ?_ <;> intro hg
    ·replace hk := ct hg ht
     refine AA hg (pF Er (AA hg ?_))
     refine CT hO 2 (.lit _ _ _) JX (AA hg ?_)
     refine pM (.int _ _) (AA hg (bk hk fun c18 hc18 hk => ?_))
     refine pX hc18 JZ Gs (AA hg ?_)
     refine Bq (.lit _ _ _) (Cu (lm := m5) (off := 0) hc18 C5) (AA hg ?_)
     refine pM (.int _ _) (AA hg (bk hk fun c19 hc19 hk => ?_))
     refine pX hc19 Cd Eu (AA hg ?_)
     refine Bq (.bool _) (Cu (lm := 0) (off := 0) hc19 Fu) ?_
     refine Cm hg (.bool _) ?_
     cases hk; exact pE ek
    replace hk := cf hg ht
    repeat refine Bg hg ?_
    refine Cl hg (.bool _) ?_
    cases hk; exact pE ek
   intro J
   refine pg (Ak hk ?_ ?_) <;> intro hk
   ·refine sr (pA (.bool _) (pg (Au (br (gr (gr (br (br (gr (gr (br (gr (have hk := lx hx2 hk; have hk := lx hx1 hk; ?_)))))))))))))
    cases hk; exact AQ hO
   refine Ao (bn (gn (Bs (AO ?_))))
   refine pM (.int _ _) (pg ?_)
   cases hk; exact ⟨_, rfl, _, _, hO, sh⟩
  refine D5 (ge (ge (be (bn (gn (have hk := lx hx2 hk; Bs (AO ?_)))))))
  refine pM (.int _ _) (pg ?_)
  cases hk; exact ⟨_, rfl, _, _, (pk hO [1, 2]), sh⟩
 refine D5 (ge (ge (be (gn (have hk := lx hx1 hk; sr (D9 hO 0 [_, _, _, _] DT BZ (bk hk fun v20 hv20 hk => ?_)))))))
 refine K8 hO (fun _ => WV (m4 := m9) hv20) (fun u21 F21 G hO => ?_)
 replace hO : A4 H G (AI [] _ ((v20.Ok, v20.B1, v20.A1, v20.A3) : Bool × (List Bool) × (List AZ) × (List AD)) _ :: [.AW b2 (.cells 4 (Ah l6 0 l7 0 l8 m9 aF1)), .AW b1 (.cells 5 (AY l1 0 l2 m3 l4 m5 aP0))]) := hO
 obtain ⟨cs22, Fb22, he, hP⟩ := A4.TI hO
 clear hO; subst he; have hO := hP; clear hP
 obtain ⟨u23, cs23, F23, Fb23, he, hP⟩ := A4.KD hO
 clear hO; subst he; have hO := hP; clear hP
 obtain ⟨u25, cs25, F25, Fb25, he, hP⟩ := A4.KD hO
 clear hO; subst he; have hO := hP; clear hP
 obtain ⟨u27, rfl⟩ := A4.Wg hO
 refine C9 hO BZ Qx (fun b29 G hO => ?_)
 have hc30 := AN hO (j := 3) rfl
 have hc31 := AN hO (j := 2) rfl
 have hc32 := AN hO (j := 1) rfl
 refine Cg (xs := [_, _, _, _]) hO 0 BZ rfl (fun G hO => ?_) (h6 := (Aa rfl (Aa hc30.2 (Aa hc31.2 (Aa hc32.2 DL)))))
 refine pg (sr (D9 hO 5 [_, _, _, _, _] EP C0 ?_))
 replace hO := (A4.pick hO [0, 3, 2, 1, 4, 5] (by decide) rfl : A4 H G ([.AW b29 (.cells 4 [.bool v20.Ok, u23, u25, u27]), AI [] F23 v20.B1 [u23], AI [] F25 v20.A1 [u25], AI [] Fb25 v20.A3 [u27]] ++ [.AW b2 (.cells 4 (Ah l6 0 l7 0 l8 m9 aF1)), .AW b1 (.cells 5 (AY l1 0 l2 m3 l4 m5 aP0))]))
 refine bk hk fun z33 hz33 hk => Vj (rs0 := [.AW b29 (.cells 4 [.bool v20.Ok, u23, u25, u27]), AI [] F23 v20.B1 [u23], AI [] F25 v20.A1 [u25], AI [] Fb25 v20.A3 [u27]]) (rs1 := fun (Fs34 : List Nat × List Nat × List Nat) => [.AW b29 (.cells 4 [.bool z33.Ok, u23, u25, u27]), AI [] Fs34.1 z33.B1 [u23], AI [] Fs34.2.1 z33.A1 [u25], AI [] Fs34.2.2 z33.A3 [u27]]) (rest := [.AW b2 (.cells 4 (Ah l6 0 l7 0 l8 m9 aF1)), .AW b1 (.cells 5 (AY l1 0 l2 m3 l4 m5 aP0))]) (S := (b29 :: (F23 ++ (F25 ++ (Fb25 ++ []))))) hO hlo rfl (IK rfl) (GY rfl) (A4.lo hO) (fun _ hl1 hlt1 hun1 ho1 => WW hz33 ho1 hun1 hlt1 hl1) (fun _ => (JU rfl (JU rfl (JU rfl (JU rfl Xg))))) (fun Fs34 G hO => pg (sr ?_))
 refine D9 hO 4 [_, _, _, _] DT BZ ?_
 refine D9 hO 0 [_, _, _, _] DT BZ (bk hk fun v35 hv35 hk => ?_)
 obtain ⟨_, hm36⟩ := Nh hO (j := 3) rfl (lk.length + 1) 7
 obtain ⟨_, hm37⟩ := G3 hO (j := 2) rfl (lk.length + 1) 7
 obtain ⟨_, hm38⟩ := G3 hO (j := 1) rfl (lk.length + 1) 7
 refine AM (vs := [(.agg [_, _, _, _]), (.agg [_, _, _, _])]) (caps := []) (fun _ => Yp hv35) ?_ (h3 := (B9 rfl (B9 (L9 (CB rfl (CB hm38 (CB hm37 (CB hm36 LA))))) EB)))
 refine pA (.bool _) (pg (Au ?_))
 cases hk; exact AQ hO
def mT (aP0 : AT) (aF1 : Frame) : Option Bool :=
 ((nK aP0).bind fun v3 => ((bif v3 then ((pS aP0 aF1).bind fun v5 => some v5) else some false).bind fun t4 => some t4))
theorem cY (hk : mT aP0 aF1 = some r) (hlk : 0 < lk.length := by simp) (hlo : EE lk H.length := by simp [EE]) (hvm9 : m9 ≤ lk.length := by simp only [an, cn]; omega) : Am ai hh 45 [.agg (AY l1 0 l2 m3 l4 m5 aP0), .agg (Ah l6 0 l7 0 l8 m9 aF1)] H lk = some (.bool r, H) := by
 refine AF Tryz.func45 rfl Tryz.ntmps45 Tryz.results45 rfl rfl fun hO => ?_
 unfold mT at hk
 refine sr (BR (cs := [_, _, _, _, _]) hO C0 (fun b1 G hO => ?_))
 refine BR (cs := [_, _, _, _]) hO BZ (fun b2 G hO => ?_)
 refine pA (.bool _) (pg (sr ?_))
 refine D9 hO 1 [_, _, _, _, _] EP C0 (bk hk fun v3 hv3 hk => ?_)
 refine AM (fun _ => e6 hv3) ?_
 refine pM (.bool _) (bk hk fun t4 ht hk => ?_)
 refine AP (l1 := [_, _, _, _]) [8, 9, 10, 11] 11 (.bool t4) ?_ ?_
 ·refine bc (b := v3) ?_ ?_ <;> intro hg
  ·replace hk := ct hg ht
   refine AA hg (D9 hO 1 [_, _, _, _, _] EP C0 (AA hg ?_))
   refine D9 hO 0 [_, _, _, _] DT BZ (AA hg (bk hk fun v5 hv5 hk => ?_))
   refine Vk hO hlo rfl (fun _ hl => e7 (m9 := m9) hv5 (hlo := hl)) ?_
   refine Cm hg (.bool _) ?_
   cases hk; exact pE ek
  replace hk := cf hg ht
  refine Bg hg (Bg hg (Bg hg (Cl hg (.bool _) ?_)))
  cases hk; exact pE ek
 intro J
 refine pA (.bool _) (pg (Au ?_))
 cases hk; exact AQ hO
def V6 (aP0 : AT) (aE1 : BH) (x5 : Bool) : Option Bool :=
 (bif x5 then ((RD aE1.Of (0:Int) (BE (aP0.A0 - 1))).bind fun v6 => some (v6 && (aE1.CK == 0))) else (bif (aE1.Op == 5) then ((RD aE1.Of (0:Int) (BE ((aP0.A5.length : Int) - 1))).bind fun v7 => ((bif v7 then ((RD aE1.CK (0:Int) (2:Int)).bind fun v9 => some v9) else some false).bind fun t8 => some t8)) else (bif (aE1.Op == 6) then ((RD aE1.Of (0:Int) (BE ((aP0.A5.length : Int) - 1))).bind fun v10 => ((bif v10 then ((RD aE1.CK (1:Int) (2:Int)).bind fun v12 => some v12) else some false).bind fun t11 => some t11)) else (bif (aE1.Op == 7) then some ((aE1.Of == 0) && (aE1.CK == 0)) else some false))))
def V5 (aP0 : AT) (aE1 : BH) (x3 : Bool) : Option Bool :=
 (bif x3 then ((RD aE1.Of (0:Int) (BE ((aP0.A3.length : Int) - 1))).bind fun v4 => some (v4 && (aE1.CK == 0))) else (bif (aE1.Op == 3) then (V6 aP0 aE1 (aE1.Op == 3)) else (V6 aP0 aE1 (aE1.Op == 4))))
def pQ (aP0 : AT) (aE1 : BH) : Option Bool :=
 (bif (aE1.Op == 1) then (V5 aP0 aE1 (aE1.Op == 1)) else (V5 aP0 aE1 (aE1.Op == 2)))
theorem dO (hk : pQ aP0 aE1 = some r) (hlk : 0 < lk.length := by simp) : Am ai hh 67 [.agg (AY l1 0 l2 m3 l4 m5 aP0), .agg [iv aE1.Op, iv aE1.Of, iv aE1.CK]] H lk = some (.bool r, H) := by
 refine AF Tryz.func67 rfl Tryz.ntmps67 Tryz.results67 rfl rfl fun hO => ?_
 unfold pQ at hk
 refine sr (BR (cs := [_, _, _, _, _]) hO C0 (fun b1 G hO => ?_))
 refine BR (cs := [_, _, _]) hO NO (fun b2 G hO => ?_)
 refine pA (.bool _) (pg (AV (sr ?_)))
 refine Ad QV hO 0 (.int _ _) B3 (pg (BO ?_))
 refine By (fun S' => ∃ x3 J G, V5 aP0 aE1 x3 = some r ∧ A4 H G [.AW b2 (.cells 3 [iv aE1.Op, iv aE1.Of, iv aE1.CK]), .AW b1 (.cells 5 (AY l1 0 l2 m3 l4 m5 aP0))] ∧ S' = ⟨CM [(2, .ptr b1 0),(3, .ptr b2 0),(6, iv aE1.Op),(7, .bool x3)] J, G⟩) ?_ ?_
 ·refine sr (AO ?_)
  refine pA (.bool _) (pg (Ak hk ?_ ?_)) <;> intro hk
  ·exact Ao (gn (⟨(aE1.Op == 1), _, _, hk, hO, sh⟩))
  refine Bs (AO ?_)
  refine pA (.bool _) (pg ?_)
  exact ⟨(aE1.Op == 2), _, _, hk, hO, sh⟩
 rintro _ ⟨x3, J, G, hk, hO, rfl⟩
 refine Ak hk ?_ ?_ <;> intro hk
 ·refine sr (Ad CS hO 0 (.int _ _) B3 ?_)
  refine Ad BY hO 1 (.lit _ _ _) Df ?_
  refine Ae Im ?_
  refine AO (bk hk fun v4 hv4 hk => ?_)
  refine AM (fun _ => Dk hv4) ?_
  refine pM (.bool _) ?_
  refine AP (l1 := [_, _, _, _]) [18, 19, 20, 21] 21 (.bool (v4 && (aE1.CK == 0))) ?_ ?_
  ·refine bc (b := v4) ?_ ?_ <;> intro hg
   ·refine AA hg (pF Fb (AA hg ?_))
    refine CT hO 0 (.int _ _) B3 (AA hg ?_)
    refine AO ?_
    refine Cm hg (.bool _) ?_
    exact pE (ek (by rw [hg]; rfl))
   refine Bg hg (Bg hg (Bg hg (Cl hg (.bool _) ?_)))
   exact pE (ek (by rw [hg]; rfl))
  intro J
  refine pA (.bool _) (pg (Au (br (gr ?_))))
  cases hk; exact AQ hO
 refine By (fun S' => ∃ x5 J G, V6 aP0 aE1 x5 = some r ∧ A4 H G [.AW b2 (.cells 3 [iv aE1.Op, iv aE1.Of, iv aE1.CK]), .AW b1 (.cells 5 (AY l1 0 l2 m3 l4 m5 aP0))] ∧ S' = ⟨CM [(2, .ptr b1 0),(3, .ptr b2 0),(6, iv aE1.Op),(22, .bool x5)] J, G⟩) ?_ ?_
 ·refine sr (AO ?_)
  refine pA (.bool _) (pg (Ak hk ?_ ?_)) <;> intro hk
  ·exact Ao (gn (⟨(aE1.Op == 3), _, _, hk, hO, sh⟩))
  refine Bs (AO ?_)
  refine pA (.bool _) (pg ?_)
  exact ⟨(aE1.Op == 4), _, _, hk, hO, sh⟩
 rintro _ ⟨x5, J, G, hk, hO, rfl⟩
 refine Ak hk ?_ ?_ <;> intro hk
 ·refine sr (Ad CS hO 0 (.int _ _) B3 ?_)
  refine Ad ES hO 1 (.int _ _) B3 ?_
  refine AO (bk hk fun v6 hv6 hk => ?_)
  refine AM (fun _ => Dk hv6) ?_
  refine pM (.bool _) ?_
  refine AP (l1 := [_, _, _, _]) [32, 33, 34, 35] 35 (.bool (v6 && (aE1.CK == 0))) ?_ ?_
  ·refine bc (b := v6) ?_ ?_ <;> intro hg
   ·refine AA hg (pF Fb (AA hg ?_))
    refine CT hO 0 (.int _ _) B3 (AA hg ?_)
    refine AO ?_
    refine Cm hg (.bool _) ?_
    exact pE (ek (by rw [hg]; rfl))
   refine Bg hg (Bg hg (Bg hg (Cl hg (.bool _) ?_)))
   exact pE (ek (by rw [hg]; rfl))
  intro J
  refine pA (.bool _) (pg (Au (br (gr ?_))))
  cases hk; exact AQ hO
 refine sr (AO ?_)
 refine pA (.bool _) (pg (Ak hk ?_ ?_)) <;> intro hk
 ·refine sr (Ad CS hO 0 (.int _ _) B3 ?_)
  refine Ad D4 hO 1 (.lit _ _ _) BN ?_
  refine Ae DA ?_
  refine AO (bk hk fun v7 hv7 hk => ?_)
  refine AM (fun _ => Dk hv7) ?_
  refine pM (.bool _) (bk hk fun t8 ht hk => ?_)
  refine AP (l1 := [_, _, _, _]) [46, 47, 48, 49] 49 (.bool t8) ?_ ?_
  ·refine bc (b := v7) ?_ ?_ <;> intro hg
   ·replace hk := ct hg ht
    refine AA hg (pF Fb (AA hg ?_))
    refine CT hO 0 (.int _ _) B3 (AA hg (bk hk fun v9 hv9 hk => ?_))
    refine AM (fun _ => Dk hv9) ?_
    refine Cm hg (.bool _) ?_
    cases hk; exact pE ek
   replace hk := cf hg ht
   refine Bg hg (Bg hg (Bg hg (Cl hg (.bool _) ?_)))
   cases hk; exact pE ek
  intro J
  refine pA (.bool _) (pg (Au (br (gr ?_))))
  cases hk; exact AQ hO
 refine sr (AO ?_)
 refine pA (.bool _) (pg (Ak hk ?_ ?_)) <;> intro hk
 ·refine sr (Ad CS hO 0 (.int _ _) B3 ?_)
  refine Ad D4 hO 1 (.lit _ _ _) BN ?_
  refine Ae DA ?_
  refine AO (bk hk fun v10 hv10 hk => ?_)
  refine AM (fun _ => Dk hv10) ?_
  refine pM (.bool _) (bk hk fun t11 ht hk => ?_)
  refine AP (l1 := [_, _, _, _]) [60, 61, 62, 63] 63 (.bool t11) ?_ ?_
  ·refine bc (b := v10) ?_ ?_ <;> intro hg
   ·replace hk := ct hg ht
    refine AA hg (pF Fb (AA hg ?_))
    refine CT hO 0 (.int _ _) B3 (AA hg (bk hk fun v12 hv12 hk => ?_))
    refine AM (fun _ => Dk hv12) ?_
    refine Cm hg (.bool _) ?_
    cases hk; exact pE ek
   replace hk := cf hg ht
   refine Bg hg (Bg hg (Bg hg (Cl hg (.bool _) ?_)))
   cases hk; exact pE ek
  intro J
  refine pA (.bool _) (pg (Au (br (gr ?_))))
  cases hk; exact AQ hO
 refine sr (AO ?_)
 refine pA (.bool _) (pg (Ak hk ?_ ?_)) <;> intro hk
 ·refine sr (Ad CS hO 0 (.int _ _) B3 ?_)
  refine AO ?_
  refine pM (.bool _) ?_
  refine AP (l1 := [_, _, _, _]) [70, 71, 72, 73] 73 (.bool ((aE1.Of == 0) && (aE1.CK == 0))) ?_ ?_
  ·refine bc (b := (aE1.Of == 0)) ?_ ?_ <;> intro hg
   ·refine AA hg (pF Fb (AA hg ?_))
    refine CT hO 0 (.int _ _) B3 (AA hg ?_)
    refine AO ?_
    refine Cm hg (.bool _) ?_
    exact pE (ek (by rw [hg]; rfl))
   refine Bg hg (Bg hg (Bg hg (Cl hg (.bool _) ?_)))
   exact pE (ek (by rw [hg]; rfl))
  intro J
  refine pA (.bool _) (pg (Au (br (gr ?_))))
  cases hk; exact AQ hO
 refine Ao (bn (gn (sr (pA (.bool _) (pg (Au ?_))))))
 cases hk; exact AQ hO
def pT (aT0 : Af) (aA1 : Int) : Option Bool :=
 some (aT0.Switch == aA1)
theorem e8 (hk : pT aT0 aA1 = some r) (hq0 : H[q0]? = some (.cells 1 [iv aA1])) (hlk : 0 < lk.length := by simp) : Am ai hh 82 [.agg [iv aT0.Switch, iv aT0.CK], .ptr q0 0] H lk = some (.bool r, H) := by
 refine AF Tryz.func82 rfl Tryz.ntmps82 Tryz.results82 rfl rfl fun hO => ?_
 unfold pT at hk
 refine sr (BR (cs := [_, _]) hO BA (fun b1 G hO => ?_))
 refine pA (.bool _) (pg (sr ?_))
 refine Ad CU hO 0 (.int _ _) B3 ?_
 refine qA (.int _ _) hO hq0 B3 ?_
 refine AO ?_
 refine pA (.bool _) (pg (Au ?_))
 cases hk; exact AQ hO
def Iw (aS0 : List Af) (aC1_0 : Int) : Int → Option (Int ⊕ Int) := fun s =>
 (bif decide (s < (aS0.length : Int)) then ((AH aS0 s).bind fun c2 => ((pT c2 aC1_0).bind fun v3 => (bif v3 then ((some s).map Sum.inr) else some (.inl (BE (s + 1)))))) else ((some (-1:Int)).map Sum.inr))
def Ld (aS0 : List Af) (aC1_0 : Int) : Option Int :=
 (AG (Iw aS0 aC1_0) ((0:Int)))
theorem Td (hk : Ld aS0 aC1_0 = some r) (hq0 : H[q0]? = some (.cells 1 [iv aC1_0])) (hlk : 0 < lk.length := by simp) : Am ai hh 110 [AK l1 0 aS0, .fn 82 [.ptr q0 0]] H lk = some (iv r, H) := by
 refine AF Tryz.func110 rfl Tryz.ntmps110 Tryz.results110 rfl rfl fun hO => ?_
 unfold Ld at hk
 refine sr (pA (.int _ _) (pg (AV (sr ?_))))
 refine pM (.lit _ _ _) ?_
 refine Ae FF ?_
 refine pM (.int _ _) (pg (BO ?_))
 refine A9 (F := Iw aS0 aC1_0) (fun s S' => ∃ J G, A4 H G [] ∧ S' = ⟨CM [(0, AK l1 0 aS0),(1, .fn 82 [.ptr q0 0]),(7, iv (aS0.length : Int)),(8, iv s)] J, G⟩) hk ⟨_, _, hO, sh⟩ ?_
 rintro x1 _ y1 ⟨J, G, hO, rfl⟩ hk hx1
 refine sr (AO (pg (AV (Ak hk ?_ ?_)))) <;> intro hk
 ·refine Ao (gn (AV (BO (sr (pM (.int _ _) ?_)))))
  refine pA (.int _ _) (pg (sr ?_))
  refine pM (.fn _ _) ?_
  refine pM (.lit _ _ _) ?_
  refine pM (.int _ _) (bk hk fun c2 hc2 hk => ?_)
  refine pX hc2 Dy BA ?_
  refine Bq (.agg [_, _]) (GC (lm := 0) (off := 0) hc2 G9 BA) (bk hk fun v3 hv3 hk => ?_)
  refine AM (fun _ => e8 hv3 (I5 hO hq0)) (pg (Ak hk ?_ ?_)) <;> intro hk
  ·refine sr (pM (.int _ _) ?_)
   refine pA (.int _ _) (pg (Au (br (gr (gr (br (gr (have hk := lx hx1 hk; ?_))))))))
   cases hk; exact AQ hO
  refine Ao (bn (gn (Bs (AO ?_))))
  refine pM (.int _ _) (pg ?_)
  cases hk; exact ⟨_, rfl, _, _, hO, sh⟩
 refine D5 (ge (ge (be (gn (have hk := lx hx1 hk; sr (pA (.int _ _) (pg (Au ?_))))))))
 cases hk; exact AQ hO
def PS (aS0 : List Af) (aC1_0 : Int) : Option Bool :=
 ((Ld aS0 aC1_0).bind fun v1 => some (decide (v1 ≥ 0)))
theorem V7 (hk : PS aS0 aC1_0 = some r) (hq0 : H[q0]? = some (.cells 1 [iv aC1_0])) (hlk : 0 < lk.length := by simp) : Am ai hh 81 [AK l1 0 aS0, .fn 82 [.ptr q0 0]] H lk = some (.bool r, H) := by
 refine AF Tryz.func81 rfl Tryz.ntmps81 Tryz.results81 rfl rfl fun hO => ?_
 unfold PS at hk
 refine sr (pA (.bool _) (pg (sr ?_)))
 refine pM (.lit _ _ _) ?_
 refine pM (.fn _ _) (bk hk fun v1 hv1 hk => ?_)
 refine AM (fun _ => Td hv1 (I5 hO hq0)) ?_
 refine AO ?_
 refine pA (.bool _) (pg (Au ?_))
 cases hk; exact AQ hO
def pW (aT0 : Af) (aA1 : Int) : Option Bool :=
 some (aT0.Switch == aA1)
theorem e9 (hk : pW aT0 aA1 = some r) (hq0 : H[q0]? = some (.cells 1 [iv aA1])) (hlk : 0 < lk.length := by simp) : Am ai hh 83 [.agg [iv aT0.Switch, iv aT0.CK], .ptr q0 0] H lk = some (.bool r, H) := by
 refine AF Tryz.func83 rfl Tryz.ntmps83 Tryz.results83 rfl rfl fun hO => ?_
 unfold pW at hk
 refine sr (BR (cs := [_, _]) hO BA (fun b1 G hO => ?_))
 refine pA (.bool _) (pg (sr ?_))
 refine Ad CU hO 0 (.int _ _) B3 ?_
 refine qA (.int _ _) hO hq0 B3 ?_
 refine AO ?_
 refine pA (.bool _) (pg (Au ?_))
 cases hk; exact AQ hO
def Ix (aS0 : List Af) (aC1_0 : Int) : Int → Option (Int ⊕ Int) := fun s =>
 (bif decide (s < (aS0.length : Int)) then ((AH aS0 s).bind fun c2 => ((pW c2 aC1_0).bind fun v3 => (bif v3 then ((some s).map Sum.inr) else some (.inl (BE (s + 1)))))) else ((some (-1:Int)).map Sum.inr))
def Le (aS0 : List Af) (aC1_0 : Int) : Option Int :=
 (AG (Ix aS0 aC1_0) ((0:Int)))
theorem Te (hk : Le aS0 aC1_0 = some r) (hq0 : H[q0]? = some (.cells 1 [iv aC1_0])) (hlk : 0 < lk.length := by simp) : Am ai hh 110 [AK l1 0 aS0, .fn 83 [.ptr q0 0]] H lk = some (iv r, H) := by
 refine AF Tryz.func110 rfl Tryz.ntmps110 Tryz.results110 rfl rfl fun hO => ?_
 unfold Le at hk
 refine sr (pA (.int _ _) (pg (AV (sr ?_))))
 refine pM (.lit _ _ _) ?_
 refine Ae FF ?_
 refine pM (.int _ _) (pg (BO ?_))
 refine A9 (F := Ix aS0 aC1_0) (fun s S' => ∃ J G, A4 H G [] ∧ S' = ⟨CM [(0, AK l1 0 aS0),(1, .fn 83 [.ptr q0 0]),(7, iv (aS0.length : Int)),(8, iv s)] J, G⟩) hk ⟨_, _, hO, sh⟩ ?_
 rintro x1 _ y1 ⟨J, G, hO, rfl⟩ hk hx1
 refine sr (AO (pg (AV (Ak hk ?_ ?_)))) <;> intro hk
 ·refine Ao (gn (AV (BO (sr (pM (.int _ _) ?_)))))
  refine pA (.int _ _) (pg (sr ?_))
  refine pM (.fn _ _) ?_
  refine pM (.lit _ _ _) ?_
  refine pM (.int _ _) (bk hk fun c2 hc2 hk => ?_)
  refine pX hc2 Dy BA ?_
  refine Bq (.agg [_, _]) (GC (lm := 0) (off := 0) hc2 G9 BA) (bk hk fun v3 hv3 hk => ?_)
  refine AM (fun _ => e9 hv3 (I5 hO hq0)) (pg (Ak hk ?_ ?_)) <;> intro hk
  ·refine sr (pM (.int _ _) ?_)
   refine pA (.int _ _) (pg (Au (br (gr (gr (br (gr (have hk := lx hx1 hk; ?_))))))))
   cases hk; exact AQ hO
  refine Ao (bn (gn (Bs (AO ?_))))
  refine pM (.int _ _) (pg ?_)
  cases hk; exact ⟨_, rfl, _, _, hO, sh⟩
 refine D5 (ge (ge (be (gn (have hk := lx hx1 hk; sr (pA (.int _ _) (pg (Au ?_))))))))
 cases hk; exact AQ hO
def PT (aS0 : List Af) (aC1_0 : Int) : Option Bool :=
 ((Le aS0 aC1_0).bind fun v1 => some (decide (v1 ≥ 0)))
theorem V8 (hk : PT aS0 aC1_0 = some r) (hq0 : H[q0]? = some (.cells 1 [iv aC1_0])) (hlk : 0 < lk.length := by simp) : Am ai hh 81 [AK l1 0 aS0, .fn 83 [.ptr q0 0]] H lk = some (.bool r, H) := by
 refine AF Tryz.func81 rfl Tryz.ntmps81 Tryz.results81 rfl rfl fun hO => ?_
 unfold PT at hk
 refine sr (pA (.bool _) (pg (sr ?_)))
 refine pM (.lit _ _ _) ?_
 refine pM (.fn _ _) (bk hk fun v1 hv1 hk => ?_)
 refine AM (fun _ => Te hv1 (I5 hO hq0)) ?_
 refine AO ?_
 refine pA (.bool _) (pg (Au ?_))
 cases hk; exact AQ hO
def P4 (x6 : Int) (x7 : List Int) : Option (((List Int) × Int) ⊕ (List Int)) :=
 some (.inl (x7, BE (x6 + 1)))
def SN (x6 : Int) (x14 : List Int) (x16 : Bool) : Option (((List Int) × Int) ⊕ (List Int)) :=
 (bif x16 then ((DP 8 x14 ([x6] : List Int)).bind fun z17 => (P4 x6 z17)) else (P4 x6 x14))
def Me (aP0 : AT) (aF1 : Frame) (aPoint2 : Int) : ((List Int) × Int) → Option (((List Int) × Int) ⊕ (List Int)) := fun s =>
 (bif decide (s.2 < (aF1.A3.length : Int)) then ((AH aF1.A3 s.2).bind fun c9 => (bif (c9.State == 0) then (P4 s.2 s.1) else ((AH aP0.A3 s.2).bind fun c11 => ((PS c11.A7 aPoint2).bind fun v13 => ((PT c11.AJ aPoint2).bind fun v18 => (bif v18 then ((bif v13 then some true else ((AH aP0.A5 aPoint2).bind fun c20 => ((jP c11.A0 c20).bind fun v21 => some (decide (v21 ≥ c9.Aj))))).bind fun t19 => (SN s.2 s.1 t19)) else (SN s.2 s.1 v13))))))) else ((some s.1).map Sum.inr))
def lK (aP0 : AT) (aF1 : Frame) (aPoint2 : Int) : Option (List Int) :=
 (AG (Me aP0 aF1 aPoint2) (([] : List Int), (0:Int)))
theorem WQ (hk : lK aP0 aF1 aPoint2 = some r) (hlk : 0 < lk.length := by simp) : Am ai hh 47 [.agg (AY l1 0 l2 m3 l4 m5 aP0), .agg (Ah l6 0 l7 0 l8 m9 aF1), iv aPoint2] H lk = some (AK 0 0 r, H) := by
 refine AF Tryz.func47 rfl Tryz.ntmps47 Tryz.results47 rfl rfl fun hO => ?_
 unfold lK at hk
 refine sr (BR (cs := [_, _, _, _, _]) hO C0 (fun b1 G hO => ?_))
 refine BR (cs := [_, _, _, _]) hO BZ (fun b2 G hO => ?_)
 refine BR (cs := [_]) hO DB (fun b3 G hO => ?_)
 refine pA (.tl 0 []) (pg (sr ?_))
 refine pA (.tl 0 []) (pg (AV (sr ?_)))
 refine Ad BT hO 1 (.lit _ _ _) DZ ?_
 refine Ae Hk ?_
 refine pM (.int _ _) (pg (BO ?_))
 refine A9 (F := Me aP0 aF1 aPoint2) (fun s S' => ∃ o4 J G, A4 H G [.AW b3 (.cells 1 [iv aPoint2]), .AW b1 (.cells 5 (AY l1 0 l2 m3 l4 m5 aP0)), .own o4 lk.length 1 s.1.length (A8 0 s.1)] ∧ S' = ⟨CM [(3, .ptr b1 0),(5, .ptr b3 0),(7, o4),(13, AK l8 m9 aF1.A3),(14, iv (aF1.A3.length : Int)),(15, iv s.2)] J, G⟩) hk ⟨(.tl 0 []), _, _, (A4.pick (A4.Hn hO lk.length ([] : List Int)) [1, 3, 0] (by decide) rfl), sh⟩ ?_
 rintro ⟨x4, x6⟩ _ y1 ⟨o4, J, G, hO, rfl⟩ hk hx1
 refine sr (AO (pg (AV (Ak hk ?_ ?_)))) <;> intro hk
 ·refine Ao (gn (By (fun S' => ∃ x7 o7 J G, P4 x6 x7 = some y1 ∧ A4 H G [.AW b3 (.cells 1 [iv aPoint2]), .AW b1 (.cells 5 (AY l1 0 l2 m3 l4 m5 aP0)), .own o7 lk.length 1 x7.length (A8 0 x7)] ∧ S' = ⟨CM [(3, .ptr b1 0),(5, .ptr b3 0),(7, o7),(13, AK l8 m9 aF1.A3),(14, iv (aF1.A3.length : Int)),(15, iv x6)] J, G⟩) ?_ ?_))
  ·refine BO (sr (pM (.int _ _) (bk hk fun c9 hc9 hk => ?_)))
   refine pX hc9 Da Av ?_
   refine Bq (.agg [_, _, _, _, _]) (GC (lm := m9) (off := 0) hc9 Gl Av) (C9 hO Av G8 (fun b10 G hO => ?_))
   refine pA (.int _ _) ?_
   refine Cg (xs := [_, _, _, _, _]) hO 0 Av rfl (fun G hO => pg (AV (sr ?_)))
   refine Ad Az hO 0 (.int _ _) B3 ?_
   refine AO (pg (Ak hk ?_ ?_)) <;> intro hk
   ·exact D5 (ge (be (gn (⟨x4, o4, _, _, hk, (pk hO [1, 2, 3]), sh⟩))))
   refine Ao (gn (sr (Ad BY hO 2 (.lit _ _ _) Df ?_)))
   refine pM (.int _ _) (bk hk fun c11 hc11 hk => ?_)
   refine pX hc11 EY Ay ?_
   refine Bq (.agg [_, _, _, _, _]) (GC (lm := m3) (off := 0) hc11 Ec Ay) (C9 hO Ay Il (fun b12 G hO => ?_))
   refine Cg (xs := [_, _, _, _, _]) hO 0 Ay rfl (fun G hO => pg (sr ?_))
   refine Ad Ed hO 0 (.lit _ _ _) Db ?_
   refine q9 (vs := [_]) (bk hk fun v13 hv13 hk => ?_)
   refine AM (fun _ => V7 hv13 (hO.get (k := 2) rfl).1) ?_
   refine pA (.bool _) (pg ?_)
   refine By (fun S' => ∃ x14 x16 o14 J G, SN x6 x14 x16 = some y1 ∧ A4 H G [.AW b3 (.cells 1 [iv aPoint2]), .AW b1 (.cells 5 (AY l1 0 l2 m3 l4 m5 aP0)), .own o14 lk.length 1 x14.length (A8 0 x14)] ∧ S' = ⟨CM [(3, .ptr b1 0),(5, .ptr b3 0),(7, o14),(8, iv x6),(11, .bool x16),(13, AK l8 m9 aF1.A3),(14, iv (aF1.A3.length : Int)),(15, iv x6)] J, G⟩) ?_ ?_
   ·refine sr (Ad ER hO 0 (.lit _ _ _) Db ?_)
    refine q9 (vs := [_]) (bk hk fun v18 hv18 hk => ?_)
    refine AM (fun _ => V8 hv18 (hO.get (k := 2) rfl).1) (pg (Ak hk ?_ ?_)) <;> intro hk
    ·refine HY [0,2,5,7,9,11,13,15,17,21,23,19,24,26,28] [_,_,_,_,_,_,_,_,_,_,_,_,_,_,_] ?_
     refine pM (.bool _) ?_
     refine pM (.bool _) (bk hk fun t19 ht hk => ?_)
     refine AP (l1 := [_, _, _, _, _, _, _, _, _, _, _, _]) [38, 39, 40, 41, 42, 43, 44, 45, 46, 47, 48, 49] 49 (.bool t19) ?_ ?_
     ·refine bc (b := v13) ?_ ?_ <;> intro hg
      ·replace hk := ct hg ht
       repeat refine Bg hg ?_
       refine Cm hg (.bool _) ?_
       cases hk; exact pE ek
      replace hk := cf hg ht
      refine AA hg (pF BS (AA hg ?_))
      refine CT hO 0 (.lit _ _ _) BN (AA hg ?_)
      refine pF D4 (AA hg ?_)
      refine CT hO 3 (.lit _ _ _) BN (AA hg ?_)
      refine CT hO 2 (.int _ _) B3 (AA hg (bk hk fun c20 hc20 hk => ?_))
      refine pX hc20 CG DB (AA hg ?_)
      refine Bq (.int _ _) (Cu (lm := 0) (off := 0) hc20 B3) (AA hg ?_)
      refine pF C7 (AA hg ?_)
      refine CT hO 1 (.int _ _) B3 (AA hg (bk hk fun v21 hv21 hk => ?_))
      refine AM (fun _ => WT hv21) (AA hg ?_)
      refine AO ?_
      refine Cl hg (.bool _) ?_
      cases hk; exact pE ek
     intro J
     refine pA (.bool _) (pg ?_)
     exact ⟨x4, t19, o4, _, _, hk, (pk hO [2, 3, 4]), sh⟩
    exact Ao (gn (⟨x4, v13, o4, _, _, hk, (pk hO [2, 3, 4]), sh⟩))
   rintro _ ⟨x14, x16, o14, J, G, hk, hO, rfl⟩
   refine sr (pM (.bool _) (pg (Ak hk ?_ ?_))) <;> intro hk
   ·refine Bs (pM o14 ?_)
    refine pM (.int _ _) ?_
    refine Vi (ps := [(0, (.int _ _))]) ([x6] : List Int) CG DB Nv (Dh (Di _ _) (EJ)) (bk hk fun z17 hz17 hk => ?_)
    refine Uf (xs := x14) hO 2 hz17 (Ee ([x6] : List Int)) CG DB YK Nv CG rfl (fun o17 G hno17 hO => ?_)
    refine pA o17 (pE (bn (gn ?_)))
    exact ⟨z17, o17, _, _, hk, hO, sh⟩
   exact Ao (bn (gn (⟨x14, o14, _, _, hk, hO, sh⟩)))
  rintro _ ⟨x7, o7, J, G, hk, hO, rfl⟩
  refine Bs (AO ?_)
  refine pM (.int _ _) (pg ?_)
  cases hk; exact ⟨_, rfl, o7, _, _, hO, sh⟩
 refine D5 (ge (ge (be (gn (have hk := lx hx1 hk; sr (pM o4 ?_))))))
 refine pA o4 (pg (Au ?_))
 replace hk := av hk; subst hk; exact He hO (HO (xs := x4) hlk 2) (Kc o4 DQ)
end
end Go.Proofs.YtphpkphklegfeaaGreat.K
