/-
 The functions that FnExactPointLock reaches, as typed Lean functions, and that the interpreter computes them. Part 4 of 4. No conditions.
-/
import Derived.Test.YtphpkphklegfeaaGreatDPtc
set_option linter.unusedVariables false
set_option linter.unusedSimpArgs false
set_option maxRecDepth 100000
namespace Go.Proofs.YtphpkphklegfeaaGreat.K
noncomputable section
variable {H : A3} {lk : Lk}
def TJ (x9 : Int) (x10 : List Int) : Option (((List Int) × Int) ⊕ (Cy × (List Int) × (List Int))) :=
 some (.inl (x10, BT (x9 + (1:Int))))
def TK (x29 : Int) (x30 : List Int) (x32 : List Int) : Option (((List Int) × (List Int) × Int) ⊕ (Cy × (List Int) × (List Int))) :=
 some (.inl (x30, x32, BT (x29 + (1:Int))))
def Qa (x63 : Int) (x64 : List Int) (x66 : List Int) (x68 : List Int) (x70 : List Int) (x72 : List Int) : Option (((List Int) × (List Int) × (List Int) × (List Int) × (List Int) × Int) ⊕ (((List Int) × (List Int) × (List Int) × (List Int) × (List Int) × Int) ⊕ (Cy × (List Int) × (List Int)))) :=
 some (.inl (x64, x66, x68, x70, x72, BT (x63 + (1:Int))))
def TM (x51 : Int) (x63 : Int) (v78 : (List Int)) (c81 : Bool) (x92 : List Int) (x94 : List Int) (x96 : List Int) (x98 : List Int) (x100 : List Int) : Option (((List Int) × (List Int) × (List Int) × (List Int) × (List Int) × Int) ⊕ (((List Int) × (List Int) × (List Int) × (List Int) × (List Int) × Int) ⊕ (Cy × (List Int) × (List Int)))) :=
 (bif (decide ((v78.length : Int) > (0:Int)) || c81) then ((DC 8 x96 ([x51] : List Int)).bind fun z102 => (Qa x63 x92 x94 z102 x98 x100)) else (Qa x63 x92 x94 x96 x98 x100))
def TL (x51 : Int) (x63 : Int) (v78 : (List Int)) (c81 : Bool) (x82 : List Int) (x84 : List Int) (x86 : List Int) (x88 : List Int) (x90 : List Int) : Option (((List Int) × (List Int) × (List Int) × (List Int) × (List Int) × Int) ⊕ (((List Int) × (List Int) × (List Int) × (List Int) × (List Int) × Int) ⊕ (Cy × (List Int) × (List Int)))) :=
 (bif c81 then ((DC 8 x90 ([x51] : List Int)).bind fun z104 => (TM x51 x63 v78 c81 x82 x84 x86 x88 z104)) else (TM x51 x63 v78 c81 x82 x84 x86 x88 x90))
def XD (aP0 : AP) (aF1 : AD) (x51 : Int) (v52 : (List Ae)) : ((List Int) × (List Int) × (List Int) × (List Int) × (List Int) × Int) → Option (((List Int) × (List Int) × (List Int) × (List Int) × (List Int) × Int) ⊕ (((List Int) × (List Int) × (List Int) × (List Int) × (List Int) × Int) ⊕ (Cy × (List Int) × (List Int)))) := fun s =>
 (bif decide (s.2.2.2.2.2 < (v52.length : Int)) then ((AK v52 s.2.2.2.2.2).bind fun c74 => ((bif (c74.Switch != x51) then some true else ((AK aF1.AF x51).bind fun c77 => some (c77.Want == c74.FC))).bind fun t76 => (bif t76 then (Qa s.2.2.2.2.2 s.1 s.2.1 s.2.2.1 s.2.2.2.1 s.2.2.2.2.1) else ((eY aP0 aF1 x51).bind fun v78 => ((AK aP0.A6 x51).bind fun c80 => ((AK aF1.C5 c80).bind fun c81 => (bif decide ((v78.length : Int) > (0:Int)) then ((DC 8 s.2.2.2.1 ([x51] : List Int)).bind fun z105 => (TL x51 s.2.2.2.2.2 v78 c81 s.1 s.2.1 s.2.2.1 z105 s.2.2.2.2.1)) else (TL x51 s.2.2.2.2.2 v78 c81 s.1 s.2.1 s.2.2.1 s.2.2.2.1 s.2.2.2.2.1)))))))) else ((some (.inl (s.1, s.2.1, s.2.2.1, s.2.2.2.1, s.2.2.2.2.1, BT (x51 + (1:Int))))).map Sum.inr))
def XC (aP0 : AP) (aF1 : AD) (c4 : Bq) : ((List Int) × (List Int) × (List Int) × (List Int) × (List Int) × Int) → Option (((List Int) × (List Int) × (List Int) × (List Int) × (List Int) × Int) ⊕ (Cy × (List Int) × (List Int))) := fun s =>
 (bif decide (s.2.2.2.2.2 < (aP0.A6.length : Int)) then ((iD c4).bind fun v52 => (AJ (XD aP0 aF1 s.2.2.2.2.2 v52) (s.1, s.2.1, s.2.2.1, s.2.2.2.1, s.2.2.2.2.1, (0:Int)))) else ((some (({ A7 := s.1, A0 := s.2.1, AF := s.2.2.1 } : Cy), s.2.2.2.1, s.2.2.2.2.1)).map Sum.inr))
def XB (aP0 : AP) (aF1 : AD) (c4 : Bq) : ((List Int) × (List Int) × Int) → Option (((List Int) × (List Int) × Int) ⊕ (Cy × (List Int) × (List Int))) := fun s =>
 (bif decide (s.2.2 < aP0.A0) then ((AK aF1.C5 s.2.2).bind fun c34 => ((bif c34 then ((ZZ c4.A0 s.2.2).bind fun v36 => ((bif v36 then some true else ((ZZ c4.Bt s.2.2).bind fun v38 => some v38)).bind fun t37 => some t37)) else some false).bind fun t35 => (bif t35 then ((DC 8 s.2.1 ([s.2.2] : List Int)).bind fun z39 => (TK s.2.2 s.1 z39)) else (TK s.2.2 s.1 s.2.1)))) else ((AJ (XC aP0 aF1 c4) (s.1, s.2.1, ([] : List Int), ([] : List Int), ([] : List Int), (0:Int))).map Sum.inr))
def XA (aP0 : AP) (aF1 : AD) (aWay2 : Int) (c4 : Bq) : ((List Int) × Int) → Option (((List Int) × Int) ⊕ (Cy × (List Int) × (List Int))) := fun s =>
 (bif decide (s.2 < (aF1.A7.length : Int)) then ((AK aF1.A7 s.2).bind fun c12 => ((bif ((s.2 != aWay2) && (c12.State != (0:Int))) then ((AK aP0.BV aWay2).bind fun c15 => ((AK c15 s.2).bind fun c16 => ((bif c16 then some true else ((AK aP0.A7 s.2).bind fun c18 => ((aX c4.A0 c18.Bt).bind fun v19 => some v19))).bind fun t17 => ((bif t17 then some true else ((AK aP0.A7 s.2).bind fun c21 => ((aX c4.Bt c21.A0).bind fun v22 => some v22))).bind fun t20 => some t20)))) else some false).bind fun t14 => (bif t14 then ((DC 8 s.1 ([s.2] : List Int)).bind fun z23 => (TJ s.2 z23)) else (TJ s.2 s.1)))) else ((AJ (XB aP0 aF1 c4) (s.1, ([] : List Int), (0:Int))).map Sum.inr))
def kV (aP0 : AP) (aF1 : AD) (aWay2 : Int) : Option (Cy × (List Int) × (List Int)) :=
 ((AK aP0.A7 aWay2).bind fun c4 => (AJ (XA aP0 aF1 aWay2 c4) (([] : List Int), (0:Int))))
theorem ZF {aP0 : AP} {aF1 : AD} {aWay2 : Int} {r : (Cy × (List Int) × (List Int))} {l1 l2 m3 l4 m5 l6 l7 l8 m9 : Nat} (hk : kV aP0 aF1 aWay2 = some r) (hlk : 0 < lk.length := by simp) : Am Tryz.prog hh 59 [.agg (Ai l1 0 l2 m3 l4 m5 aP0), .agg (Ah l6 0 l7 0 l8 m9 aF1), iv aWay2] H lk = some (.Fl [.agg [AN 0 0 r.1.A7, AN 0 0 r.1.A0, AN 0 0 r.1.AF], AN 0 0 r.2.1, AN 0 0 r.2.2], H) := by
 refine AI Tryz.func59 rfl Tryz.ntmps59 Tryz.results59 rfl rfl fun hO => ?_
 unfold kV at hk
 refine A1 (A4 (BZ (cs := [_, _, _, _, _]) hO CC (fun b1 G hO => ?_)))
 refine BZ (cs := [_, _, _, _]) hO Bv (fun b2 G hO => CK hO Ky W0 (fun b3 G hO => ?_))
 refine pA (.tl 0 []) ?_
 refine pA (.tl 0 []) (pE (gn (A1 (A4 ?_))))
 refine As Bl hO 2 (.lit _ _ _) Du ?_
 refine pM (.int _ _) (bk hk fun c4 hc4 hk => ?_)
 refine pX hc4 Er Az ?_
 refine Br (.agg [_, _, _, _, _]) (G8 (lm := m3) (off := 0) hc4 Ew Az) (CK hO Az IU (fun b5 G hO => ?_))
 refine Cs (xs := [_, _, _, _, _]) hO 0 Az rfl (fun G hO => pE (gn (A1 (A4 (CK hO Ky W0 (fun b6 G hO => pE (gn (A1 (A1 (A4 ?_))))))))))
 refine As Bd hO 3 (.lit _ _ _) Dv ?_
 refine Af IJ ?_
 refine pM (.int _ _) (pE (gn (BO ?_)))
 refine AA (F := XA aP0 aF1 aWay2 c4) (fun s S' => ∃ (o7 : V) (J : Nat → V) (G : A3), A5 H G [.own o7 lk.length 1 s.1.length (A8 0 s.1), .Ad b6 (.cells 3 [o7, (.tl 0 []), (.tl 0 [])]), .Ad b5 (.cells 5 (Cn m3 0 m3 0 m3 0 m3 0 m3 0 c4)), .Ad b3 (.cells 3 [(.tl 0 []), (.tl 0 []), (.tl 0 [])]), .Ad b2 (.cells 4 (Ah l6 0 l7 0 l8 m9 aF1)), .Ad b1 (.cells 5 (Ai l1 0 l2 m3 l4 m5 aP0))] ∧ S' = ⟨CM [(2, iv aWay2), (3, .ptr b1 0), (4, .ptr b2 0), (6, .ptr b3 0), (9, .ptr b5 0), (10, .ptr b6 0), (27, AN l8 m9 aF1.A7), (28, iv (aF1.A7.length : Int)), (29, iv s.2)] J, G⟩) hk ⟨(.tl 0 []), _, _, (A5.Gt hO lk.length ([] : List Int)), sh⟩ ?_
 rintro ⟨x7, x9⟩ _ y1 ⟨o7, J, G, hO, rfl⟩ hk hx1
 refine A1 (A4 (AW (pE (gn (A1 (Aq hk (fun hk => ?_) (fun hk => ?_)))))))
 ·refine Ar (gn (CQ (fun S' => ∃ (x10 : List Int) (o10 : V) (J : Nat → V) (G : A3), TJ x9 x10 = some y1 ∧ A5 H G [.own o10 lk.length 1 x10.length (A8 0 x10), .Ad b6 (.cells 3 [o10, (.tl 0 []), (.tl 0 [])]), .Ad b5 (.cells 5 (Cn m3 0 m3 0 m3 0 m3 0 m3 0 c4)), .Ad b3 (.cells 3 [(.tl 0 []), (.tl 0 []), (.tl 0 [])]), .Ad b2 (.cells 4 (Ah l6 0 l7 0 l8 m9 aF1)), .Ad b1 (.cells 5 (Ai l1 0 l2 m3 l4 m5 aP0))] ∧ S' = ⟨CM [(2, iv aWay2), (3, .ptr b1 0), (4, .ptr b2 0), (6, .ptr b3 0), (9, .ptr b5 0), (10, .ptr b6 0), (27, AN l8 m9 aF1.A7), (28, iv (aF1.A7.length : Int)), (29, iv x9)] J, G⟩) ?_ ?_))
  ·refine BO (A1 (A4 (pM (.int _ _) (bk hk fun c12 hc12 hk => ?_))))
   refine pX hc12 EJ Av ?_
   refine Br (.agg [_, _, _, _, _]) (G8 (lm := m9) (off := 0) hc12 G0 Av) (CK hO Av FN (fun b13 G hO => ?_))
   refine pA (.int _ _) ?_
   refine Cs (xs := [_, _, _, _, _]) hO 0 Av rfl (fun G hO => pE (gn (A1 ?_)))
   refine BC [(0, false), (1, false), (2, false), (3, false), (4, false), (5, true), (6, false), (7, false), (8, false), (9, false), (10, true), (11, true), (12, false), (13, true), (14, true), (15, false), (16, true), (17, false), (18, true), (19, true), (20, true), (21, true), (22, true), (23, true), (24, true), (25, true), (26, false), (27, false), (28, false), (29, true), (30, true), (31, true), (32, true), (33, true), (34, true), (35, true), (36, true), (37, false), (38, false), (39, false)] [_, _, _, _, _, _, _, _, _, _, _, _, _, _, _, _, _, _, _, _, _, _, _, _, _, _, _, _, _, _, _, _, _, _, _, _, _, _, _, _] (by decide +kernel) (by rfl) ?_
   refine pM (.int _ _) ?_
   refine pM (.int _ _) ?_
   refine AW ?_
   refine pM (.bool _) ?_
   refine AS (l1 := [_, _, _, _]) [38, 39, 40, 41] 41 (.bool ((x9 != aWay2) && (c12.State != (0:Int)))) ?_ ?_
   ·refine bc (b := (x9 != aWay2)) (fun hg => ?_) (fun hg => ?_)
    ·refine AB hg (pF B8 (AB hg ?_))
     refine CN hO 0 (.int _ _) BU (AB hg ?_)
     refine AW ?_
     refine Cr hg (.bool _) ?_
     exact pE (ek (by rw [hg]; rfl))
    ·refine AE hg (AE hg (AE hg (Cq hg (.bool _) ?_)))
     exact pE (ek (by rw [hg]; rfl))
   ·intro J
    refine pM (.bool _) (bk hk fun t14 ht hk => ?_)
    refine AS (l1 := [_, _, _, _, _, _, _, _, _, _, _, _, _, _, _, _, _, _, _, _, _, _, _, _, _, _, _, _, _, _, _]) [43, 44, 45, 46, 47, 48, 49, 50, 51, 52, 53, 54, 55, 56, 57, 58, 59, 60, 61, 62, 63, 64, 65, 66, 67, 68, 69, 70, 71, 72, 73] 73 (.bool t14) ?_ ?_
    ·refine bc (b := ((x9 != aWay2) && (c12.State != (0:Int)))) (fun hg => ?_) (fun hg => ?_)
     ·replace hk := ct hg ht
      refine AB hg (pF EL (AB hg ?_))
      refine CN hO 6 (.lit _ _ _) IW (AB hg ?_)
      refine pM (.int _ _) (AB hg (bk hk fun c15 hc15 hk => ?_))
      refine pX hc15 IX GB (AB hg ?_)
      refine Br (.lit _ _ _) (D4 (lm := m5) (off := 0) hc15 C8) (AB hg ?_)
      refine pM (.int _ _) (AB hg (bk hk fun c16 hc16 hk => ?_))
      refine pX hc16 Cl FO (AB hg ?_)
      refine Br (.bool _) (D4 (lm := 0) (off := 0) hc16 Fk) (AB hg ?_)
      refine pM (.bool _) (bk hk fun t17 ht hk => ?_)
      refine AS (l1 := [_, _, _, _, _, _, _, _, _, _]) [52, 53, 54, 55, 56, 57, 58, 59, 60, 61] 61 (.bool t17) ?_ ?_
      ·refine bc (b := c16) (fun hg2 => ?_) (fun hg2 => ?_)
       ·replace hk := ct hg2 ht
        refine AE hg2 (AE hg2 (AE hg2 (AE hg2 (AE hg2 (AE hg2 (AE hg2 (AE hg2 (AE hg2 (AB hg (Cr hg2 (.bool _) ?_))))))))))
        cases hk; exact pE ek
       ·replace hk := cf hg2 ht
        refine AB hg2 (pF BI (AB hg2 ?_))
        refine CN hO 3 (.lit _ _ _) BK (AB hg2 ?_)
        refine pF Bl (AB hg2 ?_)
        refine CN hO 6 (.lit _ _ _) Du (AB hg2 ?_)
        refine pM (.int _ _) (AB hg2 (bk hk fun c18 hc18 hk => ?_))
        refine pX hc18 Er Az (AB hg2 ?_)
        refine pF DU (AB hg2 ?_)
        refine Br (.lit _ _ _) (D4 (lm := m3) (off := 3) hc18 BK) (AB hg2 (bk hk fun v19 hv19 hk => ?_))
        refine AR (fun _ => Ml hv19) (AB hg ?_)
        refine Cq hg2 (.bool _) ?_
        cases hk; exact pE ek
      ·intro J
       refine AB hg (pM (.bool _) (bk hk fun t20 ht hk => ?_))
       refine AS (l1 := [_, _, _, _, _, _, _, _, _, _]) [63, 64, 65, 66, 67, 68, 69, 70, 71, 72] 72 (.bool t20) ?_ ?_
       ·refine bc (b := t17) (fun hg2 => ?_) (fun hg2 => ?_)
        ·replace hk := ct hg2 ht
         refine AE hg2 (AE hg2 (AE hg2 (AE hg2 (AE hg2 (AE hg2 (AE hg2 (AE hg2 (AE hg2 (AB hg (Cr hg2 (.bool _) ?_))))))))))
         cases hk; exact pE ek
        ·replace hk := cf hg2 ht
         refine AB hg2 (pF DU (AB hg2 ?_))
         refine CN hO 3 (.lit _ _ _) BK (AB hg2 ?_)
         refine pF Bl (AB hg2 ?_)
         refine CN hO 6 (.lit _ _ _) Du (AB hg2 ?_)
         refine pM (.int _ _) (AB hg2 (bk hk fun c21 hc21 hk => ?_))
         refine pX hc21 Er Az (AB hg2 ?_)
         refine pF BI (AB hg2 ?_)
         refine Br (.lit _ _ _) (D4 (lm := m3) (off := 0) hc21 BK) (AB hg2 (bk hk fun v22 hv22 hk => ?_))
         refine AR (fun _ => Ml hv22) (AB hg ?_)
         refine Cq hg2 (.bool _) ?_
         cases hk; exact pE ek
       ·intro J
        refine Cr hg (.bool _) ?_
        cases hk; exact pE ek
     ·replace hk := cf hg ht
      refine AE hg (AE hg (AE hg (AE hg (AE hg (AE hg (AE hg (AE hg (AE hg (CW (CW (CW (CW (CW (CW (CW (CW (CW (AE hg (AE hg (CW (CW (CW (CW (CW (CW (CW (CW (CW (AE hg (Cq hg (.bool _) ?_))))))))))))))))))))))))))))))
      cases hk; exact pE ek
    ·intro J
     refine pE (gn (Aq hk (fun hk => ?_) (fun hk => ?_)))
     ·refine A4 (As Om hO 2 o7 BK ?_)
      refine pM (.int _ _) ?_
      refine Tv (ps := [(0, (.int _ _))]) ([x9] : List Int) C4 DP MO (DG (DH _ _) (Dg)) (bk hk fun z23 hz23 hk => ?_)
      refine Si (xs := x7) hO 1 hz23 (EB ([x9] : List Int)) C4 DP W8 MO C4 rfl (fun o23 G hno23 hO => ?_)
      refine pF Om ?_
      have hc24 := C1 hO (j := 1) rfl
      refine Cs (xs := [_]) hO 2 Kx rfl (fun G hO => ?_) (h3 := hc24.1) (h6 := Bg hc24.2)
      exact pE (bn (gn (⟨z23, o23, _, _, hk, (pk hO [1, 2, 3, 4, 5, 6]), sh⟩)))
     ·exact Ar (bn (gn (⟨x7, o7, _, _, hk, (pk hO [1, 2, 3, 4, 5, 6]), sh⟩)))
  ·rintro _ ⟨x10, o10, J, G, hk, hO, rfl⟩
   refine A4 (AW ?_)
   refine pM (.int _ _) (pE (gn ?_))
   cases hk; exact ⟨_, rfl, o10, _, _, hO, sh⟩
 ·refine D3 (ge (ge (be (gn (have hk := lx hx1 hk; A1 (A1 (A4 (As EK hO 5 (.int _ _) BU ?_))))))))
  refine pM (.int _ _) (pE (gn (BO ?_)))
  refine AA (F := XB aP0 aF1 c4) (fun s S' => ∃ (o25 : V) (o27 : V) (J : Nat → V) (G : A3), A5 H G [.own o25 lk.length 1 s.1.length (A8 0 s.1), .own o27 lk.length 1 s.2.1.length (A8 0 s.2.1), .Ad b6 (.cells 3 [o25, o27, (.tl 0 [])]), .Ad b5 (.cells 5 (Cn m3 0 m3 0 m3 0 m3 0 m3 0 c4)), .Ad b3 (.cells 3 [(.tl 0 []), (.tl 0 []), (.tl 0 [])]), .Ad b2 (.cells 4 (Ah l6 0 l7 0 l8 m9 aF1)), .Ad b1 (.cells 5 (Ai l1 0 l2 m3 l4 m5 aP0))] ∧ S' = ⟨CM [(3, .ptr b1 0), (4, .ptr b2 0), (6, .ptr b3 0), (9, .ptr b5 0), (10, .ptr b6 0), (82, iv aP0.A0), (83, iv s.2.2)] J, G⟩) hk ⟨o7, (.tl 0 []), _, _, (A5.pick (A5.Gt hO lk.length ([] : List Int)) [1, 0, 2, 3, 4, 5, 6] (by decide) rfl), sh⟩ ?_
  rintro ⟨x25, x27, x29⟩ _ y1 ⟨o25, o27, J, G, hO, rfl⟩ hk hx1
  refine A1 (A4 (AW (pE (gn (A1 (Aq hk (fun hk => ?_) (fun hk => ?_)))))))
  ·refine Ar (gn (CQ (fun S' => ∃ (x30 : List Int) (x32 : List Int) (o30 : V) (o32 : V) (J : Nat → V) (G : A3), TK x29 x30 x32 = some y1 ∧ A5 H G [.own o30 lk.length 1 x30.length (A8 0 x30), .own o32 lk.length 1 x32.length (A8 0 x32), .Ad b6 (.cells 3 [o30, o32, (.tl 0 [])]), .Ad b5 (.cells 5 (Cn m3 0 m3 0 m3 0 m3 0 m3 0 c4)), .Ad b3 (.cells 3 [(.tl 0 []), (.tl 0 []), (.tl 0 [])]), .Ad b2 (.cells 4 (Ah l6 0 l7 0 l8 m9 aF1)), .Ad b1 (.cells 5 (Ai l1 0 l2 m3 l4 m5 aP0))] ∧ S' = ⟨CM [(3, .ptr b1 0), (4, .ptr b2 0), (6, .ptr b3 0), (9, .ptr b5 0), (10, .ptr b6 0), (82, iv aP0.A0), (83, iv x29)] J, G⟩) ?_ ?_))
   ·refine BO (A1 (A4 (pM (.int _ _) ?_)))
    refine pA (.int _ _) (pE (gn (A1 (A4 ?_))))
    refine As Cm hO 5 (.lit _ _ _) C8 ?_
    refine pM (.int _ _) (bk hk fun c34 hc34 hk => ?_)
    refine pX hc34 Cl FO ?_
    refine Br (.bool _) (D4 (lm := 0) (off := 0) hc34 Fk) ?_
    refine pM (.bool _) (bk hk fun t35 ht hk => ?_)
    refine AS (l1 := [_, _, _, _, _, _, _, _, _, _, _]) [92, 93, 94, 95, 96, 97, 98, 99, 100, 101, 102] 102 (.bool t35) ?_ ?_
    ·refine bc (b := c34) (fun hg => ?_) (fun hg => ?_)
     ·replace hk := ct hg ht
      refine AB hg (pF BI (AB hg ?_))
      refine CN hO 3 (.lit _ _ _) BK (AB hg ?_)
      refine pM (.int _ _) (AB hg (bk hk fun v36 hv36 hk => ?_))
      refine AR (fun _ => KU hv36) (AB hg ?_)
      refine pM (.bool _) (bk hk fun t37 ht hk => ?_)
      refine AS (l1 := [_, _, _, _, _]) [97, 98, 99, 100, 101] 101 (.bool t37) ?_ ?_
      ·refine bc (b := v36) (fun hg2 => ?_) (fun hg2 => ?_)
       ·replace hk := ct hg2 ht
        refine AE hg2 (AE hg2 (AE hg2 (AE hg2 (AB hg (Cr hg2 (.bool _) ?_)))))
        cases hk; exact pE ek
       ·replace hk := cf hg2 ht
        refine AB hg2 (pF DU (AB hg2 ?_))
        refine CN hO 3 (.lit _ _ _) BK (AB hg2 ?_)
        refine pM (.int _ _) (AB hg2 (bk hk fun v38 hv38 hk => ?_))
        refine AR (fun _ => KU hv38) (AB hg ?_)
        refine Cq hg2 (.bool _) ?_
        cases hk; exact pE ek
      ·intro J
       refine Cr hg (.bool _) ?_
       cases hk; exact pE ek
     ·replace hk := cf hg ht
      refine AE hg (AE hg (AE hg (AE hg (AE hg (CW (CW (CW (CW (AE hg (Cq hg (.bool _) ?_))))))))))
      cases hk; exact pE ek
    ·intro J
     refine pE (gn (Aq hk (fun hk => ?_) (fun hk => ?_)))
     ·refine A4 (As On hO 2 o27 BK ?_)
      refine pM (.int _ _) ?_
      refine Tv (ps := [(0, (.int _ _))]) ([x29] : List Int) C4 DP MO (DG (DH _ _) (Dg)) (bk hk fun z39 hz39 hk => ?_)
      refine Si (xs := x27) hO 1 hz39 (EB ([x29] : List Int)) C4 DP W8 MO C4 rfl (fun o39 G hno39 hO => ?_)
      refine pF On ?_
      have hc40 := C1 hO (j := 1) rfl
      refine Cs (xs := [_]) hO 2 Kx rfl (fun G hO => ?_) (h3 := hc40.1) (h6 := Bg hc40.2)
      exact pE (bn (gn (⟨x25, z39, o25, o39, _, _, hk, hO, sh⟩)))
     ·exact Ar (bn (gn (⟨x25, x27, o25, o27, _, _, hk, hO, sh⟩)))
   ·rintro _ ⟨x30, x32, o30, o32, J, G, hk, hO, rfl⟩
    refine A4 (AW ?_)
    refine pM (.int _ _) (pE (gn ?_))
    cases hk; exact ⟨_, rfl, o30, o32, _, _, hO, sh⟩
  ·refine D3 (ge (ge (be (gn (have hk := lx hx1 hk; A1 (A4 (pA (.tl 0 []) ?_)))))))
   refine pA (.tl 0 []) (pE (gn (A1 (A1 (A4 ?_)))))
   refine As DE hO 6 (.lit _ _ _) BK ?_
   refine Af D5 ?_
   refine pM (.int _ _) (pE (gn (BO ?_)))
   refine AA (F := XC aP0 aF1 c4) (fun s S' => ∃ (o41 : V) (o43 : V) (o45 : V) (o47 : V) (o49 : V) (J : Nat → V) (G : A3), A5 H G [.own o41 lk.length 1 s.1.length (A8 0 s.1), .own o43 lk.length 1 s.2.1.length (A8 0 s.2.1), .own o45 lk.length 1 s.2.2.1.length (A8 0 s.2.2.1), .Ad b6 (.cells 3 [o41, o43, o45]), .Ad b5 (.cells 5 (Cn m3 0 m3 0 m3 0 m3 0 m3 0 c4)), .Ad b3 (.cells 3 [(.tl 0 []), (.tl 0 []), (.tl 0 [])]), .Ad b2 (.cells 4 (Ah l6 0 l7 0 l8 m9 aF1)), .Ad b1 (.cells 5 (Ai l1 0 l2 m3 l4 m5 aP0)), .own o47 lk.length 1 s.2.2.2.1.length (A8 0 s.2.2.2.1), .own o49 lk.length 1 s.2.2.2.2.1.length (A8 0 s.2.2.2.2.1)] ∧ S' = ⟨CM [(3, .ptr b1 0), (4, .ptr b2 0), (6, .ptr b3 0), (9, .ptr b5 0), (10, .ptr b6 0), (14, o47), (15, o49), (112, iv (aP0.A6.length : Int)), (113, iv s.2.2.2.2.2)] J, G⟩) hk ⟨o25, o27, (.tl 0 []), (.tl 0 []), (.tl 0 []), _, _, (A5.pick (A5.Gt (A5.Gt (A5.Gt hO lk.length ([] : List Int)) lk.length ([] : List Int)) lk.length ([] : List Int)) [3, 4, 2, 5, 6, 7, 8, 9, 1, 0] (by decide) rfl), sh⟩ ?_
   rintro ⟨x41, x43, x45, x47, x49, x51⟩ _ y1 ⟨o41, o43, o45, o47, o49, J, G, hO, rfl⟩ hk hx1
   refine A1 (A4 (AW (pE (gn (A1 (Aq hk (fun hk => ?_) (fun hk => ?_)))))))
   ·refine Ar (gn (A1 (BO (A1 (A4 (pM (.int _ _) ?_))))))
    refine pA (.int _ _) (pE (gn (A1 (A4 ?_))))
    refine E4 hO 4 [_, _, _, _, _] Ew Az (bk hk fun v52 hv52 hk => ?_)
    refine AR (fun _ => Uc hv52) ?_
    refine Af Ex ?_
    refine pM (.int _ _) (pE (gn (BO ?_)))
    refine AA (F := XD aP0 aF1 x51 v52) (fun s S' => ∃ (o53 : V) (o55 : V) (o57 : V) (o59 : V) (o61 : V) (J : Nat → V) (G : A3), A5 H G [.own o53 lk.length 1 s.1.length (A8 0 s.1), .own o55 lk.length 1 s.2.1.length (A8 0 s.2.1), .own o57 lk.length 1 s.2.2.1.length (A8 0 s.2.2.1), .Ad b6 (.cells 3 [o53, o55, o57]), .Ad b5 (.cells 5 (Cn m3 0 m3 0 m3 0 m3 0 m3 0 c4)), .Ad b3 (.cells 3 [(.tl 0 []), (.tl 0 []), (.tl 0 [])]), .Ad b2 (.cells 4 (Ah l6 0 l7 0 l8 m9 aF1)), .Ad b1 (.cells 5 (Ai l1 0 l2 m3 l4 m5 aP0)), .own o59 lk.length 1 s.2.2.2.1.length (A8 0 s.2.2.2.1), .own o61 lk.length 1 s.2.2.2.2.1.length (A8 0 s.2.2.2.2.1)] ∧ S' = ⟨CM [(3, .ptr b1 0), (4, .ptr b2 0), (6, .ptr b3 0), (9, .ptr b5 0), (10, .ptr b6 0), (14, o59), (15, o61), (16, iv x51), (112, iv (aP0.A6.length : Int)), (113, iv x51), (117, AN 0 0 v52), (118, iv (v52.length : Int)), (119, iv s.2.2.2.2.2)] J, G⟩) hk ⟨o41, o43, o45, o47, o49, _, _, hO, sh⟩ ?_
    rintro ⟨x53, x55, x57, x59, x61, x63⟩ _ y2 ⟨o53, o55, o57, o59, o61, J, G, hO, rfl⟩ hk hx2
    refine A1 (A4 (AW (pE (gn (A1 (Aq hk (fun hk => ?_) (fun hk => ?_)))))))
    ·refine Ar (gn (CQ (fun S' => ∃ (x64 : List Int) (x66 : List Int) (x68 : List Int) (x70 : List Int) (x72 : List Int) (o64 : V) (o66 : V) (o68 : V) (o70 : V) (o72 : V) (J : Nat → V) (G : A3), Qa x63 x64 x66 x68 x70 x72 = some y2 ∧ A5 H G [.own o64 lk.length 1 x64.length (A8 0 x64), .own o66 lk.length 1 x66.length (A8 0 x66), .own o68 lk.length 1 x68.length (A8 0 x68), .Ad b6 (.cells 3 [o64, o66, o68]), .Ad b5 (.cells 5 (Cn m3 0 m3 0 m3 0 m3 0 m3 0 c4)), .Ad b3 (.cells 3 [(.tl 0 []), (.tl 0 []), (.tl 0 [])]), .Ad b2 (.cells 4 (Ah l6 0 l7 0 l8 m9 aF1)), .Ad b1 (.cells 5 (Ai l1 0 l2 m3 l4 m5 aP0)), .own o70 lk.length 1 x70.length (A8 0 x70), .own o72 lk.length 1 x72.length (A8 0 x72)] ∧ S' = ⟨CM [(3, .ptr b1 0), (4, .ptr b2 0), (6, .ptr b3 0), (9, .ptr b5 0), (10, .ptr b6 0), (14, o70), (15, o72), (16, iv x51), (112, iv (aP0.A6.length : Int)), (113, iv x51), (117, AN 0 0 v52), (118, iv (v52.length : Int)), (119, iv x63)] J, G⟩) ?_ ?_))
     ·refine BO (A1 (A4 (bk hk fun c74 hc74 hk => pX hc74 Df BB ?_)))
      refine Br (.agg [_, _]) (G8 (lm := 0) (off := 0) hc74 G3 BB) (CK hO BB FT (fun b75 G hO => ?_))
      refine Cs (xs := [_, _]) hO 0 BB rfl (fun G hO => pE (gn (A1 (A1 ?_))))
      refine BC [(0, false), (1, true), (2, true), (3, false), (4, false), (5, true), (6, true), (7, true), (8, true), (9, true), (10, true), (11, true), (12, true), (13, false), (14, false)] [_, _, _, _, _, _, _, _, _, _, _, _, _, _, _] (by decide +kernel) (by rfl) ?_
      refine As CP hO 0 (.int _ _) BU ?_
      refine pM (.int _ _) ?_
      refine AW ?_
      refine pM (.bool _) (bk hk fun t76 ht hk => ?_)
      refine AS (l1 := [_, _, _, _, _, _, _, _, _, _]) [128, 129, 130, 131, 132, 133, 134, 135, 136, 137] 137 (.bool t76) ?_ ?_
      ·refine bc (b := (c74.Switch != x51)) (fun hg => ?_) (fun hg => ?_)
       ·replace hk := ct hg ht
        refine AE hg (AE hg (AE hg (AE hg (AE hg (AE hg (AE hg (AE hg (AE hg (Cr hg (.bool _) ?_)))))))))
        cases hk; exact pE ek
       ·replace hk := cf hg ht
        refine AB hg (pF Db (AB hg ?_))
        refine CN hO 7 (.lit _ _ _) JD (AB hg ?_)
        refine pM (.int _ _) (AB hg (bk hk fun c77 hc77 hk => ?_))
        refine pX hc77 IY EA (AB hg ?_)
        refine pF II (AB hg ?_)
        refine Br (.int _ _) (D4 (lm := 0) (off := 0) hc77 BU) (AB hg ?_)
        refine pF E7 (AB hg ?_)
        refine CN hO 0 (.int _ _) BU (AB hg ?_)
        refine AW ?_
        refine Cq hg (.bool _) ?_
        cases hk; exact pE ek
      ·intro J
       refine pE (gn (Aq hk (fun hk => ?_) (fun hk => ?_)))
       ·exact D3 (ge (be (gn (⟨x53, x55, x57, x59, x61, o53, o55, o57, o59, o61, _, _, hk, (pk hO [1, 2, 3, 4, 5, 6, 7, 8, 9, 10]), sh⟩))))
       ·refine Ar (gn (A1 (A4 (E4 hO 8 [_, _, _, _, _] FB CC ?_))))
        refine E4 hO 7 [_, _, _, _] Ep Bv ?_
        refine pM (.int _ _) (bk hk fun v78 hv78 hk => ?_)
        refine Sj hO (fun _ => UZ hv78) (fun u79 F79 G hO => ?_)
        refine Ji hO 0 D5 ?_
        refine AW ?_
        refine pA (.bool _) (pE (gn (A1 ?_)))
        refine BC [(0, true), (1, true), (2, true), (3, true), (4, true), (5, true), (6, true), (7, false), (8, true), (9, false)] [_, _, _, _, _, _, _, _, _, _] (by decide +kernel) (by rfl) ?_
        refine As Cm hO 8 (.lit _ _ _) C8 ?_
        refine As DE hO 9 (.lit _ _ _) BK ?_
        refine pM (.int _ _) (bk hk fun c80 hc80 hk => ?_)
        refine pX hc80 C4 DP ?_
        refine Br (.int _ _) (D4 (lm := 0) (off := 0) hc80 BU) (bk hk fun c81 hc81 hk => ?_)
        refine pX hc81 Cl FO ?_
        refine Br (.bool _) (D4 (lm := 0) (off := 0) hc81 Fk) ?_
        refine pA (.bool _) (pE (gn ?_))
        refine CQ (fun S' => ∃ (x82 : List Int) (x84 : List Int) (x86 : List Int) (x88 : List Int) (x90 : List Int) (o82 : V) (o84 : V) (o86 : V) (o88 : V) (o90 : V) (J : Nat → V) (G : A3), TL x51 x63 v78 c81 x82 x84 x86 x88 x90 = some y2 ∧ A5 H G [.own o82 lk.length 1 x82.length (A8 0 x82), .own o84 lk.length 1 x84.length (A8 0 x84), .own o86 lk.length 1 x86.length (A8 0 x86), .Ad b6 (.cells 3 [o82, o84, o86]), .Ad b5 (.cells 5 (Cn m3 0 m3 0 m3 0 m3 0 m3 0 c4)), .Ad b3 (.cells 3 [(.tl 0 []), (.tl 0 []), (.tl 0 [])]), .Ad b2 (.cells 4 (Ah l6 0 l7 0 l8 m9 aF1)), .Ad b1 (.cells 5 (Ai l1 0 l2 m3 l4 m5 aP0)), .own o88 lk.length 1 x88.length (A8 0 x88), .own o90 lk.length 1 x90.length (A8 0 x90)] ∧ S' = ⟨CM [(3, .ptr b1 0), (4, .ptr b2 0), (6, .ptr b3 0), (9, .ptr b5 0), (10, .ptr b6 0), (14, o88), (15, o90), (16, iv x51), (19, .bool (decide ((v78.length : Int) > (0:Int)))), (20, .bool c81), (112, iv (aP0.A6.length : Int)), (113, iv x51), (117, AN 0 0 v52), (118, iv (v52.length : Int)), (119, iv x63)] J, G⟩) ?_ ?_
        ·refine A1 (A4 (pM (.bool _) (pE (gn (Aq hk (fun hk => ?_) (fun hk => ?_))))))
         ·refine A4 (pM o59 ?_)
          refine pM (.int _ _) ?_
          refine Tv (ps := [(0, (.int _ _))]) ([x51] : List Int) C4 DP MO (DG (DH _ _) (Dg)) (bk hk fun z105 hz105 hk => ?_)
          refine Si (xs := x59) hO 10 hz105 (EB ([x51] : List Int)) C4 DP W8 MO C4 rfl (fun o105 G hno105 hO => ?_)
          refine pA o105 (pE (gn ?_))
          exact ⟨x53, x55, x57, z105, x61, o53, o55, o57, o105, o61, _, _, hk, (pk hO [2, 3, 4, 5, 6, 7, 8, 9, 10, 11]), sh⟩
         ·exact Ar (gn (⟨x53, x55, x57, x59, x61, o53, o55, o57, o59, o61, _, _, hk, (pk hO [2, 3, 4, 5, 6, 7, 8, 9, 10, 11]), sh⟩))
        ·rintro _ ⟨x82, x84, x86, x88, x90, o82, o84, o86, o88, o90, J, G, hk, hO, rfl⟩
         refine CQ (fun S' => ∃ (x92 : List Int) (x94 : List Int) (x96 : List Int) (x98 : List Int) (x100 : List Int) (o92 : V) (o94 : V) (o96 : V) (o98 : V) (o100 : V) (J : Nat → V) (G : A3), TM x51 x63 v78 c81 x92 x94 x96 x98 x100 = some y2 ∧ A5 H G [.own o92 lk.length 1 x92.length (A8 0 x92), .own o94 lk.length 1 x94.length (A8 0 x94), .own o96 lk.length 1 x96.length (A8 0 x96), .Ad b6 (.cells 3 [o92, o94, o96]), .Ad b5 (.cells 5 (Cn m3 0 m3 0 m3 0 m3 0 m3 0 c4)), .Ad b3 (.cells 3 [(.tl 0 []), (.tl 0 []), (.tl 0 [])]), .Ad b2 (.cells 4 (Ah l6 0 l7 0 l8 m9 aF1)), .Ad b1 (.cells 5 (Ai l1 0 l2 m3 l4 m5 aP0)), .own o98 lk.length 1 x98.length (A8 0 x98), .own o100 lk.length 1 x100.length (A8 0 x100)] ∧ S' = ⟨CM [(3, .ptr b1 0), (4, .ptr b2 0), (6, .ptr b3 0), (9, .ptr b5 0), (10, .ptr b6 0), (14, o98), (15, o100), (16, iv x51), (19, .bool (decide ((v78.length : Int) > (0:Int)))), (20, .bool c81), (112, iv (aP0.A6.length : Int)), (113, iv x51), (117, AN 0 0 v52), (118, iv (v52.length : Int)), (119, iv x63)] J, G⟩) ?_ ?_
         ·refine A1 (A4 (pM (.bool _) (pE (gn (Aq hk (fun hk => ?_) (fun hk => ?_))))))
          ·refine A4 (pM o90 ?_)
           refine pM (.int _ _) ?_
           refine Tv (ps := [(0, (.int _ _))]) ([x51] : List Int) C4 DP MO (DG (DH _ _) (Dg)) (bk hk fun z104 hz104 hk => ?_)
           refine Si (xs := x90) hO 9 hz104 (EB ([x51] : List Int)) C4 DP W8 MO C4 rfl (fun o104 G hno104 hO => ?_)
           refine pA o104 (pE (gn ?_))
           exact ⟨x82, x84, x86, x88, z104, o82, o84, o86, o88, o104, _, _, hk, hO, sh⟩
          ·exact Ar (gn (⟨x82, x84, x86, x88, x90, o82, o84, o86, o88, o90, _, _, hk, hO, sh⟩))
         ·rintro _ ⟨x92, x94, x96, x98, x100, o92, o94, o96, o98, o100, J, G, hk, hO, rfl⟩
          refine A1 (A4 (pM (.bool _) ?_))
          refine pM (.bool _) ?_
          refine AS (l1 := [_, _]) [165, 166] 166 (.bool (decide ((v78.length : Int) > (0:Int)) || c81)) ?_ ?_
          ·refine bc (b := decide ((v78.length : Int) > (0:Int))) (fun hg => ?_) (fun hg => ?_)
           ·refine AE hg (Cr hg (.bool _) ?_)
            exact pE (ek (by rw [hg]; rfl))
           ·refine AB hg (pM (.bool _) ?_)
            refine Cq hg (.bool _) ?_
            exact pE (ek (by rw [hg]; rfl))
          ·intro J
           refine pE (gn (Aq hk (fun hk => ?_) (fun hk => ?_)))
           ·refine A4 (As Lu hO 3 o96 BK ?_)
            refine pM (.int _ _) ?_
            refine Tv (ps := [(0, (.int _ _))]) ([x51] : List Int) C4 DP MO (DG (DH _ _) (Dg)) (bk hk fun z102 hz102 hk => ?_)
            refine Si (xs := x96) hO 2 hz102 (EB ([x51] : List Int)) C4 DP W8 MO C4 rfl (fun o102 G hno102 hO => ?_)
            refine pF Lu ?_
            have hc103 := C1 hO (j := 2) rfl
            refine Cs (xs := [_]) hO 3 Kx rfl (fun G hO => ?_) (h3 := hc103.1) (h6 := Bg hc103.2)
            exact pE (bn (gn (⟨x92, x94, z102, x98, x100, o92, o94, o102, o98, o100, _, _, hk, hO, sh⟩)))
           ·exact Ar (bn (gn (⟨x92, x94, x96, x98, x100, o92, o94, o96, o98, o100, _, _, hk, hO, sh⟩)))
     ·rintro _ ⟨x64, x66, x68, x70, x72, o64, o66, o68, o70, o72, J, G, hk, hO, rfl⟩
      refine A4 (AW ?_)
      refine pM (.int _ _) (pE (gn ?_))
      cases hk; exact ⟨_, rfl, o64, o66, o68, o70, o72, _, _, hO, sh⟩
    ·refine D3 (ge (ge (be (bn (gn (have hk := lx hx2 hk; A4 (AW ?_)))))))
     refine pM (.int _ _) (pE (gn ?_))
     cases hk; exact ⟨_, rfl, o53, o55, o57, o59, o61, _, _, hO, sh⟩
   ·refine D3 (ge (ge (be (gn (have hk := lx hx1 hk; A1 (A4 (E4 hO 3 [_, _, _] a7 Ky ?_)))))))
    refine pM o47 ?_
    refine pM o49 ?_
    have hc106 := C1 hO (j := 0) rfl
    have hc107 := C1 hO (j := 1) rfl
    have hc108 := C1 hO (j := 2) rfl
    refine Cs (xs := [_, _, _]) hO 5 Ky rfl (fun G hO => ?_) (h6 := (Bj hc106.2 (Bj hc107.2 (Bj hc108.2 IM))))
    refine pA o47 ?_
    refine pA o49 (pE (gn (Aw ?_)))
    replace hk := Option.some.inj hk; subst hk; exact Gp hO (XL (n := 3) (DL (Ds (n := 2) (DL (HI (xs := x41) hlk 0) (DL (HI (xs := x43) hlk 0) (DL (HI (xs := x45) hlk 0) (HX))))) (DL (HI (xs := x47) hlk 5) (DL (HI (xs := x49) hlk 5) (HX))))) (G9 hO 5 [_, _, _] a7 Ky (JB o47 (JB o49 Dl)))
def mG (aP0 : AP) (aF1 : AD) (aWay2 : Int) : Option Int :=
 ((AK aF1.A7 aWay2).bind fun c3 => (bif (c3.State != (0:Int)) then some (2:Int) else ((kU aP0 aF1 aWay2).bind fun v4 => some v4.2)))
theorem jZ {aP0 : AP} {aF1 : AD} {aWay2 : Int} {r : Int} {l1 l2 m3 l4 m5 l6 l7 l8 m9 : Nat} (hk : mG aP0 aF1 aWay2 = some r) (hlk : 0 < lk.length := by simp) : Am Tryz.prog hh 62 [.agg (Ai l1 0 l2 m3 l4 m5 aP0), .agg (Ah l6 0 l7 0 l8 m9 aF1), iv aWay2] H lk = some (iv r, H) := by
 refine AI Tryz.func62 rfl Tryz.ntmps62 Tryz.results62 rfl rfl fun hO => ?_
 unfold mG at hk
 refine A1 (A4 (BZ (cs := [_, _, _, _, _]) hO CC (fun b1 G hO => ?_)))
 refine BZ (cs := [_, _, _, _]) hO Bv (fun b2 G hO => ?_)
 refine pA (.int _ _) (pE (gn (A1 (A1 (A4 ?_)))))
 refine As Bd hO 0 (.lit _ _ _) Dv ?_
 refine pM (.int _ _) (bk hk fun c3 hc3 hk => ?_)
 refine pX hc3 EJ Av ?_
 refine pF B8 ?_
 refine Br (.int _ _) (D4 (lm := m9) (off := 0) hc3 BU) ?_
 refine AW (pE (gn (Aq hk (fun hk => ?_) (fun hk => ?_))))
 ·refine A1 (A4 (pA (.int _ _) (pE (gn (Aw (gr ?_))))))
  cases hk; exact AT hO
 ·refine Ar (gn (A1 (A4 (E4 hO 1 [_, _, _, _, _] FB CC ?_))))
  refine E4 hO 0 [_, _, _, _] Ep Bv ?_
  refine pM (.int _ _) (bk hk fun v4 hv4 hk => ?_)
  refine AR (fun _ => ZE hv4) ?_
  refine pM (.Fl [_, _]) ?_
  refine iT (.agg [_, _, _]) ?_
  refine iT (.int _ _) (CK hO Ky W0 (fun b5 G hO => ?_))
  refine Cs (xs := [_, _, _]) hO 0 Ky rfl (fun G hO => ?_)
  refine pA (.int _ _) (pE (gn (A1 (A4 ?_))))
  refine pM (.int _ _) ?_
  refine pA (.int _ _) (pE (gn (Aw ?_)))
  cases hk; exact AT hO
def mH (aP0 : AP) (aF1 : AD) (aWay2 : Int) : Option Int :=
 ((kV aP0 aF1 aWay2).bind fun v3 => ((AK aF1.A7 aWay2).bind fun c5 => (bif (c5.State != (0:Int)) then some (2:Int) else (bif decide ((v3.1.A7.length : Int) > (0:Int)) then some (3:Int) else (bif decide ((v3.1.A0.length : Int) > (0:Int)) then some (4:Int) else (bif decide ((v3.2.1.length : Int) > (0:Int)) then some (5:Int) else (bif decide ((v3.2.2.length : Int) > (0:Int)) then some (6:Int) else some (0:Int))))))))
theorem kB {aP0 : AP} {aF1 : AD} {aWay2 : Int} {r : Int} {l1 l2 m3 l4 m5 l6 l7 l8 m9 : Nat} (hk : mH aP0 aF1 aWay2 = some r) (hlk : 0 < lk.length := by simp) : Am Tryz.prog hh 96 [.agg (Ai l1 0 l2 m3 l4 m5 aP0), .agg (Ah l6 0 l7 0 l8 m9 aF1), iv aWay2] H lk = some (iv r, H) := by
 refine AI Tryz.func96 rfl Tryz.ntmps96 Tryz.results96 rfl rfl fun hO => ?_
 unfold mH at hk
 refine A1 (A4 (BZ (cs := [_, _, _, _, _]) hO CC (fun b1 G hO => ?_)))
 refine BZ (cs := [_, _, _, _]) hO Bv (fun b2 G hO => ?_)
 refine pA (.int _ _) (pE (gn (A1 (A4 ?_))))
 refine E4 hO 1 [_, _, _, _, _] FB CC ?_
 refine E4 hO 0 [_, _, _, _] Ep Bv ?_
 refine pM (.int _ _) (bk hk fun v3 hv3 hk => ?_)
 refine AR (fun _ => ZF hv3) ?_
 refine pM (.Fl [_, _, _]) ?_
 refine iT (.agg [_, _, _]) ?_
 refine iT (.lit _ _ _) ?_
 refine iT (.lit _ _ _) (CK hO Ky W0 (fun b4 G hO => ?_))
 refine Cs (xs := [_, _, _]) hO 0 Ky rfl (fun G hO => ?_)
 refine pA (.lit _ _ _) ?_
 refine pA (.lit _ _ _) (pE (gn (A1 (BO (A1 (A4 ?_))))))
 refine As Bd hO 1 (.lit _ _ _) Dv ?_
 refine pM (.int _ _) (bk hk fun c5 hc5 hk => ?_)
 refine pX hc5 EJ Av ?_
 refine pF B8 ?_
 refine Br (.int _ _) (D4 (lm := m9) (off := 0) hc5 BU) ?_
 refine AW ?_
 refine pA (.bool _) (pE (gn (Aq hk (fun hk => ?_) (fun hk => ?_))))
 ·refine A1 (A4 (pA (.int _ _) (pE (gn (Aw (br (gr ?_)))))))
  cases hk; exact AT hO
 ·refine A1 (A4 (As Om hO 0 (.lit _ _ _) BK ?_))
  refine Af D5 ?_
  refine AW ?_
  refine pA (.bool _) (pE (gn (Aq hk (fun hk => ?_) (fun hk => ?_))))
  ·refine A1 (A4 (pA (.int _ _) (pE (gn (Aw (br (gr ?_)))))))
   cases hk; exact AT hO
  ·refine A1 (A4 (As On hO 0 (.lit _ _ _) BK ?_))
   refine Af D5 ?_
   refine AW ?_
   refine pA (.bool _) (pE (gn (Aq hk (fun hk => ?_) (fun hk => ?_))))
   ·refine A1 (A4 (pA (.int _ _) (pE (gn (Aw (br (gr ?_)))))))
    cases hk; exact AT hO
   ·refine A1 (A4 (pM (.lit _ _ _) ?_))
    refine Af D5 ?_
    refine AW ?_
    refine pA (.bool _) (pE (gn (Aq hk (fun hk => ?_) (fun hk => ?_))))
    ·refine A1 (A4 (pA (.int _ _) (pE (gn (Aw (br (gr ?_)))))))
     cases hk; exact AT hO
    ·refine A1 (A4 (pM (.lit _ _ _) ?_))
     refine Af D5 ?_
     refine AW ?_
     refine pA (.bool _) (pE (gn (Aq hk (fun hk => ?_) (fun hk => ?_))))
     ·refine A1 (A4 (pA (.int _ _) (pE (gn (Aw (br (gr ?_)))))))
      cases hk; exact AT hO
     ·refine Ar (bn (gn (A1 (A4 (pA (.int _ _) (pE (gn (Aw ?_))))))))
      cases hk; exact AT hO
end
end Go.Proofs.YtphpkphklegfeaaGreat.K
