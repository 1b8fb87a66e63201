/-
 The functions that FnExactDoFrame reaches, as typed Lean functions, and that the interpreter computes them. Part 4 of 4. No conditions.
-/
import Derived.Test.YtphpkphklegfeaaGreatDDfc
set_option linter.unusedVariables false
set_option linter.unusedSimpArgs false
set_option maxRecDepth 100000
set_option autoImplicit true
set_option relaxedAutoImplicit true
namespace Go.Proofs.YtphpkphklegfeaaGreat.K
open Tryz renaming prog → ai
open Option.some renaming inj → av
open List renaming length_append → an, length_singleton → cn
open Int renaming tmod → ja
noncomputable section
variable {H : A6} {lk : Lk}
def SS (x9 : Int) (x10 : List Int) : Option (((List Int) × Int) ⊕ (DK × (List Int) × (List Int))) :=
 some (.inl (x10, BE (x9 + 1)))
def SU (x29 : Int) (x30 : List Int) (x32 : List Int) : Option (((List Int) × (List Int) × Int) ⊕ (DK × (List Int) × (List Int))) :=
 some (.inl (x30, x32, BE (x29 + 1)))
def Jo (x63 : Int) (x64 : List Int) (x66 : List Int) (x68 : List Int) (x70 : List Int) (x72 : List Int) : Option (((List Int) × (List Int) × (List Int) × (List Int) × (List Int) × Int) ⊕ (((List Int) × (List Int) × (List Int) × (List Int) × (List Int) × Int) ⊕ (DK × (List Int) × (List Int)))) :=
 some (.inl (x64, x66, x68, x70, x72, BE (x63 + 1)))
def SW (x51 : Int) (x63 : Int) (v78 : (List Int)) (c80 : Bool) (x91 : List Int) (x93 : List Int) (x95 : List Int) (x97 : List Int) (x99 : List Int) : Option (((List Int) × (List Int) × (List Int) × (List Int) × (List Int) × Int) ⊕ (((List Int) × (List Int) × (List Int) × (List Int) × (List Int) × Int) ⊕ (DK × (List Int) × (List Int)))) :=
 (bif (decide ((v78.length : Int) > 0) || c80) then ((DP 8 x95 ([x51] : List Int)).bind fun z101 => (Jo x63 x91 x93 z101 x97 x99)) else (Jo x63 x91 x93 x95 x97 x99))
def SV (x51 : Int) (x63 : Int) (v78 : (List Int)) (c80 : Bool) (x81 : List Int) (x83 : List Int) (x85 : List Int) (x87 : List Int) (x89 : List Int) : Option (((List Int) × (List Int) × (List Int) × (List Int) × (List Int) × Int) ⊕ (((List Int) × (List Int) × (List Int) × (List Int) × (List Int) × Int) ⊕ (DK × (List Int) × (List Int)))) :=
 (bif c80 then ((DP 8 x89 ([x51] : List Int)).bind fun z103 => (SW x51 x63 v78 c80 x81 x83 x85 x87 z103)) else (SW x51 x63 v78 c80 x81 x83 x85 x87 x89))
def Iz (aP0 : AT) (aF1 : Frame) (x51 : Int) (v52 : (List Af)) : ((List Int) × (List Int) × (List Int) × (List Int) × (List Int) × Int) → Option (((List Int) × (List Int) × (List Int) × (List Int) × (List Int) × Int) ⊕ (((List Int) × (List Int) × (List Int) × (List Int) × (List Int) × Int) ⊕ (DK × (List Int) × (List Int)))) := fun s =>
 (bif decide (s.2.2.2.2.2 < (v52.length : Int)) then ((AH v52 s.2.2.2.2.2).bind fun c74 => ((bif (c74.Switch != x51) then some true else ((AH aF1.A1 x51).bind fun c77 => some (c77.Want == c74.CK))).bind fun t76 => (bif t76 then (Jo s.2.2.2.2.2 s.1 s.2.1 s.2.2.1 s.2.2.2.1 s.2.2.2.2.1) else ((lK aP0 aF1 x51).bind fun v78 => ((AH aP0.A5 x51).bind fun c79 => ((AH aF1.B1 c79).bind fun c80 => (bif decide ((v78.length : Int) > 0) then ((DP 8 s.2.2.2.1 ([x51] : List Int)).bind fun z104 => (SV x51 s.2.2.2.2.2 v78 c80 s.1 s.2.1 s.2.2.1 z104 s.2.2.2.2.1)) else (SV x51 s.2.2.2.2.2 v78 c80 s.1 s.2.1 s.2.2.1 s.2.2.2.1 s.2.2.2.2.1)))))))) else ((some (.inl (s.1, s.2.1, s.2.2.1, s.2.2.2.1, s.2.2.2.2.1, BE (x51 + 1)))).map Sum.inr))
def Mj (aP0 : AT) (aF1 : Frame) (c4 : CA) : ((List Int) × (List Int) × (List Int) × (List Int) × (List Int) × Int) → Option (((List Int) × (List Int) × (List Int) × (List Int) × (List Int) × Int) ⊕ (DK × (List Int) × (List Int))) := fun s =>
 (bif decide (s.2.2.2.2.2 < (aP0.A5.length : Int)) then ((ZG c4).bind fun v52 => (AG (Iz aP0 aF1 s.2.2.2.2.2 v52) (s.1, s.2.1, s.2.2.1, s.2.2.2.1, s.2.2.2.2.1, (0:Int)))) else ((some (({ A3 := s.1, A0 := s.2.1, A1 := s.2.2.1 } : DK), s.2.2.2.1, s.2.2.2.2.1)).map Sum.inr))
def Ku (aP0 : AT) (aF1 : Frame) (c4 : CA) : ((List Int) × (List Int) × Int) → Option (((List Int) × (List Int) × Int) ⊕ (DK × (List Int) × (List Int))) := fun s =>
 (bif decide (s.2.2 < aP0.A0) then ((AH aF1.B1 s.2.2).bind fun c34 => ((bif c34 then ((eD c4.A0 s.2.2).bind fun v36 => ((bif v36 then some true else ((eD c4.Bl s.2.2).bind fun v38 => some v38)).bind fun t37 => some t37)) else some false).bind fun t35 => (bif t35 then ((DP 8 s.2.1 ([s.2.2] : List Int)).bind fun z39 => (SU s.2.2 s.1 z39)) else (SU s.2.2 s.1 s.2.1)))) else ((AG (Mj aP0 aF1 c4) (s.1, s.2.1, ([] : List Int), ([] : List Int), ([] : List Int), (0:Int))).map Sum.inr))
def Mi (aP0 : AT) (aF1 : Frame) (aWay2 : Int) (c4 : CA) : ((List Int) × Int) → Option (((List Int) × Int) ⊕ (DK × (List Int) × (List Int))) := fun s =>
 (bif decide (s.2 < (aF1.A3.length : Int)) then ((AH aF1.A3 s.2).bind fun c12 => ((bif ((s.2 != aWay2) && (c12.State != 0)) then ((AH aP0.Bk aWay2).bind fun c15 => ((AH c15 s.2).bind fun c16 => ((bif c16 then some true else ((AH aP0.A3 s.2).bind fun c18 => ((gM c4.A0 c18.Bl).bind fun v19 => some v19))).bind fun t17 => ((bif t17 then some true else ((AH aP0.A3 s.2).bind fun c21 => ((gM c4.Bl c21.A0).bind fun v22 => some v22))).bind fun t20 => some t20)))) else some false).bind fun t14 => (bif t14 then ((DP 8 s.1 ([s.2] : List Int)).bind fun z23 => (SS s.2 z23)) else (SS s.2 s.1)))) else ((AG (Ku aP0 aF1 c4) (s.1, ([] : List Int), (0:Int))).map Sum.inr))
def nA (aP0 : AT) (aF1 : Frame) (aWay2 : Int) : Option (DK × (List Int) × (List Int)) :=
 ((AH aP0.A3 aWay2).bind fun c4 => (AG (Mi aP0 aF1 aWay2 c4) (([] : List Int), (0:Int))))
theorem dI (hk : nA aP0 aF1 aWay2 = some r) (hlk : 0 < lk.length := by simp) : Am ai hh 59 [.agg (AY l1 0 l2 m3 l4 m5 aP0), .agg (Ah l6 0 l7 0 l8 m9 aF1), iv aWay2] H lk = some (.GS [.agg [AK 0 0 r.1.A3, AK 0 0 r.1.A0, AK 0 0 r.1.A1], AK 0 0 r.2.1, AK 0 0 r.2.2], H) := by
 refine AF Tryz.func59 rfl Tryz.ntmps59 Tryz.results59 rfl rfl fun hO => ?_
 unfold nA at hk
 refine sr (BR (cs := [_, _, _, _, _]) hO C0 (fun b1 G hO => ?_))
 refine BR (cs := [_, _, _, _]) hO BZ (fun b2 G hO => C9 hO MM Y9 (fun b3 G hO => ?_))
 refine pA (.tl 0 []) ?_
 refine pA (.tl 0 []) (pg (sr ?_))
 refine Ad BY hO 2 (.lit _ _ _) Df ?_
 refine pM (.int _ _) (bk hk fun c4 hc4 hk => ?_)
 refine pX hc4 EY Ay ?_
 refine Bq (.agg [_, _, _, _, _]) (GC (lm := m3) (off := 0) hc4 Ec Ay) (C9 hO Ay Il (fun b5 G hO => ?_))
 refine Cg (xs := [_, _, _, _, _]) hO 0 Ay rfl (fun G hO => pg (sr (C9 hO MM Y9 (fun b6 G hO => pg (AV (sr ?_))))))
 refine Ad BT hO 3 (.lit _ _ _) DZ ?_
 refine Ae Hk ?_
 refine pM (.int _ _) (pg (BO ?_))
 refine A9 (F := Mi aP0 aF1 aWay2 c4) (fun s S' => ∃ o7 J G, A4 H G [.own o7 lk.length 1 s.1.length (A8 0 s.1), .AW b6 (.cells 3 [o7, (.tl 0 []), (.tl 0 [])]), .AW b5 (.cells 5 (DG m3 0 m3 0 m3 0 m3 0 m3 0 c4)), .AW b3 (.cells 3 [(.tl 0 []), (.tl 0 []), (.tl 0 [])]), .AW b2 (.cells 4 (Ah l6 0 l7 0 l8 m9 aF1)), .AW b1 (.cells 5 (AY l1 0 l2 m3 l4 m5 aP0))] ∧ S' = ⟨CM [(2, iv aWay2),(3, .ptr b1 0),(4, .ptr b2 0),(6, .ptr b3 0),(9, .ptr b5 0),(10, .ptr b6 0),(27, AK l8 m9 aF1.A3),(28, iv (aF1.A3.length : Int)),(29, iv s.2)] J, G⟩) hk ⟨(.tl 0 []), _, _, (A4.Hn hO lk.length ([] : List Int)), sh⟩ ?_
 rintro ⟨x7, x9⟩ _ y1 ⟨o7, J, G, hO, rfl⟩ hk hx1
 refine sr (AO (pg (AV (Ak hk ?_ ?_)))) <;> intro hk
 ·refine Ao (gn (By (fun S' => ∃ x10 o10 J G, SS x9 x10 = some y1 ∧ A4 H G [.own o10 lk.length 1 x10.length (A8 0 x10), .AW b6 (.cells 3 [o10, (.tl 0 []), (.tl 0 [])]), .AW b5 (.cells 5 (DG m3 0 m3 0 m3 0 m3 0 m3 0 c4)), .AW b3 (.cells 3 [(.tl 0 []), (.tl 0 []), (.tl 0 [])]), .AW b2 (.cells 4 (Ah l6 0 l7 0 l8 m9 aF1)), .AW b1 (.cells 5 (AY l1 0 l2 m3 l4 m5 aP0))] ∧ S' = ⟨CM [(2, iv aWay2),(3, .ptr b1 0),(4, .ptr b2 0),(6, .ptr b3 0),(9, .ptr b5 0),(10, .ptr b6 0),(27, AK l8 m9 aF1.A3),(28, iv (aF1.A3.length : Int)),(29, iv x9)] J, G⟩) ?_ ?_))
  ·refine BO (sr (pM (.int _ _) (bk hk fun c12 hc12 hk => ?_)))
   refine pX hc12 Da Av ?_
   refine Bq (.agg [_, _, _, _, _]) (GC (lm := m9) (off := 0) hc12 Gl Av) (C9 hO Av G8 (fun b13 G hO => ?_))
   refine pA (.int _ _) ?_
   refine Cg (xs := [_, _, _, _, _]) hO 0 Av rfl (fun G hO => pg (AV ?_))
   refine HY [0,2,4,6,8,11,12,14,16,18,21,23,24,27,29,30,33,34,37,39,41,43,45,47,49,51,52,54,56,59,61,63,65,67,69,71,73,74,76,78] [_,_,_,_,_,_,_,_,_,_,_,_,_,_,_,_,_,_,_,_,_,_,_,_,_,_,_,_,_,_,_,_,_,_,_,_,_,_,_,_] ?_
   refine pM (.int _ _) ?_
   refine pM (.int _ _) ?_
   refine AO ?_
   refine pM (.bool _) ?_
   refine AP (l1 := [_, _, _, _]) [38, 39, 40, 41] 41 (.bool ((x9 != aWay2) && (c12.State != 0))) ?_ ?_
   ·refine bc (b := (x9 != aWay2)) ?_ ?_ <;> intro hg
    ·refine AA hg (pF Az (AA hg ?_))
     refine CT hO 0 (.int _ _) B3 (AA hg ?_)
     refine AO ?_
     refine Cm hg (.bool _) ?_
     exact pE (ek (by rw [hg]; rfl))
    refine Bg hg (Bg hg (Bg hg (Cl hg (.bool _) ?_)))
    exact pE (ek (by rw [hg]; rfl))
   intro J
   refine pM (.bool _) (bk hk fun t14 ht hk => ?_)
   refine AP (l1 := [_, _, _, _, _, _, _, _, _, _, _, _, _, _, _, _, _, _, _, _, _, _, _, _, _, _, _, _, _, _, _]) [43, 44, 45, 46, 47, 48, 49, 50, 51, 52, 53, 54, 55, 56, 57, 58, 59, 60, 61, 62, 63, 64, 65, 66, 67, 68, 69, 70, 71, 72, 73] 73 (.bool t14) ?_ ?_
   ·refine bc (b := ((x9 != aWay2) && (c12.State != 0))) ?_ ?_ <;> intro hg
    ·replace hk := ct hg ht
     refine AA hg (pF Er (AA hg ?_))
     refine CT hO 6 (.lit _ _ _) JX (AA hg ?_)
     refine pM (.int _ _) (AA hg (bk hk fun c15 hc15 hk => ?_))
     refine pX hc15 JZ Gs (AA hg ?_)
     refine Bq (.lit _ _ _) (Cu (lm := m5) (off := 0) hc15 C5) (AA hg ?_)
     refine pM (.int _ _) (AA hg (bk hk fun c16 hc16 hk => ?_))
     refine pX hc16 Cd Eu (AA hg ?_)
     refine Bq (.bool _) (Cu (lm := 0) (off := 0) hc16 Fu) (AA hg ?_)
     refine pM (.bool _) (bk hk fun t17 ht hk => ?_)
     refine AP (l1 := [_, _, _, _, _, _, _, _, _, _]) [52, 53, 54, 55, 56, 57, 58, 59, 60, 61] 61 (.bool t17) ?_ ?_
     ·refine bc (b := c16) (fun hg2 => ?_) (fun hg2 => ?_)
      ·replace hk := ct hg2 ht
       repeat refine Bg hg2 ?_
       refine AA hg (Cm hg2 (.bool _) ?_)
       cases hk; exact pE ek
      replace hk := cf hg2 ht
      refine AA hg2 (pF BS (AA hg2 ?_))
      refine CT hO 3 (.lit _ _ _) BN (AA hg2 ?_)
      refine pF BY (AA hg2 ?_)
      refine CT hO 6 (.lit _ _ _) Df (AA hg2 ?_)
      refine pM (.int _ _) (AA hg2 (bk hk fun c18 hc18 hk => ?_))
      refine pX hc18 EY Ay (AA hg2 ?_)
      refine pF E6 (AA hg2 ?_)
      refine Bq (.lit _ _ _) (Cu (lm := m3) (off := 3) hc18 BN) (AA hg2 (bk hk fun v19 hv19 hk => ?_))
      refine AM (fun _ => OM hv19) (AA hg ?_)
      refine Cl hg2 (.bool _) ?_
      cases hk; exact pE ek
     intro J
     refine AA hg (pM (.bool _) (bk hk fun t20 ht hk => ?_))
     refine AP (l1 := [_, _, _, _, _, _, _, _, _, _]) [63, 64, 65, 66, 67, 68, 69, 70, 71, 72] 72 (.bool t20) ?_ ?_
     ·refine bc (b := t17) (fun hg2 => ?_) (fun hg2 => ?_)
      ·replace hk := ct hg2 ht
       repeat refine Bg hg2 ?_
       refine AA hg (Cm hg2 (.bool _) ?_)
       cases hk; exact pE ek
      replace hk := cf hg2 ht
      refine AA hg2 (pF E6 (AA hg2 ?_))
      refine CT hO 3 (.lit _ _ _) BN (AA hg2 ?_)
      refine pF BY (AA hg2 ?_)
      refine CT hO 6 (.lit _ _ _) Df (AA hg2 ?_)
      refine pM (.int _ _) (AA hg2 (bk hk fun c21 hc21 hk => ?_))
      refine pX hc21 EY Ay (AA hg2 ?_)
      refine pF BS (AA hg2 ?_)
      refine Bq (.lit _ _ _) (Cu (lm := m3) (off := 0) hc21 BN) (AA hg2 (bk hk fun v22 hv22 hk => ?_))
      refine AM (fun _ => OM hv22) (AA hg ?_)
      refine Cl hg2 (.bool _) ?_
      cases hk; exact pE ek
     intro J
     refine Cm hg (.bool _) ?_
     cases hk; exact pE ek
    replace hk := cf hg ht
    repeat refine Bg hg ?_
    refine Cp (Cp (Cp (Cp (Cp (Cp (Cp (Cp (Cp (Bg hg (Bg hg (Cp (Cp (Cp (Cp (Cp (Cp (Cp (Cp (Cp (Bg hg (Cl hg (.bool _) ?_)))))))))))))))))))))
    cases hk; exact pE ek
   intro J
   refine pg (Ak hk ?_ ?_) <;> intro hk
   ·refine Bs (Ad QT hO 2 o7 BN ?_)
    refine pM (.int _ _) ?_
    refine Vi (ps := [(0, (.int _ _))]) ([x9] : List Int) CG DB Nv (Dh (Di _ _) (EJ)) (bk hk fun z23 hz23 hk => ?_)
    refine Uf (xs := x7) hO 1 hz23 (Ee ([x9] : List Int)) CG DB YK Nv CG rfl (fun o23 G hno23 hO => ?_)
    refine pF QT ?_
    have hc24 := CI hO (j := 1) rfl
    refine Cg (xs := [_]) hO 2 ML rfl (fun G hO => ?_) (h3 := hc24.1) (h6 := Bw hc24.2)
    exact pE (bn (gn (⟨z23, o23, _, _, hk, (pk hO [1, 2, 3, 4, 5, 6]), sh⟩)))
   exact Ao (bn (gn (⟨x7, o7, _, _, hk, (pk hO [1, 2, 3, 4, 5, 6]), sh⟩)))
  rintro _ ⟨x10, o10, J, G, hk, hO, rfl⟩
  refine Bs (AO ?_)
  refine pM (.int _ _) (pg ?_)
  cases hk; exact ⟨_, rfl, o10, _, _, hO, sh⟩
 refine D5 (ge (ge (be (gn (have hk := lx hx1 hk; AV (sr (Ad ES hO 5 (.int _ _) B3 ?_)))))))
 refine pM (.int _ _) (pg (BO ?_))
 refine A9 (F := Ku aP0 aF1 c4) (fun s S' => ∃ o25 o27 J G, A4 H G [.own o25 lk.length 1 s.1.length (A8 0 s.1), .own o27 lk.length 1 s.2.1.length (A8 0 s.2.1), .AW b6 (.cells 3 [o25, o27, (.tl 0 [])]), .AW b5 (.cells 5 (DG m3 0 m3 0 m3 0 m3 0 m3 0 c4)), .AW b3 (.cells 3 [(.tl 0 []), (.tl 0 []), (.tl 0 [])]), .AW b2 (.cells 4 (Ah l6 0 l7 0 l8 m9 aF1)), .AW b1 (.cells 5 (AY l1 0 l2 m3 l4 m5 aP0))] ∧ S' = ⟨CM [(3, .ptr b1 0),(4, .ptr b2 0),(6, .ptr b3 0),(9, .ptr b5 0),(10, .ptr b6 0),(82, iv aP0.A0),(83, iv s.2.2)] J, G⟩) hk ⟨o7, (.tl 0 []), _, _, (A4.pick (A4.Hn hO lk.length ([] : List Int)) [1, 0, 2, 3, 4, 5, 6] (by decide) rfl), sh⟩ ?_
 rintro ⟨x25, x27, x29⟩ _ y1 ⟨o25, o27, J, G, hO, rfl⟩ hk hx1
 refine sr (AO (pg (AV (Ak hk ?_ ?_)))) <;> intro hk
 ·refine Ao (gn (By (fun S' => ∃ x30 x32 o30 o32 J G, SU x29 x30 x32 = some y1 ∧ A4 H G [.own o30 lk.length 1 x30.length (A8 0 x30), .own o32 lk.length 1 x32.length (A8 0 x32), .AW b6 (.cells 3 [o30, o32, (.tl 0 [])]), .AW b5 (.cells 5 (DG m3 0 m3 0 m3 0 m3 0 m3 0 c4)), .AW b3 (.cells 3 [(.tl 0 []), (.tl 0 []), (.tl 0 [])]), .AW b2 (.cells 4 (Ah l6 0 l7 0 l8 m9 aF1)), .AW b1 (.cells 5 (AY l1 0 l2 m3 l4 m5 aP0))] ∧ S' = ⟨CM [(3, .ptr b1 0),(4, .ptr b2 0),(6, .ptr b3 0),(9, .ptr b5 0),(10, .ptr b6 0),(82, iv aP0.A0),(83, iv x29)] J, G⟩) ?_ ?_))
  ·refine BO (sr (pM (.int _ _) ?_))
   refine pA (.int _ _) (pg (sr ?_))
   refine Ad CP hO 5 (.lit _ _ _) C5 ?_
   refine pM (.int _ _) (bk hk fun c34 hc34 hk => ?_)
   refine pX hc34 Cd Eu ?_
   refine Bq (.bool _) (Cu (lm := 0) (off := 0) hc34 Fu) ?_
   refine pM (.bool _) (bk hk fun t35 ht hk => ?_)
   refine AP (l1 := [_, _, _, _, _, _, _, _, _, _, _]) [92, 93, 94, 95, 96, 97, 98, 99, 100, 101, 102] 102 (.bool t35) ?_ ?_
   ·refine bc (b := c34) ?_ ?_ <;> intro hg
    ·replace hk := ct hg ht
     refine AA hg (pF BS (AA hg ?_))
     refine CT hO 3 (.lit _ _ _) BN (AA hg ?_)
     refine pM (.int _ _) (AA hg (bk hk fun v36 hv36 hk => ?_))
     refine AM (fun _ => Ln hv36) (AA hg ?_)
     refine pM (.bool _) (bk hk fun t37 ht hk => ?_)
     refine AP (l1 := [_, _, _, _, _]) [97, 98, 99, 100, 101] 101 (.bool t37) ?_ ?_
     ·refine bc (b := v36) (fun hg2 => ?_) (fun hg2 => ?_)
      ·replace hk := ct hg2 ht
       repeat refine Bg hg2 ?_
       refine AA hg (Cm hg2 (.bool _) ?_)
       cases hk; exact pE ek
      replace hk := cf hg2 ht
      refine AA hg2 (pF E6 (AA hg2 ?_))
      refine CT hO 3 (.lit _ _ _) BN (AA hg2 ?_)
      refine pM (.int _ _) (AA hg2 (bk hk fun v38 hv38 hk => ?_))
      refine AM (fun _ => Ln hv38) (AA hg ?_)
      refine Cl hg2 (.bool _) ?_
      cases hk; exact pE ek
     intro J
     refine Cm hg (.bool _) ?_
     cases hk; exact pE ek
    replace hk := cf hg ht
    repeat refine Bg hg ?_
    refine Cp (Cp (Cp (Cp (Bg hg (Cl hg (.bool _) ?_)))))
    cases hk; exact pE ek
   intro J
   refine pg (Ak hk ?_ ?_) <;> intro hk
   ·refine Bs (Ad QU hO 2 o27 BN ?_)
    refine pM (.int _ _) ?_
    refine Vi (ps := [(0, (.int _ _))]) ([x29] : List Int) CG DB Nv (Dh (Di _ _) (EJ)) (bk hk fun z39 hz39 hk => ?_)
    refine Uf (xs := x27) hO 1 hz39 (Ee ([x29] : List Int)) CG DB YK Nv CG rfl (fun o39 G hno39 hO => ?_)
    refine pF QU ?_
    have hc40 := CI hO (j := 1) rfl
    refine Cg (xs := [_]) hO 2 ML rfl (fun G hO => ?_) (h3 := hc40.1) (h6 := Bw hc40.2)
    exact pE (bn (gn (⟨x25, z39, o25, o39, _, _, hk, hO, sh⟩)))
   exact Ao (bn (gn (⟨x25, x27, o25, o27, _, _, hk, hO, sh⟩)))
  rintro _ ⟨x30, x32, o30, o32, J, G, hk, hO, rfl⟩
  refine Bs (AO ?_)
  refine pM (.int _ _) (pg ?_)
  cases hk; exact ⟨_, rfl, o30, o32, _, _, hO, sh⟩
 refine D5 (ge (ge (be (gn (have hk := lx hx1 hk; sr (pA (.tl 0 []) ?_))))))
 refine pA (.tl 0 []) (pg (AV (sr ?_)))
 refine Ad D4 hO 6 (.lit _ _ _) BN ?_
 refine Ae DA ?_
 refine pM (.int _ _) (pg (BO ?_))
 refine A9 (F := Mj aP0 aF1 c4) (fun s S' => ∃ o41 o43 o45 o47 o49 J G, A4 H G [.own o41 lk.length 1 s.1.length (A8 0 s.1), .own o43 lk.length 1 s.2.1.length (A8 0 s.2.1), .own o45 lk.length 1 s.2.2.1.length (A8 0 s.2.2.1), .AW b6 (.cells 3 [o41, o43, o45]), .AW b5 (.cells 5 (DG m3 0 m3 0 m3 0 m3 0 m3 0 c4)), .AW b3 (.cells 3 [(.tl 0 []), (.tl 0 []), (.tl 0 [])]), .AW b2 (.cells 4 (Ah l6 0 l7 0 l8 m9 aF1)), .AW b1 (.cells 5 (AY l1 0 l2 m3 l4 m5 aP0)), .own o47 lk.length 1 s.2.2.2.1.length (A8 0 s.2.2.2.1), .own o49 lk.length 1 s.2.2.2.2.1.length (A8 0 s.2.2.2.2.1)] ∧ S' = ⟨CM [(3, .ptr b1 0),(4, .ptr b2 0),(6, .ptr b3 0),(9, .ptr b5 0),(10, .ptr b6 0),(14, o47),(15, o49),(112, iv (aP0.A5.length : Int)),(113, iv s.2.2.2.2.2)] J, G⟩) hk ⟨o25, o27, (.tl 0 []), (.tl 0 []), (.tl 0 []), _, _, (A4.pick (A4.Hn (A4.Hn (A4.Hn hO lk.length ([] : List Int)) lk.length ([] : List Int)) lk.length ([] : List Int)) [3, 4, 2, 5, 6, 7, 8, 9, 1, 0] (by decide) rfl), sh⟩ ?_
 rintro ⟨x41, x43, x45, x47, x49, x51⟩ _ y1 ⟨o41, o43, o45, o47, o49, J, G, hO, rfl⟩ hk hx1
 refine sr (AO (pg (AV (Ak hk ?_ ?_)))) <;> intro hk
 ·refine Ao (gn (AV (BO (sr (pM (.int _ _) ?_)))))
  refine pA (.int _ _) (pg (sr ?_))
  refine D9 hO 4 [_, _, _, _, _] Ec Ay (bk hk fun v52 hv52 hk => ?_)
  refine AM (fun _ => Se hv52) ?_
  refine Ae FF ?_
  refine pM (.int _ _) (pg (BO ?_))
  refine A9 (F := Iz aP0 aF1 x51 v52) (fun s S' => ∃ o53 o55 o57 o59 o61 J G, A4 H G [.own o53 lk.length 1 s.1.length (A8 0 s.1), .own o55 lk.length 1 s.2.1.length (A8 0 s.2.1), .own o57 lk.length 1 s.2.2.1.length (A8 0 s.2.2.1), .AW b6 (.cells 3 [o53, o55, o57]), .AW b5 (.cells 5 (DG m3 0 m3 0 m3 0 m3 0 m3 0 c4)), .AW b3 (.cells 3 [(.tl 0 []), (.tl 0 []), (.tl 0 [])]), .AW b2 (.cells 4 (Ah l6 0 l7 0 l8 m9 aF1)), .AW b1 (.cells 5 (AY l1 0 l2 m3 l4 m5 aP0)), .own o59 lk.length 1 s.2.2.2.1.length (A8 0 s.2.2.2.1), .own o61 lk.length 1 s.2.2.2.2.1.length (A8 0 s.2.2.2.2.1)] ∧ S' = ⟨CM [(3, .ptr b1 0),(4, .ptr b2 0),(6, .ptr b3 0),(9, .ptr b5 0),(10, .ptr b6 0),(14, o59),(15, o61),(16, iv x51),(112, iv (aP0.A5.length : Int)),(113, iv x51),(117, AK 0 0 v52),(118, iv (v52.length : Int)),(119, iv s.2.2.2.2.2)] J, G⟩) hk ⟨o41, o43, o45, o47, o49, _, _, hO, sh⟩ ?_
  rintro ⟨x53, x55, x57, x59, x61, x63⟩ _ y2 ⟨o53, o55, o57, o59, o61, J, G, hO, rfl⟩ hk hx2
  refine sr (AO (pg (AV (Ak hk ?_ ?_)))) <;> intro hk
  ·refine Ao (gn (By (fun S' => ∃ x64 x66 x68 x70 x72 o64 o66 o68 o70 o72 J G, Jo x63 x64 x66 x68 x70 x72 = some y2 ∧ A4 H G [.own o64 lk.length 1 x64.length (A8 0 x64), .own o66 lk.length 1 x66.length (A8 0 x66), .own o68 lk.length 1 x68.length (A8 0 x68), .AW b6 (.cells 3 [o64, o66, o68]), .AW b5 (.cells 5 (DG m3 0 m3 0 m3 0 m3 0 m3 0 c4)), .AW b3 (.cells 3 [(.tl 0 []), (.tl 0 []), (.tl 0 [])]), .AW b2 (.cells 4 (Ah l6 0 l7 0 l8 m9 aF1)), .AW b1 (.cells 5 (AY l1 0 l2 m3 l4 m5 aP0)), .own o70 lk.length 1 x70.length (A8 0 x70), .own o72 lk.length 1 x72.length (A8 0 x72)] ∧ S' = ⟨CM [(3, .ptr b1 0),(4, .ptr b2 0),(6, .ptr b3 0),(9, .ptr b5 0),(10, .ptr b6 0),(14, o70),(15, o72),(16, iv x51),(112, iv (aP0.A5.length : Int)),(113, iv x51),(117, AK 0 0 v52),(118, iv (v52.length : Int)),(119, iv x63)] J, G⟩) ?_ ?_))
   ·refine BO (sr (bk hk fun c74 hc74 hk => pX hc74 Dy BA ?_))
    refine Bq (.agg [_, _]) (GC (lm := 0) (off := 0) hc74 G9 BA) (C9 hO BA Fo (fun b75 G hO => ?_))
    refine Cg (xs := [_, _]) hO 0 BA rfl (fun G hO => pg (AV (AV ?_)))
    refine HY [0,3,5,6,8,11,13,15,17,19,21,23,25,26,28] [_,_,_,_,_,_,_,_,_,_,_,_,_,_,_] ?_
    refine Ad CU hO 0 (.int _ _) B3 ?_
    refine pM (.int _ _) ?_
    refine AO ?_
    refine pM (.bool _) (bk hk fun t76 ht hk => ?_)
    refine AP (l1 := [_, _, _, _, _, _, _, _, _, _]) [128, 129, 130, 131, 132, 133, 134, 135, 136, 137] 137 (.bool t76) ?_ ?_
    ·refine bc (b := (c74.Switch != x51)) ?_ ?_ <;> intro hg
     ·replace hk := ct hg ht
      repeat refine Bg hg ?_
      refine Cm hg (.bool _) ?_
      cases hk; exact pE ek
     replace hk := cf hg ht
     refine AA hg (pF Cv (AA hg ?_))
     refine CT hO 7 (.lit _ _ _) H9 (AA hg ?_)
     refine pM (.int _ _) (AA hg (bk hk fun c77 hc77 hk => ?_))
     refine pX hc77 Gm Dq (AA hg ?_)
     refine pF GA (AA hg ?_)
     refine Bq (.int _ _) (Cu (lm := 0) (off := 0) hc77 B3) (AA hg ?_)
     refine pF E7 (AA hg ?_)
     refine CT hO 0 (.int _ _) B3 (AA hg ?_)
     refine AO ?_
     refine Cl hg (.bool _) ?_
     cases hk; exact pE ek
    intro J
    refine pg (Ak hk ?_ ?_) <;> intro hk
    ·exact D5 (ge (be (gn (⟨x53, x55, x57, x59, x61, o53, o55, o57, o59, o61, _, _, hk, (pk hO [1, 2, 3, 4, 5, 6, 7, 8, 9, 10]), sh⟩))))
    refine Ao (gn (sr (D9 hO 8 [_, _, _, _, _] EP C0 ?_)))
    refine D9 hO 7 [_, _, _, _] DT BZ ?_
    refine pM (.int _ _) (bk hk fun v78 hv78 hk => ?_)
    refine AM (fun _ => WQ hv78) ?_
    refine Ae DA ?_
    refine AO ?_
    refine pA (.bool _) (pg (AV ?_))
    refine HY [1,3,5,7,9,11,13,14,17,18] [_,_,_,_,_,_,_,_,_,_] ?_
    refine Ad CP hO 7 (.lit _ _ _) C5 ?_
    refine Ad D4 hO 8 (.lit _ _ _) BN ?_
    refine pM (.int _ _) (bk hk fun c79 hc79 hk => ?_)
    refine pX hc79 CG DB ?_
    refine Bq (.int _ _) (Cu (lm := 0) (off := 0) hc79 B3) (bk hk fun c80 hc80 hk => ?_)
    refine pX hc80 Cd Eu ?_
    refine Bq (.bool _) (Cu (lm := 0) (off := 0) hc80 Fu) ?_
    refine pA (.bool _) (pg ?_)
    refine By (fun S' => ∃ x81 x83 x85 x87 x89 o81 o83 o85 o87 o89 J G, SV x51 x63 v78 c80 x81 x83 x85 x87 x89 = some y2 ∧ A4 H G [.own o81 lk.length 1 x81.length (A8 0 x81), .own o83 lk.length 1 x83.length (A8 0 x83), .own o85 lk.length 1 x85.length (A8 0 x85), .AW b6 (.cells 3 [o81, o83, o85]), .AW b5 (.cells 5 (DG m3 0 m3 0 m3 0 m3 0 m3 0 c4)), .AW b3 (.cells 3 [(.tl 0 []), (.tl 0 []), (.tl 0 [])]), .AW b2 (.cells 4 (Ah l6 0 l7 0 l8 m9 aF1)), .AW b1 (.cells 5 (AY l1 0 l2 m3 l4 m5 aP0)), .own o87 lk.length 1 x87.length (A8 0 x87), .own o89 lk.length 1 x89.length (A8 0 x89)] ∧ S' = ⟨CM [(3, .ptr b1 0),(4, .ptr b2 0),(6, .ptr b3 0),(9, .ptr b5 0),(10, .ptr b6 0),(14, o87),(15, o89),(16, iv x51),(19, .bool (decide ((v78.length : Int) > 0))),(20, .bool c80),(112, iv (aP0.A5.length : Int)),(113, iv x51),(117, AK 0 0 v52),(118, iv (v52.length : Int)),(119, iv x63)] J, G⟩) ?_ ?_
    ·refine sr (pM (.bool _) (pg (Ak hk ?_ ?_))) <;> intro hk
     ·refine Bs (pM o59 ?_)
      refine pM (.int _ _) ?_
      refine Vi (ps := [(0, (.int _ _))]) ([x51] : List Int) CG DB Nv (Dh (Di _ _) (EJ)) (bk hk fun z104 hz104 hk => ?_)
      refine Uf (xs := x59) hO 9 hz104 (Ee ([x51] : List Int)) CG DB YK Nv CG rfl (fun o104 G hno104 hO => ?_)
      refine pA o104 (pg ?_)
      exact ⟨x53, x55, x57, z104, x61, o53, o55, o57, o104, o61, _, _, hk, (pk hO [1, 2, 3, 4, 5, 6, 7, 8, 9, 10]), sh⟩
     exact Ao (gn (⟨x53, x55, x57, x59, x61, o53, o55, o57, o59, o61, _, _, hk, (pk hO [1, 2, 3, 4, 5, 6, 7, 8, 9, 10]), sh⟩))
    rintro _ ⟨x81, x83, x85, x87, x89, o81, o83, o85, o87, o89, J, G, hk, hO, rfl⟩
    refine By (fun S' => ∃ x91 x93 x95 x97 x99 o91 o93 o95 o97 o99 J G, SW x51 x63 v78 c80 x91 x93 x95 x97 x99 = some y2 ∧ A4 H G [.own o91 lk.length 1 x91.length (A8 0 x91), .own o93 lk.length 1 x93.length (A8 0 x93), .own o95 lk.length 1 x95.length (A8 0 x95), .AW b6 (.cells 3 [o91, o93, o95]), .AW b5 (.cells 5 (DG m3 0 m3 0 m3 0 m3 0 m3 0 c4)), .AW b3 (.cells 3 [(.tl 0 []), (.tl 0 []), (.tl 0 [])]), .AW b2 (.cells 4 (Ah l6 0 l7 0 l8 m9 aF1)), .AW b1 (.cells 5 (AY l1 0 l2 m3 l4 m5 aP0)), .own o97 lk.length 1 x97.length (A8 0 x97), .own o99 lk.length 1 x99.length (A8 0 x99)] ∧ S' = ⟨CM [(3, .ptr b1 0),(4, .ptr b2 0),(6, .ptr b3 0),(9, .ptr b5 0),(10, .ptr b6 0),(14, o97),(15, o99),(16, iv x51),(19, .bool (decide ((v78.length : Int) > 0))),(20, .bool c80),(112, iv (aP0.A5.length : Int)),(113, iv x51),(117, AK 0 0 v52),(118, iv (v52.length : Int)),(119, iv x63)] J, G⟩) ?_ ?_
    ·refine sr (pM (.bool _) (pg (Ak hk ?_ ?_))) <;> intro hk
     ·refine Bs (pM o89 ?_)
      refine pM (.int _ _) ?_
      refine Vi (ps := [(0, (.int _ _))]) ([x51] : List Int) CG DB Nv (Dh (Di _ _) (EJ)) (bk hk fun z103 hz103 hk => ?_)
      refine Uf (xs := x89) hO 9 hz103 (Ee ([x51] : List Int)) CG DB YK Nv CG rfl (fun o103 G hno103 hO => ?_)
      refine pA o103 (pg ?_)
      exact ⟨x81, x83, x85, x87, z103, o81, o83, o85, o87, o103, _, _, hk, hO, sh⟩
     exact Ao (gn (⟨x81, x83, x85, x87, x89, o81, o83, o85, o87, o89, _, _, hk, hO, sh⟩))
    rintro _ ⟨x91, x93, x95, x97, x99, o91, o93, o95, o97, o99, J, G, hk, hO, rfl⟩
    refine sr (pM (.bool _) ?_)
    refine pM (.bool _) ?_
    refine AP (l1 := [_, _]) [165, 166] 166 (.bool (decide ((v78.length : Int) > 0) || c80)) ?_ ?_
    ·refine bc (b := decide ((v78.length : Int) > 0)) ?_ ?_ <;> intro hg
     ·refine Bg hg (Cm hg (.bool _) ?_)
      exact pE (ek (by rw [hg]; rfl))
     refine AA hg (pM (.bool _) ?_)
     refine Cl hg (.bool _) ?_
     exact pE (ek (by rw [hg]; rfl))
    intro J
    refine pg (Ak hk ?_ ?_) <;> intro hk
    ·refine Bs (Ad NM hO 3 o95 BN ?_)
     refine pM (.int _ _) ?_
     refine Vi (ps := [(0, (.int _ _))]) ([x51] : List Int) CG DB Nv (Dh (Di _ _) (EJ)) (bk hk fun z101 hz101 hk => ?_)
     refine Uf (xs := x95) hO 2 hz101 (Ee ([x51] : List Int)) CG DB YK Nv CG rfl (fun o101 G hno101 hO => ?_)
     refine pF NM ?_
     have hc102 := CI hO (j := 2) rfl
     refine Cg (xs := [_]) hO 3 ML rfl (fun G hO => ?_) (h3 := hc102.1) (h6 := Bw hc102.2)
     exact pE (bn (gn (⟨x91, x93, z101, x97, x99, o91, o93, o101, o97, o99, _, _, hk, hO, sh⟩)))
    exact Ao (bn (gn (⟨x91, x93, x95, x97, x99, o91, o93, o95, o97, o99, _, _, hk, hO, sh⟩)))
   rintro _ ⟨x64, x66, x68, x70, x72, o64, o66, o68, o70, o72, J, G, hk, hO, rfl⟩
   refine Bs (AO ?_)
   refine pM (.int _ _) (pg ?_)
   cases hk; exact ⟨_, rfl, o64, o66, o68, o70, o72, _, _, hO, sh⟩
  refine D5 (ge (ge (be (bn (gn (have hk := lx hx2 hk; Bs (AO ?_)))))))
  refine pM (.int _ _) (pg ?_)
  cases hk; exact ⟨_, rfl, o53, o55, o57, o59, o61, _, _, hO, sh⟩
 refine D5 (ge (ge (be (gn (have hk := lx hx1 hk; sr (D9 hO 3 [_, _, _] fE MM ?_))))))
 refine pM o47 ?_
 refine pM o49 ?_
 have hc105 := CI hO (j := 0) rfl
 have hc106 := CI hO (j := 1) rfl
 have hc107 := CI hO (j := 2) rfl
 refine Cg (xs := [_, _, _]) hO 5 MM rfl (fun G hO => ?_) (h6 := (Aa hc105.2 (Aa hc106.2 (Aa hc107.2 DL))))
 refine pA o47 ?_
 refine pA o49 (pg (Au ?_))
 replace hk := av hk; subst hk; exact He hO (ZN (n := 3) (DY (EN (n := 2) (DY (HO (xs := x41) hlk 0) (DY (HO (xs := x43) hlk 0) (DY (HO (xs := x45) hlk 0) (IG))))) (DY (HO (xs := x47) hlk 5) (DY (HO (xs := x49) hlk 5) (IG))))) (FB hO 5 [_, _, _] fE MM (Kc o47 (Kc o49 DQ)))
def nR (aP0 : AT) (aF1 : Frame) (aWay2 : Int) : Option Int :=
 ((nA aP0 aF1 aWay2).bind fun v3 => ((AH aF1.A3 aWay2).bind fun c5 => (bif (c5.State != 0) then some (2:Int) else (bif decide ((v3.1.A3.length : Int) > 0) then some (3:Int) else (bif decide ((v3.1.A0.length : Int) > 0) then some (4:Int) else (bif decide ((v3.2.1.length : Int) > 0) then some (5:Int) else (bif decide ((v3.2.2.length : Int) > 0) then some (6:Int) else some (0:Int))))))))
theorem eG (hk : nR aP0 aF1 aWay2 = some r) (hlk : 0 < lk.length := by simp) : Am ai hh 96 [.agg (AY l1 0 l2 m3 l4 m5 aP0), .agg (Ah l6 0 l7 0 l8 m9 aF1), iv aWay2] H lk = some (iv r, H) := by
 refine AF Tryz.func96 rfl Tryz.ntmps96 Tryz.results96 rfl rfl fun hO => ?_
 unfold nR at hk
 refine sr (BR (cs := [_, _, _, _, _]) hO C0 (fun b1 G hO => ?_))
 refine BR (cs := [_, _, _, _]) hO BZ (fun b2 G hO => ?_)
 refine pA (.int _ _) (pg (sr ?_))
 refine D9 hO 1 [_, _, _, _, _] EP C0 ?_
 refine D9 hO 0 [_, _, _, _] DT BZ ?_
 refine pM (.int _ _) (bk hk fun v3 hv3 hk => ?_)
 refine AM (fun _ => dI hv3) ?_
 refine pM (.GS [_, _, _]) ?_
 refine oB (.agg [_, _, _]) ?_
 refine oB (.lit _ _ _) ?_
 refine oB (.lit _ _ _) (C9 hO MM Y9 (fun b4 G hO => ?_))
 refine Cg (xs := [_, _, _]) hO 0 MM rfl (fun G hO => ?_)
 refine pA (.lit _ _ _) ?_
 refine pA (.lit _ _ _) (pg (AV (BO (sr ?_))))
 refine Ad BT hO 1 (.lit _ _ _) DZ ?_
 refine pM (.int _ _) (bk hk fun c5 hc5 hk => ?_)
 refine pX hc5 Da Av ?_
 refine pF Az ?_
 refine Bq (.int _ _) (Cu (lm := m9) (off := 0) hc5 B3) ?_
 refine AO ?_
 refine pA (.bool _) (pg (Ak hk ?_ ?_)) <;> intro hk
 ·refine sr (pA (.int _ _) (pg (Au (br (gr ?_)))))
  cases hk; exact AQ hO
 refine sr (Ad QT hO 0 (.lit _ _ _) BN ?_)
 refine Ae DA ?_
 refine AO ?_
 refine pA (.bool _) (pg (Ak hk ?_ ?_)) <;> intro hk
 ·refine sr (pA (.int _ _) (pg (Au (br (gr ?_)))))
  cases hk; exact AQ hO
 refine sr (Ad QU hO 0 (.lit _ _ _) BN ?_)
 refine Ae DA ?_
 refine AO ?_
 refine pA (.bool _) (pg (Ak hk ?_ ?_)) <;> intro hk
 ·refine sr (pA (.int _ _) (pg (Au (br (gr ?_)))))
  cases hk; exact AQ hO
 refine sr (pM (.lit _ _ _) ?_)
 refine Ae DA ?_
 refine AO ?_
 refine pA (.bool _) (pg (Ak hk ?_ ?_)) <;> intro hk
 ·refine sr (pA (.int _ _) (pg (Au (br (gr ?_)))))
  cases hk; exact AQ hO
 refine sr (pM (.lit _ _ _) ?_)
 refine Ae DA ?_
 refine AO ?_
 refine pA (.bool _) (pg (Ak hk ?_ ?_)) <;> intro hk
 ·refine sr (pA (.int _ _) (pg (Au (br (gr ?_)))))
  cases hk; exact AQ hO
 refine Ao (bn (gn (sr (pA (.int _ _) (pg (Au ?_))))))
 cases hk; exact AQ hO
def Fz (aP0 : AT) (v5 : Frame) (x17 : List AD) (x19 : List AZ) (x20 : List Bool) : Option Aq :=
 ((bW aP0 ({ Ok := v5.Ok, B1 := x20, A1 := x19, A3 := x17 } : Frame)).bind fun z21 => some ({ Code := (0:Int), Frame := ({ Ok := z21.Ok, B1 := z21.B1, A1 := z21.A1, A3 := z21.A3 } : Frame) } : Aq))
def Mm (aP0 : AT) (aE2 : BH) (v5 : Frame) (c39 : AD) (v43 : (List Af)) : ((List AZ) × Int) → Option (((List AZ) × Int) ⊕ Aq) := fun s =>
 (bif decide (s.2 < (v43.length : Int)) then ((AH v43 s.2).bind fun c46 => ((AH s.1 c46.Switch).bind fun c48 => some (.inl (s.1.set c46.Switch.toNat ({ c48 with Want := c46.CK }), BE (s.2 + 1))))) else ((Fz aP0 v5 (v5.A3.set aE2.Of.toNat ({ c39 with State := (1:Int) })) s.1 v5.B1).map Sum.inr))
def PL (x103 : Int) (x104 : List AD) : Option (((List AD) × Int) ⊕ Aq) :=
 some (.inl (x104, BE (x103 + 1)))
def Mn (aP0 : AT) (v5 : Frame) : ((List AD) × Int) → Option (((List AD) × Int) ⊕ Aq) := fun s =>
 (bif decide (s.2 < (v5.A3.length : Int)) then ((AH s.1 s.2).bind fun c106 => (bif (c106.State == 3) then (bif ((({ c106 with Timer := BE (c106.Timer - 1) } : AD).Timer) == 0) then ((AH aP0.A3 s.2).bind fun c109 => ((gO c109).bind fun v110 => (PL s.2 ((s.1.set s.2.toNat ({ c106 with Timer := BE (c106.Timer - 1) })).set s.2.toNat v110)))) else (PL s.2 (s.1.set s.2.toNat ({ c106 with Timer := BE (c106.Timer - 1) })))) else (PL s.2 s.1))) else ((Fz aP0 v5 s.1 v5.A1 v5.B1).map Sum.inr))
def pR (aP0 : AT) (aF1 : Frame) (aE2 : BH) : Option Aq :=
 ((gN aF1).bind fun v5 => (bif (aE2.Op == 1) then ((nR aP0 v5 aE2.Of).bind fun v29 => (bif (v29 != 0) then some ({ Code := v29, Frame := ({ Ok := v5.Ok, B1 := v5.B1, A1 := v5.A1, A3 := v5.A3 } : Frame) } : Aq) else ((AH v5.A3 aE2.Of).bind fun c39 => ((AH aP0.A3 aE2.Of).bind fun c42 => ((ZG c42).bind fun v43 => (AG (Mm aP0 aE2 v5 c39 v43) (v5.A1, (0:Int)))))))) else (bif (aE2.Op == 2) then ((AH v5.A3 aE2.Of).bind fun c51 => (bif ((c51.State != 1) && (c51.State != 2)) then some ({ Code := (2:Int), Frame := ({ Ok := v5.Ok, B1 := v5.B1, A1 := v5.A1, A3 := v5.A3 } : Frame) } : Aq) else ((bif c51.Shown then ((AH aP0.A3 aE2.Of).bind fun c60 => ((jT v5 c60.Ci).bind fun v61 => some v61)) else some false).bind fun t59 => (bif t59 then (Fz aP0 v5 ((v5.A3.set aE2.Of.toNat ({ c51 with State := (3:Int) })).set aE2.Of.toNat ({ ({ c51 with State := (3:Int) } : AD) with Timer := aP0.DX })) v5.A1 v5.B1) else ((AH aP0.A3 aE2.Of).bind fun c67 => ((gO c67).bind fun v68 => (Fz aP0 v5 (v5.A3.set aE2.Of.toNat v68) v5.A1 v5.B1))))))) else (bif (aE2.Op == 3) then ((AH v5.B1 aE2.Of).bind fun c70 => (Fz aP0 v5 v5.A3 v5.A1 (v5.B1.set aE2.Of.toNat true))) else (bif (aE2.Op == 4) then ((AH v5.B1 aE2.Of).bind fun c73 => (Fz aP0 v5 v5.A3 v5.A1 (v5.B1.set aE2.Of.toNat false))) else (bif (aE2.Op == 5) then ((AH v5.A1 aE2.Of).bind fun c76 => (Fz aP0 v5 v5.A3 (v5.A1.set aE2.Of.toNat ({ c76 with AJ := aE2.CK })) v5.B1)) else (bif (aE2.Op == 6) then ((lK aP0 v5 aE2.Of).bind fun v79 => (bif decide ((v79.length : Int) > 0) then some ({ Code := (2:Int), Frame := ({ Ok := v5.Ok, B1 := v5.B1, A1 := v5.A1, A3 := v5.A3 } : Frame) } : Aq) else ((AH aP0.A5 aE2.Of).bind fun c89 => ((AH v5.B1 c89).bind fun c90 => (bif c90 then some ({ Code := (3:Int), Frame := ({ Ok := v5.Ok, B1 := v5.B1, A1 := v5.A1, A3 := v5.A3 } : Frame) } : Aq) else ((AH v5.A1 aE2.Of).bind fun c98 => (Fz aP0 v5 v5.A3 (v5.A1.set aE2.Of.toNat ({ c98 with Want := aE2.CK })) v5.B1))))))) else (bif (aE2.Op == 7) then (AG (Mn aP0 v5) (v5.A3, (0:Int))) else (Fz aP0 v5 v5.A3 v5.A1 v5.B1)))))))))
theorem dP (hk : pR aP0 aF1 aE2 = some r) (hlk : 0 < lk.length := by simp) (hlo : EE lk H.length := by simp [EE]) (hvm9 : m9 ≤ lk.length := by simp only [an, cn]; omega) : ∃ v H1, Am ai hh 68 [.agg (AY l1 0 l2 m3 l4 m5 aP0), .agg (Ah l6 0 l7 0 l8 m9 aF1), .agg [iv aE2.Op, iv aE2.Of, iv aE2.CK]] H lk = some (v, H1) ∧ GH H r v H1 := by
 refine B0 Tryz.func68 rfl Tryz.ntmps68 Tryz.results68 rfl rfl ?_
 have hO := A4.nil H
 unfold pR at hk
 refine sr (BR (cs := [_, _, _, _, _]) hO C0 (fun b1 G hO => ?_))
 refine BR (cs := [_, _, _, _]) hO BZ (fun b2 G hO => ?_)
 refine BR (cs := [_, _, _]) hO NO (fun b3 G hO => C9 hO EF MK (fun b4 G hO => pg (sr ?_)))
 refine D9 hO 2 [_, _, _, _] DT BZ (bk hk fun v5 hv5 hk => ?_)
 refine K8 hO (fun _ => WV (m4 := m9) hv5) (fun u6 F6 G hO => ?_)
 replace hO : A4 H G (AI [] _ ((v5.Ok, v5.B1, v5.A1, v5.A3) : Bool × (List Bool) × (List AZ) × (List AD)) _ :: [.AW b4 (.cells 5 [iv 0, .bool false, (.tl 0 []), (.tl 0 []), (.tl 0 [])]), .AW b3 (.cells 3 [iv aE2.Op, iv aE2.Of, iv aE2.CK]), .AW b2 (.cells 4 (Ah l6 0 l7 0 l8 m9 aF1)), .AW b1 (.cells 5 (AY l1 0 l2 m3 l4 m5 aP0))]) := hO
 obtain ⟨cs7, Fb7, he, hP⟩ := A4.TI hO
 clear hO; subst he; have hO := hP; clear hP
 obtain ⟨u8, cs8, F8, Fb8, he, hP⟩ := A4.KD hO
 clear hO; subst he; have hO := hP; clear hP
 obtain ⟨u10, cs10, F10, Fb10, he, hP⟩ := A4.KD hO
 clear hO; subst he; have hO := hP; clear hP
 obtain ⟨u12, rfl⟩ := A4.Wg hO
 have hc14 := AN hO (j := 2) rfl
 have hc15 := AN hO (j := 1) rfl
 have hc16 := AN hO (j := 0) rfl
 refine Cg (xs := [_, _, _, _]) hO 5 BZ rfl (fun G hO => ?_) (h6 := (Aa rfl (Aa hc14.2 (Aa hc15.2 (Aa hc16.2 DL)))))
 refine pg (By (fun S' => ∃ x17 x19 x20 F18 J G, Fz aP0 v5 x17 x19 x20 = some r ∧ A4 H G [AI [] F18 x17 [u12], AI [] F10 x19 [u10], AI [] F8 x20 [u8], .AW b4 (.cells 5 [iv 0, .bool false, (.tl 0 []), (.tl 0 []), (.tl 0 [])]), .AW b2 (.cells 4 [.bool v5.Ok, u8, u10, u12]), .AW b1 (.cells 5 (AY l1 0 l2 m3 l4 m5 aP0))] ∧ S' = ⟨CM [(3, .ptr b1 0),(4, .ptr b2 0),(6, .ptr b4 0)] J, G⟩) ?_ ?_)
 ·refine sr (Ad QV hO 4 (.int _ _) B3 (pg (BO (sr ?_))))
  refine AO ?_
  refine pA (.bool _) (pg (Ak hk ?_ ?_)) <;> intro hk
  ·refine AV (sr (D9 hO 6 [_, _, _, _, _] EP C0 ?_))
   refine D9 hO 5 [_, _, _, _] DT BZ ?_
   refine Ad CS hO 4 (.int _ _) B3 (bk hk fun v29 hv29 hk => ?_)
   obtain ⟨_, hm30⟩ := Nh hO (j := 0) rfl (lk.length + 1) 7
   obtain ⟨_, hm31⟩ := G3 hO (j := 1) rfl (lk.length + 1) 7
   obtain ⟨_, hm32⟩ := G3 hO (j := 2) rfl (lk.length + 1) 7
   refine AM (vs := [(.agg [_, _, _, _, _]), (.agg [_, _, _, _]), (.int _ _)]) (caps := []) (fun _ => eG hv29) ?_ (h3 := (B9 rfl (B9 (L9 (CB rfl (CB hm32 (CB hm31 (CB hm30 LA))))) (B9 rfl EB))))
   refine pA (.int _ _) (pg (sr ?_))
   refine pM (.int _ _) ?_
   refine AO (pg (Ak hk ?_ ?_)) <;> intro hk
   ·refine sr (pM (.int _ _) ?_)
    refine D9 hO 5 [_, _, _, _] DT BZ ?_
    have hc33 := AN hO (j := 2) rfl
    have hc34 := AN hO (j := 1) rfl
    have hc35 := AN hO (j := 0) rfl
    refine NB [iv v29, .bool v5.Ok, u8, u10, u12] MK US ?_ (ps := [(0, iv v29), (1, .agg [.bool v5.Ok, u8, u10, u12])]) (h2 := (Ch (i := 0) (off := 0) (sz := 1) (v := iv v29) (ce := [iv v29]) rfl (Aa rfl DL) (Ch (i := 1) (off := 1) (sz := 4) (v := .agg [.bool v5.Ok, u8, u10, u12]) (ce := [.bool v5.Ok, u8, u10, u12]) rfl (Aa rfl (Aa hc33.2 (Aa hc34.2 (Aa hc35.2 DL)))) rfl)))
    have hc36 := AN hO (j := 2) rfl
    have hc37 := AN hO (j := 1) rfl
    have hc38 := AN hO (j := 0) rfl
    refine Cg (xs := [_, _, _, _, _]) hO 3 EF rfl (fun G hO => ?_) (h6 := (Aa rfl (Aa rfl (Aa hc36.2 (Aa hc37.2 (Aa hc38.2 DL))))))
    refine pg (Au (gr (br (gr ?_))))
    replace hk := av hk; subst hk; exact FG hO (Dr (As (c1 := [_]) (FJ v29) (Es (As (c1 := [_]) (FD v5.Ok) (As (c1 := [_]) (BW 2) (As (c1 := [_]) (BW 1) (BW 0))))))) (FB hO 3 [_, _, _, _, _] JY EF DQ)
   refine Ao (gn (sr (Ad BT hO 5 u12 DZ ?_)))
   refine Ad CS hO 4 (.int _ _) B3 (bk hk fun c39 hc39 hk => ?_)
   refine HZ hO 0 hc39 Da Av (fun b40 hb40 => ?_)
   refine pF Az ?_
   refine ME Al (y' := (1:Int)) hO 0 hb40 hc39 DB (fun _ => ⟨rfl, rfl⟩) rfl (fun G hO => ?_)
   have hc_41 := B2 hc39 ({ c39 with State := (1:Int) } : AD)
   have hv_41 := Bn (j := aE2.Of.toNat) (y := ({ c39 with State := (1:Int) } : AD)) hb40
   refine pg (sr (Ad BY hO 6 (.lit _ _ _) Df ?_))
   refine Ad CS hO 4 (.int _ _) B3 (bk hk fun c42 hc42 hk => ?_)
   refine pX hc42 EY Ay ?_
   refine Bq (.agg [_, _, _, _, _]) (GC (lm := m3) (off := 0) hc42 Ec Ay) (bk hk fun v43 hv43 hk => ?_)
   refine AM (fun _ => Se hv43) ?_
   refine Ae FF ?_
   refine pM (.int _ _) (pg (BO ?_))
   refine A9 (F := Mm aP0 aE2 v5 c39 v43) (fun s S' => ∃ J G, A4 H G [AI [] Fb10 (v5.A3.set aE2.Of.toNat ({ c39 with State := (1:Int) })) [u12], AI [] F10 s.1 [u10], AI [] F8 v5.B1 [u8], .AW b4 (.cells 5 [iv 0, .bool false, (.tl 0 []), (.tl 0 []), (.tl 0 [])]), .AW b2 (.cells 4 [.bool v5.Ok, u8, u10, u12]), .AW b1 (.cells 5 (AY l1 0 l2 m3 l4 m5 aP0))] ∧ S' = ⟨CM [(3, .ptr b1 0),(4, .ptr b2 0),(6, .ptr b4 0),(41, AK 0 0 v43),(42, iv (v43.length : Int)),(43, iv s.2)] J, G⟩) hk ⟨_, _, (pk hO [0, 1, 2, 3, 5, 6]), sh⟩ ?_
   rintro ⟨x44, x45⟩ _ y1 ⟨J, G, hO, rfl⟩ hk hx1
   refine sr (AO (pg (AV (Ak hk ?_ ?_)))) <;> intro hk
   ·refine Ao (gn (AV (BO (sr (bk hk fun c46 hc46 hk => pX hc46 Dy BA ?_)))))
    refine Bq (.agg [_, _]) (GC (lm := 0) (off := 0) hc46 G9 BA) (C9 hO BA Fo (fun b47 G hO => ?_))
    refine Cg (xs := [_, _]) hO 0 BA rfl (fun G hO => pg (Bs ?_))
    refine Ad Cv hO 5 u10 H9 ?_
    refine Ad CU hO 0 (.int _ _) B3 ?_
    refine Ad E7 hO 0 (.int _ _) B3 (bk hk fun c48 hc48 hk => ?_)
    refine HZ hO 2 hc48 Gm Dq (fun b49 hb49 => ?_)
    refine pF GA ?_
    refine ME Ej (y' := c46.CK) hO 2 hb49 hc48 DB (fun _ => ⟨rfl, rfl⟩) rfl (fun G hO => ?_)
    have hc_50 := B2 hc48 ({ c48 with Want := c46.CK } : AZ)
    have hv_50 := Bn (j := c46.Switch.toNat) (y := ({ c48 with Want := c46.CK } : AZ)) hb49
    refine pE (bn (gn (Bs (AO ?_))))
    refine pM (.int _ _) (pg ?_)
    cases hk; exact ⟨_, rfl, _, _, (pk hO [1, 2, 3, 4, 5, 6]), sh⟩
   exact D5 (ge (ge (be (bn (gn (have hk := lx hx1 hk; ⟨v5.A3.set aE2.Of.toNat ({ c39 with State := (1:Int) }), x44, v5.B1, Fb10, _, _, hk, hO, sh⟩))))))
  refine sr (AO ?_)
  refine pA (.bool _) (pg (Ak hk ?_ ?_)) <;> intro hk
  ·refine sr (Ad BT hO 5 u12 DZ ?_)
   refine Ad CS hO 4 (.int _ _) B3 (bk hk fun c51 hc51 hk => ?_)
   refine HZ hO 0 hc51 Da Av (fun b52 hb52 => ?_)
   refine pA (.ptr _ _) (pg (AV (sr ?_)))
   refine pM (.ptr _ _) ?_
   refine C4 ?_
   refine pF Az ?_
   refine EV Al (.int _ _) hO 0 hb52 hc51 B3 ?_
   refine AO ?_
   refine pM (.bool _) ?_
   refine AP (l1 := [_, _, _, _, _, _]) [69, 70, 71, 72, 73, 74] 74 (.bool ((c51.State != 1) && (c51.State != 2))) ?_ ?_
   ·refine bc (b := (c51.State != 1)) ?_ ?_ <;> intro hg
    ·refine AA hg (pM (.ptr _ _) (AA hg ?_))
     refine C4 (AA hg ?_)
     refine pF Az (AA hg ?_)
     refine EV Al (.int _ _) hO 0 hb52 hc51 B3 (AA hg ?_)
     refine AO ?_
     refine Cm hg (.bool _) ?_
     exact pE (ek (by rw [hg]; rfl))
    repeat refine Bg hg ?_
    refine Cl hg (.bool _) ?_
    exact pE (ek (by rw [hg]; rfl))
   intro J
   refine pg (Ak hk ?_ ?_) <;> intro hk
   ·refine sr (D9 hO 5 [_, _, _, _] DT BZ ?_)
    have hc53 := AN hO (j := 2) rfl
    have hc54 := AN hO (j := 1) rfl
    have hc55 := AN hO (j := 0) rfl
    refine NB [iv (2:Int), .bool v5.Ok, u8, u10, u12] MK US ?_ (ps := [(0, iv (2:Int)), (1, .agg [.bool v5.Ok, u8, u10, u12])]) (h2 := (Ch (i := 0) (off := 0) (sz := 1) (v := iv (2:Int)) (ce := [iv (2:Int)]) rfl (Aa rfl DL) (Ch (i := 1) (off := 1) (sz := 4) (v := .agg [.bool v5.Ok, u8, u10, u12]) (ce := [.bool v5.Ok, u8, u10, u12]) rfl (Aa rfl (Aa hc53.2 (Aa hc54.2 (Aa hc55.2 DL)))) rfl)))
    have hc56 := AN hO (j := 2) rfl
    have hc57 := AN hO (j := 1) rfl
    have hc58 := AN hO (j := 0) rfl
    refine Cg (xs := [_, _, _, _, _]) hO 3 EF rfl (fun G hO => ?_) (h6 := (Aa rfl (Aa rfl (Aa hc56.2 (Aa hc57.2 (Aa hc58.2 DL))))))
    refine pg (Au (gr (br (gr ?_))))
    replace hk := av hk; subst hk; exact FG hO (Dr (As (c1 := [_]) (FJ (2:Int)) (Es (As (c1 := [_]) (FD v5.Ok) (As (c1 := [_]) (BW 2) (As (c1 := [_]) (BW 1) (BW 0))))))) (FB hO 3 [_, _, _, _, _] JY EF DQ)
   refine Ao (gn (AV (HY [0,2,4,7,8,11,13,15,17,19,21,23,25,26,28] [_,_,_,_,_,_,_,_,_,_,_,_,_,_,_] ?_)))
   refine pM (.ptr _ _) ?_
   refine C4 ?_
   refine pF DW ?_
   refine EV Ei (.bool _) hO 0 hb52 hc51 Fu ?_
   refine pM (.bool _) (bk hk fun t59 ht hk => ?_)
   refine AP (l1 := [_, _, _, _, _, _, _, _, _, _]) [82, 83, 84, 85, 86, 87, 88, 89, 90, 91] 91 (.bool t59) ?_ ?_
   ·refine bc (b := c51.Shown) ?_ ?_ <;> intro hg
    ·replace hk := ct hg ht
     refine AA hg (D9 hO 5 [_, _, _, _] DT BZ (AA hg ?_))
     refine pF BY (AA hg ?_)
     refine CT hO 6 (.lit _ _ _) Df (AA hg ?_)
     refine pF CS (AA hg ?_)
     refine CT hO 4 (.int _ _) B3 (AA hg (bk hk fun c60 hc60 hk => ?_))
     refine pX hc60 EY Ay (AA hg ?_)
     refine pF IA (AA hg ?_)
     refine Bq (.lit _ _ _) (Cu (lm := m3) (off := 4) hc60 BN) (AA hg (bk hk fun v61 hv61 hk => ?_))
     obtain ⟨_, hm62⟩ := Nh hO (j := 0) rfl (lk.length + 1) 7
     obtain ⟨_, hm63⟩ := G3 hO (j := 1) rfl (lk.length + 1) 7
     obtain ⟨_, hm64⟩ := G3 hO (j := 2) rfl (lk.length + 1) 7
     refine AM (vs := [(.agg [_, _, _, _]), (.lit _ _ _)]) (caps := []) (fun _ => Sg hv61) ?_ (h3 := (B9 (L9 (CB rfl (CB hm64 (CB hm63 (CB hm62 LA))))) (B9 rfl EB)))
     refine Cm hg (.bool _) ?_
     cases hk; exact pE ek
    replace hk := cf hg ht
    repeat refine Bg hg ?_
    refine Cl hg (.bool _) ?_
    cases hk; exact pE ek
   intro J
   refine pg (Ak hk ?_ ?_) <;> intro hk
   ·refine fS [(0, true), (1, true), (2, false), (3, true), (4, true), (5, true), (6, true), (7, false), (8, false), (9, false)] [(94, 97)] [_, _, _, _, _, _, _, _, _, _] (by decide +kernel) (by rfl) ?_
    refine pM (.ptr _ _) ?_
    refine pM (.ptr _ _) ?_
    refine Ad JL hO 6 (.int _ _) B3 ?_
    refine C4 ?_
    refine pF Az ?_
    refine ME Al (y' := (3:Int)) hO 0 hb52 hc51 DB (fun _ => ⟨rfl, rfl⟩) rfl (fun G hO => ?_)
    have hc_65 := B2 hc51 ({ c51 with State := (3:Int) } : AD)
    have hv_65 := Bn (j := aE2.Of.toNat) (y := ({ c51 with State := (3:Int) } : AD)) hb52
    refine C4 ?_
    refine pF Ce ?_
    refine ME CE (y' := aP0.DX) hO 0 hv_65 hc_65 DB (fun _ => ⟨rfl, rfl⟩) rfl (fun G hO => ?_)
    have hc_66 := B2 hc_65 ({ ({ c51 with State := (3:Int) } : AD) with Timer := aP0.DX } : AD)
    have hv_66 := Bn (j := aE2.Of.toNat) (y := ({ ({ c51 with State := (3:Int) } : AD) with Timer := aP0.DX } : AD)) hv_65
    refine pE ⟨sC (hO.iF 6 0 rfl rfl hv_66), ?_⟩
    exact bn (gn (⟨(v5.A3.set aE2.Of.toNat ({ c51 with State := (3:Int) })).set aE2.Of.toNat ({ ({ c51 with State := (3:Int) } : AD) with Timer := aP0.DX }), v5.A1, v5.B1, Fb10, _, _, hk, (pk hO [0, 1, 2, 3, 5, 6]), sh⟩))
   refine Bs (pM (.ptr _ _) ?_)
   refine Ad BY hO 6 (.lit _ _ _) Df ?_
   refine Ad CS hO 4 (.int _ _) B3 (bk hk fun c67 hc67 hk => ?_)
   refine pX hc67 EY Ay ?_
   refine Bq (.agg [_, _, _, _, _]) (GC (lm := m3) (off := 0) hc67 Ec Ay) (bk hk fun v68 hv68 hk => ?_)
   refine K8 hO (fun _ => Sh hv68) (fun u69 F69 G hO => ?_)
   refine C4 ?_
   refine Zz hO 0 hb52 hc51 Av rfl (fun G hO => pE (bn (gn ?_)))
   exact ⟨v5.A3.set aE2.Of.toNat v68, v5.A1, v5.B1, (Fb10 ++ F69), _, _, hk, (pk hO [0, 1, 2, 3, 5, 6]), sh⟩
  refine sr (AO ?_)
  refine pA (.bool _) (pg (Ak hk ?_ ?_)) <;> intro hk
  ·refine Bs (Ad CP hO 5 u8 C5 ?_)
   refine Ad CS hO 4 (.int _ _) B3 (bk hk fun c70 hc70 hk => ?_)
   refine HZ hO 2 hc70 Cd Eu (fun b71 hb71 => ?_)
   refine ME (Br.all (α := Bool)) (y' := true) hO 2 hb71 hc70 Eu (fun _ => ⟨rfl, rfl⟩) rfl (fun G hO => ?_)
   have hc_72 := B2 hc70 true
   have hv_72 := Bn (j := aE2.Of.toNat) (y := true) hb71
   exact pE (bn (gn (⟨v5.A3, v5.A1, v5.B1.set aE2.Of.toNat true, Fb10, _, _, hk, (pk hO [0, 1, 2, 3, 5, 6]), sh⟩)))
  refine sr (AO ?_)
  refine pA (.bool _) (pg (Ak hk ?_ ?_)) <;> intro hk
  ·refine Bs (Ad CP hO 5 u8 C5 ?_)
   refine Ad CS hO 4 (.int _ _) B3 (bk hk fun c73 hc73 hk => ?_)
   refine HZ hO 2 hc73 Cd Eu (fun b74 hb74 => ?_)
   refine ME (Br.all (α := Bool)) (y' := false) hO 2 hb74 hc73 Eu (fun _ => ⟨rfl, rfl⟩) rfl (fun G hO => ?_)
   have hc_75 := B2 hc73 false
   have hv_75 := Bn (j := aE2.Of.toNat) (y := false) hb74
   exact pE (bn (gn (⟨v5.A3, v5.A1, v5.B1.set aE2.Of.toNat false, Fb10, _, _, hk, (pk hO [0, 1, 2, 3, 5, 6]), sh⟩)))
  refine sr (AO ?_)
  refine pA (.bool _) (pg (Ak hk ?_ ?_)) <;> intro hk
  ·refine Bs (Ad Cv hO 5 u10 H9 ?_)
   refine Ad CS hO 4 (.int _ _) B3 ?_
   refine Ad Fb hO 4 (.int _ _) B3 (bk hk fun c76 hc76 hk => ?_)
   refine HZ hO 1 hc76 Gm Dq (fun b77 hb77 => ?_)
   refine pF IN ?_
   refine ME HN (y' := aE2.CK) hO 1 hb77 hc76 DB (fun _ => ⟨rfl, rfl⟩) rfl (fun G hO => ?_)
   have hc_78 := B2 hc76 ({ c76 with AJ := aE2.CK } : AZ)
   have hv_78 := Bn (j := aE2.Of.toNat) (y := ({ c76 with AJ := aE2.CK } : AZ)) hb77
   exact pE (bn (gn (⟨v5.A3, v5.A1.set aE2.Of.toNat ({ c76 with AJ := aE2.CK }), v5.B1, Fb10, _, _, hk, (pk hO [0, 1, 2, 3, 5, 6]), sh⟩)))
  refine sr (AO ?_)
  refine pA (.bool _) (pg (Ak hk ?_ ?_)) <;> intro hk
  ·refine AV (BO (sr (D9 hO 6 [_, _, _, _, _] EP C0 ?_)))
   refine D9 hO 5 [_, _, _, _] DT BZ ?_
   refine Ad CS hO 4 (.int _ _) B3 (bk hk fun v79 hv79 hk => ?_)
   obtain ⟨_, hm80⟩ := Nh hO (j := 0) rfl (lk.length + 1) 7
   obtain ⟨_, hm81⟩ := G3 hO (j := 1) rfl (lk.length + 1) 7
   obtain ⟨_, hm82⟩ := G3 hO (j := 2) rfl (lk.length + 1) 7
   refine AM (vs := [(.agg [_, _, _, _, _]), (.agg [_, _, _, _]), (.int _ _)]) (caps := []) (fun _ => WQ hv79) ?_ (h3 := (B9 rfl (B9 (L9 (CB rfl (CB hm82 (CB hm81 (CB hm80 LA))))) (B9 rfl EB))))
   refine Ae DA ?_
   refine AO ?_
   refine pA (.bool _) (pg (Ak hk ?_ ?_)) <;> intro hk
   ·refine sr (D9 hO 5 [_, _, _, _] DT BZ ?_)
    have hc83 := AN hO (j := 2) rfl
    have hc84 := AN hO (j := 1) rfl
    have hc85 := AN hO (j := 0) rfl
    refine NB [iv (2:Int), .bool v5.Ok, u8, u10, u12] MK US ?_ (ps := [(0, iv (2:Int)), (1, .agg [.bool v5.Ok, u8, u10, u12])]) (h2 := (Ch (i := 0) (off := 0) (sz := 1) (v := iv (2:Int)) (ce := [iv (2:Int)]) rfl (Aa rfl DL) (Ch (i := 1) (off := 1) (sz := 4) (v := .agg [.bool v5.Ok, u8, u10, u12]) (ce := [.bool v5.Ok, u8, u10, u12]) rfl (Aa rfl (Aa hc83.2 (Aa hc84.2 (Aa hc85.2 DL)))) rfl)))
    have hc86 := AN hO (j := 2) rfl
    have hc87 := AN hO (j := 1) rfl
    have hc88 := AN hO (j := 0) rfl
    refine Cg (xs := [_, _, _, _, _]) hO 3 EF rfl (fun G hO => ?_) (h6 := (Aa rfl (Aa rfl (Aa hc86.2 (Aa hc87.2 (Aa hc88.2 DL))))))
    refine pg (Au (br (gr (br (gr ?_)))))
    replace hk := av hk; subst hk; exact FG hO (Dr (As (c1 := [_]) (FJ (2:Int)) (Es (As (c1 := [_]) (FD v5.Ok) (As (c1 := [_]) (BW 2) (As (c1 := [_]) (BW 1) (BW 0))))))) (FB hO 3 [_, _, _, _, _] JY EF DQ)
   refine AV (HY [1,3,5,7,9,11,13,15,16,19,20] [_,_,_,_,_,_,_,_,_,_,_] ?_)
   refine Ad CP hO 5 u8 C5 ?_
   refine Ad D4 hO 6 (.lit _ _ _) BN ?_
   refine Ad CS hO 4 (.int _ _) B3 (bk hk fun c89 hc89 hk => ?_)
   refine pX hc89 CG DB ?_
   refine Bq (.int _ _) (Cu (lm := 0) (off := 0) hc89 B3) (bk hk fun c90 hc90 hk => ?_)
   refine HZ hO 2 hc90 Cd Eu (fun b91 hb91 => ?_)
   refine EV (Br.all (α := Bool)) (.bool _) hO 2 hb91 hc90 Fu ?_
   refine pA (.bool _) (pg (Ak hk ?_ ?_)) <;> intro hk
   ·refine sr (D9 hO 5 [_, _, _, _] DT BZ ?_)
    have hc92 := AN hO (j := 2) rfl
    have hc93 := AN hO (j := 1) rfl
    have hc94 := AN hO (j := 0) rfl
    refine NB [iv (3:Int), .bool v5.Ok, u8, u10, u12] MK US ?_ (ps := [(0, iv (3:Int)), (1, .agg [.bool v5.Ok, u8, u10, u12])]) (h2 := (Ch (i := 0) (off := 0) (sz := 1) (v := iv (3:Int)) (ce := [iv (3:Int)]) rfl (Aa rfl DL) (Ch (i := 1) (off := 1) (sz := 4) (v := .agg [.bool v5.Ok, u8, u10, u12]) (ce := [.bool v5.Ok, u8, u10, u12]) rfl (Aa rfl (Aa hc92.2 (Aa hc93.2 (Aa hc94.2 DL)))) rfl)))
    have hc95 := AN hO (j := 2) rfl
    have hc96 := AN hO (j := 1) rfl
    have hc97 := AN hO (j := 0) rfl
    refine Cg (xs := [_, _, _, _, _]) hO 3 EF rfl (fun G hO => ?_) (h6 := (Aa rfl (Aa rfl (Aa hc95.2 (Aa hc96.2 (Aa hc97.2 DL))))))
    refine pg (Au (br (gr (br (gr ?_)))))
    replace hk := av hk; subst hk; exact FG hO (Dr (As (c1 := [_]) (FJ (3:Int)) (Es (As (c1 := [_]) (FD v5.Ok) (As (c1 := [_]) (BW 2) (As (c1 := [_]) (BW 1) (BW 0))))))) (FB hO 3 [_, _, _, _, _] JY EF DQ)
   refine Ao (bn (gn (Bs (Ad Cv hO 5 u10 H9 ?_))))
   refine Ad CS hO 4 (.int _ _) B3 ?_
   refine Ad Fb hO 4 (.int _ _) B3 (bk hk fun c98 hc98 hk => ?_)
   refine HZ hO 1 hc98 Gm Dq (fun b99 hb99 => ?_)
   refine pF GA ?_
   refine ME Ej (y' := aE2.CK) hO 1 hb99 hc98 DB (fun _ => ⟨rfl, rfl⟩) rfl (fun G hO => ?_)
   have hc_100 := B2 hc98 ({ c98 with Want := aE2.CK } : AZ)
   have hv_100 := Bn (j := aE2.Of.toNat) (y := ({ c98 with Want := aE2.CK } : AZ)) hb99
   exact pE (bn (gn (⟨v5.A3, v5.A1.set aE2.Of.toNat ({ c98 with Want := aE2.CK }), v5.B1, Fb10, _, _, hk, (pk hO [0, 1, 2, 3, 5, 6]), sh⟩)))
  refine sr (AO ?_)
  refine pA (.bool _) (pg (Ak hk ?_ ?_)) <;> intro hk
  ·refine sr (Ad BT hO 5 u12 DZ ?_)
   refine K9 hO 0 Hk ?_
   refine pM (.int _ _) (pg (BO ?_))
   refine A9 (F := Mn aP0 v5) (fun s S' => ∃ F102 J G, A4 H G [AI [] F102 s.1 [u12], AI [] F10 v5.A1 [u10], AI [] F8 v5.B1 [u8], .AW b4 (.cells 5 [iv 0, .bool false, (.tl 0 []), (.tl 0 []), (.tl 0 [])]), .AW b2 (.cells 4 [.bool v5.Ok, u8, u10, u12]), .AW b1 (.cells 5 (AY l1 0 l2 m3 l4 m5 aP0))] ∧ S' = ⟨CM [(3, .ptr b1 0),(4, .ptr b2 0),(6, .ptr b4 0),(170, iv (v5.A3.length : Int)),(171, iv s.2)] J, G⟩) hk ⟨Fb10, _, _, (pk hO [0, 1, 2, 3, 5, 6]), sh⟩ ?_
   rintro ⟨x101, x103⟩ _ y1 ⟨F102, J, G, hO, rfl⟩ hk hx1
   refine sr (AO (pg (AV (Ak hk ?_ ?_)))) <;> intro hk
   ·refine Ao (gn (By (fun S' => ∃ x104 F105 J G, PL x103 x104 = some y1 ∧ A4 H G [AI [] F105 x104 [u12], AI [] F10 v5.A1 [u10], AI [] F8 v5.B1 [u8], .AW b4 (.cells 5 [iv 0, .bool false, (.tl 0 []), (.tl 0 []), (.tl 0 [])]), .AW b2 (.cells 4 [.bool v5.Ok, u8, u10, u12]), .AW b1 (.cells 5 (AY l1 0 l2 m3 l4 m5 aP0))] ∧ S' = ⟨CM [(3, .ptr b1 0),(4, .ptr b2 0),(6, .ptr b4 0),(170, iv (v5.A3.length : Int)),(171, iv x103)] J, G⟩) ?_ ?_))
    ·refine BO (sr (pM (.int _ _) ?_))
     refine pA (.int _ _) (pg (sr ?_))
     refine Ad BT hO 4 u12 DZ ?_
     refine pM (.int _ _) (bk hk fun c106 hc106 hk => ?_)
     refine HZ hO 0 hc106 Da Av (fun b107 hb107 => ?_)
     refine pA (.ptr _ _) (pg (sr ?_))
     refine pM (.ptr _ _) ?_
     refine C4 ?_
     refine pF Az ?_
     refine EV Al (.int _ _) hO 0 hb107 hc106 B3 ?_
     refine AO (pg (Ak hk ?_ ?_)) <;> intro hk
     ·refine sr (pM (.ptr _ _) ?_)
      refine C4 ?_
      refine pF Ce ?_
      refine EV CE (.int _ _) hO 0 hb107 hc106 B3 ?_
      refine AO ?_
      refine C4 ?_
      refine pF Ce ?_
      refine ME CE (y' := (BE (c106.Timer - 1))) hO 0 hb107 hc106 DB (fun _ => ⟨rfl, rfl⟩) rfl (fun G hO => ?_)
      have hc_108 := B2 hc106 ({ c106 with Timer := BE (c106.Timer - 1) } : AD)
      have hv_108 := Bn (j := x103.toNat) (y := ({ c106 with Timer := BE (c106.Timer - 1) } : AD)) hb107
      refine pg (sr (pM (.ptr _ _) ?_))
      refine C4 ?_
      refine pF Ce ?_
      refine EV CE (.int _ _) hO 0 hv_108 hc_108 B3 ?_
      refine AO (pg (Ak hk ?_ ?_)) <;> intro hk
      ·refine Bs (pM (.ptr _ _) ?_)
       refine Ad BY hO 5 (.lit _ _ _) Df ?_
       refine pM (.int _ _) (bk hk fun c109 hc109 hk => ?_)
       refine pX hc109 EY Ay ?_
       refine Bq (.agg [_, _, _, _, _]) (GC (lm := m3) (off := 0) hc109 Ec Ay) (bk hk fun v110 hv110 hk => ?_)
       refine K8 hO (fun _ => Sh hv110) (fun u111 F111 G hO => ?_)
       refine C4 ?_
       refine Zz hO 0 hv_108 hc_108 Av rfl (fun G hO => pE (bn (gn ?_)))
       exact ⟨(x101.set x103.toNat ({ c106 with Timer := BE (c106.Timer - 1) })).set x103.toNat v110, (F102 ++ F111), _, _, hk, hO, sh⟩
      exact Ao (bn (gn (⟨x101.set x103.toNat ({ c106 with Timer := BE (c106.Timer - 1) }), F102, _, _, hk, hO, sh⟩)))
     exact Ao (bn (gn (⟨x101, F102, _, _, hk, hO, sh⟩)))
    rintro _ ⟨x104, F105, J, G, hk, hO, rfl⟩
    refine Bs (AO ?_)
    refine pM (.int _ _) (pg ?_)
    cases hk; exact ⟨_, rfl, F105, _, _, hO, sh⟩
   exact D5 (ge (ge (be (bn (gn (have hk := lx hx1 hk; ⟨x101, v5.A1, v5.B1, F102, _, _, hk, hO, sh⟩))))))
  exact Ao (bn (gn (⟨v5.A3, v5.A1, v5.B1, Fb10, _, _, hk, (pk hO [0, 1, 2, 3, 5, 6]), sh⟩)))
 rintro _ ⟨x17, x19, x20, F18, J, G, hk, hO, rfl⟩
 refine sr (D9 hO 5 [_, _, _, _, _] EP C0 ?_)
 replace hO := (A4.pick hO [4, 2, 1, 0, 3, 5] (by decide) rfl : A4 H G ([.AW b2 (.cells 4 [.bool v5.Ok, u8, u10, u12]), AI [] F8 x20 [u8], AI [] F10 x19 [u10], AI [] F18 x17 [u12]] ++ [.AW b4 (.cells 5 [iv 0, .bool false, (.tl 0 []), (.tl 0 []), (.tl 0 [])]), .AW b1 (.cells 5 (AY l1 0 l2 m3 l4 m5 aP0))]))
 refine bk hk fun z21 hz21 hk => Vj (rs0 := [.AW b2 (.cells 4 [.bool v5.Ok, u8, u10, u12]), AI [] F8 x20 [u8], AI [] F10 x19 [u10], AI [] F18 x17 [u12]]) (rs1 := fun (Fs22 : List Nat × List Nat × List Nat) => [.AW b2 (.cells 4 [.bool z21.Ok, u8, u10, u12]), AI [] Fs22.1 z21.B1 [u8], AI [] Fs22.2.1 z21.A1 [u10], AI [] Fs22.2.2 z21.A3 [u12]]) (rest := [.AW b4 (.cells 5 [iv 0, .bool false, (.tl 0 []), (.tl 0 []), (.tl 0 [])]), .AW b1 (.cells 5 (AY l1 0 l2 m3 l4 m5 aP0))]) (S := (b2 :: (F8 ++ (F10 ++ (F18 ++ []))))) hO hlo rfl (IK rfl) (GY rfl) (A4.lo hO) (fun _ hl1 hlt1 hun1 ho1 => WW hz21 ho1 hun1 hlt1 hl1) (fun _ => (JU rfl (JU rfl (JU rfl (JU rfl Xg))))) (fun Fs22 G hO => pg (sr ?_))
 refine D9 hO 0 [_, _, _, _] DT BZ ?_
 have hc23 := AN hO (j := 1) rfl
 have hc24 := AN hO (j := 2) rfl
 have hc25 := AN hO (j := 3) rfl
 refine NB [iv (0:Int), .bool z21.Ok, u8, u10, u12] MK US ?_ (ps := [(0, iv (0:Int)), (1, .agg [.bool z21.Ok, u8, u10, u12])]) (h2 := (Ch (i := 0) (off := 0) (sz := 1) (v := iv (0:Int)) (ce := [iv (0:Int)]) rfl (Aa rfl DL) (Ch (i := 1) (off := 1) (sz := 4) (v := .agg [.bool z21.Ok, u8, u10, u12]) (ce := [.bool z21.Ok, u8, u10, u12]) rfl (Aa rfl (Aa hc23.2 (Aa hc24.2 (Aa hc25.2 DL)))) rfl)))
 have hc26 := AN hO (j := 1) rfl
 have hc27 := AN hO (j := 2) rfl
 have hc28 := AN hO (j := 3) rfl
 refine Cg (xs := [_, _, _, _, _]) hO 4 EF rfl (fun G hO => ?_) (h6 := (Aa rfl (Aa rfl (Aa hc26.2 (Aa hc27.2 (Aa hc28.2 DL))))))
 refine pg (Au ?_)
 replace hk := av hk; subst hk; exact FG hO (Dr (As (c1 := [_]) (FJ (0:Int)) (Es (As (c1 := [_]) (FD z21.Ok) (As (c1 := [_]) (BW 1) (As (c1 := [_]) (BW 1) (BW 1))))))) (FB hO 4 [_, _, _, _, _] JY EF DQ)
def lH (aP0 : AT) (aF1 : Frame) (aE2 : BH) : Option Aq :=
 ((mT aP0 aF1).bind fun v5 => ((bif !v5 then some true else ((pQ aP0 aE2).bind fun v7 => some (!v7))).bind fun t6 => (bif t6 then some ({ Code := (1:Int), Frame := ({ Ok := false, B1 := ([] : List Bool), A1 := ([] : List AZ), A3 := ([] : List AD) } : Frame) } : Aq) else ((pR aP0 aF1 aE2).bind fun v8 => some v8))))
theorem WM (hk : lH aP0 aF1 aE2 = some r) (hlk : 0 < lk.length := by simp) (hlo : EE lk H.length := by simp [EE]) (hvm9 : m9 ≤ lk.length := by simp only [an, cn]; omega) : ∃ v H1, Am ai hh 26 [.agg (AY l1 0 l2 m3 l4 m5 aP0), .agg (Ah l6 0 l7 0 l8 m9 aF1), .agg [iv aE2.Op, iv aE2.Of, iv aE2.CK]] H lk = some (v, H1) ∧ GH H r v H1 := by
 refine B0 Tryz.func26 rfl Tryz.ntmps26 Tryz.results26 rfl rfl ?_
 have hO := A4.nil H
 unfold lH at hk
 refine sr (BR (cs := [_, _, _, _, _]) hO C0 (fun b1 G hO => ?_))
 refine BR (cs := [_, _, _, _]) hO BZ (fun b2 G hO => ?_)
 refine BR (cs := [_, _, _]) hO NO (fun b3 G hO => C9 hO EF MK (fun b4 G hO => pg (AV (sr ?_))))
 refine D9 hO 3 [_, _, _, _, _] EP C0 ?_
 refine D9 hO 2 [_, _, _, _] DT BZ (bk hk fun v5 hv5 hk => ?_)
 refine Vk hO hlo rfl (fun _ hl => cY (m9 := m9) hv5 (hlo := hl)) ?_
 refine pU ?_
 refine pM (.bool _) (bk hk fun t6 ht hk => ?_)
 refine AP (l1 := [_, _, _, _, _]) [12, 13, 14, 15, 16] 16 (.bool t6) ?_ ?_
 ·refine bc (b := !v5) ?_ ?_ <;> intro hg
  ·replace hk := ct hg ht
   repeat refine Bg hg ?_
   refine Cm hg (.bool _) ?_
   cases hk; exact pE ek
  replace hk := cf hg ht
  refine AA hg (D9 hO 3 [_, _, _, _, _] EP C0 (AA hg ?_))
  refine D9 hO 1 [_, _, _] aP NO (AA hg (bk hk fun v7 hv7 hk => ?_))
  refine AM (fun _ => dO hv7) (AA hg ?_)
  refine pU ?_
  refine Cl hg (.bool _) ?_
  cases hk; exact pE ek
 intro J
 refine pg (Ak hk ?_ ?_) <;> intro hk
 ·refine sr (NB [_, _, _, _, _] MK US ?_)
  refine Cg (xs := [_, _, _, _, _]) hO 0 EF rfl (fun G hO => pg (Au (gr ?_)))
  replace hk := av hk; subst hk; exact FG hO (Dr (As (c1 := [_]) (FJ (1:Int)) (Es (As (c1 := [_]) (FD false) (As (c1 := [_]) (NP Bool) (As (c1 := [_]) (NP AZ) (NP AD))))))) (FB hO 0 [_, _, _, _, _] JY EF DQ)
 refine Ao (gn (sr (D9 hO 3 [_, _, _, _, _] EP C0 ?_)))
 refine D9 hO 2 [_, _, _, _] DT BZ ?_
 refine D9 hO 1 [_, _, _] aP NO (bk hk fun v8 hv8 hk => ?_)
 refine Wk hO hlo rfl (fun _ hl => dP (m9 := m9) hv8 (hlo := hl)) (fun u9 F9 G hO => ?_)
 refine Xv hO 1 0 EF rfl (fun G hO => pg (Au ?_))
 replace hk := av hk; subst hk; exact FG hO (BW 0) (oQ hO 1 0 JY EF DQ)
def P7 (aA0 : List Bool) (aB1 : List Bool) : Int → Option (Int ⊕ Bool) := fun s =>
 (bif decide (s < (aA0.length : Int)) then ((AH aA0 s).bind fun c2 => ((AH aB1 s).bind fun c3 => (bif !(c2 == c3) then ((some false).map Sum.inr) else some (.inl (BE (s + 1)))))) else ((some true).map Sum.inr))
def jB (aA0 : List Bool) (aB1 : List Bool) : Option Bool :=
 (bif ((aA0.length : Int) != (aB1.length : Int)) then some false else (AG (P7 aA0 aB1) ((0:Int))))
theorem SO (hk : jB aA0 aB1 = some r) (hlk : 0 < lk.length := by simp) : Am ai hh 50 [AK l1 0 aA0, AK l2 0 aB1] H lk = some (.bool r, H) := by
 refine AF Tryz.func50 rfl Tryz.ntmps50 Tryz.results50 rfl rfl fun hO => ?_
 unfold jB at hk
 refine sr (pA (.bool _) (pg (AV (sr ?_))))
 refine pM (.lit _ _ _) ?_
 refine Ae Hj ?_
 refine pM (.lit _ _ _) ?_
 refine Ae Hj ?_
 refine AO (pg (Ak hk ?_ ?_)) <;> intro hk
 ·refine sr (pA (.bool _) (pg (Au (gr ?_))))
  cases hk; exact AQ hO
 refine Ao (gn (AV (sr (pA (.int _ _) (pg (BO ?_))))))
 refine A9 (F := P7 aA0 aB1) (fun s S' => ∃ J G, A4 H G [] ∧ S' = ⟨CM [(0, AK l1 0 aA0),(1, AK l2 0 aB1),(5, iv s)] J, G⟩) hk ⟨_, _, hO, sh⟩ ?_
 rintro x1 _ y1 ⟨J, G, hO, rfl⟩ hk hx1
 refine AV (sr (pM (.int _ _) ?_))
 refine pM (.lit _ _ _) ?_
 refine Ae Hj ?_
 refine AO (pg (Ak hk ?_ ?_)) <;> intro hk
 ·refine Ao (gn (AV (BO (AV (HY [1,3,5,7,9,11,13,15,16] [_,_,_,_,_,_,_,_,_] ?_)))))
  refine pM (.lit _ _ _) ?_
  refine pM (.int _ _) (bk hk fun c2 hc2 hk => ?_)
  refine pX hc2 Cd Eu ?_
  refine Bq (.bool _) (Cu (lm := 0) (off := 0) hc2 Fu) ?_
  refine pM (.lit _ _ _) ?_
  refine pM (.int _ _) (bk hk fun c3 hc3 hk => ?_)
  refine pX hc3 Cd Eu ?_
  refine Bq (.bool _) (Cu (lm := 0) (off := 0) hc3 Fu) ?_
  refine Zu Tryz.underlying4 (pg (Ak hk ?_ ?_)) <;> intro hk
  ·refine sr (pA (.bool _) (pg (Au (br (gr (gr (br (gr (have hk := lx hx1 hk; ?_)))))))))
   cases hk; exact AQ hO
  refine Ao (bn (gn (Bs (pM (.int _ _) ?_))))
  refine AO ?_
  refine pA (.int _ _) (pg ?_)
  cases hk; exact ⟨_, rfl, _, _, hO, sh⟩
 refine D5 (ge (ge (be (gn (have hk := lx hx1 hk; sr (pA (.bool _) (pg (Au ?_))))))))
 cases hk; exact AQ hO
def nN (aA0 : AZ) (aB1 : AZ) : Option Bool :=
 (bif (aA0.Want != aB1.Want) then some false else (bif (aA0.AJ != aB1.AJ) then some false else some true))
theorem eB (hk : nN aA0 aB1 = some r) (hlk : 0 < lk.length := by simp) : Am ai hh 86 [.agg [iv aA0.Want, iv aA0.AJ], .agg [iv aB1.Want, iv aB1.AJ]] H lk = some (.bool r, H) := by
 refine AF Tryz.func86 rfl Tryz.ntmps86 Tryz.results86 rfl rfl fun hO => ?_
 unfold nN at hk
 refine sr (BR (cs := [_, _]) hO Dq (fun b1 G hO => ?_))
 refine BR (cs := [_, _]) hO Dq (fun b2 G hO => ?_)
 refine pA (.bool _) (pg (AV (sr ?_)))
 refine Ad GA hO 1 (.int _ _) B3 ?_
 refine Ad GA hO 0 (.int _ _) B3 ?_
 refine AO (pg (Ak hk ?_ ?_)) <;> intro hk
 ·refine sr (pA (.bool _) (pg (Au (gr ?_))))
  cases hk; exact AQ hO
 refine Ao (gn (AV (sr (Ad IN hO 1 (.int _ _) B3 ?_))))
 refine Ad IN hO 0 (.int _ _) B3 ?_
 refine AO (pg (Ak hk ?_ ?_)) <;> intro hk
 ·refine sr (pA (.bool _) (pg (Au (gr ?_))))
  cases hk; exact AQ hO
 refine Ao (gn (sr (pA (.bool _) (pg (Au ?_)))))
 cases hk; exact AQ hO
def P8 (aA0 : List AZ) (aB1 : List AZ) : Int → Option (Int ⊕ Bool) := fun s =>
 (bif decide (s < (aA0.length : Int)) then ((AH aA0 s).bind fun c2 => ((AH aB1 s).bind fun c3 => ((nN c2 c3).bind fun v4 => (bif !v4 then ((some false).map Sum.inr) else some (.inl (BE (s + 1))))))) else ((some true).map Sum.inr))
def mW (aA0 : List AZ) (aB1 : List AZ) : Option Bool :=
 (bif ((aA0.length : Int) != (aB1.length : Int)) then some false else (AG (P8 aA0 aB1) ((0:Int))))
theorem dB (hk : mW aA0 aB1 = some r) (hlk : 0 < lk.length := by simp) : Am ai hh 51 [AK l1 0 aA0, AK l2 0 aB1] H lk = some (.bool r, H) := by
 refine AF Tryz.func51 rfl Tryz.ntmps51 Tryz.results51 rfl rfl fun hO => ?_
 unfold mW at hk
 refine sr (pA (.bool _) (pg (AV (sr ?_))))
 refine pM (.lit _ _ _) ?_
 refine Ae O3 ?_
 refine pM (.lit _ _ _) ?_
 refine Ae O3 ?_
 refine AO (pg (Ak hk ?_ ?_)) <;> intro hk
 ·refine sr (pA (.bool _) (pg (Au (gr ?_))))
  cases hk; exact AQ hO
 refine Ao (gn (AV (sr (pA (.int _ _) (pg (BO ?_))))))
 refine A9 (F := P8 aA0 aB1) (fun s S' => ∃ J G, A4 H G [] ∧ S' = ⟨CM [(0, AK l1 0 aA0),(1, AK l2 0 aB1),(5, iv s)] J, G⟩) hk ⟨_, _, hO, sh⟩ ?_
 rintro x1 _ y1 ⟨J, G, hO, rfl⟩ hk hx1
 refine AV (sr (pM (.int _ _) ?_))
 refine pM (.lit _ _ _) ?_
 refine Ae O3 ?_
 refine AO (pg (Ak hk ?_ ?_)) <;> intro hk
 ·refine Ao (gn (AV (BO (AV (HY [1,3,5,7,9,11,13,15,16,18] [_,_,_,_,_,_,_,_,_,_] ?_)))))
  refine pM (.lit _ _ _) ?_
  refine pM (.int _ _) (bk hk fun c2 hc2 hk => ?_)
  refine pX hc2 Gm Dq ?_
  refine Bq (.agg [_, _]) (GC (lm := 0) (off := 0) hc2 TM Dq) ?_
  refine pM (.lit _ _ _) ?_
  refine pM (.int _ _) (bk hk fun c3 hc3 hk => ?_)
  refine pX hc3 Gm Dq ?_
  refine Bq (.agg [_, _]) (GC (lm := 0) (off := 0) hc3 TM Dq) (bk hk fun v4 hv4 hk => ?_)
  refine AM (fun _ => eB hv4) ?_
  refine pU (pg (Ak hk ?_ ?_)) <;> intro hk
  ·refine sr (pA (.bool _) (pg (Au (br (gr (gr (br (gr (have hk := lx hx1 hk; ?_)))))))))
   cases hk; exact AQ hO
  refine Ao (bn (gn (Bs (pM (.int _ _) ?_))))
  refine AO ?_
  refine pA (.int _ _) (pg ?_)
  cases hk; exact ⟨_, rfl, _, _, hO, sh⟩
 refine D5 (ge (ge (be (gn (have hk := lx hx1 hk; sr (pA (.bool _) (pg (Au ?_))))))))
 cases hk; exact AQ hO
def nO (aA0 : AD) (aB1 : AD) : Option Bool :=
 (bif (aA0.State != aB1.State) then some false else (bif (aA0.Aj != aB1.Aj) then some false else ((jB aA0.Ac aB1.Ac).bind fun v3 => (bif !v3 then some false else (bif !(aA0.Shown == aB1.Shown) then some false else (bif (aA0.Timer != aB1.Timer) then some false else some true))))))
theorem eC (hk : nO aA0 aB1 = some r) (hlk : 0 < lk.length := by simp) : Am ai hh 87 [.agg [iv aA0.State, iv aA0.Aj, AK l1 0 aA0.Ac, .bool aA0.Shown, iv aA0.Timer], .agg [iv aB1.State, iv aB1.Aj, AK l2 0 aB1.Ac, .bool aB1.Shown, iv aB1.Timer]] H lk = some (.bool r, H) := by
 refine AF Tryz.func87 rfl Tryz.ntmps87 Tryz.results87 rfl rfl fun hO => ?_
 unfold nO at hk
 refine sr (BR (cs := [_, _, _, _, _]) hO Av (fun b1 G hO => ?_))
 refine BR (cs := [_, _, _, _, _]) hO Av (fun b2 G hO => ?_)
 refine pA (.bool _) (pg (AV (sr ?_)))
 refine Ad Az hO 1 (.int _ _) B3 ?_
 refine Ad Az hO 0 (.int _ _) B3 ?_
 refine AO (pg (Ak hk ?_ ?_)) <;> intro hk
 ·refine sr (pA (.bool _) (pg (Au (gr ?_))))
  cases hk; exact AQ hO
 refine Ao (gn (AV (sr (Ad C7 hO 1 (.int _ _) B3 ?_))))
 refine Ad C7 hO 0 (.int _ _) B3 ?_
 refine AO (pg (Ak hk ?_ ?_)) <;> intro hk
 ·refine sr (pA (.bool _) (pg (Au (gr ?_))))
  cases hk; exact AQ hO
 refine Ao (gn (AV (sr (Ad CC hO 1 (.lit _ _ _) C5 ?_))))
 refine Ad CC hO 0 (.lit _ _ _) C5 (bk hk fun v3 hv3 hk => ?_)
 refine AM (fun _ => SO hv3) ?_
 refine pU (pg (Ak hk ?_ ?_)) <;> intro hk
 ·refine sr (pA (.bool _) (pg (Au (gr ?_))))
  cases hk; exact AQ hO
 refine Ao (gn (AV (sr (Ad DW hO 1 (.bool _) Fu ?_))))
 refine Ad DW hO 0 (.bool _) Fu ?_
 refine Zu Tryz.underlying4 (pg (Ak hk ?_ ?_)) <;> intro hk
 ·refine sr (pA (.bool _) (pg (Au (gr ?_))))
  cases hk; exact AQ hO
 refine Ao (gn (AV (sr (Ad Ce hO 1 (.int _ _) B3 ?_))))
 refine Ad Ce hO 0 (.int _ _) B3 ?_
 refine AO (pg (Ak hk ?_ ?_)) <;> intro hk
 ·refine sr (pA (.bool _) (pg (Au (gr ?_))))
  cases hk; exact AQ hO
 refine Ao (gn (sr (pA (.bool _) (pg (Au ?_)))))
 cases hk; exact AQ hO
def P9 (aA0 : List AD) (aB1 : List AD) : Int → Option (Int ⊕ Bool) := fun s =>
 (bif decide (s < (aA0.length : Int)) then ((AH aA0 s).bind fun c2 => ((AH aB1 s).bind fun c3 => ((nO c2 c3).bind fun v4 => (bif !v4 then ((some false).map Sum.inr) else some (.inl (BE (s + 1))))))) else ((some true).map Sum.inr))
def mX (aA0 : List AD) (aB1 : List AD) : Option Bool :=
 (bif ((aA0.length : Int) != (aB1.length : Int)) then some false else (AG (P9 aA0 aB1) ((0:Int))))
theorem dC (hk : mX aA0 aB1 = some r) (hlk : 0 < lk.length := by simp) : Am ai hh 52 [AK l1 m2 aA0, AK l3 m4 aB1] H lk = some (.bool r, H) := by
 refine AF Tryz.func52 rfl Tryz.ntmps52 Tryz.results52 rfl rfl fun hO => ?_
 unfold mX at hk
 refine sr (pA (.bool _) (pg (AV (sr ?_))))
 refine pM (.lit _ _ _) ?_
 refine Ae Hk ?_
 refine pM (.lit _ _ _) ?_
 refine Ae Hk ?_
 refine AO (pg (Ak hk ?_ ?_)) <;> intro hk
 ·refine sr (pA (.bool _) (pg (Au (gr ?_))))
  cases hk; exact AQ hO
 refine Ao (gn (AV (sr (pA (.int _ _) (pg (BO ?_))))))
 refine A9 (F := P9 aA0 aB1) (fun s S' => ∃ J G, A4 H G [] ∧ S' = ⟨CM [(0, AK l1 m2 aA0),(1, AK l3 m4 aB1),(5, iv s)] J, G⟩) hk ⟨_, _, hO, sh⟩ ?_
 rintro x1 _ y1 ⟨J, G, hO, rfl⟩ hk hx1
 refine AV (sr (pM (.int _ _) ?_))
 refine pM (.lit _ _ _) ?_
 refine Ae Hk ?_
 refine AO (pg (Ak hk ?_ ?_)) <;> intro hk
 ·refine Ao (gn (AV (BO (AV (HY [1,3,5,7,9,11,13,15,16,18] [_,_,_,_,_,_,_,_,_,_] ?_)))))
  refine pM (.lit _ _ _) ?_
  refine pM (.int _ _) (bk hk fun c2 hc2 hk => ?_)
  refine pX hc2 Da Av ?_
  refine Bq (.agg [_, _, _, _, _]) (GC (lm := m2) (off := 0) hc2 Gl Av) ?_
  refine pM (.lit _ _ _) ?_
  refine pM (.int _ _) (bk hk fun c3 hc3 hk => ?_)
  refine pX hc3 Da Av ?_
  refine Bq (.agg [_, _, _, _, _]) (GC (lm := m4) (off := 0) hc3 Gl Av) (bk hk fun v4 hv4 hk => ?_)
  refine AM (fun _ => eC hv4) ?_
  refine pU (pg (Ak hk ?_ ?_)) <;> intro hk
  ·refine sr (pA (.bool _) (pg (Au (br (gr (gr (br (gr (have hk := lx hx1 hk; ?_)))))))))
   cases hk; exact AQ hO
  refine Ao (bn (gn (Bs (pM (.int _ _) ?_))))
  refine AO ?_
  refine pA (.int _ _) (pg ?_)
  cases hk; exact ⟨_, rfl, _, _, hO, sh⟩
 refine D5 (ge (ge (be (gn (have hk := lx hx1 hk; sr (pA (.bool _) (pg (Au ?_))))))))
 cases hk; exact AQ hO
def lF (aA0 : Frame) (aB1 : Frame) : Option Bool :=
 (bif !(aA0.Ok == aB1.Ok) then some false else ((jB aA0.B1 aB1.B1).bind fun v3 => (bif !v3 then some false else ((mW aA0.A1 aB1.A1).bind fun v4 => (bif !v4 then some false else ((mX aA0.A3 aB1.A3).bind fun v5 => (bif !v5 then some false else some true)))))))
theorem WK (hk : lF aA0 aB1 = some r) (hlk : 0 < lk.length := by simp) : Am ai hh 14 [.agg (Ah l1 0 l2 0 l3 m4 aA0), .agg (Ah l5 0 l6 0 l7 m8 aB1)] H lk = some (.bool r, H) := by
 refine AF Tryz.func14 rfl Tryz.ntmps14 Tryz.results14 rfl rfl fun hO => ?_
 unfold lF at hk
 refine sr (BR (cs := [_, _, _, _]) hO BZ (fun b1 G hO => ?_))
 refine BR (cs := [_, _, _, _]) hO BZ (fun b2 G hO => ?_)
 refine pA (.bool _) (pg (AV (sr ?_)))
 refine Ad NL hO 1 (.bool _) Fu ?_
 refine Ad NL hO 0 (.bool _) Fu ?_
 refine Zu Tryz.underlying4 (pg (Ak hk ?_ ?_)) <;> intro hk
 ·refine sr (pA (.bool _) (pg (Au (gr ?_))))
  cases hk; exact AQ hO
 refine Ao (gn (AV (sr (Ad CP hO 1 (.lit _ _ _) C5 ?_))))
 refine Ad CP hO 0 (.lit _ _ _) C5 (bk hk fun v3 hv3 hk => ?_)
 refine AM (fun _ => SO hv3) ?_
 refine pU (pg (Ak hk ?_ ?_)) <;> intro hk
 ·refine sr (pA (.bool _) (pg (Au (gr ?_))))
  cases hk; exact AQ hO
 refine Ao (gn (AV (sr (Ad Cv hO 1 (.lit _ _ _) H9 ?_))))
 refine Ad Cv hO 0 (.lit _ _ _) H9 (bk hk fun v4 hv4 hk => ?_)
 refine AM (fun _ => dB hv4) ?_
 refine pU (pg (Ak hk ?_ ?_)) <;> intro hk
 ·refine sr (pA (.bool _) (pg (Au (gr ?_))))
  cases hk; exact AQ hO
 refine Ao (gn (AV (sr (Ad BT hO 1 (.lit _ _ _) DZ ?_))))
 refine Ad BT hO 0 (.lit _ _ _) DZ (bk hk fun v5 hv5 hk => ?_)
 refine AM (fun _ => dC hv5) ?_
 refine pU (pg (Ak hk ?_ ?_)) <;> intro hk
 ·refine sr (pA (.bool _) (pg (Au (gr ?_))))
  cases hk; exact AQ hO
 refine Ao (gn (sr (pA (.bool _) (pg (Au ?_)))))
 cases hk; exact AQ hO
def iR (aA0 : Aq) (aB1 : Aq) : Option Bool :=
 (bif (aA0.Code != aB1.Code) then some false else ((lF aA0.Frame aB1.Frame).bind fun v3 => (bif !v3 then some false else some true)))
theorem SD (hk : iR aA0 aB1 = some r) (hlk : 0 < lk.length := by simp) : Am ai hh 27 [.agg [iv aA0.Code, .bool aA0.Frame.Ok, AK l1 0 aA0.Frame.B1, AK l2 0 aA0.Frame.A1, AK l3 m4 aA0.Frame.A3], .agg [iv aB1.Code, .bool aB1.Frame.Ok, AK l5 0 aB1.Frame.B1, AK l6 0 aB1.Frame.A1, AK l7 m8 aB1.Frame.A3]] H lk = some (.bool r, H) := by
 refine AF Tryz.func27 rfl Tryz.ntmps27 Tryz.results27 rfl rfl fun hO => ?_
 unfold iR at hk
 refine sr (BR (cs := [_, _, _, _, _]) hO EF (fun b1 G hO => ?_))
 refine BR (cs := [_, _, _, _, _]) hO EF (fun b2 G hO => ?_)
 refine pA (.bool _) (pg (AV (sr ?_)))
 refine Ad aX hO 1 (.int _ _) B3 ?_
 refine Ad aX hO 0 (.int _ _) B3 ?_
 refine AO (pg (Ak hk ?_ ?_)) <;> intro hk
 ·refine sr (pA (.bool _) (pg (Au (gr ?_))))
  cases hk; exact AQ hO
 refine Ao (gn (AV (sr (pF TN ?_))))
 refine D9 hO 1 [_, _, _, _] DT BZ ?_
 refine pF TN ?_
 refine D9 hO 0 [_, _, _, _] DT BZ (bk hk fun v3 hv3 hk => ?_)
 refine AM (fun _ => WK hv3) ?_
 refine pU (pg (Ak hk ?_ ?_)) <;> intro hk
 ·refine sr (pA (.bool _) (pg (Au (gr ?_))))
  cases hk; exact AQ hO
 refine Ao (gn (sr (pA (.bool _) (pg (Au ?_)))))
 cases hk; exact AQ hO
def Ot (aA0 : List Int) (aB1 : List Int) : Int → Option (Int ⊕ Bool) := fun s =>
 (bif decide (s < (aA0.length : Int)) then ((AH aA0 s).bind fun c2 => ((AH aB1 s).bind fun c3 => (bif (c2 != c3) then ((some false).map Sum.inr) else some (.inl (BE (s + 1)))))) else ((some true).map Sum.inr))
def gF (aA0 : List Int) (aB1 : List Int) : Option Bool :=
 (bif ((aA0.length : Int) != (aB1.length : Int)) then some false else (AG (Ot aA0 aB1) ((0:Int))))
theorem OF (hk : gF aA0 aB1 = some r) (hlk : 0 < lk.length := by simp) : Am ai hh 12 [AK l1 0 aA0, AK l2 0 aB1] H lk = some (.bool r, H) := by
 refine AF Tryz.func12 rfl Tryz.ntmps12 Tryz.results12 rfl rfl fun hO => ?_
 unfold gF at hk
 refine sr (pA (.bool _) (pg (AV (sr ?_))))
 refine pM (.lit _ _ _) ?_
 refine Ae DA ?_
 refine pM (.lit _ _ _) ?_
 refine Ae DA ?_
 refine AO (pg (Ak hk ?_ ?_)) <;> intro hk
 ·refine sr (pA (.bool _) (pg (Au (gr ?_))))
  cases hk; exact AQ hO
 refine Ao (gn (AV (sr (pA (.int _ _) (pg (BO ?_))))))
 refine A9 (F := Ot aA0 aB1) (fun s S' => ∃ J G, A4 H G [] ∧ S' = ⟨CM [(0, AK l1 0 aA0),(1, AK l2 0 aB1),(5, iv s)] J, G⟩) hk ⟨_, _, hO, sh⟩ ?_
 rintro x1 _ y1 ⟨J, G, hO, rfl⟩ hk hx1
 refine AV (sr (pM (.int _ _) ?_))
 refine pM (.lit _ _ _) ?_
 refine Ae DA ?_
 refine AO (pg (Ak hk ?_ ?_)) <;> intro hk
 ·refine Ao (gn (AV (BO (AV (HY [1,3,5,7,9,11,13,15,16] [_,_,_,_,_,_,_,_,_] ?_)))))
  refine pM (.lit _ _ _) ?_
  refine pM (.int _ _) (bk hk fun c2 hc2 hk => ?_)
  refine pX hc2 CG DB ?_
  refine Bq (.int _ _) (Cu (lm := 0) (off := 0) hc2 B3) ?_
  refine pM (.lit _ _ _) ?_
  refine pM (.int _ _) (bk hk fun c3 hc3 hk => ?_)
  refine pX hc3 CG DB ?_
  refine Bq (.int _ _) (Cu (lm := 0) (off := 0) hc3 B3) ?_
  refine AO (pg (Ak hk ?_ ?_)) <;> intro hk
  ·refine sr (pA (.bool _) (pg (Au (br (gr (gr (br (gr (have hk := lx hx1 hk; ?_)))))))))
   cases hk; exact AQ hO
  refine Ao (bn (gn (Bs (pM (.int _ _) ?_))))
  refine AO ?_
  refine pA (.int _ _) (pg ?_)
  cases hk; exact ⟨_, rfl, _, _, hO, sh⟩
 refine D5 (ge (ge (be (gn (have hk := lx hx1 hk; sr (pA (.bool _) (pg (Au ?_))))))))
 cases hk; exact AQ hO
def Z2 (aA0 : Af) (aB1 : Af) : Option Bool :=
 (bif (aA0.Switch != aB1.Switch) then some false else (bif (aA0.CK != aB1.CK) then some false else some true))
theorem Z3 (hk : Z2 aA0 aB1 = some r) (hlk : 0 < lk.length := by simp) : Am ai hh 126 [.agg [iv aA0.Switch, iv aA0.CK], .agg [iv aB1.Switch, iv aB1.CK]] H lk = some (.bool r, H) := by
 refine AF Tryz.func126 rfl Tryz.ntmps126 Tryz.results126 rfl rfl fun hO => ?_
 unfold Z2 at hk
 refine sr (BR (cs := [_, _]) hO BA (fun b1 G hO => ?_))
 refine BR (cs := [_, _]) hO BA (fun b2 G hO => ?_)
 refine pA (.bool _) (pg (AV (sr ?_)))
 refine Ad CU hO 1 (.int _ _) B3 ?_
 refine Ad CU hO 0 (.int _ _) B3 ?_
 refine AO (pg (Ak hk ?_ ?_)) <;> intro hk
 ·refine sr (pA (.bool _) (pg (Au (gr ?_))))
  cases hk; exact AQ hO
 refine Ao (gn (AV (sr (Ad E7 hO 1 (.int _ _) B3 ?_))))
 refine Ad E7 hO 0 (.int _ _) B3 ?_
 refine AO (pg (Ak hk ?_ ?_)) <;> intro hk
 ·refine sr (pA (.bool _) (pg (Au (gr ?_))))
  cases hk; exact AQ hO
 refine Ao (gn (sr (pA (.bool _) (pg (Au ?_)))))
 cases hk; exact AQ hO
def Lf (aA0 : List Af) (aB1 : List Af) : Int → Option (Int ⊕ Bool) := fun s =>
 (bif decide (s < (aA0.length : Int)) then ((AH aA0 s).bind fun c2 => ((AH aB1 s).bind fun c3 => ((Z2 c2 c3).bind fun v4 => (bif !v4 then ((some false).map Sum.inr) else some (.inl (BE (s + 1))))))) else ((some true).map Sum.inr))
def XX (aA0 : List Af) (aB1 : List Af) : Option Bool :=
 (bif ((aA0.length : Int) != (aB1.length : Int)) then some false else (AG (Lf aA0 aB1) ((0:Int))))
theorem Tf (hk : XX aA0 aB1 = some r) (hlk : 0 < lk.length := by simp) : Am ai hh 111 [AK l1 0 aA0, AK l2 0 aB1] H lk = some (.bool r, H) := by
 refine AF Tryz.func111 rfl Tryz.ntmps111 Tryz.results111 rfl rfl fun hO => ?_
 unfold XX at hk
 refine sr (pA (.bool _) (pg (AV (sr ?_))))
 refine pM (.lit _ _ _) ?_
 refine Ae FF ?_
 refine pM (.lit _ _ _) ?_
 refine Ae FF ?_
 refine AO (pg (Ak hk ?_ ?_)) <;> intro hk
 ·refine sr (pA (.bool _) (pg (Au (gr ?_))))
  cases hk; exact AQ hO
 refine Ao (gn (AV (sr (pA (.int _ _) (pg (BO ?_))))))
 refine A9 (F := Lf aA0 aB1) (fun s S' => ∃ J G, A4 H G [] ∧ S' = ⟨CM [(0, AK l1 0 aA0),(1, AK l2 0 aB1),(5, iv s)] J, G⟩) hk ⟨_, _, hO, sh⟩ ?_
 rintro x1 _ y1 ⟨J, G, hO, rfl⟩ hk hx1
 refine AV (sr (pM (.int _ _) ?_))
 refine pM (.lit _ _ _) ?_
 refine Ae FF ?_
 refine AO (pg (Ak hk ?_ ?_)) <;> intro hk
 ·refine Ao (gn (AV (BO (AV (HY [1,3,5,7,9,11,13,15,16,18] [_,_,_,_,_,_,_,_,_,_] ?_)))))
  refine pM (.lit _ _ _) ?_
  refine pM (.int _ _) (bk hk fun c2 hc2 hk => ?_)
  refine pX hc2 Dy BA ?_
  refine Bq (.agg [_, _]) (GC (lm := 0) (off := 0) hc2 G9 BA) ?_
  refine pM (.lit _ _ _) ?_
  refine pM (.int _ _) (bk hk fun c3 hc3 hk => ?_)
  refine pX hc3 Dy BA ?_
  refine Bq (.agg [_, _]) (GC (lm := 0) (off := 0) hc3 G9 BA) (bk hk fun v4 hv4 hk => ?_)
  refine AM (fun _ => Z3 hv4) ?_
  refine pU (pg (Ak hk ?_ ?_)) <;> intro hk
  ·refine sr (pA (.bool _) (pg (Au (br (gr (gr (br (gr (have hk := lx hx1 hk; ?_)))))))))
   cases hk; exact AQ hO
  refine Ao (bn (gn (Bs (pM (.int _ _) ?_))))
  refine AO ?_
  refine pA (.int _ _) (pg ?_)
  cases hk; exact ⟨_, rfl, _, _, hO, sh⟩
 refine D5 (ge (ge (be (gn (have hk := lx hx1 hk; sr (pA (.bool _) (pg (Au ?_))))))))
 cases hk; exact AQ hO
def nM (aA0 : CA) (aB1 : CA) : Option Bool :=
 ((gF aA0.A0 aB1.A0).bind fun v3 => (bif !v3 then some false else ((XX aA0.AJ aB1.AJ).bind fun v4 => (bif !v4 then some false else ((XX aA0.A7 aB1.A7).bind fun v5 => (bif !v5 then some false else ((gF aA0.Bl aB1.Bl).bind fun v6 => (bif !v6 then some false else ((gF aA0.Ci aB1.Ci).bind fun v7 => (bif !v7 then some false else some true))))))))))
theorem eA (hk : nM aA0 aB1 = some r) (hlk : 0 < lk.length := by simp) : Am ai hh 85 [.agg (DG l1 0 l2 0 l3 0 l4 0 l5 0 aA0), .agg (DG l6 0 l7 0 l8 0 l9 0 l10 0 aB1)] H lk = some (.bool r, H) := by
 refine AF Tryz.func85 rfl Tryz.ntmps85 Tryz.results85 rfl rfl fun hO => ?_
 unfold nM at hk
 refine sr (BR (cs := [_, _, _, _, _]) hO Ay (fun b1 G hO => ?_))
 refine BR (cs := [_, _, _, _, _]) hO Ay (fun b2 G hO => ?_)
 refine pA (.bool _) (pg (AV (sr ?_)))
 refine Ad BS hO 1 (.lit _ _ _) BN ?_
 refine Ad BS hO 0 (.lit _ _ _) BN (bk hk fun v3 hv3 hk => ?_)
 refine AM (fun _ => OF hv3) ?_
 refine pU (pg (Ak hk ?_ ?_)) <;> intro hk
 ·refine sr (pA (.bool _) (pg (Au (gr ?_))))
  cases hk; exact AQ hO
 refine Ao (gn (AV (sr (Ad ER hO 1 (.lit _ _ _) Db ?_))))
 refine Ad ER hO 0 (.lit _ _ _) Db (bk hk fun v4 hv4 hk => ?_)
 refine AM (fun _ => Tf hv4) ?_
 refine pU (pg (Ak hk ?_ ?_)) <;> intro hk
 ·refine sr (pA (.bool _) (pg (Au (gr ?_))))
  cases hk; exact AQ hO
 refine Ao (gn (AV (sr (Ad Ed hO 1 (.lit _ _ _) Db ?_))))
 refine Ad Ed hO 0 (.lit _ _ _) Db (bk hk fun v5 hv5 hk => ?_)
 refine AM (fun _ => Tf hv5) ?_
 refine pU (pg (Ak hk ?_ ?_)) <;> intro hk
 ·refine sr (pA (.bool _) (pg (Au (gr ?_))))
  cases hk; exact AQ hO
 refine Ao (gn (AV (sr (Ad E6 hO 1 (.lit _ _ _) BN ?_))))
 refine Ad E6 hO 0 (.lit _ _ _) BN (bk hk fun v6 hv6 hk => ?_)
 refine AM (fun _ => OF hv6) ?_
 refine pU (pg (Ak hk ?_ ?_)) <;> intro hk
 ·refine sr (pA (.bool _) (pg (Au (gr ?_))))
  cases hk; exact AQ hO
 refine Ao (gn (AV (sr (Ad IA hO 1 (.lit _ _ _) BN ?_))))
 refine Ad IA hO 0 (.lit _ _ _) BN (bk hk fun v7 hv7 hk => ?_)
 refine AM (fun _ => OF hv7) ?_
 refine pU (pg (Ak hk ?_ ?_)) <;> intro hk
 ·refine sr (pA (.bool _) (pg (Au (gr ?_))))
  cases hk; exact AQ hO
 refine Ao (gn (sr (pA (.bool _) (pg (Au ?_)))))
 cases hk; exact AQ hO
def P5 (aA0 : List CA) (aB1 : List CA) : Int → Option (Int ⊕ Bool) := fun s =>
 (bif decide (s < (aA0.length : Int)) then ((AH aA0 s).bind fun c2 => ((AH aB1 s).bind fun c3 => ((nM c2 c3).bind fun v4 => (bif !v4 then ((some false).map Sum.inr) else some (.inl (BE (s + 1))))))) else ((some true).map Sum.inr))
def mU (aA0 : List CA) (aB1 : List CA) : Option Bool :=
 (bif ((aA0.length : Int) != (aB1.length : Int)) then some false else (AG (P5 aA0 aB1) ((0:Int))))
theorem cZ (hk : mU aA0 aB1 = some r) (hlk : 0 < lk.length := by simp) : Am ai hh 48 [AK l1 m2 aA0, AK l3 m4 aB1] H lk = some (.bool r, H) := by
 refine AF Tryz.func48 rfl Tryz.ntmps48 Tryz.results48 rfl rfl fun hO => ?_
 unfold mU at hk
 refine sr (pA (.bool _) (pg (AV (sr ?_))))
 refine pM (.lit _ _ _) ?_
 refine Ae Im ?_
 refine pM (.lit _ _ _) ?_
 refine Ae Im ?_
 refine AO (pg (Ak hk ?_ ?_)) <;> intro hk
 ·refine sr (pA (.bool _) (pg (Au (gr ?_))))
  cases hk; exact AQ hO
 refine Ao (gn (AV (sr (pA (.int _ _) (pg (BO ?_))))))
 refine A9 (F := P5 aA0 aB1) (fun s S' => ∃ J G, A4 H G [] ∧ S' = ⟨CM [(0, AK l1 m2 aA0),(1, AK l3 m4 aB1),(5, iv s)] J, G⟩) hk ⟨_, _, hO, sh⟩ ?_
 rintro x1 _ y1 ⟨J, G, hO, rfl⟩ hk hx1
 refine AV (sr (pM (.int _ _) ?_))
 refine pM (.lit _ _ _) ?_
 refine Ae Im ?_
 refine AO (pg (Ak hk ?_ ?_)) <;> intro hk
 ·refine Ao (gn (AV (BO (AV (HY [1,3,5,7,9,11,13,15,16,18] [_,_,_,_,_,_,_,_,_,_] ?_)))))
  refine pM (.lit _ _ _) ?_
  refine pM (.int _ _) (bk hk fun c2 hc2 hk => ?_)
  refine pX hc2 EY Ay ?_
  refine Bq (.agg [_, _, _, _, _]) (GC (lm := m2) (off := 0) hc2 Ec Ay) ?_
  refine pM (.lit _ _ _) ?_
  refine pM (.int _ _) (bk hk fun c3 hc3 hk => ?_)
  refine pX hc3 EY Ay ?_
  refine Bq (.agg [_, _, _, _, _]) (GC (lm := m4) (off := 0) hc3 Ec Ay) (bk hk fun v4 hv4 hk => ?_)
  refine AM (fun _ => eA hv4) ?_
  refine pU (pg (Ak hk ?_ ?_)) <;> intro hk
  ·refine sr (pA (.bool _) (pg (Au (br (gr (gr (br (gr (have hk := lx hx1 hk; ?_)))))))))
   cases hk; exact AQ hO
  refine Ao (bn (gn (Bs (pM (.int _ _) ?_))))
  refine AO ?_
  refine pA (.int _ _) (pg ?_)
  cases hk; exact ⟨_, rfl, _, _, hO, sh⟩
 refine D5 (ge (ge (be (gn (have hk := lx hx1 hk; sr (pA (.bool _) (pg (Au ?_))))))))
 cases hk; exact AQ hO
def P6 (aA0 : List (List Bool)) (aB1 : List (List Bool)) : Int → Option (Int ⊕ Bool) := fun s =>
 (bif decide (s < (aA0.length : Int)) then ((AH aA0 s).bind fun c2 => ((AH aB1 s).bind fun c3 => ((jB c2 c3).bind fun v4 => (bif !v4 then ((some false).map Sum.inr) else some (.inl (BE (s + 1))))))) else ((some true).map Sum.inr))
def mV (aA0 : List (List Bool)) (aB1 : List (List Bool)) : Option Bool :=
 (bif ((aA0.length : Int) != (aB1.length : Int)) then some false else (AG (P6 aA0 aB1) ((0:Int))))
theorem dA (hk : mV aA0 aB1 = some r) (hlk : 0 < lk.length := by simp) : Am ai hh 49 [AK l1 m2 aA0, AK l3 m4 aB1] H lk = some (.bool r, H) := by
 refine AF Tryz.func49 rfl Tryz.ntmps49 Tryz.results49 rfl rfl fun hO => ?_
 unfold mV at hk
 refine sr (pA (.bool _) (pg (AV (sr ?_))))
 refine pM (.lit _ _ _) ?_
 refine Ae NN ?_
 refine pM (.lit _ _ _) ?_
 refine Ae NN ?_
 refine AO (pg (Ak hk ?_ ?_)) <;> intro hk
 ·refine sr (pA (.bool _) (pg (Au (gr ?_))))
  cases hk; exact AQ hO
 refine Ao (gn (AV (sr (pA (.int _ _) (pg (BO ?_))))))
 refine A9 (F := P6 aA0 aB1) (fun s S' => ∃ J G, A4 H G [] ∧ S' = ⟨CM [(0, AK l1 m2 aA0),(1, AK l3 m4 aB1),(5, iv s)] J, G⟩) hk ⟨_, _, hO, sh⟩ ?_
 rintro x1 _ y1 ⟨J, G, hO, rfl⟩ hk hx1
 refine AV (sr (pM (.int _ _) ?_))
 refine pM (.lit _ _ _) ?_
 refine Ae NN ?_
 refine AO (pg (Ak hk ?_ ?_)) <;> intro hk
 ·refine Ao (gn (AV (BO (AV (HY [1,3,5,7,9,11,13,15,16,18] [_,_,_,_,_,_,_,_,_,_] ?_)))))
  refine pM (.lit _ _ _) ?_
  refine pM (.int _ _) (bk hk fun c2 hc2 hk => ?_)
  refine pX hc2 JZ Gs ?_
  refine Bq (.lit _ _ _) (Cu (lm := m2) (off := 0) hc2 C5) ?_
  refine pM (.lit _ _ _) ?_
  refine pM (.int _ _) (bk hk fun c3 hc3 hk => ?_)
  refine pX hc3 JZ Gs ?_
  refine Bq (.lit _ _ _) (Cu (lm := m4) (off := 0) hc3 C5) (bk hk fun v4 hv4 hk => ?_)
  refine AM (fun _ => SO hv4) ?_
  refine pU (pg (Ak hk ?_ ?_)) <;> intro hk
  ·refine sr (pA (.bool _) (pg (Au (br (gr (gr (br (gr (have hk := lx hx1 hk; ?_)))))))))
   cases hk; exact AQ hO
  refine Ao (bn (gn (Bs (pM (.int _ _) ?_))))
  refine AO ?_
  refine pA (.int _ _) (pg ?_)
  cases hk; exact ⟨_, rfl, _, _, hO, sh⟩
 refine D5 (ge (ge (be (gn (have hk := lx hx1 hk; sr (pA (.bool _) (pg (Au ?_))))))))
 cases hk; exact AQ hO
def mG (aA0 : AT) (aB1 : AT) : Option Bool :=
 (bif (aA0.A0 != aB1.A0) then some false else ((gF aA0.A5 aB1.A5).bind fun v3 => (bif !v3 then some false else ((mU aA0.A3 aB1.A3).bind fun v4 => (bif !v4 then some false else ((mV aA0.Bk aB1.Bk).bind fun v5 => (bif !v5 then some false else (bif (aA0.DX != aB1.DX) then some false else some true))))))))
theorem cL (hk : mG aA0 aB1 = some r) (hlk : 0 < lk.length := by simp) : Am ai hh 13 [.agg (AY l1 0 l2 m3 l4 m5 aA0), .agg (AY l6 0 l7 m8 l9 m10 aB1)] H lk = some (.bool r, H) := by
 refine AF Tryz.func13 rfl Tryz.ntmps13 Tryz.results13 rfl rfl fun hO => ?_
 unfold mG at hk
 refine sr (BR (cs := [_, _, _, _, _]) hO C0 (fun b1 G hO => ?_))
 refine BR (cs := [_, _, _, _, _]) hO C0 (fun b2 G hO => ?_)
 refine pA (.bool _) (pg (AV (sr ?_)))
 refine Ad ES hO 1 (.int _ _) B3 ?_
 refine Ad ES hO 0 (.int _ _) B3 ?_
 refine AO (pg (Ak hk ?_ ?_)) <;> intro hk
 ·refine sr (pA (.bool _) (pg (Au (gr ?_))))
  cases hk; exact AQ hO
 refine Ao (gn (AV (sr (Ad D4 hO 1 (.lit _ _ _) BN ?_))))
 refine Ad D4 hO 0 (.lit _ _ _) BN (bk hk fun v3 hv3 hk => ?_)
 refine AM (fun _ => OF hv3) ?_
 refine pU (pg (Ak hk ?_ ?_)) <;> intro hk
 ·refine sr (pA (.bool _) (pg (Au (gr ?_))))
  cases hk; exact AQ hO
 refine Ao (gn (AV (sr (Ad BY hO 1 (.lit _ _ _) Df ?_))))
 refine Ad BY hO 0 (.lit _ _ _) Df (bk hk fun v4 hv4 hk => ?_)
 refine AM (fun _ => cZ hv4) ?_
 refine pU (pg (Ak hk ?_ ?_)) <;> intro hk
 ·refine sr (pA (.bool _) (pg (Au (gr ?_))))
  cases hk; exact AQ hO
 refine Ao (gn (AV (sr (Ad Er hO 1 (.lit _ _ _) JX ?_))))
 refine Ad Er hO 0 (.lit _ _ _) JX (bk hk fun v5 hv5 hk => ?_)
 refine AM (fun _ => dA hv5) ?_
 refine pU (pg (Ak hk ?_ ?_)) <;> intro hk
 ·refine sr (pA (.bool _) (pg (Au (gr ?_))))
  cases hk; exact AQ hO
 refine Ao (gn (AV (sr (Ad JL hO 1 (.int _ _) B3 ?_))))
 refine Ad JL hO 0 (.int _ _) B3 ?_
 refine AO (pg (Ak hk ?_ ?_)) <;> intro hk
 ·refine sr (pA (.bool _) (pg (Au (gr ?_))))
  cases hk; exact AQ hO
 refine Ao (gn (sr (pA (.bool _) (pg (Au ?_)))))
 cases hk; exact AQ hO
def Ov : ((List Int) × Int × Int) → Option (((List Int) × Int × Int) ⊕ (List Int × Int)) := fun s =>
 (bif decide (s.2.2 < (s.1.length : Int)) then ((AH s.1 s.2.2).bind fun c4 => some (.inl (s.1.set s.2.2.toNat s.2.1, BE (s.2.1 + 1), BE (s.2.2 + 1)))) else ((some (s.1, s.2.1)).map Sum.inr))
def gG (aA0 : List Int) (aK1 : Int) : Option (List Int × Int) :=
 (AG (Ov) (aA0, aK1, (0:Int)))
theorem OI (hk : gG aA0 aK1 = some r) (ha : CR H aA0 [v0] F0) (hF : ∀ b ∈ F0, b < H.length) (hS : ∀ b ∈ F0, AX lk b = true) (hlk : 0 < lk.length := by simp) : ∃ v H1, Am ai hh 17 [v0, iv aK1] H lk = some (v, H1) ∧ v = iv r.2 ∧ CR H1 r.1 [v0] F0 ∧ H1.length = H.length ∧ ∀ b, b ∉ F0 → H1[b]? = H[b]? := by
 refine B0 Tryz.func17 rfl Tryz.ntmps17 Tryz.results17 rfl rfl ?_
 have hO := Dx ha hF
 have hFr := Bu.refl H F0
 unfold gG at hk
 refine sr (pA (.int _ _) (pg (AV (sr ?_))))
 refine pA (.int _ _) (pg (BO ?_))
 refine A9 (F := Ov) (fun s S' => ∃ J G H1, Bu H H1 F0 ∧ A4 H1 G [AI F0 F0 s.1 [v0]] ∧ S' = ⟨CM [(0, v0),(1, iv s.2.1),(5, iv s.2.2)] J, G⟩) hk ⟨_, _, _, hFr, hO, sh⟩ ?_
 rintro ⟨x1, x2, x3⟩ _ y1 ⟨J, G, H1, hFr, hO, rfl⟩ hk hx1
 refine AV (sr (pM (.int _ _) ?_))
 refine pM v0 ?_
 refine K9 hO 0 DA ?_
 refine AO (pg (Ak hk ?_ ?_)) <;> intro hk
 ·refine Ao (gn (AV (BO (sr (pM v0 ?_)))))
  refine pM (.int _ _) ?_
  refine pM (.int _ _) (bk hk fun c4 hc4 hk => ?_)
  refine HZ hO 0 hc4 CG DB (fun b5 hb5 => ?_)
  refine bY (Br.all (α := Int)) (y' := x2) hO 0 hb5 hc4 DB (fun _ => ⟨rfl, rfl⟩) hFr hS rfl (fun H1 G hFr hO => ?_)
  have hc_6 := B2 hc4 x2
  have hv_6 := Bn (j := x3.toNat) (y := x2) hb5
  refine pg (Bs (pM (.int _ _) ?_))
  refine AO ?_
  refine pA (.int _ _) (pE (bn (gn (Bs ?_))))
  refine pM (.int _ _) ?_
  refine AO ?_
  refine pA (.int _ _) (pg ?_)
  cases hk; exact ⟨_, rfl, _, _, _, hFr, hO, sh⟩
 refine D5 (ge (ge (be (gn (have hk := lx hx1 hk; sr (pM (.int _ _) ?_))))))
 refine pA (.int _ _) (pg (Au ?_))
 replace hk := av hk; subst hk; exact Qg hO 0 hFr hF
def PU : ((List Af) × Int × Int) → Option (((List Af) × Int × Int) ⊕ (List Af × Int)) := fun s =>
 (bif decide (s.2.2 < (s.1.length : Int)) then ((AH s.1 s.2.2).bind fun c4 => ((AH (s.1.set s.2.2.toNat ({ c4 with Switch := s.2.1 })) s.2.2).bind fun c7 => some (.inl ((s.1.set s.2.2.toNat ({ c4 with Switch := s.2.1 })).set s.2.2.toNat ({ c7 with CK := BE (s.2.1 + 1) }), BE ((BE (s.2.1 + 1)) + 1), BE (s.2.2 + 1))))) else ((some (s.1, s.2.1)).map Sum.inr))
def lO (aA0 : List Af) (aK1 : Int) : Option (List Af × Int) :=
 (AG (PU) (aA0, aK1, (0:Int)))
theorem WU (hk : lO aA0 aK1 = some r) (ha : CR H aA0 [v0] F0) (hF : ∀ b ∈ F0, b < H.length) (hS : ∀ b ∈ F0, AX lk b = true) (hlk : 0 < lk.length := by simp) : ∃ v H1, Am ai hh 88 [v0, iv aK1] H lk = some (v, H1) ∧ v = iv r.2 ∧ CR H1 r.1 [v0] F0 ∧ H1.length = H.length ∧ ∀ b, b ∉ F0 → H1[b]? = H[b]? := by
 refine B0 Tryz.func88 rfl Tryz.ntmps88 Tryz.results88 rfl rfl ?_
 have hO := Dx ha hF
 have hFr := Bu.refl H F0
 unfold lO at hk
 refine sr (pA (.int _ _) (pg (AV (sr ?_))))
 refine pA (.int _ _) (pg (BO ?_))
 refine A9 (F := PU) (fun s S' => ∃ J G H1, Bu H H1 F0 ∧ A4 H1 G [AI F0 F0 s.1 [v0]] ∧ S' = ⟨CM [(0, v0),(1, iv s.2.1),(5, iv s.2.2)] J, G⟩) hk ⟨_, _, _, hFr, hO, sh⟩ ?_
 rintro ⟨x1, x2, x3⟩ _ y1 ⟨J, G, H1, hFr, hO, rfl⟩ hk hx1
 refine AV (sr (pM (.int _ _) ?_))
 refine pM v0 ?_
 refine K9 hO 0 FF ?_
 refine AO (pg (Ak hk ?_ ?_)) <;> intro hk
 ·refine Ao (gn (AV (BO (sr (pM v0 ?_)))))
  refine pM (.int _ _) ?_
  refine pM (.int _ _) (bk hk fun c4 hc4 hk => ?_)
  refine HZ hO 0 hc4 Dy BA (fun b5 hb5 => ?_)
  refine pF CU ?_
  refine bY O0 (y' := x2) hO 0 hb5 hc4 DB (fun _ => ⟨rfl, rfl⟩) hFr hS rfl (fun H1 G hFr hO => ?_)
  have hc_6 := B2 hc4 ({ c4 with Switch := x2 } : Af)
  have hv_6 := Bn (j := x3.toNat) (y := ({ c4 with Switch := x2 } : Af)) hb5
  refine pg (sr (pM (.int _ _) ?_))
  refine AO ?_
  refine pA (.int _ _) (pg (sr ?_))
  refine pM v0 ?_
  refine pM (.int _ _) ?_
  refine pM (.int _ _) (bk hk fun c7 hc7 hk => ?_)
  refine HZ hO 0 hc7 Dy BA (fun b8 hb8 => ?_)
  refine pF E7 ?_
  refine bY Sl (y' := (BE (x2 + 1))) hO 0 hb8 hc7 DB (fun _ => ⟨rfl, rfl⟩) hFr hS rfl (fun H1 G hFr hO => ?_)
  have hc_9 := B2 hc7 ({ c7 with CK := BE (x2 + 1) } : Af)
  have hv_9 := Bn (j := x3.toNat) (y := ({ c7 with CK := BE (x2 + 1) } : Af)) hb8
  refine pg (Bs (pM (.int _ _) ?_))
  refine AO ?_
  refine pA (.int _ _) (pE (bn (gn (Bs ?_))))
  refine pM (.int _ _) ?_
  refine AO ?_
  refine pA (.int _ _) (pg ?_)
  cases hk; exact ⟨_, rfl, _, _, _, hFr, hO, sh⟩
 refine D5 (ge (ge (be (gn (have hk := lx hx1 hk; sr (pM (.int _ _) ?_))))))
 refine pA (.int _ _) (pg (Au ?_))
 replace hk := av hk; subst hk; exact Qg hO 0 hFr hF
def PA : ((List CA) × Int × Int) → Option (((List CA) × Int × Int) ⊕ (List CA × Int)) := fun s =>
 (bif decide (s.2.2 < (s.1.length : Int)) then ((AH s.1 s.2.2).bind fun c4 => ((gG c4.A0 s.2.1).bind fun z7 => ((AH (s.1.set s.2.2.toNat ({ c4 with A0 := z7.1 })) s.2.2).bind fun c8 => ((lO c8.AJ z7.2).bind fun z11 => ((AH ((s.1.set s.2.2.toNat ({ c4 with A0 := z7.1 })).set s.2.2.toNat ({ c8 with AJ := z11.1 })) s.2.2).bind fun c12 => ((lO c12.A7 z11.2).bind fun z15 => ((AH (((s.1.set s.2.2.toNat ({ c4 with A0 := z7.1 })).set s.2.2.toNat ({ c8 with AJ := z11.1 })).set s.2.2.toNat ({ c12 with A7 := z15.1 })) s.2.2).bind fun c16 => ((gG c16.Bl z15.2).bind fun z19 => ((AH ((((s.1.set s.2.2.toNat ({ c4 with A0 := z7.1 })).set s.2.2.toNat ({ c8 with AJ := z11.1 })).set s.2.2.toNat ({ c12 with A7 := z15.1 })).set s.2.2.toNat ({ c16 with Bl := z19.1 })) s.2.2).bind fun c20 => ((gG c20.Ci z19.2).bind fun z23 => some (.inl (((((s.1.set s.2.2.toNat ({ c4 with A0 := z7.1 })).set s.2.2.toNat ({ c8 with AJ := z11.1 })).set s.2.2.toNat ({ c12 with A7 := z15.1 })).set s.2.2.toNat ({ c16 with Bl := z19.1 })).set s.2.2.toNat ({ c20 with Ci := z23.1 }), z23.2, BE (s.2.2 + 1))))))))))))) else ((some (s.1, s.2.1)).map Sum.inr))
def mY (aA0 : List CA) (aK1 : Int) : Option (List CA × Int) :=
 (AG (PA) (aA0, aK1, (0:Int)))
theorem dD (hk : mY aA0 aK1 = some r) (ha : CR H aA0 [v0] F0) (hF : ∀ b ∈ F0, b < H.length) (hS : ∀ b ∈ F0, AX lk b = true) (hlk : 0 < lk.length := by simp) : ∃ v H1, Am ai hh 53 [v0, iv aK1] H lk = some (v, H1) ∧ v = iv r.2 ∧ CR H1 r.1 [v0] F0 ∧ H1.length = H.length ∧ ∀ b, b ∉ F0 → H1[b]? = H[b]? := by
 refine B0 Tryz.func53 rfl Tryz.ntmps53 Tryz.results53 rfl rfl ?_
 have hO := Dx ha hF
 have hFr := Bu.refl H F0
 unfold mY at hk
 refine sr (pA (.int _ _) (pg (AV (sr ?_))))
 refine pA (.int _ _) (pg (BO ?_))
 refine A9 (F := PA) (fun s S' => ∃ J G H1, Bu H H1 F0 ∧ A4 H1 G [AI F0 F0 s.1 [v0]] ∧ S' = ⟨CM [(0, v0),(1, iv s.2.1),(5, iv s.2.2)] J, G⟩) hk ⟨_, _, _, hFr, hO, sh⟩ ?_
 rintro ⟨x1, x2, x3⟩ _ y1 ⟨J, G, H1, hFr, hO, rfl⟩ hk hx1
 refine AV (sr (pM (.int _ _) ?_))
 refine pM v0 ?_
 refine K9 hO 0 Im ?_
 refine AO (pg (Ak hk ?_ ?_)) <;> intro hk
 ·refine Ao (gn (AV (BO (sr (pM v0 ?_)))))
  refine pM (.int _ _) (bk hk fun c4 hc4 hk => ?_)
  refine HZ hO 0 hc4 EY Ay (fun b5 hb5 => ?_)
  refine pF BS ?_
  refine Vl Mw hO 0 hb5 hc4 BN (fun u6 fs6 hs6 => ?_)
  refine pM (.int _ _) (bk hk fun z7 hz7 hk => ?_)
  refine Wl (y' := z7.1) (r := iv z7.2) hO 0 hs6 (fun _ h => h) hFr hS (fun hF1 hS1 ht1 => OI hz7 ht1 hF1 hS1) (fun H1 G hFr hO => ?_)
  refine pA (.int _ _) (pg (sr ?_))
  refine pM v0 ?_
  refine pM (.int _ _) (bk hk fun c8 hc8 hk => ?_)
  refine HZ hO 0 hc8 EY Ay (fun b9 hb9 => ?_)
  refine pF ER ?_
  refine Vl Sn hO 0 hb9 hc8 Db (fun u10 fs10 hs10 => ?_)
  refine pM (.int _ _) (bk hk fun z11 hz11 hk => ?_)
  refine Wl (y' := z11.1) (r := iv z11.2) hO 0 hs10 (fun _ h => h) hFr hS (fun hF1 hS1 ht1 => WU hz11 ht1 hF1 hS1) (fun H1 G hFr hO => ?_)
  refine pA (.int _ _) (pg (sr ?_))
  refine pM v0 ?_
  refine pM (.int _ _) (bk hk fun c12 hc12 hk => ?_)
  refine HZ hO 0 hc12 EY Ay (fun b13 hb13 => ?_)
  refine pF Ed ?_
  refine Vl Pg hO 0 hb13 hc12 Db (fun u14 fs14 hs14 => ?_)
  refine pM (.int _ _) (bk hk fun z15 hz15 hk => ?_)
  refine Wl (y' := z15.1) (r := iv z15.2) hO 0 hs14 (fun _ h => h) hFr hS (fun hF1 hS1 ht1 => WU hz15 ht1 hF1 hS1) (fun H1 G hFr hO => ?_)
  refine pA (.int _ _) (pg (sr ?_))
  refine pM v0 ?_
  refine pM (.int _ _) (bk hk fun c16 hc16 hk => ?_)
  refine HZ hO 0 hc16 EY Ay (fun b17 hb17 => ?_)
  refine pF E6 ?_
  refine Vl Sp hO 0 hb17 hc16 BN (fun u18 fs18 hs18 => ?_)
  refine pM (.int _ _) (bk hk fun z19 hz19 hk => ?_)
  refine Wl (y' := z19.1) (r := iv z19.2) hO 0 hs18 (fun _ h => h) hFr hS (fun hF1 hS1 ht1 => OI hz19 ht1 hF1 hS1) (fun H1 G hFr hO => ?_)
  refine pA (.int _ _) (pg (Bs ?_))
  refine pM v0 ?_
  refine pM (.int _ _) (bk hk fun c20 hc20 hk => ?_)
  refine HZ hO 0 hc20 EY Ay (fun b21 hb21 => ?_)
  refine pF IA ?_
  refine Vl So hO 0 hb21 hc20 BN (fun u22 fs22 hs22 => ?_)
  refine pM (.int _ _) (bk hk fun z23 hz23 hk => ?_)
  refine Wl (y' := z23.1) (r := iv z23.2) hO 0 hs22 (fun _ h => h) hFr hS (fun hF1 hS1 ht1 => OI hz23 ht1 hF1 hS1) (fun H1 G hFr hO => ?_)
  refine pA (.int _ _) (pE (bn (gn (Bs ?_))))
  refine pM (.int _ _) ?_
  refine AO ?_
  refine pA (.int _ _) (pg ?_)
  cases hk; exact ⟨_, rfl, _, _, _, hFr, hO, sh⟩
 refine D5 (ge (ge (be (gn (have hk := lx hx1 hk; sr (pM (.int _ _) ?_))))))
 refine pA (.int _ _) (pg (Au ?_))
 replace hk := av hk; subst hk; exact Qg hO 0 hFr hF
def PC : ((List Bool) × Int × Int) → Option (((List Bool) × Int × Int) ⊕ (List Bool × Int)) := fun s =>
 (bif decide (s.2.2 < (s.1.length : Int)) then ((AH s.1 s.2.2).bind fun c4 => some (.inl (s.1.set s.2.2.toNat ((ja s.2.1 (3:Int)) == 0), BE (s.2.1 + 1), BE (s.2.2 + 1)))) else ((some (s.1, s.2.1)).map Sum.inr))
def jE (aA0 : List Bool) (aK1 : Int) : Option (List Bool × Int) :=
 (AG (PC) (aA0, aK1, (0:Int)))
theorem SP (hk : jE aA0 aK1 = some r) (ha : CR H aA0 [v0] F0) (hF : ∀ b ∈ F0, b < H.length) (hS : ∀ b ∈ F0, AX lk b = true) (hlk : 0 < lk.length := by simp) : ∃ v H1, Am ai hh 55 [v0, iv aK1] H lk = some (v, H1) ∧ v = iv r.2 ∧ CR H1 r.1 [v0] F0 ∧ H1.length = H.length ∧ ∀ b, b ∉ F0 → H1[b]? = H[b]? := by
 refine B0 Tryz.func55 rfl Tryz.ntmps55 Tryz.results55 rfl rfl ?_
 have hO := Dx ha hF
 have hFr := Bu.refl H F0
 unfold jE at hk
 refine sr (pA (.int _ _) (pg (AV (sr ?_))))
 refine pA (.int _ _) (pg (BO ?_))
 refine A9 (F := PC) (fun s S' => ∃ J G H1, Bu H H1 F0 ∧ A4 H1 G [AI F0 F0 s.1 [v0]] ∧ S' = ⟨CM [(0, v0),(1, iv s.2.1),(5, iv s.2.2)] J, G⟩) hk ⟨_, _, _, hFr, hO, sh⟩ ?_
 rintro ⟨x1, x2, x3⟩ _ y1 ⟨J, G, H1, hFr, hO, rfl⟩ hk hx1
 refine AV (sr (pM (.int _ _) ?_))
 refine pM v0 ?_
 refine K9 hO 0 Hj ?_
 refine AO (pg (Ak hk ?_ ?_)) <;> intro hk
 ·refine Ao (gn (AV (BO (sr (pM v0 ?_)))))
  refine pM (.int _ _) ?_
  refine pM (.int _ _) ?_
  refine AO ?_
  refine AO (bk hk fun c4 hc4 hk => ?_)
  refine HZ hO 0 hc4 Cd Eu (fun b5 hb5 => ?_)
  refine bY (Br.all (α := Bool)) (y' := ((ja x2 (3:Int)) == 0)) hO 0 hb5 hc4 Eu (fun _ => ⟨rfl, rfl⟩) hFr hS rfl (fun H1 G hFr hO => ?_)
  have hc_6 := B2 hc4 ((ja x2 (3:Int)) == 0)
  have hv_6 := Bn (j := x3.toNat) (y := ((ja x2 (3:Int)) == 0)) hb5
  refine pg (Bs (pM (.int _ _) ?_))
  refine AO ?_
  refine pA (.int _ _) (pE (bn (gn (Bs ?_))))
  refine pM (.int _ _) ?_
  refine AO ?_
  refine pA (.int _ _) (pg ?_)
  cases hk; exact ⟨_, rfl, _, _, _, hFr, hO, sh⟩
 refine D5 (ge (ge (be (gn (have hk := lx hx1 hk; sr (pM (.int _ _) ?_))))))
 refine pA (.int _ _) (pg (Au ?_))
 replace hk := av hk; subst hk; exact Qg hO 0 hFr hF
def PB : ((List (List Bool)) × Int × Int) → Option (((List (List Bool)) × Int × Int) ⊕ (List (List Bool) × Int)) := fun s =>
 (bif decide (s.2.2 < (s.1.length : Int)) then ((AH s.1 s.2.2).bind fun c4 => ((jE c4 s.2.1).bind fun z7 => some (.inl (s.1.set s.2.2.toNat z7.1, z7.2, BE (s.2.2 + 1))))) else ((some (s.1, s.2.1)).map Sum.inr))
def mZ (aA0 : List (List Bool)) (aK1 : Int) : Option (List (List Bool) × Int) :=
 (AG (PB) (aA0, aK1, (0:Int)))
theorem dE (hk : mZ aA0 aK1 = some r) (ha : CR H aA0 [v0] F0) (hF : ∀ b ∈ F0, b < H.length) (hS : ∀ b ∈ F0, AX lk b = true) (hlk : 0 < lk.length := by simp) : ∃ v H1, Am ai hh 54 [v0, iv aK1] H lk = some (v, H1) ∧ v = iv r.2 ∧ CR H1 r.1 [v0] F0 ∧ H1.length = H.length ∧ ∀ b, b ∉ F0 → H1[b]? = H[b]? := by
 refine B0 Tryz.func54 rfl Tryz.ntmps54 Tryz.results54 rfl rfl ?_
 have hO := Dx ha hF
 have hFr := Bu.refl H F0
 unfold mZ at hk
 refine sr (pA (.int _ _) (pg (AV (sr ?_))))
 refine pA (.int _ _) (pg (BO ?_))
 refine A9 (F := PB) (fun s S' => ∃ J G H1, Bu H H1 F0 ∧ A4 H1 G [AI F0 F0 s.1 [v0]] ∧ S' = ⟨CM [(0, v0),(1, iv s.2.1),(5, iv s.2.2)] J, G⟩) hk ⟨_, _, _, hFr, hO, sh⟩ ?_
 rintro ⟨x1, x2, x3⟩ _ y1 ⟨J, G, H1, hFr, hO, rfl⟩ hk hx1
 refine AV (sr (pM (.int _ _) ?_))
 refine pM v0 ?_
 refine K9 hO 0 NN ?_
 refine AO (pg (Ak hk ?_ ?_)) <;> intro hk
 ·refine Ao (gn (AV (BO (Bs (pM v0 ?_)))))
  refine pM (.int _ _) (bk hk fun c4 hc4 hk => ?_)
  refine HZ hO 0 hc4 JZ Gs (fun b5 hb5 => ?_)
  refine Vl (Br.all (α := List Bool)) hO 0 hb5 hc4 C5 (fun u6 fs6 hs6 => ?_)
  refine pM (.int _ _) (bk hk fun z7 hz7 hk => ?_)
  refine Wl (y' := z7.1) (r := iv z7.2) hO 0 hs6 (fun _ h => h) hFr hS (fun hF1 hS1 ht1 => SP hz7 ht1 hF1 hS1) (fun H1 G hFr hO => ?_)
  refine pA (.int _ _) (pE (bn (gn (Bs ?_))))
  refine pM (.int _ _) ?_
  refine AO ?_
  refine pA (.int _ _) (pg ?_)
  cases hk; exact ⟨_, rfl, _, _, _, hFr, hO, sh⟩
 refine D5 (ge (ge (be (gn (have hk := lx hx1 hk; sr (pM (.int _ _) ?_))))))
 refine pA (.int _ _) (pg (Au ?_))
 replace hk := av hk; subst hk; exact Qg hO 0 hFr hF
def mH (aA0 : AT) (aK1 : Int) : Option (AT × Int) :=
 ((gG aA0.A5 aK1).bind fun z3 => ((mY (({ aA0 with A5 := z3.1 }).A3) z3.2).bind fun z5 => ((mZ (({ { aA0 with A5 := z3.1 } with A3 := z5.1 }).Bk) z5.2).bind fun z7 => some ({ { { aA0 with A5 := z3.1 } with A3 := z5.1 } with Bk := z7.1 }, z7.2))))
theorem cM (hk : mH aA0 aK1 = some r) (ha : CR H aA0 v0 F0) (hF : ∀ b ∈ F0, b < H.length) (hS : ∀ b ∈ F0, AX lk b = true) (hlk : 0 < lk.length := by simp) : ∃ v H1, Am ai hh 15 [.agg v0, iv aK1] H lk = some (v, H1) ∧ v = iv r.2 ∧ CR H1 r.1 v0 F0 ∧ H1.length = H.length ∧ ∀ b, b ∉ F0 → H1[b]? = H[b]? := by
 refine B0 Tryz.func15 rfl Tryz.ntmps15 Tryz.results15 rfl rfl ?_
 have hO := Dx ha hF
 have hFr := Bu.refl H F0
 unfold mH at hk
 refine sr (Zv hO 0 C0 (fun b1 G hO => ?_))
 refine pA (.int _ _) (pg (sr ?_))
 refine pF D4 ?_
 refine Xu Lu hO 0 1 BN (fun u2 fs2 hs2 => ?_)
 refine pM (.int _ _) (bk hk fun z3 hz3 hk => ?_)
 refine Wl (y' := z3.1) (r := iv z3.2) hO 1 hs2 (fun _ h => h) hFr hS (fun hF1 hS1 ht1 => OI hz3 ht1 hF1 hS1) (fun H1 G hFr hO => ?_)
 refine pA (.int _ _) (pg (sr ?_))
 refine pF BY ?_
 refine Xu Qk hO 0 1 Df (fun u4 fs4 hs4 => ?_)
 refine pM (.int _ _) (bk hk fun z5 hz5 hk => ?_)
 refine Wl (y' := z5.1) (r := iv z5.2) hO 1 hs4 (fun _ h => h) hFr hS (fun hF1 hS1 ht1 => dD hz5 ht1 hF1 hS1) (fun H1 G hFr hO => ?_)
 refine pA (.int _ _) (pg (sr ?_))
 refine pF Er ?_
 refine Xu Qj hO 0 1 JX (fun u6 fs6 hs6 => ?_)
 refine pM (.int _ _) (bk hk fun z7 hz7 hk => ?_)
 refine Wl (y' := z7.1) (r := iv z7.2) hO 1 hs6 (fun _ h => h) hFr hS (fun hF1 hS1 ht1 => dE hz7 ht1 hF1 hS1) (fun H1 G hFr hO => ?_)
 refine pA (.int _ _) (pg (sr ?_))
 refine pM (.int _ _) ?_
 refine pA (.int _ _) (pg (Au ?_))
 replace hk := av hk; subst hk; exact Qg hO 1 hFr hF
def PE : ((List AZ) × Int × Int) → Option (((List AZ) × Int × Int) ⊕ (List AZ × Int)) := fun s =>
 (bif decide (s.2.2 < (s.1.length : Int)) then ((AH s.1 s.2.2).bind fun c4 => ((AH (s.1.set s.2.2.toNat ({ c4 with Want := s.2.1 })) s.2.2).bind fun c7 => some (.inl ((s.1.set s.2.2.toNat ({ c4 with Want := s.2.1 })).set s.2.2.toNat ({ c7 with AJ := BE (s.2.1 + 1) }), BE ((BE (s.2.1 + 1)) + 1), BE (s.2.2 + 1))))) else ((some (s.1, s.2.1)).map Sum.inr))
def n7 (aA0 : List AZ) (aK1 : Int) : Option (List AZ × Int) :=
 (AG (PE) (aA0, aK1, (0:Int)))
theorem dF (hk : n7 aA0 aK1 = some r) (ha : CR H aA0 [v0] F0) (hF : ∀ b ∈ F0, b < H.length) (hS : ∀ b ∈ F0, AX lk b = true) (hlk : 0 < lk.length := by simp) : ∃ v H1, Am ai hh 56 [v0, iv aK1] H lk = some (v, H1) ∧ v = iv r.2 ∧ CR H1 r.1 [v0] F0 ∧ H1.length = H.length ∧ ∀ b, b ∉ F0 → H1[b]? = H[b]? := by
 refine B0 Tryz.func56 rfl Tryz.ntmps56 Tryz.results56 rfl rfl ?_
 have hO := Dx ha hF
 have hFr := Bu.refl H F0
 unfold n7 at hk
 refine sr (pA (.int _ _) (pg (AV (sr ?_))))
 refine pA (.int _ _) (pg (BO ?_))
 refine A9 (F := PE) (fun s S' => ∃ J G H1, Bu H H1 F0 ∧ A4 H1 G [AI F0 F0 s.1 [v0]] ∧ S' = ⟨CM [(0, v0),(1, iv s.2.1),(5, iv s.2.2)] J, G⟩) hk ⟨_, _, _, hFr, hO, sh⟩ ?_
 rintro ⟨x1, x2, x3⟩ _ y1 ⟨J, G, H1, hFr, hO, rfl⟩ hk hx1
 refine AV (sr (pM (.int _ _) ?_))
 refine pM v0 ?_
 refine K9 hO 0 O3 ?_
 refine AO (pg (Ak hk ?_ ?_)) <;> intro hk
 ·refine Ao (gn (AV (BO (sr (pM v0 ?_)))))
  refine pM (.int _ _) ?_
  refine pM (.int _ _) (bk hk fun c4 hc4 hk => ?_)
  refine HZ hO 0 hc4 Gm Dq (fun b5 hb5 => ?_)
  refine pF GA ?_
  refine bY Ej (y' := x2) hO 0 hb5 hc4 DB (fun _ => ⟨rfl, rfl⟩) hFr hS rfl (fun H1 G hFr hO => ?_)
  have hc_6 := B2 hc4 ({ c4 with Want := x2 } : AZ)
  have hv_6 := Bn (j := x3.toNat) (y := ({ c4 with Want := x2 } : AZ)) hb5
  refine pg (sr (pM (.int _ _) ?_))
  refine AO ?_
  refine pA (.int _ _) (pg (sr ?_))
  refine pM v0 ?_
  refine pM (.int _ _) ?_
  refine pM (.int _ _) (bk hk fun c7 hc7 hk => ?_)
  refine HZ hO 0 hc7 Gm Dq (fun b8 hb8 => ?_)
  refine pF IN ?_
  refine bY HN (y' := (BE (x2 + 1))) hO 0 hb8 hc7 DB (fun _ => ⟨rfl, rfl⟩) hFr hS rfl (fun H1 G hFr hO => ?_)
  have hc_9 := B2 hc7 ({ c7 with AJ := BE (x2 + 1) } : AZ)
  have hv_9 := Bn (j := x3.toNat) (y := ({ c7 with AJ := BE (x2 + 1) } : AZ)) hb8
  refine pg (Bs (pM (.int _ _) ?_))
  refine AO ?_
  refine pA (.int _ _) (pE (bn (gn (Bs ?_))))
  refine pM (.int _ _) ?_
  refine AO ?_
  refine pA (.int _ _) (pg ?_)
  cases hk; exact ⟨_, rfl, _, _, _, hFr, hO, sh⟩
 refine D5 (ge (ge (be (gn (have hk := lx hx1 hk; sr (pM (.int _ _) ?_))))))
 refine pA (.int _ _) (pg (Au ?_))
 replace hk := av hk; subst hk; exact Qg hO 0 hFr hF
def PF : ((List AD) × Int × Int) → Option (((List AD) × Int × Int) ⊕ (List AD × Int)) := fun s =>
 (bif decide (s.2.2 < (s.1.length : Int)) then ((AH s.1 s.2.2).bind fun c4 => ((AH (s.1.set s.2.2.toNat ({ c4 with State := s.2.1 })) s.2.2).bind fun c7 => ((AH ((s.1.set s.2.2.toNat ({ c4 with State := s.2.1 })).set s.2.2.toNat ({ c7 with Aj := BE (s.2.1 + 1) })) s.2.2).bind fun c10 => ((jE c10.Ac (BE ((BE (s.2.1 + 1)) + 1))).bind fun z13 => ((AH (((s.1.set s.2.2.toNat ({ c4 with State := s.2.1 })).set s.2.2.toNat ({ c7 with Aj := BE (s.2.1 + 1) })).set s.2.2.toNat ({ c10 with Ac := z13.1 })) s.2.2).bind fun c14 => ((AH ((((s.1.set s.2.2.toNat ({ c4 with State := s.2.1 })).set s.2.2.toNat ({ c7 with Aj := BE (s.2.1 + 1) })).set s.2.2.toNat ({ c10 with Ac := z13.1 })).set s.2.2.toNat ({ c14 with Shown := ((ja z13.2 (3:Int)) == 0) })) s.2.2).bind fun c17 => some (.inl (((((s.1.set s.2.2.toNat ({ c4 with State := s.2.1 })).set s.2.2.toNat ({ c7 with Aj := BE (s.2.1 + 1) })).set s.2.2.toNat ({ c10 with Ac := z13.1 })).set s.2.2.toNat ({ c14 with Shown := ((ja z13.2 (3:Int)) == 0) })).set s.2.2.toNat ({ c17 with Timer := BE (z13.2 + 1) }), BE ((BE (z13.2 + 1)) + 1), BE (s.2.2 + 1))))))))) else ((some (s.1, s.2.1)).map Sum.inr))
def n8 (aA0 : List AD) (aK1 : Int) : Option (List AD × Int) :=
 (AG (PF) (aA0, aK1, (0:Int)))
theorem dG (hk : n8 aA0 aK1 = some r) (ha : CR H aA0 [v0] F0) (hF : ∀ b ∈ F0, b < H.length) (hS : ∀ b ∈ F0, AX lk b = true) (hlk : 0 < lk.length := by simp) : ∃ v H1, Am ai hh 57 [v0, iv aK1] H lk = some (v, H1) ∧ v = iv r.2 ∧ CR H1 r.1 [v0] F0 ∧ H1.length = H.length ∧ ∀ b, b ∉ F0 → H1[b]? = H[b]? := by
 refine B0 Tryz.func57 rfl Tryz.ntmps57 Tryz.results57 rfl rfl ?_
 have hO := Dx ha hF
 have hFr := Bu.refl H F0
 unfold n8 at hk
 refine sr (pA (.int _ _) (pg (AV (sr ?_))))
 refine pA (.int _ _) (pg (BO ?_))
 refine A9 (F := PF) (fun s S' => ∃ J G H1, Bu H H1 F0 ∧ A4 H1 G [AI F0 F0 s.1 [v0]] ∧ S' = ⟨CM [(0, v0),(1, iv s.2.1),(5, iv s.2.2)] J, G⟩) hk ⟨_, _, _, hFr, hO, sh⟩ ?_
 rintro ⟨x1, x2, x3⟩ _ y1 ⟨J, G, H1, hFr, hO, rfl⟩ hk hx1
 refine AV (sr (pM (.int _ _) ?_))
 refine pM v0 ?_
 refine K9 hO 0 Hk ?_
 refine AO (pg (Ak hk ?_ ?_)) <;> intro hk
 ·refine Ao (gn (AV (BO (sr (pM v0 ?_)))))
  refine pM (.int _ _) ?_
  refine pM (.int _ _) (bk hk fun c4 hc4 hk => ?_)
  refine HZ hO 0 hc4 Da Av (fun b5 hb5 => ?_)
  refine pF Az ?_
  refine bY Al (y' := x2) hO 0 hb5 hc4 DB (fun _ => ⟨rfl, rfl⟩) hFr hS rfl (fun H1 G hFr hO => ?_)
  have hc_6 := B2 hc4 ({ c4 with State := x2 } : AD)
  have hv_6 := Bn (j := x3.toNat) (y := ({ c4 with State := x2 } : AD)) hb5
  refine pg (sr (pM (.int _ _) ?_))
  refine AO ?_
  refine pA (.int _ _) (pg (sr ?_))
  refine pM v0 ?_
  refine pM (.int _ _) ?_
  refine pM (.int _ _) (bk hk fun c7 hc7 hk => ?_)
  refine HZ hO 0 hc7 Da Av (fun b8 hb8 => ?_)
  refine pF C7 ?_
  refine bY C3 (y' := (BE (x2 + 1))) hO 0 hb8 hc7 DB (fun _ => ⟨rfl, rfl⟩) hFr hS rfl (fun H1 G hFr hO => ?_)
  have hc_9 := B2 hc7 ({ c7 with Aj := BE (x2 + 1) } : AD)
  have hv_9 := Bn (j := x3.toNat) (y := ({ c7 with Aj := BE (x2 + 1) } : AD)) hb8
  refine pg (sr (pM (.int _ _) ?_))
  refine AO ?_
  refine pA (.int _ _) (pg (sr ?_))
  refine pM v0 ?_
  refine pM (.int _ _) (bk hk fun c10 hc10 hk => ?_)
  refine HZ hO 0 hc10 Da Av (fun b11 hb11 => ?_)
  refine pF CC ?_
  refine Vl D0 hO 0 hb11 hc10 C5 (fun u12 fs12 hs12 => ?_)
  refine pM (.int _ _) (bk hk fun z13 hz13 hk => ?_)
  refine Wl (y' := z13.1) (r := iv z13.2) hO 0 hs12 (fun _ h => h) hFr hS (fun hF1 hS1 ht1 => SP hz13 ht1 hF1 hS1) (fun H1 G hFr hO => ?_)
  refine pA (.int _ _) (pg (sr ?_))
  refine pM v0 ?_
  refine pM (.int _ _) ?_
  refine pM (.int _ _) ?_
  refine AO ?_
  refine AO (bk hk fun c14 hc14 hk => ?_)
  refine HZ hO 0 hc14 Da Av (fun b15 hb15 => ?_)
  refine pF DW ?_
  refine bY Ei (y' := ((ja z13.2 (3:Int)) == 0)) hO 0 hb15 hc14 Eu (fun _ => ⟨rfl, rfl⟩) hFr hS rfl (fun H1 G hFr hO => ?_)
  have hc_16 := B2 hc14 ({ c14 with Shown := ((ja z13.2 (3:Int)) == 0) } : AD)
  have hv_16 := Bn (j := x3.toNat) (y := ({ c14 with Shown := ((ja z13.2 (3:Int)) == 0) } : AD)) hb15
  refine pg (sr (pM (.int _ _) ?_))
  refine AO ?_
  refine pA (.int _ _) (pg (sr ?_))
  refine pM v0 ?_
  refine pM (.int _ _) ?_
  refine pM (.int _ _) (bk hk fun c17 hc17 hk => ?_)
  refine HZ hO 0 hc17 Da Av (fun b18 hb18 => ?_)
  refine pF Ce ?_
  refine bY CE (y' := (BE (z13.2 + 1))) hO 0 hb18 hc17 DB (fun _ => ⟨rfl, rfl⟩) hFr hS rfl (fun H1 G hFr hO => ?_)
  have hc_19 := B2 hc17 ({ c17 with Timer := BE (z13.2 + 1) } : AD)
  have hv_19 := Bn (j := x3.toNat) (y := ({ c17 with Timer := BE (z13.2 + 1) } : AD)) hb18
  refine pg (Bs (pM (.int _ _) ?_))
  refine AO ?_
  refine pA (.int _ _) (pE (bn (gn (Bs ?_))))
  refine pM (.int _ _) ?_
  refine AO ?_
  refine pA (.int _ _) (pg ?_)
  cases hk; exact ⟨_, rfl, _, _, _, hFr, hO, sh⟩
 refine D5 (ge (ge (be (gn (have hk := lx hx1 hk; sr (pM (.int _ _) ?_))))))
 refine pA (.int _ _) (pg (Au ?_))
 replace hk := av hk; subst hk; exact Qg hO 0 hFr hF
def lG (aA0 : Frame) (aK1 : Int) : Option (Frame × Int) :=
 ((jE aA0.B1 aK1).bind fun z3 => ((n7 (({ aA0 with B1 := z3.1 }).A1) z3.2).bind fun z5 => ((n8 (({ { aA0 with B1 := z3.1 } with A1 := z5.1 }).A3) z5.2).bind fun z7 => some ({ { { aA0 with B1 := z3.1 } with A1 := z5.1 } with A3 := z7.1 }, z7.2))))
theorem WL (hk : lG aA0 aK1 = some r) (ha : CR H aA0 v0 F0) (hF : ∀ b ∈ F0, b < H.length) (hS : ∀ b ∈ F0, AX lk b = true) (hlk : 0 < lk.length := by simp) : ∃ v H1, Am ai hh 16 [.agg v0, iv aK1] H lk = some (v, H1) ∧ v = iv r.2 ∧ CR H1 r.1 v0 F0 ∧ H1.length = H.length ∧ ∀ b, b ∉ F0 → H1[b]? = H[b]? := by
 refine B0 Tryz.func16 rfl Tryz.ntmps16 Tryz.results16 rfl rfl ?_
 have hO := Dx ha hF
 have hFr := Bu.refl H F0
 unfold lG at hk
 refine sr (Zv hO 0 BZ (fun b1 G hO => ?_))
 refine pA (.int _ _) (pg (sr ?_))
 refine pF CP ?_
 refine Xu Qi hO 0 1 C5 (fun u2 fs2 hs2 => ?_)
 refine pM (.int _ _) (bk hk fun z3 hz3 hk => ?_)
 refine Wl (y' := z3.1) (r := iv z3.2) hO 1 hs2 (fun _ h => h) hFr hS (fun hF1 hS1 ht1 => SP hz3 ht1 hF1 hS1) (fun H1 G hFr hO => ?_)
 refine pA (.int _ _) (pg (sr ?_))
 refine pF Cv ?_
 refine Xu Mv hO 0 1 H9 (fun u4 fs4 hs4 => ?_)
 refine pM (.int _ _) (bk hk fun z5 hz5 hk => ?_)
 refine Wl (y' := z5.1) (r := iv z5.2) hO 1 hs4 (fun _ h => h) hFr hS (fun hF1 hS1 ht1 => dF hz5 ht1 hF1 hS1) (fun H1 G hFr hO => ?_)
 refine pA (.int _ _) (pg (sr ?_))
 refine pF BT ?_
 refine Xu Pf hO 0 1 DZ (fun u6 fs6 hs6 => ?_)
 refine pM (.int _ _) (bk hk fun z7 hz7 hk => ?_)
 refine Wl (y' := z7.1) (r := iv z7.2) hO 1 hs6 (fun _ h => h) hFr hS (fun hF1 hS1 ht1 => dG hz7 ht1 hF1 hS1) (fun H1 G hFr hO => ?_)
 refine pA (.int _ _) (pg (sr ?_))
 refine pM (.int _ _) ?_
 refine pA (.int _ _) (pg (Au ?_))
 replace hk := av hk; subst hk; exact Qg hO 1 hFr hF
def mJ (aA0 : Aq) (aK1 : Int) : Option (Aq × Int) :=
 ((lG aA0.Frame aK1).bind fun z3 => some ({ aA0 with Frame := z3.1 }, z3.2))
theorem cO (hk : mJ aA0 aK1 = some r) (ha : CR H aA0 v0 F0) (hF : ∀ b ∈ F0, b < H.length) (hS : ∀ b ∈ F0, AX lk b = true) (hlk : 0 < lk.length := by simp) : ∃ v H1, Am ai hh 28 [.agg v0, iv aK1] H lk = some (v, H1) ∧ v = iv r.2 ∧ CR H1 r.1 v0 F0 ∧ H1.length = H.length ∧ ∀ b, b ∉ F0 → H1[b]? = H[b]? := by
 refine B0 Tryz.func28 rfl Tryz.ntmps28 Tryz.results28 rfl rfl ?_
 have hO := Dx ha hF
 have hFr := Bu.refl H F0
 unfold mJ at hk
 refine sr (Zv hO 0 EF (fun b1 G hO => ?_))
 refine pA (.int _ _) (pg (sr ?_))
 refine pF TN ?_
 refine qX KY hO 0 1 DT BZ (fun u2 fs2 hs2 => ?_)
 refine pM (.int _ _) (bk hk fun z3 hz3 hk => ?_)
 refine Wl (y' := z3.1) (r := iv z3.2) hO 1 hs2 (fun _ h => h) hFr hS (fun hF1 hS1 ht1 => WL hz3 ht1 hF1 hS1) (fun H1 G hFr hO => ?_)
 refine pA (.int _ _) (pg (sr ?_))
 refine pM (.int _ _) ?_
 refine pA (.int _ _) (pg (Au ?_))
 replace hk := av hk; subst hk; exact Qg hO 1 hFr hF
def LW (aA0 : List Bool) : (Int × Int) → Option ((Int × Int) ⊕ Int) := fun s =>
 (bif decide (s.2 < (aA0.length : Int)) then ((AH aA0 s.2).bind fun c3 => (bif !(c3 == ((ja s.1 (3:Int)) == 0)) then ((some (-1:Int)).map Sum.inr) else some (.inl (BE (s.1 + 1), BE (s.2 + 1))))) else ((some s.1).map Sum.inr))
def XS (aA0 : List Bool) (aK1 : Int) : Option Int :=
 (AG (LW aA0) (aK1, (0:Int)))
theorem TZ (hk : XS aA0 aK1 = some r) (hlk : 0 < lk.length := by simp) : Am ai hh 100 [AK l1 0 aA0, iv aK1] H lk = some (iv r, H) := by
 refine AF Tryz.func100 rfl Tryz.ntmps100 Tryz.results100 rfl rfl fun hO => ?_
 unfold XS at hk
 refine sr (pA (.int _ _) (pg (AV (sr ?_))))
 refine pA (.int _ _) (pg (BO ?_))
 refine A9 (F := LW aA0) (fun s S' => ∃ J G, A4 H G [] ∧ S' = ⟨CM [(0, AK l1 0 aA0),(1, iv s.1),(5, iv s.2)] J, G⟩) hk ⟨_, _, hO, sh⟩ ?_
 rintro ⟨x1, x2⟩ _ y1 ⟨J, G, hO, rfl⟩ hk hx1
 refine AV (sr (pM (.int _ _) ?_))
 refine pM (.lit _ _ _) ?_
 refine Ae Hj ?_
 refine AO (pg (Ak hk ?_ ?_)) <;> intro hk
 ·refine Ao (gn (AV (BO (AV (sr (pM (.lit _ _ _) ?_))))))
  refine pM (.int _ _) (bk hk fun c3 hc3 hk => ?_)
  refine pX hc3 Cd Eu ?_
  refine Bq (.bool _) (Cu (lm := 0) (off := 0) hc3 Fu) ?_
  refine pM (.int _ _) ?_
  refine AO ?_
  refine AO ?_
  refine Zu Tryz.underlying4 (pg (Ak hk ?_ ?_)) <;> intro hk
  ·refine sr (pA (.int _ _) (pg (Au (gr (br (gr (gr (br (gr (have hk := lx hx1 hk; ?_))))))))))
   cases hk; exact AQ hO
  refine Ao (gn (Bs (pM (.int _ _) ?_)))
  refine AO ?_
  refine pA (.int _ _) (pE (bn (gn (Bs ?_))))
  refine pM (.int _ _) ?_
  refine AO ?_
  refine pA (.int _ _) (pg ?_)
  cases hk; exact ⟨_, rfl, _, _, hO, sh⟩
 refine D5 (ge (ge (be (gn (have hk := lx hx1 hk; sr (pM (.int _ _) ?_))))))
 refine pA (.int _ _) (pg (Au ?_))
 cases hk; exact AQ hO
def LX (aA0 : List AZ) : (Int × Int) → Option ((Int × Int) ⊕ Int) := fun s =>
 (bif decide (s.2 < (aA0.length : Int)) then ((AH aA0 s.2).bind fun c3 => (bif (c3.Want != s.1) then ((some (-1:Int)).map Sum.inr) else ((AH aA0 s.2).bind fun c4 => (bif (c4.AJ != (BE (s.1 + 1))) then ((some (-1:Int)).map Sum.inr) else some (.inl (BE ((BE (s.1 + 1)) + 1), BE (s.2 + 1))))))) else ((some s.1).map Sum.inr))
def Ye (aA0 : List AZ) (aK1 : Int) : Option Int :=
 (AG (LX aA0) (aK1, (0:Int)))
theorem Yf (hk : Ye aA0 aK1 = some r) (hlk : 0 < lk.length := by simp) : Am ai hh 101 [AK l1 0 aA0, iv aK1] H lk = some (iv r, H) := by
 refine AF Tryz.func101 rfl Tryz.ntmps101 Tryz.results101 rfl rfl fun hO => ?_
 unfold Ye at hk
 refine sr (pA (.int _ _) (pg (AV (sr ?_))))
 refine pA (.int _ _) (pg (BO ?_))
 refine A9 (F := LX aA0) (fun s S' => ∃ J G, A4 H G [] ∧ S' = ⟨CM [(0, AK l1 0 aA0),(1, iv s.1),(5, iv s.2)] J, G⟩) hk ⟨_, _, hO, sh⟩ ?_
 rintro ⟨x1, x2⟩ _ y1 ⟨J, G, hO, rfl⟩ hk hx1
 refine AV (sr (pM (.int _ _) ?_))
 refine pM (.lit _ _ _) ?_
 refine Ae O3 ?_
 refine AO (pg (Ak hk ?_ ?_)) <;> intro hk
 ·refine Ao (gn (AV (BO (AV (sr (pM (.lit _ _ _) ?_))))))
  refine pM (.int _ _) (bk hk fun c3 hc3 hk => ?_)
  refine pX hc3 Gm Dq ?_
  refine pF GA ?_
  refine Bq (.int _ _) (Cu (lm := 0) (off := 0) hc3 B3) ?_
  refine pM (.int _ _) ?_
  refine AO (pg (Ak hk ?_ ?_)) <;> intro hk
  ·refine sr (pA (.int _ _) (pg (Au (gr (br (gr (gr (br (gr (have hk := lx hx1 hk; ?_))))))))))
   cases hk; exact AQ hO
  refine Ao (gn (sr (pM (.int _ _) ?_)))
  refine AO ?_
  refine pA (.int _ _) (pg (AV (sr ?_)))
  refine pM (.lit _ _ _) ?_
  refine pM (.int _ _) (bk hk fun c4 hc4 hk => ?_)
  refine pX hc4 Gm Dq ?_
  refine pF IN ?_
  refine Bq (.int _ _) (Cu (lm := 0) (off := 1) hc4 B3) ?_
  refine pM (.int _ _) ?_
  refine AO (pg (Ak hk ?_ ?_)) <;> intro hk
  ·refine sr (pA (.int _ _) (pg (Au (gr (br (gr (gr (br (gr (have hk := lx hx1 hk; ?_))))))))))
   cases hk; exact AQ hO
  refine Ao (gn (Bs (pM (.int _ _) ?_)))
  refine AO ?_
  refine pA (.int _ _) (pE (bn (gn (Bs ?_))))
  refine pM (.int _ _) ?_
  refine AO ?_
  refine pA (.int _ _) (pg ?_)
  cases hk; exact ⟨_, rfl, _, _, hO, sh⟩
 refine D5 (ge (ge (be (gn (have hk := lx hx1 hk; sr (pM (.int _ _) ?_))))))
 refine pA (.int _ _) (pg (Au ?_))
 cases hk; exact AQ hO
def LY (aA0 : List AD) : (Int × Int) → Option ((Int × Int) ⊕ Int) := fun s =>
 (bif decide (s.2 < (aA0.length : Int)) then ((AH aA0 s.2).bind fun c3 => (bif (c3.State != s.1) then ((some (-1:Int)).map Sum.inr) else ((AH aA0 s.2).bind fun c4 => (bif (c4.Aj != (BE (s.1 + 1))) then ((some (-1:Int)).map Sum.inr) else ((AH aA0 s.2).bind fun c5 => ((XS c5.Ac (BE ((BE (s.1 + 1)) + 1))).bind fun v6 => (bif decide (v6 < 0) then ((some (-1:Int)).map Sum.inr) else ((AH aA0 s.2).bind fun c7 => (bif !(c7.Shown == ((ja v6 (3:Int)) == 0)) then ((some (-1:Int)).map Sum.inr) else ((AH aA0 s.2).bind fun c8 => (bif (c8.Timer != (BE (v6 + 1))) then ((some (-1:Int)).map Sum.inr) else some (.inl (BE ((BE (v6 + 1)) + 1), BE (s.2 + 1)))))))))))))) else ((some s.1).map Sum.inr))
def Yg (aA0 : List AD) (aK1 : Int) : Option Int :=
 (AG (LY aA0) (aK1, (0:Int)))
theorem Yh (hk : Yg aA0 aK1 = some r) (hlk : 0 < lk.length := by simp) : Am ai hh 102 [AK l1 m2 aA0, iv aK1] H lk = some (iv r, H) := by
 refine AF Tryz.func102 rfl Tryz.ntmps102 Tryz.results102 rfl rfl fun hO => ?_
 unfold Yg at hk
 refine sr (pA (.int _ _) (pg (AV (sr ?_))))
 refine pA (.int _ _) (pg (BO ?_))
 refine A9 (F := LY aA0) (fun s S' => ∃ J G, A4 H G [] ∧ S' = ⟨CM [(0, AK l1 m2 aA0),(1, iv s.1),(5, iv s.2)] J, G⟩) hk ⟨_, _, hO, sh⟩ ?_
 rintro ⟨x1, x2⟩ _ y1 ⟨J, G, hO, rfl⟩ hk hx1
 refine AV (sr (pM (.int _ _) ?_))
 refine pM (.lit _ _ _) ?_
 refine Ae Hk ?_
 refine AO (pg (Ak hk ?_ ?_)) <;> intro hk
 ·refine Ao (gn (AV (BO (AV (sr (pM (.lit _ _ _) ?_))))))
  refine pM (.int _ _) (bk hk fun c3 hc3 hk => ?_)
  refine pX hc3 Da Av ?_
  refine pF Az ?_
  refine Bq (.int _ _) (Cu (lm := m2) (off := 0) hc3 B3) ?_
  refine pM (.int _ _) ?_
  refine AO (pg (Ak hk ?_ ?_)) <;> intro hk
  ·refine sr (pA (.int _ _) (pg (Au (gr (br (gr (gr (br (gr (have hk := lx hx1 hk; ?_))))))))))
   cases hk; exact AQ hO
  refine Ao (gn (sr (pM (.int _ _) ?_)))
  refine AO ?_
  refine pA (.int _ _) (pg (AV (sr ?_)))
  refine pM (.lit _ _ _) ?_
  refine pM (.int _ _) (bk hk fun c4 hc4 hk => ?_)
  refine pX hc4 Da Av ?_
  refine pF C7 ?_
  refine Bq (.int _ _) (Cu (lm := m2) (off := 1) hc4 B3) ?_
  refine pM (.int _ _) ?_
  refine AO (pg (Ak hk ?_ ?_)) <;> intro hk
  ·refine sr (pA (.int _ _) (pg (Au (gr (br (gr (gr (br (gr (have hk := lx hx1 hk; ?_))))))))))
   cases hk; exact AQ hO
  refine Ao (gn (sr (pM (.int _ _) ?_)))
  refine AO ?_
  refine pA (.int _ _) (pg (sr ?_))
  refine pM (.lit _ _ _) ?_
  refine pM (.int _ _) (bk hk fun c5 hc5 hk => ?_)
  refine pX hc5 Da Av ?_
  refine pF CC ?_
  refine Bq (.lit _ _ _) (Cu (lm := m2) (off := 2) hc5 C5) ?_
  refine pM (.int _ _) (bk hk fun v6 hv6 hk => ?_)
  refine AM (fun _ => TZ hv6) ?_
  refine pA (.int _ _) (pg (AV (sr ?_)))
  refine pM (.int _ _) ?_
  refine AO (pg (Ak hk ?_ ?_)) <;> intro hk
  ·refine sr (pA (.int _ _) (pg (Au (gr (br (gr (gr (br (gr (have hk := lx hx1 hk; ?_))))))))))
   cases hk; exact AQ hO
  refine Ao (gn (AV (sr (pM (.lit _ _ _) ?_))))
  refine pM (.int _ _) (bk hk fun c7 hc7 hk => ?_)
  refine pX hc7 Da Av ?_
  refine pF DW ?_
  refine Bq (.bool _) (Cu (lm := m2) (off := 3) hc7 Fu) ?_
  refine pM (.int _ _) ?_
  refine AO ?_
  refine AO ?_
  refine Zu Tryz.underlying4 (pg (Ak hk ?_ ?_)) <;> intro hk
  ·refine sr (pA (.int _ _) (pg (Au (gr (br (gr (gr (br (gr (have hk := lx hx1 hk; ?_))))))))))
   cases hk; exact AQ hO
  refine Ao (gn (sr (pM (.int _ _) ?_)))
  refine AO ?_
  refine pA (.int _ _) (pg (AV (sr ?_)))
  refine pM (.lit _ _ _) ?_
  refine pM (.int _ _) (bk hk fun c8 hc8 hk => ?_)
  refine pX hc8 Da Av ?_
  refine pF Ce ?_
  refine Bq (.int _ _) (Cu (lm := m2) (off := 4) hc8 B3) ?_
  refine pM (.int _ _) ?_
  refine AO (pg (Ak hk ?_ ?_)) <;> intro hk
  ·refine sr (pA (.int _ _) (pg (Au (gr (br (gr (gr (br (gr (have hk := lx hx1 hk; ?_))))))))))
   cases hk; exact AQ hO
  refine Ao (gn (Bs (pM (.int _ _) ?_)))
  refine AO ?_
  refine pA (.int _ _) (pE (bn (gn (Bs ?_))))
  refine pM (.int _ _) ?_
  refine AO ?_
  refine pA (.int _ _) (pg ?_)
  cases hk; exact ⟨_, rfl, _, _, hO, sh⟩
 refine D5 (ge (ge (be (gn (have hk := lx hx1 hk; sr (pM (.int _ _) ?_))))))
 refine pA (.int _ _) (pg (Au ?_))
 cases hk; exact AQ hO
def nD (aA0 : Frame) (aK1 : Int) : Option Int :=
 ((XS aA0.B1 aK1).bind fun v2 => (bif decide (v2 < 0) then some (-1:Int) else ((Ye aA0.A1 v2).bind fun v3 => (bif decide (v3 < 0) then some (-1:Int) else ((Yg aA0.A3 v3).bind fun v4 => (bif decide (v4 < 0) then some (-1:Int) else some v4))))))
theorem dQ (hk : nD aA0 aK1 = some r) (hlk : 0 < lk.length := by simp) : Am ai hh 69 [.agg (Ah l1 0 l2 0 l3 m4 aA0), iv aK1] H lk = some (iv r, H) := by
 refine AF Tryz.func69 rfl Tryz.ntmps69 Tryz.results69 rfl rfl fun hO => ?_
 unfold nD at hk
 refine sr (BR (cs := [_, _, _, _]) hO BZ (fun b1 G hO => ?_))
 refine pA (.int _ _) (pg (sr ?_))
 refine Ad CP hO 0 (.lit _ _ _) C5 ?_
 refine pM (.int _ _) (bk hk fun v2 hv2 hk => ?_)
 refine AM (fun _ => TZ hv2) ?_
 refine pA (.int _ _) (pg (AV (sr ?_)))
 refine pM (.int _ _) ?_
 refine AO (pg (Ak hk ?_ ?_)) <;> intro hk
 ·refine sr (pA (.int _ _) (pg (Au (gr ?_))))
  cases hk; exact AQ hO
 refine Ao (gn (sr (Ad Cv hO 0 (.lit _ _ _) H9 ?_)))
 refine pM (.int _ _) (bk hk fun v3 hv3 hk => ?_)
 refine AM (fun _ => Yf hv3) ?_
 refine pA (.int _ _) (pg (AV (sr ?_)))
 refine pM (.int _ _) ?_
 refine AO (pg (Ak hk ?_ ?_)) <;> intro hk
 ·refine sr (pA (.int _ _) (pg (Au (gr ?_))))
  cases hk; exact AQ hO
 refine Ao (gn (sr (Ad BT hO 0 (.lit _ _ _) DZ ?_)))
 refine pM (.int _ _) (bk hk fun v4 hv4 hk => ?_)
 refine AM (fun _ => Yh hv4) ?_
 refine pA (.int _ _) (pg (AV (sr ?_)))
 refine pM (.int _ _) ?_
 refine AO (pg (Ak hk ?_ ?_)) <;> intro hk
 ·refine sr (pA (.int _ _) (pg (Au (gr ?_))))
  cases hk; exact AQ hO
 refine Ao (gn (sr (pM (.int _ _) ?_)))
 refine pA (.int _ _) (pg (Au ?_))
 cases hk; exact AQ hO
def lI (aA0 : Aq) (aK1 : Int) : Option Int :=
 ((nD aA0.Frame aK1).bind fun v2 => (bif decide (v2 < 0) then some (-1:Int) else some v2))
theorem WN (hk : lI aA0 aK1 = some r) (hlk : 0 < lk.length := by simp) : Am ai hh 29 [.agg [iv aA0.Code, .bool aA0.Frame.Ok, AK l1 0 aA0.Frame.B1, AK l2 0 aA0.Frame.A1, AK l3 m4 aA0.Frame.A3], iv aK1] H lk = some (iv r, H) := by
 refine AF Tryz.func29 rfl Tryz.ntmps29 Tryz.results29 rfl rfl fun hO => ?_
 unfold lI at hk
 refine sr (BR (cs := [_, _, _, _, _]) hO EF (fun b1 G hO => ?_))
 refine pA (.int _ _) (pg (sr ?_))
 refine pF TN ?_
 refine D9 hO 0 [_, _, _, _] DT BZ ?_
 refine pM (.int _ _) (bk hk fun v2 hv2 hk => ?_)
 refine AM (fun _ => dQ hv2) ?_
 refine pA (.int _ _) (pg (AV (sr ?_)))
 refine pM (.int _ _) ?_
 refine AO (pg (Ak hk ?_ ?_)) <;> intro hk
 ·refine sr (pA (.int _ _) (pg (Au (gr ?_))))
  cases hk; exact AQ hO
 refine Ao (gn (sr (pM (.int _ _) ?_)))
 refine pA (.int _ _) (pg (Au ?_))
 cases hk; exact AQ hO
def f5 (aAP0 : AT) (aAF1 : Frame) (aAE2 : BH) : Option Bool :=
 ((f6 aAP0 (1048576:Int)).bind fun v4 => (bif decide (v4 < 0) then some true else ((f7 aAF1 v4).bind fun v5 => (bif decide (v5 < 0) then some true else ((f9 aAP0).bind fun v6 => ((gE aAF1).bind fun v8 => ((iP aAE2).bind fun v10 => ((mI v6 v8 v10).bind fun v11 => ((f9 aAP0).bind fun v16 => ((gE aAF1).bind fun v19 => ((iP aAE2).bind fun v22 => ((lH v16 v19 v22).bind fun v23 => ((iR v23 v11).bind fun v28 => (bif !v28 then some false else ((f9 aAP0).bind fun v31 => ((mG v16 v31).bind fun v33 => (bif !v33 then some false else ((gE aAF1).bind fun v36 => ((lF v19 v36).bind fun v38 => (bif !v38 then some false else ((mH v16 (1:Int)).bind fun z41 => ((lG v19 z41.2).bind fun z42 => ((bif decide (z42.2 < 0) then some true else ((iR v23 v11).bind fun v44 => some (!v44))).bind fun t43 => (bif t43 then some false else ((mJ v23 (1:Int)).bind fun z47 => ((lI z47.1 (1:Int)).bind fun v48 => (bif decide (v48 < 0) then some false else (bif (v48 != z47.2) then some false else ((f9 aAP0).bind fun v50 => ((gE aAF1).bind fun v52 => ((iP aAE2).bind fun v54 => ((lH v50 v52 v54).bind fun v55 => ((iR v55 v11).bind fun v60 => (bif !v60 then some false else ((lI z47.1 (1:Int)).bind fun v63 => (bif decide (v63 < 0) then some false else (bif (v63 != z47.2) then some false else some true)))))))))))))))))))))))))))))))))))))
theorem jF (hk : f5 aAP0 aAF1 aAE2 = some r) (hlk : 0 < lk.length := by simp) (hlo : EE lk H.length := by simp [EE]) : Am ai hh 5 [.agg (AY l1 0 l2 m3 l4 m5 aAP0), .agg (Ah l6 0 l7 0 l8 m9 aAF1), .agg [iv aAE2.Op, iv aAE2.Of, iv aAE2.CK]] H lk = some (.bool r, H) := by
 refine AF Tryz.func5 rfl Tryz.ntmps5 Tryz.results5 rfl rfl fun hO => ?_
 unfold f5 at hk
 refine sr (BR (cs := [_, _, _, _, _]) hO UT (fun b1 G hO => ?_))
 refine BR (cs := [_, _, _, _]) hO UU (fun b2 G hO => ?_)
 refine BR (cs := [_, _, _]) hO bC (fun b3 G hO => ?_)
 refine pA (.bool _) (pg (sr ?_))
 refine pA (.int _ _) (pg (sr ?_))
 refine D9 hO 2 [_, _, _, _, _] aN UT ?_
 refine pM (.int _ _) (bk hk fun v4 hv4 hk => ?_)
 refine AM (fun _ => jH hv4) ?_
 refine pA (.int _ _) (pg (AV (sr ?_)))
 refine pM (.int _ _) ?_
 refine AO (pg (Ak hk ?_ ?_)) <;> intro hk
 ·refine sr (pA (.bool _) (pg (Au (gr ?_))))
  cases hk; exact AQ hO
 refine Ao (gn (sr (D9 hO 1 [_, _, _, _] aO UU ?_)))
 refine pM (.int _ _) (bk hk fun v5 hv5 hk => ?_)
 refine AM (fun _ => jO hv5) ?_
 refine pA (.int _ _) (pg (AV (sr ?_)))
 refine pM (.int _ _) ?_
 refine AO (pg (Ak hk ?_ ?_)) <;> intro hk
 ·refine sr (pA (.bool _) (pg (Au (gr ?_))))
  cases hk; exact AQ hO
 refine Ao (gn (AV (HY [1,5,9,3,7,10,12,15,16] [_,_,_,_,_,_,_,_,_] ?_)))
 refine D9 hO 2 [_, _, _, _, _] aN UT ?_
 refine D9 hO 1 [_, _, _, _] aO UU ?_
 refine D9 hO 0 [_, _, _] kL bC (bk hk fun v6 hv6 hk => ?_)
 refine K8 hO (fun _ => Si hv6) (fun u7 F7 G hO => bk hk fun v8 hv8 hk => ?_)
 refine K8 hO (fun _ => O8 hv8) (fun u9 F9 G hO => bk hk fun v10 hv10 hk => ?_)
 refine AM (fun _ => SC hv10) (bk hk fun v11 hv11 hk => ?_)
 obtain ⟨_, hm12⟩ := M9 hO (j := 1) rfl (lk.length + 1) 7
 obtain ⟨_, hm13⟩ := Jy hO (j := 0) rfl (lk.length + 1) 7
 refine Wk (vs := [(.agg u7), (.agg u9), (.agg [_, _, _])]) (caps := []) hO hlo rfl (fun _ hl => cN hv11 (hlo := hl)) (fun u14 F14 G hO => ?_) (h3 := (B9 hm12 (B9 hm13 (B9 rfl EB))))
 refine C9 hO EF MK (fun b15 G hO => Xv hO 0 1 EF rfl (fun G hO => pg (sr ?_)))
 refine D9 hO 6 [_, _, _, _, _] aN UT (bk hk fun v16 hv16 hk => ?_)
 refine K8 hO (fun _ => Si hv16) (fun u17 F17 G hO => C9 hO C0 kK (fun b18 G hO => ?_))
 refine Xv hO 0 1 C0 rfl (fun G hO => pg (sr ?_))
 refine D9 hO 7 [_, _, _, _] aO UU (bk hk fun v19 hv19 hk => ?_)
 refine K8 hO (fun _ => O8 hv19) (fun u20 F20 G hO => C9 hO BZ Qx (fun b21 G hO => ?_))
 refine Xv hO 0 1 BZ rfl (fun G hO => pg (AV ?_))
 refine HY [1,3,5,7,8,11,12] [_,_,_,_,_,_,_] ?_
 refine LF hO 2 3 EP C0 ?_
 refine LF hO 0 1 DT BZ ?_
 refine D9 hO 8 [_, _, _] kL bC (bk hk fun v22 hv22 hk => ?_)
 refine AM (fun _ => SC hv22) (bk hk fun v23 hv23 hk => ?_)
 obtain ⟨_, hm24⟩ := M9 hO (j := 3) rfl (lk.length + 1) 7
 obtain ⟨_, hm25⟩ := Jy hO (j := 1) rfl (lk.length + 1) 7
 refine Wk (vs := [(.agg u17), (.agg u20), (.agg [_, _, _])]) (caps := []) hO hlo rfl (fun _ hl => WM hv23 (hlo := hl)) (fun u26 F26 G hO => ?_) (h3 := (B9 hm24 (B9 hm25 (B9 rfl EB))))
 refine C9 hO EF MK (fun b27 G hO => Xv hO 0 1 EF rfl (fun G hO => pg (AV (sr ?_))))
 refine LF hO 0 1 JY EF ?_
 refine LF hO 6 7 JY EF (bk hk fun v28 hv28 hk => ?_)
 obtain ⟨_, hm29⟩ := Dl hO (j := 1) rfl (lk.length + 1) 7
 obtain ⟨_, hm30⟩ := Dl hO (j := 7) rfl (lk.length + 1) 7
 refine AM (vs := [(.agg u26), (.agg u14)]) (caps := []) (fun _ => SD hv28) ?_ (h3 := (B9 hm29 (B9 hm30 EB)))
 refine pU (pg (Ak hk ?_ ?_)) <;> intro hk
 ·refine sr (pA (.bool _) (pg (Au (gr ?_))))
  cases hk; exact AQ hO
 refine Ao (gn (AV (AV (HY [1,3,5,6,8] [_,_,_,_,_] ?_))))
 refine LF hO 4 5 EP C0 ?_
 refine D9 hO 12 [_, _, _, _, _] aN UT (bk hk fun v31 hv31 hk => ?_)
 refine K8 hO (fun _ => Si hv31) (fun u32 F32 G hO => bk hk fun v33 hv33 hk => ?_)
 obtain ⟨_, hm34⟩ := M9 hO (j := 6) rfl (lk.length + 1) 7
 obtain ⟨_, hm35⟩ := M9 hO (j := 0) rfl (lk.length + 1) 7
 refine AM (vs := [(.agg u17), (.agg u32)]) (caps := []) (fun _ => cL hv33) ?_ (h3 := (B9 hm34 (B9 hm35 EB)))
 refine pU (pg (Ak hk ?_ ?_)) <;> intro hk
 ·refine sr (pA (.bool _) (pg (Au (gr ?_))))
  cases hk; exact AQ hO
 refine Ao (gn (AV (AV (HY [1,3,5,6,8] [_,_,_,_,_] ?_))))
 refine LF hO 3 4 DT BZ ?_
 refine D9 hO 12 [_, _, _, _] aO UU (bk hk fun v36 hv36 hk => ?_)
 refine K8 hO (fun _ => O8 hv36) (fun u37 F37 G hO => bk hk fun v38 hv38 hk => ?_)
 obtain ⟨_, hm39⟩ := Jy hO (j := 5) rfl (lk.length + 1) 7
 obtain ⟨_, hm40⟩ := Jy hO (j := 0) rfl (lk.length + 1) 7
 refine AM (vs := [(.agg u20), (.agg u37)]) (caps := []) (fun _ => WK hv38) ?_ (h3 := (B9 hm39 (B9 hm40 EB)))
 refine pU (pg (Ak hk ?_ ?_)) <;> intro hk
 ·refine sr (pA (.bool _) (pg (Au (gr ?_))))
  cases hk; exact AQ hO
 refine Ao (gn (sr (pA (.int _ _) (pg (sr ?_)))))
 refine LF hO 6 7 EP C0 ?_
 refine pM (.int _ _) (bk hk fun z41 hz41 hk => ?_)
 refine kD (y' := z41.1) (r := iv z41.2) hO 7 (Ue.all hO (j := 7) rfl) hlo (fun hF1 hS1 ht1 => cM hz41 ht1 hF1 hS1) (fun G hO => ?_)
 refine pA (.int _ _) (pg (sr ?_))
 refine LF hO 4 5 DT BZ ?_
 refine pM (.int _ _) (bk hk fun z42 hz42 hk => ?_)
 refine kD (y' := z42.1) (r := iv z42.2) hO 5 (Ue.all hO (j := 5) rfl) hlo (fun hF1 hS1 ht1 => WL hz42 ht1 hF1 hS1) (fun G hO => ?_)
 refine pA (.int _ _) (pg (AV (sr ?_)))
 refine pM (.int _ _) ?_
 refine AO ?_
 refine pM (.bool _) (bk hk fun t43 ht hk => ?_)
 refine AP (l1 := [_, _, _, _, _]) [65, 66, 67, 68, 69] 69 (.bool t43) ?_ ?_
 ·refine bc (b := decide (z42.2 < 0)) ?_ ?_ <;> intro hg
  ·replace hk := ct hg ht
   repeat refine Bg hg ?_
   refine Cm hg (.bool _) ?_
   cases hk; exact pE ek
  replace hk := cf hg ht
  refine AA hg (LF hO 2 3 JY EF (AA hg ?_))
  refine LF hO 8 9 JY EF (AA hg (bk hk fun v44 hv44 hk => ?_))
  obtain ⟨_, hm45⟩ := Dl hO (j := 3) rfl (lk.length + 1) 7
  obtain ⟨_, hm46⟩ := Dl hO (j := 9) rfl (lk.length + 1) 7
  refine AM (vs := [(.agg u26), (.agg u14)]) (caps := []) (fun _ => SD hv44) ?_ (h3 := (B9 hm45 (B9 hm46 EB)))
  refine AA hg (pU ?_)
  refine Cl hg (.bool _) ?_
  cases hk; exact pE ek
 intro J
 refine pg (Ak hk ?_ ?_) <;> intro hk
 ·refine sr (pA (.bool _) (pg (Au (gr ?_))))
  cases hk; exact AQ hO
 refine Ao (gn (sr (pA (.int _ _) (pg (sr ?_)))))
 refine LF hO 2 3 JY EF ?_
 refine pM (.int _ _) (bk hk fun z47 hz47 hk => ?_)
 refine kD (y' := z47.1) (r := iv z47.2) hO 3 (Ue.all hO (j := 3) rfl) hlo (fun hF1 hS1 ht1 => cO hz47 ht1 hF1 hS1) (fun G hO => ?_)
 refine pA (.int _ _) (pg (sr ?_))
 refine pA (.int _ _) (pg (sr ?_))
 refine LF hO 2 3 JY EF ?_
 refine pM (.int _ _) (bk hk fun v48 hv48 hk => ?_)
 obtain ⟨_, hm49⟩ := Dl hO (j := 3) rfl (lk.length + 1) 7
 refine AM (vs := [(.agg u26), (.int _ _)]) (caps := []) (fun _ => WN hv48) ?_ (h3 := (B9 hm49 (B9 rfl EB)))
 refine pA (.int _ _) (pg (AV (sr ?_)))
 refine pM (.int _ _) ?_
 refine AO (pg (Ak hk ?_ ?_)) <;> intro hk
 ·refine sr (pA (.bool _) (pg (Au (gr ?_))))
  cases hk; exact AQ hO
 refine Ao (gn (AV (sr (pM (.int _ _) ?_))))
 refine pM (.int _ _) ?_
 refine AO (pg (Ak hk ?_ ?_)) <;> intro hk
 ·refine sr (pA (.bool _) (pg (Au (gr ?_))))
  cases hk; exact AQ hO
 refine Ao (gn (AV (HY [1,5,9,3,7,10,12,15,16] [_,_,_,_,_,_,_,_,_] ?_)))
 refine D9 hO 14 [_, _, _, _, _] aN UT ?_
 refine D9 hO 13 [_, _, _, _] aO UU ?_
 refine D9 hO 12 [_, _, _] kL bC (bk hk fun v50 hv50 hk => ?_)
 refine K8 hO (fun _ => Si hv50) (fun u51 F51 G hO => bk hk fun v52 hv52 hk => ?_)
 refine K8 hO (fun _ => O8 hv52) (fun u53 F53 G hO => bk hk fun v54 hv54 hk => ?_)
 refine AM (fun _ => SC hv54) (bk hk fun v55 hv55 hk => ?_)
 obtain ⟨_, hm56⟩ := M9 hO (j := 1) rfl (lk.length + 1) 7
 obtain ⟨_, hm57⟩ := Jy hO (j := 0) rfl (lk.length + 1) 7
 refine Wk (vs := [(.agg u51), (.agg u53), (.agg [_, _, _])]) (caps := []) hO hlo rfl (fun _ hl => WM hv55 (hlo := hl)) (fun u58 F58 G hO => ?_) (h3 := (B9 hm56 (B9 hm57 (B9 rfl EB))))
 refine C9 hO EF MK (fun b59 G hO => Xv hO 0 1 EF rfl (fun G hO => pg (AV (sr ?_))))
 refine LF hO 0 1 JY EF ?_
 refine LF hO 12 13 JY EF (bk hk fun v60 hv60 hk => ?_)
 obtain ⟨_, hm61⟩ := Dl hO (j := 1) rfl (lk.length + 1) 7
 obtain ⟨_, hm62⟩ := Dl hO (j := 13) rfl (lk.length + 1) 7
 refine AM (vs := [(.agg u58), (.agg u14)]) (caps := []) (fun _ => SD hv60) ?_ (h3 := (B9 hm61 (B9 hm62 EB)))
 refine pU (pg (Ak hk ?_ ?_)) <;> intro hk
 ·refine sr (pA (.bool _) (pg (Au (gr ?_))))
  cases hk; exact AQ hO
 refine Ao (gn (sr (pA (.int _ _) (pg (sr ?_)))))
 refine LF hO 6 7 JY EF ?_
 refine pM (.int _ _) (bk hk fun v63 hv63 hk => ?_)
 obtain ⟨_, hm64⟩ := Dl hO (j := 7) rfl (lk.length + 1) 7
 refine AM (vs := [(.agg u26), (.int _ _)]) (caps := []) (fun _ => WN hv63) ?_ (h3 := (B9 hm64 (B9 rfl EB)))
 refine pA (.int _ _) (pg (AV (sr ?_)))
 refine pM (.int _ _) ?_
 refine AO (pg (Ak hk ?_ ?_)) <;> intro hk
 ·refine sr (pA (.bool _) (pg (Au (gr ?_))))
  cases hk; exact AQ hO
 refine Ao (gn (AV (sr (pM (.int _ _) ?_))))
 refine pM (.int _ _) ?_
 refine AO (pg (Ak hk ?_ ?_)) <;> intro hk
 ·refine sr (pA (.bool _) (pg (Au (gr ?_))))
  cases hk; exact AQ hO
 refine Ao (gn (sr (pA (.bool _) (pg (Au ?_)))))
 cases hk; exact AQ hO
end
end Go.Proofs.YtphpkphklegfeaaGreat.K
