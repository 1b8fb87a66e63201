/-
 The functions that FnExactPointLock reaches, as typed Lean functions, and that the interpreter computes them. Part 3 of 4. No conditions.
-/
import Derived.Test.YtphpkphklegfeaaGreatDPtb
set_option linter.unusedVariables false
set_option linter.unusedSimpArgs false
set_option maxRecDepth 100000
namespace Go.Proofs.YtphpkphklegfeaaGreat.K
noncomputable section
variable {H : A3} {lk : Lk}
def Qb (aP0 : AP) (aF1 : AD) (x9 : Int) (c10 : AG) : Int → Option (Int ⊕ (Int ⊕ Bool)) := fun s =>
 (bif decide (s < x9) then ((bif (c10.State != (0:Int)) then ((AK aF1.A7 s).bind fun c16 => some (c16.State != (0:Int))) else some false).bind fun t15 => ((bif t15 then ((AK aP0.BV x9).bind fun c18 => ((AK c18 s).bind fun c19 => some c19)) else some false).bind fun t17 => (bif t17 then (((some false).map Sum.inr).map Sum.inr) else some (.inl (BT (s + (1:Int))))))) else ((some (.inl (BT (x9 + (1:Int))))).map Sum.inr))
def Js (aP0 : AP) (aF1 : AD) : Int → Option (Int ⊕ Bool) := fun s =>
 (bif decide (s < (aF1.A7.length : Int)) then ((AK aF1.A7 s).bind fun c10 => ((AK aP0.A7 s).bind fun c12 => ((WZ aP0 c10 c12).bind fun v13 => (bif !v13 then ((some false).map Sum.inr) else (AJ (Qb aP0 aF1 s c10) ((0:Int))))))) else (((dJ aF1).bind fun v20 => ((aY aP0 v20).bind fun z33 => ((T9 aF1 z33).bind fun v35 => some v35))).map Sum.inr))
def Nn (aP0 : AP) (aF1 : AD) : Int → Option (Int ⊕ Bool) := fun s =>
 (bif decide (s < (aF1.AF.length : Int)) then ((AK aF1.AF s).bind fun c4 => ((TF c4.Want (1:Int) (2:Int)).bind fun v6 => ((bif !v6 then some true else ((TF c4.AQ (0:Int) (2:Int)).bind fun v8 => some (!v8))).bind fun t7 => (bif t7 then ((some false).map Sum.inr) else some (.inl (BT (s + (1:Int)))))))) else ((AJ (Js aP0 aF1) ((0:Int))).map Sum.inr))
def k8 (aP0 : AP) (aF1 : AD) : Option Bool :=
 (bif (((!aF1.Ok || ((aF1.C5.length : Int) != aP0.A0)) || ((aF1.AF.length : Int) != (aP0.A6.length : Int))) || ((aF1.A7.length : Int) != (aP0.A7.length : Int))) then some false else (AJ (Nn aP0 aF1) ((0:Int))))
theorem ZT {aP0 : AP} {aF1 : AD} {r : Bool} {l1 l2 m3 l4 m5 l6 l7 l8 m9 : Nat} (hk : k8 aP0 aF1 = some r) (hlk : 0 < lk.length := by simp) (hlo : E9 lk H.length := by simp [E9]) (hvm9 : m9 ≤ lk.length := by simp only [List.length_append, List.length_singleton]; omega) : Am Tryz.prog hh 80 [.agg (Ai l1 0 l2 m3 l4 m5 aP0), .agg (Ah l6 0 l7 0 l8 m9 aF1)] H lk = some (.bool r, H) := by
 refine AI Tryz.func80 rfl Tryz.ntmps80 Tryz.results80 rfl rfl fun hO => ?_
 unfold k8 at hk
 refine A1 (A4 (BZ (cs := [_, _, _, _, _]) hO CC (fun b1 G hO => ?_)))
 refine BZ (cs := [_, _, _, _]) hO Bv (fun b2 G hO => ?_)
 refine pA (.bool _) (pE (gn (A1 (A1 (A4 ?_)))))
 refine As Lt hO 0 (.bool _) Fk ?_
 refine pU ?_
 refine pM (.bool _) ?_
 refine AS (l1 := [_, _, _, _, _, _, _]) [15, 16, 17, 18, 19, 20, 21] 21 (.bool (!aF1.Ok || ((aF1.C5.length : Int) != aP0.A0))) ?_ ?_
 ·refine bc (b := !aF1.Ok) (fun hg => ?_) (fun hg => ?_)
  ·refine AE hg (AE hg (AE hg (AE hg (AE hg (AE hg (Cr hg (.bool _) ?_))))))
   exact pE (ek (by rw [hg]; rfl))
  ·refine AB hg (pF Cm (AB hg ?_))
   refine CN hO 0 (.lit _ _ _) C8 (AB hg ?_)
   refine Af HO (AB hg ?_)
   refine pF EK (AB hg ?_)
   refine CN hO 1 (.int _ _) BU (AB hg ?_)
   refine AW ?_
   refine Cq hg (.bool _) ?_
   exact pE (ek (by rw [hg]; rfl))
 ·intro J
  refine pM (.bool _) ?_
  refine AS (l1 := [_, _, _, _, _, _, _, _]) [23, 24, 25, 26, 27, 28, 29, 30] 30 (.bool ((!aF1.Ok || ((aF1.C5.length : Int) != aP0.A0)) || ((aF1.AF.length : Int) != (aP0.A6.length : Int)))) ?_ ?_
  ·refine bc (b := (!aF1.Ok || ((aF1.C5.length : Int) != aP0.A0))) (fun hg => ?_) (fun hg => ?_)
   ·refine AE hg (AE hg (AE hg (AE hg (AE hg (AE hg (AE hg (Cr hg (.bool _) ?_)))))))
    exact pE (ek (by rw [hg]; rfl))
   ·refine AB hg (pF Db (AB hg ?_))
    refine CN hO 0 (.lit _ _ _) JD (AB hg ?_)
    refine Af Oo (AB hg ?_)
    refine pF DE (AB hg ?_)
    refine CN hO 1 (.lit _ _ _) BK (AB hg ?_)
    refine Af D5 (AB hg ?_)
    refine AW ?_
    refine Cq hg (.bool _) ?_
    exact pE (ek (by rw [hg]; rfl))
  ·intro J
   refine pM (.bool _) ?_
   refine AS (l1 := [_, _, _, _, _, _, _, _]) [32, 33, 34, 35, 36, 37, 38, 39] 39 (.bool (((!aF1.Ok || ((aF1.C5.length : Int) != aP0.A0)) || ((aF1.AF.length : Int) != (aP0.A6.length : Int))) || ((aF1.A7.length : Int) != (aP0.A7.length : Int)))) ?_ ?_
   ·refine bc (b := ((!aF1.Ok || ((aF1.C5.length : Int) != aP0.A0)) || ((aF1.AF.length : Int) != (aP0.A6.length : Int)))) (fun hg => ?_) (fun hg => ?_)
    ·refine AE hg (AE hg (AE hg (AE hg (AE hg (AE hg (AE hg (Cr hg (.bool _) ?_)))))))
     exact pE (ek (by rw [hg]; rfl))
    ·refine AB hg (pF Bd (AB hg ?_))
     refine CN hO 0 (.lit _ _ _) Dv (AB hg ?_)
     refine Af IJ (AB hg ?_)
     refine pF Bl (AB hg ?_)
     refine CN hO 1 (.lit _ _ _) Du (AB hg ?_)
     refine Af IZ (AB hg ?_)
     refine AW ?_
     refine Cq hg (.bool _) ?_
     exact pE (ek (by rw [hg]; rfl))
   ·intro J
    refine pE (gn (Aq hk (fun hk => ?_) (fun hk => ?_)))
    ·refine A1 (A4 (pA (.bool _) (pE (gn (Aw (gr ?_))))))
     cases hk; exact AT hO
    ·refine Ar (gn (A1 (A1 (A4 (As Db hO 0 (.lit _ _ _) JD ?_)))))
     refine Af Oo ?_
     refine pM (.int _ _) (pE (gn (BO ?_)))
     refine AA (F := Nn aP0 aF1) (fun s S' => ∃ (J : Nat → V) (G : A3), A5 H G [.Ad b2 (.cells 4 (Ah l6 0 l7 0 l8 m9 aF1)), .Ad b1 (.cells 5 (Ai l1 0 l2 m3 l4 m5 aP0))] ∧ S' = ⟨CM [(2, .ptr b1 0), (3, .ptr b2 0), (41, AN l7 0 aF1.AF), (42, iv (aF1.AF.length : Int)), (43, iv s)] J, G⟩) hk ⟨_, _, hO, sh⟩ ?_
     rintro x3 _ y1 ⟨J, G, hO, rfl⟩ hk hx1
     refine A1 (A4 (AW (pE (gn (A1 (Aq hk (fun hk => ?_) (fun hk => ?_)))))))
     ·refine Ar (gn (A1 (BO (A1 (A4 (bk hk fun c4 hc4 hk => pX hc4 IY EA ?_))))))
      refine Br (.agg [_, _]) (G8 (lm := 0) (off := 0) hc4 RN EA) (CK hO EA SV (fun b5 G hO => ?_))
      refine Cs (xs := [_, _]) hO 0 EA rfl (fun G hO => pE (gn (A1 (A4 ?_))))
      refine As II hO 0 (.int _ _) BU (bk hk fun v6 hv6 hk => ?_)
      refine AR (fun _ => Ee hv6) ?_
      refine pU ?_
      refine pM (.bool _) (bk hk fun t7 ht hk => ?_)
      refine AS (l1 := [_, _, _, _, _]) [52, 53, 54, 55, 56] 56 (.bool t7) ?_ ?_
      ·refine bc (b := !v6) (fun hg => ?_) (fun hg => ?_)
       ·replace hk := ct hg ht
        refine AE hg (AE hg (AE hg (AE hg (Cr hg (.bool _) ?_))))
        cases hk; exact pE ek
       ·replace hk := cf hg ht
        refine AB hg (pF K7 (AB hg ?_))
        refine CN hO 0 (.int _ _) BU (AB hg (bk hk fun v8 hv8 hk => ?_))
        refine AR (fun _ => Ee hv8) (AB hg ?_)
        refine pU ?_
        refine Cq hg (.bool _) ?_
        cases hk; exact pE ek
      ·intro J
       refine pE (gn (Aq hk (fun hk => ?_) (fun hk => ?_)))
       ·refine A1 (A4 (pA (.bool _) (pE (gn (Aw (br (gr (gr (br (gr (have hk := lx hx1 hk; ?_)))))))))))
        cases hk; exact AT hO
       ·refine Ar (bn (gn (A4 (AW ?_))))
        refine pM (.int _ _) (pE (gn ?_))
        cases hk; exact ⟨_, rfl, _, _, (pk hO [1, 2]), sh⟩
     ·refine D3 (ge (ge (be (gn (have hk := lx hx1 hk; A1 (A1 (A4 (As Bd hO 0 (.lit _ _ _) Dv ?_))))))))
      refine Af IJ ?_
      refine pM (.int _ _) (pE (gn (BO ?_)))
      refine AA (F := Js aP0 aF1) (fun s S' => ∃ (J : Nat → V) (G : A3), A5 H G [.Ad b2 (.cells 4 (Ah l6 0 l7 0 l8 m9 aF1)), .Ad b1 (.cells 5 (Ai l1 0 l2 m3 l4 m5 aP0))] ∧ S' = ⟨CM [(2, .ptr b1 0), (3, .ptr b2 0), (59, AN l8 m9 aF1.A7), (60, iv (aF1.A7.length : Int)), (61, iv s)] J, G⟩) hk ⟨_, _, hO, sh⟩ ?_
      rintro x9 _ y1 ⟨J, G, hO, rfl⟩ hk hx1
      refine A1 (A4 (AW (pE (gn (A1 (Aq hk (fun hk => ?_) (fun hk => ?_)))))))
      ·refine Ar (gn (A1 (BO (A1 (A4 (pM (.int _ _) (bk hk fun c10 hc10 hk => ?_)))))))
       refine pX hc10 EJ Av ?_
       refine Br (.agg [_, _, _, _, _]) (G8 (lm := m9) (off := 0) hc10 G0 Av) (CK hO Av FN (fun b11 G hO => ?_))
       refine pA (.int _ _) ?_
       refine Cs (xs := [_, _, _, _, _]) hO 0 Av rfl (fun G hO => pE (gn (A1 (A1 ?_))))
       refine BC [(0, true), (1, true), (2, true), (3, true), (4, true), (5, true), (6, true), (7, false), (8, false)] [_, _, _, _, _, _, _, _, _] (by decide +kernel) (by rfl) ?_
       refine E4 hO 2 [_, _, _, _, _] FB CC ?_
       refine E4 hO 0 [_, _, _, _, _] G0 Av ?_
       refine As Bl hO 2 (.lit _ _ _) Du ?_
       refine pM (.int _ _) (bk hk fun c12 hc12 hk => ?_)
       refine pX hc12 Er Az ?_
       refine Br (.agg [_, _, _, _, _]) (G8 (lm := m3) (off := 0) hc12 Ew Az) (bk hk fun v13 hv13 hk => ?_)
       refine AR (fun _ => Wa hv13) ?_
       refine pU (pE (gn (Aq hk (fun hk => ?_) (fun hk => ?_))))
       ·refine A1 (A4 (pA (.bool _) (pE (gn (Aw (gr (br (gr (gr (br (gr (have hk := lx hx1 hk; ?_))))))))))))
        cases hk; exact AT hO
       ·refine Ar (gn (A1 (A4 (pM (.int _ _) ?_))))
        refine pM (.int _ _) (pE (gn (BO ?_)))
        refine AA (F := Qb aP0 aF1 x9 c10) (fun s S' => ∃ (J : Nat → V) (G : A3), A5 H G [.Ad b11 (.cells 5 [iv c10.State, iv c10.Ab, AN m9 0 c10.Aa, .bool c10.Shown, iv c10.Timer]), .Ad b2 (.cells 4 (Ah l6 0 l7 0 l8 m9 aF1)), .Ad b1 (.cells 5 (Ai l1 0 l2 m3 l4 m5 aP0))] ∧ S' = ⟨CM [(2, .ptr b1 0), (3, .ptr b2 0), (7, iv x9), (8, .ptr b11 0), (59, AN l8 m9 aF1.A7), (60, iv (aF1.A7.length : Int)), (61, iv x9), (75, iv x9), (76, iv s)] J, G⟩) hk ⟨_, _, hO, sh⟩ ?_
        rintro x14 _ y2 ⟨J, G, hO, rfl⟩ hk hx2
        refine A1 (A4 (AW (pE (gn (A1 (Aq hk (fun hk => ?_) (fun hk => ?_)))))))
        ·refine Ar (gn (A1 (BO (A1 (A4 (pM (.int _ _) ?_))))))
         refine pA (.int _ _) (pE (gn (A1 (A4 ?_))))
         refine As B8 hO 0 (.int _ _) BU ?_
         refine AW ?_
         refine pM (.bool _) (bk hk fun t15 ht hk => ?_)
         refine AS (l1 := [_, _, _, _, _, _, _, _]) [83, 84, 85, 86, 87, 88, 89, 90] 90 (.bool t15) ?_ ?_
         ·refine bc (b := (c10.State != (0:Int))) (fun hg => ?_) (fun hg => ?_)
          ·replace hk := ct hg ht
           refine AB hg (pF Bd (AB hg ?_))
           refine CN hO 1 (.lit _ _ _) Dv (AB hg ?_)
           refine pM (.int _ _) (AB hg (bk hk fun c16 hc16 hk => ?_))
           refine pX hc16 EJ Av (AB hg ?_)
           refine pF B8 (AB hg ?_)
           refine Br (.int _ _) (D4 (lm := m9) (off := 0) hc16 BU) (AB hg ?_)
           refine AW ?_
           refine Cr hg (.bool _) ?_
           cases hk; exact pE ek
          ·replace hk := cf hg ht
           refine AE hg (AE hg (AE hg (AE hg (AE hg (AE hg (AE hg (Cq hg (.bool _) ?_)))))))
           cases hk; exact pE ek
         ·intro J
          refine pM (.bool _) (bk hk fun t17 ht hk => ?_)
          refine AS (l1 := [_, _, _, _, _, _, _, _, _]) [92, 93, 94, 95, 96, 97, 98, 99, 100] 100 (.bool t17) ?_ ?_
          ·refine bc (b := t15) (fun hg => ?_) (fun hg => ?_)
           ·replace hk := ct hg ht
            refine AB hg (pF EL (AB hg ?_))
            refine CN hO 2 (.lit _ _ _) IW (AB hg ?_)
            refine pM (.int _ _) (AB hg (bk hk fun c18 hc18 hk => ?_))
            refine pX hc18 IX GB (AB hg ?_)
            refine Br (.lit _ _ _) (D4 (lm := m5) (off := 0) hc18 C8) (AB hg ?_)
            refine pM (.int _ _) (AB hg (bk hk fun c19 hc19 hk => ?_))
            refine pX hc19 Cl FO (AB hg ?_)
            refine Br (.bool _) (D4 (lm := 0) (off := 0) hc19 Fk) ?_
            refine Cr hg (.bool _) ?_
            cases hk; exact pE ek
           ·replace hk := cf hg ht
            refine AE hg (AE hg (AE hg (AE hg (AE hg (AE hg (AE hg (AE hg (Cq hg (.bool _) ?_))))))))
            cases hk; exact pE ek
          ·intro J
           refine pE (gn (Aq hk (fun hk => ?_) (fun hk => ?_)))
           ·refine A1 (A4 (pA (.bool _) (pE (gn (Aw (br (gr (gr (br (br (gr (gr (br (gr (have hk := lx hx2 hk; have hk := lx hx1 hk; ?_)))))))))))))))
            cases hk; exact AT hO
           ·refine Ar (bn (gn (A4 (AW ?_))))
            refine pM (.int _ _) (pE (gn ?_))
            cases hk; exact ⟨_, rfl, _, _, hO, sh⟩
        ·refine D3 (ge (ge (be (bn (gn (have hk := lx hx2 hk; A4 (AW ?_)))))))
         refine pM (.int _ _) (pE (gn ?_))
         cases hk; exact ⟨_, rfl, _, _, (pk hO [1, 2]), sh⟩
      ·refine D3 (ge (ge (be (gn (have hk := lx hx1 hk; A1 (A4 (E4 hO 0 [_, _, _, _] Ep Bv (bk hk fun v20 hv20 hk => ?_))))))))
       refine Lj hO (fun _ => Zc (m4 := m9) hv20) (fun u21 F21 G hO => ?_)
       replace hO : A5 H G (AY [] _ ((v20.Ok, v20.C5, v20.AF, v20.A7) : Bool × (List Bool) × (List Al) × (List AG)) _ :: [.Ad b2 (.cells 4 (Ah l6 0 l7 0 l8 m9 aF1)), .Ad b1 (.cells 5 (Ai l1 0 l2 m3 l4 m5 aP0))]) := hO
       obtain ⟨cs22, Fb22, he, hP⟩ := A5.Y3 hO
       clear hO; subst he; have hO := hP; clear hP
       obtain ⟨u23, cs23, F23, Fb23, he, hP⟩ := A5.RJ hO
       clear hO; subst he; have hO := hP; clear hP
       obtain ⟨u25, cs25, F25, Fb25, he, hP⟩ := A5.RJ hO
       clear hO; subst he; have hO := hP; clear hP
       obtain ⟨u27, rfl⟩ := A5.bA hO
       refine CK hO Bv RM (fun b29 G hO => ?_)
       have hc30 := B6 hO (j := 3) rfl
       have hc31 := B6 hO (j := 2) rfl
       have hc32 := B6 hO (j := 1) rfl
       refine Cs (xs := [_, _, _, _]) hO 0 Bv rfl (fun G hO => ?_) (h6 := (Bj rfl (Bj hc30.2 (Bj hc31.2 (Bj hc32.2 IM)))))
       refine pE (gn (A1 (A4 (E4 hO 5 [_, _, _, _, _] FB CC ?_))))
       replace hO := (A5.pick hO [0, 3, 2, 1, 4, 5] (by decide) rfl : A5 H G ([.Ad b29 (.cells 4 [.bool v20.Ok, u23, u25, u27]), AY [] F23 v20.C5 [u23], AY [] F25 v20.AF [u25], AY [] Fb25 v20.A7 [u27]] ++ [.Ad b2 (.cells 4 (Ah l6 0 l7 0 l8 m9 aF1)), .Ad b1 (.cells 5 (Ai l1 0 l2 m3 l4 m5 aP0))]))
       refine bk hk fun z33 hz33 hk => iR (rs0 := [.Ad b29 (.cells 4 [.bool v20.Ok, u23, u25, u27]), AY [] F23 v20.C5 [u23], AY [] F25 v20.AF [u25], AY [] Fb25 v20.A7 [u27]]) (rs1 := fun (Fs34 : List Nat × List Nat × List Nat) => [.Ad b29 (.cells 4 [.bool z33.Ok, u23, u25, u27]), AY [] Fs34.1 z33.C5 [u23], AY [] Fs34.2.1 z33.AF [u25], AY [] Fs34.2.2 z33.A7 [u27]]) (rest := [.Ad b2 (.cells 4 (Ah l6 0 l7 0 l8 m9 aF1)), .Ad b1 (.cells 5 (Ai l1 0 l2 m3 l4 m5 aP0))]) (S := (b29 :: (F23 ++ (F25 ++ (Fb25 ++ []))))) hO hlo rfl (R4 rfl) (Ms rfl) (A5.lo hO) (fun _ hl1 hlt1 hun1 ho1 => Ze hz33 ho1 hun1 hlt1 hl1) (fun _ => (RQ rfl (RQ rfl (RQ rfl (RQ rfl fE))))) (fun Fs34 G hO => pE (gn (A1 (A4 ?_))))
       refine E4 hO 4 [_, _, _, _] Ep Bv ?_
       refine E4 hO 0 [_, _, _, _] Ep Bv (bk hk fun v35 hv35 hk => ?_)
       obtain ⟨_, hm36⟩ := S7 hO (j := 3) rfl (lk.length + 1) 7
       obtain ⟨_, hm37⟩ := Fb hO (j := 2) rfl (lk.length + 1) 7
       obtain ⟨_, hm38⟩ := Fb hO (j := 1) rfl (lk.length + 1) 7
       refine AR (vs := [(.agg [_, _, _, _]), (.agg [_, _, _, _])]) (caps := []) (fun _ => Wb hv35) ?_ (h3 := (BH rfl (BH (Qt (DS rfl (DS hm38 (DS hm37 (DS hm36 Qw))))) EF)))
       refine pA (.bool _) (pE (gn (Aw ?_)))
       cases hk; exact AT hO
def gM (aP0 : AP) (aF1 : AD) : Option Bool :=
 ((hQ aP0).bind fun v3 => ((bif v3 then ((k8 aP0 aF1).bind fun v5 => some v5) else some false).bind fun t4 => some t4))
theorem Z5 {aP0 : AP} {aF1 : AD} {r : Bool} {l1 l2 m3 l4 m5 l6 l7 l8 m9 : Nat} (hk : gM aP0 aF1 = some r) (hlk : 0 < lk.length := by simp) (hlo : E9 lk H.length := by simp [E9]) (hvm9 : m9 ≤ lk.length := by simp only [List.length_append, List.length_singleton]; omega) : Am Tryz.prog hh 45 [.agg (Ai l1 0 l2 m3 l4 m5 aP0), .agg (Ah l6 0 l7 0 l8 m9 aF1)] H lk = some (.bool r, H) := by
 refine AI Tryz.func45 rfl Tryz.ntmps45 Tryz.results45 rfl rfl fun hO => ?_
 unfold gM at hk
 refine A1 (A4 (BZ (cs := [_, _, _, _, _]) hO CC (fun b1 G hO => ?_)))
 refine BZ (cs := [_, _, _, _]) hO Bv (fun b2 G hO => ?_)
 refine pA (.bool _) (pE (gn (A1 (A4 ?_))))
 refine E4 hO 1 [_, _, _, _, _] FB CC (bk hk fun v3 hv3 hk => ?_)
 refine AR (fun _ => ZS hv3) ?_
 refine pM (.bool _) (bk hk fun t4 ht hk => ?_)
 refine AS (l1 := [_, _, _, _]) [8, 9, 10, 11] 11 (.bool t4) ?_ ?_
 ·refine bc (b := v3) (fun hg => ?_) (fun hg => ?_)
  ·replace hk := ct hg ht
   refine AB hg (E4 hO 1 [_, _, _, _, _] FB CC (AB hg ?_))
   refine E4 hO 0 [_, _, _, _] Ep Bv (AB hg (bk hk fun v5 hv5 hk => ?_))
   refine RA hO hlo rfl (fun _ hl => ZT (m9 := m9) hv5 (hlo := hl)) ?_
   refine Cr hg (.bool _) ?_
   cases hk; exact pE ek
  ·replace hk := cf hg ht
   refine AE hg (AE hg (AE hg (Cq hg (.bool _) ?_)))
   cases hk; exact pE ek
 ·intro J
  refine pA (.bool _) (pE (gn (Aw ?_)))
  cases hk; exact AT hO
def k9 (aT0 : Ae) (aA1 : Int) : Option Bool :=
 some (aT0.Switch == aA1)
theorem ZU {aT0 : Ae} {aA1 : Int} {r : Bool} {q0 : Nat} (hk : k9 aT0 aA1 = some r) (hq0 : H[q0]? = some (.cells 1 [iv aA1])) (hlk : 0 < lk.length := by simp) : Am Tryz.prog hh 82 [.agg [iv aT0.Switch, iv aT0.FC], .ptr q0 0] H lk = some (.bool r, H) := by
 refine AI Tryz.func82 rfl Tryz.ntmps82 Tryz.results82 rfl rfl fun hO => ?_
 unfold k9 at hk
 refine A1 (A4 (BZ (cs := [_, _]) hO BB (fun b1 G hO => ?_)))
 refine pA (.bool _) (pE (gn (A1 (A4 ?_))))
 refine As CP hO 0 (.int _ _) BU ?_
 refine kI (.int _ _) hO hq0 BU ?_
 refine AW ?_
 refine pA (.bool _) (pE (gn (Aw ?_)))
 cases hk; exact AT hO
def Hv (aS0 : List Ae) (aC1_0 : Int) : Int → Option (Int ⊕ Int) := fun s =>
 (bif decide (s < (aS0.length : Int)) then ((AK aS0 s).bind fun c2 => ((k9 c2 aC1_0).bind fun v3 => (bif v3 then ((some s).map Sum.inr) else some (.inl (BT (s + (1:Int))))))) else ((some (-1:Int)).map Sum.inr))
def KK (aS0 : List Ae) (aC1_0 : Int) : Option Int :=
 (AJ (Hv aS0 aC1_0) ((0:Int)))
theorem Rh {aS0 : List Ae} {aC1_0 : Int} {r : Int} {l1 : Nat} {q0 : Nat} (hk : KK aS0 aC1_0 = some r) (hq0 : H[q0]? = some (.cells 1 [iv aC1_0])) (hlk : 0 < lk.length := by simp) : Am Tryz.prog hh 110 [AN l1 0 aS0, .fn 82 [.ptr q0 0]] H lk = some (iv r, H) := by
 refine AI Tryz.func110 rfl Tryz.ntmps110 Tryz.results110 rfl rfl fun hO => ?_
 unfold KK at hk
 refine A1 (A4 (pA (.int _ _) (pE (gn (A1 (A1 (A4 ?_)))))))
 refine pM (.lit _ _ _) ?_
 refine Af Ex ?_
 refine pM (.int _ _) (pE (gn (BO ?_)))
 refine AA (F := Hv aS0 aC1_0) (fun s S' => ∃ (J : Nat → V) (G : A3), A5 H G [] ∧ S' = ⟨CM [(0, AN l1 0 aS0), (1, .fn 82 [.ptr q0 0]), (7, iv (aS0.length : Int)), (8, iv s)] J, G⟩) hk ⟨_, _, hO, sh⟩ ?_
 rintro x1 _ y1 ⟨J, G, hO, rfl⟩ hk hx1
 refine A1 (A4 (AW (pE (gn (A1 (Aq hk (fun hk => ?_) (fun hk => ?_)))))))
 ·refine Ar (gn (A1 (BO (A1 (A4 (pM (.int _ _) ?_))))))
  refine pA (.int _ _) (pE (gn (A1 (A4 ?_))))
  refine pM (.fn _ _) ?_
  refine pM (.lit _ _ _) ?_
  refine pM (.int _ _) (bk hk fun c2 hc2 hk => ?_)
  refine pX hc2 Df BB ?_
  refine Br (.agg [_, _]) (G8 (lm := 0) (off := 0) hc2 G3 BB) (bk hk fun v3 hv3 hk => ?_)
  refine AR (fun _ => ZU hv3 (H8 hO hq0)) (pE (gn (Aq hk (fun hk => ?_) (fun hk => ?_))))
  ·refine A1 (A4 (pM (.int _ _) ?_))
   refine pA (.int _ _) (pE (gn (Aw (br (gr (gr (br (gr (have hk := lx hx1 hk; ?_)))))))))
   cases hk; exact AT hO
  ·refine Ar (bn (gn (A4 (AW ?_))))
   refine pM (.int _ _) (pE (gn ?_))
   cases hk; exact ⟨_, rfl, _, _, hO, sh⟩
 ·refine D3 (ge (ge (be (gn (have hk := lx hx1 hk; A1 (A4 (pA (.int _ _) (pE (gn (Aw ?_))))))))))
  cases hk; exact AT hO
def No (aS0 : List Ae) (aC1_0 : Int) : Option Bool :=
 ((KK aS0 aC1_0).bind fun v1 => some (decide (v1 ≥ (0:Int))))
theorem TN {aS0 : List Ae} {aC1_0 : Int} {r : Bool} {l1 : Nat} {q0 : Nat} (hk : No aS0 aC1_0 = some r) (hq0 : H[q0]? = some (.cells 1 [iv aC1_0])) (hlk : 0 < lk.length := by simp) : Am Tryz.prog hh 81 [AN l1 0 aS0, .fn 82 [.ptr q0 0]] H lk = some (.bool r, H) := by
 refine AI Tryz.func81 rfl Tryz.ntmps81 Tryz.results81 rfl rfl fun hO => ?_
 unfold No at hk
 refine A1 (A4 (pA (.bool _) (pE (gn (A1 (A4 ?_))))))
 refine pM (.lit _ _ _) ?_
 refine pM (.fn _ _) (bk hk fun v1 hv1 hk => ?_)
 refine AR (fun _ => Rh hv1 (H8 hO hq0)) ?_
 refine AW ?_
 refine pA (.bool _) (pE (gn (Aw ?_)))
 cases hk; exact AT hO
def kA (aT0 : Ae) (aA1 : Int) : Option Bool :=
 some (aT0.Switch == aA1)
theorem ZV {aT0 : Ae} {aA1 : Int} {r : Bool} {q0 : Nat} (hk : kA aT0 aA1 = some r) (hq0 : H[q0]? = some (.cells 1 [iv aA1])) (hlk : 0 < lk.length := by simp) : Am Tryz.prog hh 83 [.agg [iv aT0.Switch, iv aT0.FC], .ptr q0 0] H lk = some (.bool r, H) := by
 refine AI Tryz.func83 rfl Tryz.ntmps83 Tryz.results83 rfl rfl fun hO => ?_
 unfold kA at hk
 refine A1 (A4 (BZ (cs := [_, _]) hO BB (fun b1 G hO => ?_)))
 refine pA (.bool _) (pE (gn (A1 (A4 ?_))))
 refine As CP hO 0 (.int _ _) BU ?_
 refine kI (.int _ _) hO hq0 BU ?_
 refine AW ?_
 refine pA (.bool _) (pE (gn (Aw ?_)))
 cases hk; exact AT hO
def Hw (aS0 : List Ae) (aC1_0 : Int) : Int → Option (Int ⊕ Int) := fun s =>
 (bif decide (s < (aS0.length : Int)) then ((AK aS0 s).bind fun c2 => ((kA c2 aC1_0).bind fun v3 => (bif v3 then ((some s).map Sum.inr) else some (.inl (BT (s + (1:Int))))))) else ((some (-1:Int)).map Sum.inr))
def KL (aS0 : List Ae) (aC1_0 : Int) : Option Int :=
 (AJ (Hw aS0 aC1_0) ((0:Int)))
theorem Ri {aS0 : List Ae} {aC1_0 : Int} {r : Int} {l1 : Nat} {q0 : Nat} (hk : KL aS0 aC1_0 = some r) (hq0 : H[q0]? = some (.cells 1 [iv aC1_0])) (hlk : 0 < lk.length := by simp) : Am Tryz.prog hh 110 [AN l1 0 aS0, .fn 83 [.ptr q0 0]] H lk = some (iv r, H) := by
 refine AI Tryz.func110 rfl Tryz.ntmps110 Tryz.results110 rfl rfl fun hO => ?_
 unfold KL at hk
 refine A1 (A4 (pA (.int _ _) (pE (gn (A1 (A1 (A4 ?_)))))))
 refine pM (.lit _ _ _) ?_
 refine Af Ex ?_
 refine pM (.int _ _) (pE (gn (BO ?_)))
 refine AA (F := Hw aS0 aC1_0) (fun s S' => ∃ (J : Nat → V) (G : A3), A5 H G [] ∧ S' = ⟨CM [(0, AN l1 0 aS0), (1, .fn 83 [.ptr q0 0]), (7, iv (aS0.length : Int)), (8, iv s)] J, G⟩) hk ⟨_, _, hO, sh⟩ ?_
 rintro x1 _ y1 ⟨J, G, hO, rfl⟩ hk hx1
 refine A1 (A4 (AW (pE (gn (A1 (Aq hk (fun hk => ?_) (fun hk => ?_)))))))
 ·refine Ar (gn (A1 (BO (A1 (A4 (pM (.int _ _) ?_))))))
  refine pA (.int _ _) (pE (gn (A1 (A4 ?_))))
  refine pM (.fn _ _) ?_
  refine pM (.lit _ _ _) ?_
  refine pM (.int _ _) (bk hk fun c2 hc2 hk => ?_)
  refine pX hc2 Df BB ?_
  refine Br (.agg [_, _]) (G8 (lm := 0) (off := 0) hc2 G3 BB) (bk hk fun v3 hv3 hk => ?_)
  refine AR (fun _ => ZV hv3 (H8 hO hq0)) (pE (gn (Aq hk (fun hk => ?_) (fun hk => ?_))))
  ·refine A1 (A4 (pM (.int _ _) ?_))
   refine pA (.int _ _) (pE (gn (Aw (br (gr (gr (br (gr (have hk := lx hx1 hk; ?_)))))))))
   cases hk; exact AT hO
  ·refine Ar (bn (gn (A4 (AW ?_))))
   refine pM (.int _ _) (pE (gn ?_))
   cases hk; exact ⟨_, rfl, _, _, hO, sh⟩
 ·refine D3 (ge (ge (be (gn (have hk := lx hx1 hk; A1 (A4 (pA (.int _ _) (pE (gn (Aw ?_))))))))))
  cases hk; exact AT hO
def Np (aS0 : List Ae) (aC1_0 : Int) : Option Bool :=
 ((KL aS0 aC1_0).bind fun v1 => some (decide (v1 ≥ (0:Int))))
theorem TO {aS0 : List Ae} {aC1_0 : Int} {r : Bool} {l1 : Nat} {q0 : Nat} (hk : Np aS0 aC1_0 = some r) (hq0 : H[q0]? = some (.cells 1 [iv aC1_0])) (hlk : 0 < lk.length := by simp) : Am Tryz.prog hh 81 [AN l1 0 aS0, .fn 83 [.ptr q0 0]] H lk = some (.bool r, H) := by
 refine AI Tryz.func81 rfl Tryz.ntmps81 Tryz.results81 rfl rfl fun hO => ?_
 unfold Np at hk
 refine A1 (A4 (pA (.bool _) (pE (gn (A1 (A4 ?_))))))
 refine pM (.lit _ _ _) ?_
 refine pM (.fn _ _) (bk hk fun v1 hv1 hk => ?_)
 refine AR (fun _ => Ri hv1 (H8 hO hq0)) ?_
 refine AW ?_
 refine pA (.bool _) (pE (gn (Aw ?_)))
 cases hk; exact AT hO
def NS (x6 : Int) (x7 : List Int) : Option (((List Int) × Int) ⊕ (List Int)) :=
 some (.inl (x7, BT (x6 + (1:Int))))
def QV (x6 : Int) (x14 : List Int) (x16 : Bool) : Option (((List Int) × Int) ⊕ (List Int)) :=
 (bif x16 then ((DC 8 x14 ([x6] : List Int)).bind fun z17 => (NS x6 z17)) else (NS x6 x14))
def LJ (aP0 : AP) (aF1 : AD) (aPoint2 : Int) : ((List Int) × Int) → Option (((List Int) × Int) ⊕ (List Int)) := fun s =>
 (bif decide (s.2 < (aF1.A7.length : Int)) then ((AK aF1.A7 s.2).bind fun c9 => (bif (c9.State == (0:Int)) then (NS s.2 s.1) else ((AK aP0.A7 s.2).bind fun c11 => ((No c11.AH aPoint2).bind fun v13 => ((Np c11.AQ aPoint2).bind fun v18 => (bif v18 then ((bif v13 then some true else ((AK aP0.A6 aPoint2).bind fun c20 => ((dE c11.A0 c20).bind fun v21 => some (decide (v21 ≥ c9.Ab))))).bind fun t19 => (QV s.2 s.1 t19)) else (QV s.2 s.1 v13))))))) else ((some s.1).map Sum.inr))
def eY (aP0 : AP) (aF1 : AD) (aPoint2 : Int) : Option (List Int) :=
 (AJ (LJ aP0 aF1 aPoint2) (([] : List Int), (0:Int)))
theorem UZ {aP0 : AP} {aF1 : AD} {aPoint2 : Int} {r : (List Int)} {l1 l2 m3 l4 m5 l6 l7 l8 m9 : Nat} (hk : eY aP0 aF1 aPoint2 = some r) (hlk : 0 < lk.length := by simp) : ∃ v H1, Am Tryz.prog hh 47 [.agg (Ai l1 0 l2 m3 l4 m5 aP0), .agg (Ah l6 0 l7 0 l8 m9 aF1), iv aPoint2] H lk = some (v, H1) ∧ FV H r v H1 := by
 refine B0 Tryz.func47 rfl Tryz.ntmps47 Tryz.results47 rfl rfl ?_
 have hO := A5.nil H
 unfold eY at hk
 refine A1 (A4 (BZ (cs := [_, _, _, _, _]) hO CC (fun b1 G hO => ?_)))
 refine BZ (cs := [_, _, _, _]) hO Bv (fun b2 G hO => ?_)
 refine BZ (cs := [_]) hO DP (fun b3 G hO => ?_)
 refine pA (.tl 0 []) (pE (gn (A1 (A4 ?_))))
 refine pA (.tl 0 []) (pE (gn (A1 (A1 (A4 ?_)))))
 refine As Bd hO 1 (.lit _ _ _) Dv ?_
 refine Af IJ ?_
 refine pM (.int _ _) (pE (gn (BO ?_)))
 refine AA (F := LJ aP0 aF1 aPoint2) (fun s S' => ∃ (o4 : V) (J : Nat → V) (G : A3), Nz o4 ∧ A5 H G [.Ad b3 (.cells 1 [iv aPoint2]), .Ad b1 (.cells 5 (Ai l1 0 l2 m3 l4 m5 aP0)), .own o4 lk.length 1 s.1.length (A8 0 s.1)] ∧ S' = ⟨CM [(3, .ptr b1 0), (5, .ptr b3 0), (7, o4), (13, AN l8 m9 aF1.A7), (14, iv (aF1.A7.length : Int)), (15, iv s.2)] J, G⟩) hk ⟨(.tl 0 []), _, _, Nz.nil, (A5.pick (A5.Gt hO lk.length ([] : List Int)) [1, 3, 0] (by decide) rfl), sh⟩ ?_
 rintro ⟨x4, x6⟩ _ y1 ⟨o4, J, G, hno4, hO, rfl⟩ hk hx1
 refine A1 (A4 (AW (pE (gn (A1 (Aq hk (fun hk => ?_) (fun hk => ?_)))))))
 ·refine Ar (gn (CQ (fun S' => ∃ (x7 : List Int) (o7 : V) (J : Nat → V) (G : A3), NS x6 x7 = some y1 ∧ Nz o7 ∧ A5 H G [.Ad b3 (.cells 1 [iv aPoint2]), .Ad b1 (.cells 5 (Ai l1 0 l2 m3 l4 m5 aP0)), .own o7 lk.length 1 x7.length (A8 0 x7)] ∧ S' = ⟨CM [(3, .ptr b1 0), (5, .ptr b3 0), (7, o7), (13, AN l8 m9 aF1.A7), (14, iv (aF1.A7.length : Int)), (15, iv x6)] J, G⟩) ?_ ?_))
  ·refine BO (A1 (A4 (pM (.int _ _) (bk hk fun c9 hc9 hk => ?_))))
   refine pX hc9 EJ Av ?_
   refine Br (.agg [_, _, _, _, _]) (G8 (lm := m9) (off := 0) hc9 G0 Av) (CK hO Av FN (fun b10 G hO => ?_))
   refine pA (.int _ _) ?_
   refine Cs (xs := [_, _, _, _, _]) hO 0 Av rfl (fun G hO => pE (gn (A1 (A1 (A4 ?_)))))
   refine As B8 hO 0 (.int _ _) BU ?_
   refine AW (pE (gn (Aq hk (fun hk => ?_) (fun hk => ?_))))
   ·exact D3 (ge (be (gn (⟨x4, o4, _, _, hk, hno4, (pk hO [1, 2, 3]), sh⟩))))
   ·refine Ar (gn (A1 (A4 (As Bl hO 2 (.lit _ _ _) Du ?_))))
    refine pM (.int _ _) (bk hk fun c11 hc11 hk => ?_)
    refine pX hc11 Er Az ?_
    refine Br (.agg [_, _, _, _, _]) (G8 (lm := m3) (off := 0) hc11 Ew Az) (CK hO Az IU (fun b12 G hO => ?_))
    refine Cs (xs := [_, _, _, _, _]) hO 0 Az rfl (fun G hO => pE (gn (A1 (A4 ?_))))
    refine As EU hO 0 (.lit _ _ _) Da ?_
    refine kH (vs := [_]) (bk hk fun v13 hv13 hk => ?_)
    refine AR (fun _ => TN hv13 (hO.get (k := 2) rfl).1) ?_
    refine pA (.bool _) (pE (gn ?_))
    refine CQ (fun S' => ∃ (x14 : List Int) (x16 : Bool) (o14 : V) (J : Nat → V) (G : A3), QV x6 x14 x16 = some y1 ∧ Nz o14 ∧ A5 H G [.Ad b3 (.cells 1 [iv aPoint2]), .Ad b1 (.cells 5 (Ai l1 0 l2 m3 l4 m5 aP0)), .own o14 lk.length 1 x14.length (A8 0 x14)] ∧ S' = ⟨CM [(3, .ptr b1 0), (5, .ptr b3 0), (7, o14), (8, iv x6), (11, .bool x16), (13, AN l8 m9 aF1.A7), (14, iv (aF1.A7.length : Int)), (15, iv x6)] J, G⟩) ?_ ?_
    ·refine A1 (A4 (As E6 hO 0 (.lit _ _ _) Da ?_))
     refine kH (vs := [_]) (bk hk fun v18 hv18 hk => ?_)
     refine AR (fun _ => TO hv18 (hO.get (k := 2) rfl).1) (pE (gn (Aq hk (fun hk => ?_) (fun hk => ?_))))
     ·refine BC [(0, false), (1, false), (2, true), (3, true), (4, true), (5, true), (6, true), (7, true), (8, true), (10, true), (11, true), (9, true), (12, false), (13, false), (14, false)] [_, _, _, _, _, _, _, _, _, _, _, _, _, _, _] (by decide +kernel) (by rfl) ?_
      refine pM (.bool _) ?_
      refine pM (.bool _) (bk hk fun t19 ht hk => ?_)
      refine AS (l1 := [_, _, _, _, _, _, _, _, _, _, _, _]) [38, 39, 40, 41, 42, 43, 44, 45, 46, 47, 48, 49] 49 (.bool t19) ?_ ?_
      ·refine bc (b := v13) (fun hg => ?_) (fun hg => ?_)
       ·replace hk := ct hg ht
        refine AE hg (AE hg (AE hg (AE hg (AE hg (AE hg (AE hg (AE hg (AE hg (AE hg (AE hg (Cr hg (.bool _) ?_)))))))))))
        cases hk; exact pE ek
       ·replace hk := cf hg ht
        refine AB hg (pF BI (AB hg ?_))
        refine CN hO 0 (.lit _ _ _) BK (AB hg ?_)
        refine pF DE (AB hg ?_)
        refine CN hO 3 (.lit _ _ _) BK (AB hg ?_)
        refine CN hO 2 (.int _ _) BU (AB hg (bk hk fun c20 hc20 hk => ?_))
        refine pX hc20 C4 DP (AB hg ?_)
        refine Br (.int _ _) (D4 (lm := 0) (off := 0) hc20 BU) (AB hg ?_)
        refine pF Bw (AB hg ?_)
        refine CN hO 1 (.int _ _) BU (AB hg (bk hk fun v21 hv21 hk => ?_))
        refine AR (fun _ => Ua hv21) (AB hg ?_)
        refine AW ?_
        refine Cq hg (.bool _) ?_
        cases hk; exact pE ek
      ·intro J
       refine pA (.bool _) (pE (gn ?_))
       exact ⟨x4, t19, o4, _, _, hk, hno4, (pk hO [2, 3, 4]), sh⟩
     ·exact Ar (gn (⟨x4, v13, o4, _, _, hk, hno4, (pk hO [2, 3, 4]), sh⟩))
    ·rintro _ ⟨x14, x16, o14, J, G, hk, hno14, hO, rfl⟩
     refine A1 (A4 (pM (.bool _) (pE (gn (Aq hk (fun hk => ?_) (fun hk => ?_))))))
     ·refine A4 (pM o14 ?_)
      refine pM (.int _ _) ?_
      refine Tv (ps := [(0, (.int _ _))]) ([x6] : List Int) C4 DP MO (DG (DH _ _) (Dg)) (bk hk fun z17 hz17 hk => ?_)
      refine Si (xs := x14) hO 2 hz17 (EB ([x6] : List Int)) C4 DP W8 MO C4 rfl (fun o17 G hno17 hO => ?_)
      replace hno17 := hno17 hno14
      refine pA o17 (pE (bn (gn ?_)))
      exact ⟨z17, o17, _, _, hk, hno17, hO, sh⟩
     ·exact Ar (bn (gn (⟨x14, o14, _, _, hk, hno14, hO, sh⟩)))
  ·rintro _ ⟨x7, o7, J, G, hk, hno7, hO, rfl⟩
   refine A4 (AW ?_)
   refine pM (.int _ _) (pE (gn ?_))
   cases hk; exact ⟨_, rfl, o7, _, _, hno7, hO, sh⟩
 ·refine D3 (ge (ge (be (gn (have hk := lx hx1 hk; A1 (A4 (pM o4 ?_)))))))
  refine pA o4 (pE (gn (Aw ?_)))
  replace hk := Option.some.inj hk; subst hk; exact HF hO (UG (xs := x4) hno4 hlk 2) (JB o4 Dl)
def eV (aP0 : AP) (aF1 : AD) (aPoint2 : Int) : Option (List Int) :=
 ((gM aP0 aF1).bind fun v3 => ((bif !v3 then some true else ((TF aPoint2 (0:Int) (BT ((aP0.A6.length : Int) - (1:Int)))).bind fun v5 => some (!v5))).bind fun t4 => (bif t4 then some ([] : List Int) else ((eY aP0 aF1 aPoint2).bind fun v6 => some v6))))
theorem UW {aP0 : AP} {aF1 : AD} {aPoint2 : Int} {r : (List Int)} {l1 l2 m3 l4 m5 l6 l7 l8 m9 : Nat} (hk : eV aP0 aF1 aPoint2 = some r) (hlk : 0 < lk.length := by simp) (hlo : E9 lk H.length := by simp [E9]) (hvm9 : m9 ≤ lk.length := by simp only [List.length_append, List.length_singleton]; omega) : ∃ v H1, Am Tryz.prog hh 11 [.agg (Ai l1 0 l2 m3 l4 m5 aP0), .agg (Ah l6 0 l7 0 l8 m9 aF1), iv aPoint2] H lk = some (v, H1) ∧ FV H r v H1 := by
 refine B0 Tryz.func11 rfl Tryz.ntmps11 Tryz.results11 rfl rfl ?_
 have hO := A5.nil H
 unfold eV at hk
 refine A1 (A4 (BZ (cs := [_, _, _, _, _]) hO CC (fun b1 G hO => ?_)))
 refine BZ (cs := [_, _, _, _]) hO Bv (fun b2 G hO => ?_)
 refine pA (.tl 0 []) (pE (gn (A1 (A1 (A4 ?_)))))
 refine E4 hO 1 [_, _, _, _, _] FB CC ?_
 refine E4 hO 0 [_, _, _, _] Ep Bv (bk hk fun v3 hv3 hk => ?_)
 refine RA hO hlo rfl (fun _ hl => Z5 (m9 := m9) hv3 (hlo := hl)) ?_
 refine pU ?_
 refine pM (.bool _) (bk hk fun t4 ht hk => ?_)
 refine AS (l1 := [_, _, _, _, _, _, _, _]) [12, 13, 14, 15, 16, 17, 18, 19] 19 (.bool t4) ?_ ?_
 ·refine bc (b := !v3) (fun hg => ?_) (fun hg => ?_)
  ·replace hk := ct hg ht
   refine AE hg (AE hg (AE hg (AE hg (AE hg (AE hg (AE hg (Cr hg (.bool _) ?_)))))))
   cases hk; exact pE ek
  ·replace hk := cf hg ht
   refine AB hg (pM (.int _ _) (AB hg ?_))
   refine pF DE (AB hg ?_)
   refine CN hO 1 (.lit _ _ _) BK (AB hg ?_)
   refine Af D5 (AB hg ?_)
   refine AW (AB hg (bk hk fun v5 hv5 hk => ?_))
   refine AR (fun _ => Ee hv5) (AB hg ?_)
   refine pU ?_
   refine Cq hg (.bool _) ?_
   cases hk; exact pE ek
 ·intro J
  refine pE (gn (Aq hk (fun hk => ?_) (fun hk => ?_)))
  ·refine A1 (A4 (pA (.tl 0 []) (pE (gn (Aw (gr ?_))))))
   replace hk := Option.some.inj hk; subst hk; exact HF hO (eO Int) (JB (.tl 0 []) Dl)
  ·refine Ar (gn (A1 (A4 (E4 hO 1 [_, _, _, _, _] FB CC ?_))))
   refine E4 hO 0 [_, _, _, _] Ep Bv ?_
   refine pM (.int _ _) (bk hk fun v6 hv6 hk => ?_)
   refine Sj hO (fun _ => UZ hv6) (fun u7 F7 G hO => ?_)
   refine pA u7 (pE (gn (Aw ?_)))
   replace hk := Option.some.inj hk; subst hk; exact HF hO (Cv (x := v6) 0) (JB u7 Dl)
def NG (aA0 : List Int) (aB1 : List Int) : Int → Option (Int ⊕ Bool) := fun s =>
 (bif decide (s < (aA0.length : Int)) then ((AK aA0 s).bind fun c2 => ((AK aB1 s).bind fun c3 => (bif (c2 != c3) then ((some false).map Sum.inr) else some (.inl (BT (s + (1:Int))))))) else ((some true).map Sum.inr))
def Wg (aA0 : List Int) (aB1 : List Int) : Option Bool :=
 (bif ((aA0.length : Int) != (aB1.length : Int)) then some false else (AJ (NG aA0 aB1) ((0:Int))))
theorem I0 {aA0 : List Int} {aB1 : List Int} {r : Bool} {l1 l2 : Nat} (hk : Wg aA0 aB1 = some r) (hlk : 0 < lk.length := by simp) : Am Tryz.prog hh 12 [AN l1 0 aA0, AN l2 0 aB1] H lk = some (.bool r, H) := by
 refine AI Tryz.func12 rfl Tryz.ntmps12 Tryz.results12 rfl rfl fun hO => ?_
 unfold Wg at hk
 refine A1 (A4 (pA (.bool _) (pE (gn (A1 (A1 (A4 ?_)))))))
 refine pM (.lit _ _ _) ?_
 refine Af D5 ?_
 refine pM (.lit _ _ _) ?_
 refine Af D5 ?_
 refine AW (pE (gn (Aq hk (fun hk => ?_) (fun hk => ?_))))
 ·refine A1 (A4 (pA (.bool _) (pE (gn (Aw (gr ?_))))))
  cases hk; exact AT hO
 ·refine Ar (gn (A1 (A1 (A4 (pA (.int _ _) (pE (gn (BO ?_))))))))
  refine AA (F := NG aA0 aB1) (fun s S' => ∃ (J : Nat → V) (G : A3), A5 H G [] ∧ S' = ⟨CM [(0, AN l1 0 aA0), (1, AN l2 0 aB1), (5, iv s)] J, G⟩) hk ⟨_, _, hO, sh⟩ ?_
  rintro x1 _ y1 ⟨J, G, hO, rfl⟩ hk hx1
  refine A1 (A1 (A4 (pM (.int _ _) ?_)))
  refine pM (.lit _ _ _) ?_
  refine Af D5 ?_
  refine AW (pE (gn (Aq hk (fun hk => ?_) (fun hk => ?_))))
  ·refine Ar (gn (A1 (BO (A1 (BC [(0, true), (1, true), (2, true), (3, true), (4, true), (5, true), (6, true), (7, true), (8, false)] [_, _, _, _, _, _, _, _, _] (by decide +kernel) (by rfl) ?_)))))
   refine pM (.lit _ _ _) ?_
   refine pM (.int _ _) (bk hk fun c2 hc2 hk => ?_)
   refine pX hc2 C4 DP ?_
   refine Br (.int _ _) (D4 (lm := 0) (off := 0) hc2 BU) ?_
   refine pM (.lit _ _ _) ?_
   refine pM (.int _ _) (bk hk fun c3 hc3 hk => ?_)
   refine pX hc3 C4 DP ?_
   refine Br (.int _ _) (D4 (lm := 0) (off := 0) hc3 BU) ?_
   refine AW (pE (gn (Aq hk (fun hk => ?_) (fun hk => ?_))))
   ·refine A1 (A4 (pA (.bool _) (pE (gn (Aw (br (gr (gr (br (gr (have hk := lx hx1 hk; ?_)))))))))))
    cases hk; exact AT hO
   ·refine Ar (bn (gn (A4 (pM (.int _ _) ?_))))
    refine AW ?_
    refine pA (.int _ _) (pE (gn ?_))
    cases hk; exact ⟨_, rfl, _, _, hO, sh⟩
  ·refine D3 (ge (ge (be (gn (have hk := lx hx1 hk; A1 (A4 (pA (.bool _) (pE (gn (Aw ?_))))))))))
   cases hk; exact AT hO
def Wp (aA0 : Ae) (aB1 : Ae) : Option Bool :=
 (bif (aA0.Switch != aB1.Switch) then some false else (bif (aA0.FC != aB1.FC) then some false else some true))
theorem Wq {aA0 : Ae} {aB1 : Ae} {r : Bool} (hk : Wp aA0 aB1 = some r) (hlk : 0 < lk.length := by simp) : Am Tryz.prog hh 126 [.agg [iv aA0.Switch, iv aA0.FC], .agg [iv aB1.Switch, iv aB1.FC]] H lk = some (.bool r, H) := by
 refine AI Tryz.func126 rfl Tryz.ntmps126 Tryz.results126 rfl rfl fun hO => ?_
 unfold Wp at hk
 refine A1 (A4 (BZ (cs := [_, _]) hO BB (fun b1 G hO => ?_)))
 refine BZ (cs := [_, _]) hO BB (fun b2 G hO => ?_)
 refine pA (.bool _) (pE (gn (A1 (A1 (A4 ?_)))))
 refine As CP hO 1 (.int _ _) BU ?_
 refine As CP hO 0 (.int _ _) BU ?_
 refine AW (pE (gn (Aq hk (fun hk => ?_) (fun hk => ?_))))
 ·refine A1 (A4 (pA (.bool _) (pE (gn (Aw (gr ?_))))))
  cases hk; exact AT hO
 ·refine Ar (gn (A1 (A1 (A4 (As E7 hO 1 (.int _ _) BU ?_)))))
  refine As E7 hO 0 (.int _ _) BU ?_
  refine AW (pE (gn (Aq hk (fun hk => ?_) (fun hk => ?_))))
  ·refine A1 (A4 (pA (.bool _) (pE (gn (Aw (gr ?_))))))
   cases hk; exact AT hO
  ·refine Ar (gn (A1 (A4 (pA (.bool _) (pE (gn (Aw ?_)))))))
   cases hk; exact AT hO
def KM (aA0 : List Ae) (aB1 : List Ae) : Int → Option (Int ⊕ Bool) := fun s =>
 (bif decide (s < (aA0.length : Int)) then ((AK aA0 s).bind fun c2 => ((AK aB1 s).bind fun c3 => ((Wp c2 c3).bind fun v4 => (bif !v4 then ((some false).map Sum.inr) else some (.inl (BT (s + (1:Int)))))))) else ((some true).map Sum.inr))
def VQ (aA0 : List Ae) (aB1 : List Ae) : Option Bool :=
 (bif ((aA0.length : Int) != (aB1.length : Int)) then some false else (AJ (KM aA0 aB1) ((0:Int))))
theorem Rj {aA0 : List Ae} {aB1 : List Ae} {r : Bool} {l1 l2 : Nat} (hk : VQ aA0 aB1 = some r) (hlk : 0 < lk.length := by simp) : Am Tryz.prog hh 111 [AN l1 0 aA0, AN l2 0 aB1] H lk = some (.bool r, H) := by
 refine AI Tryz.func111 rfl Tryz.ntmps111 Tryz.results111 rfl rfl fun hO => ?_
 unfold VQ at hk
 refine A1 (A4 (pA (.bool _) (pE (gn (A1 (A1 (A4 ?_)))))))
 refine pM (.lit _ _ _) ?_
 refine Af Ex ?_
 refine pM (.lit _ _ _) ?_
 refine Af Ex ?_
 refine AW (pE (gn (Aq hk (fun hk => ?_) (fun hk => ?_))))
 ·refine A1 (A4 (pA (.bool _) (pE (gn (Aw (gr ?_))))))
  cases hk; exact AT hO
 ·refine Ar (gn (A1 (A1 (A4 (pA (.int _ _) (pE (gn (BO ?_))))))))
  refine AA (F := KM aA0 aB1) (fun s S' => ∃ (J : Nat → V) (G : A3), A5 H G [] ∧ S' = ⟨CM [(0, AN l1 0 aA0), (1, AN l2 0 aB1), (5, iv s)] J, G⟩) hk ⟨_, _, hO, sh⟩ ?_
  rintro x1 _ y1 ⟨J, G, hO, rfl⟩ hk hx1
  refine A1 (A1 (A4 (pM (.int _ _) ?_)))
  refine pM (.lit _ _ _) ?_
  refine Af Ex ?_
  refine AW (pE (gn (Aq hk (fun hk => ?_) (fun hk => ?_))))
  ·refine Ar (gn (A1 (BO (A1 (BC [(0, true), (1, true), (2, true), (3, true), (4, true), (5, true), (6, true), (7, true), (8, false), (9, false)] [_, _, _, _, _, _, _, _, _, _] (by decide +kernel) (by rfl) ?_)))))
   refine pM (.lit _ _ _) ?_
   refine pM (.int _ _) (bk hk fun c2 hc2 hk => ?_)
   refine pX hc2 Df BB ?_
   refine Br (.agg [_, _]) (G8 (lm := 0) (off := 0) hc2 G3 BB) ?_
   refine pM (.lit _ _ _) ?_
   refine pM (.int _ _) (bk hk fun c3 hc3 hk => ?_)
   refine pX hc3 Df BB ?_
   refine Br (.agg [_, _]) (G8 (lm := 0) (off := 0) hc3 G3 BB) (bk hk fun v4 hv4 hk => ?_)
   refine AR (fun _ => Wq hv4) ?_
   refine pU (pE (gn (Aq hk (fun hk => ?_) (fun hk => ?_))))
   ·refine A1 (A4 (pA (.bool _) (pE (gn (Aw (br (gr (gr (br (gr (have hk := lx hx1 hk; ?_)))))))))))
    cases hk; exact AT hO
   ·refine Ar (bn (gn (A4 (pM (.int _ _) ?_))))
    refine AW ?_
    refine pA (.int _ _) (pE (gn ?_))
    cases hk; exact ⟨_, rfl, _, _, hO, sh⟩
  ·refine D3 (ge (ge (be (gn (have hk := lx hx1 hk; A1 (A4 (pA (.bool _) (pE (gn (Aw ?_))))))))))
   cases hk; exact AT hO
def iA (aA0 : Bq) (aB1 : Bq) : Option Bool :=
 ((Wg aA0.A0 aB1.A0).bind fun v3 => (bif !v3 then some false else ((VQ aA0.AQ aB1.AQ).bind fun v4 => (bif !v4 then some false else ((VQ aA0.AH aB1.AH).bind fun v5 => (bif !v5 then some false else ((Wg aA0.Bt aB1.Bt).bind fun v6 => (bif !v6 then some false else ((Wg aA0.DB aB1.DB).bind fun v7 => (bif !v7 then some false else some true))))))))))
theorem ZW {aA0 : Bq} {aB1 : Bq} {r : Bool} {l1 l2 l3 l4 l5 l6 l7 l8 l9 l10 : Nat} (hk : iA aA0 aB1 = some r) (hlk : 0 < lk.length := by simp) : Am Tryz.prog hh 85 [.agg (Cn l1 0 l2 0 l3 0 l4 0 l5 0 aA0), .agg (Cn l6 0 l7 0 l8 0 l9 0 l10 0 aB1)] H lk = some (.bool r, H) := by
 refine AI Tryz.func85 rfl Tryz.ntmps85 Tryz.results85 rfl rfl fun hO => ?_
 unfold iA at hk
 refine A1 (A4 (BZ (cs := [_, _, _, _, _]) hO Az (fun b1 G hO => ?_)))
 refine BZ (cs := [_, _, _, _, _]) hO Az (fun b2 G hO => ?_)
 refine pA (.bool _) (pE (gn (A1 (A1 (A4 ?_)))))
 refine As BI hO 1 (.lit _ _ _) BK ?_
 refine As BI hO 0 (.lit _ _ _) BK (bk hk fun v3 hv3 hk => ?_)
 refine AR (fun _ => I0 hv3) ?_
 refine pU (pE (gn (Aq hk (fun hk => ?_) (fun hk => ?_))))
 ·refine A1 (A4 (pA (.bool _) (pE (gn (Aw (gr ?_))))))
  cases hk; exact AT hO
 ·refine Ar (gn (A1 (A1 (A4 (As E6 hO 1 (.lit _ _ _) Da ?_)))))
  refine As E6 hO 0 (.lit _ _ _) Da (bk hk fun v4 hv4 hk => ?_)
  refine AR (fun _ => Rj hv4) ?_
  refine pU (pE (gn (Aq hk (fun hk => ?_) (fun hk => ?_))))
  ·refine A1 (A4 (pA (.bool _) (pE (gn (Aw (gr ?_))))))
   cases hk; exact AT hO
  ·refine Ar (gn (A1 (A1 (A4 (As EU hO 1 (.lit _ _ _) Da ?_)))))
   refine As EU hO 0 (.lit _ _ _) Da (bk hk fun v5 hv5 hk => ?_)
   refine AR (fun _ => Rj hv5) ?_
   refine pU (pE (gn (Aq hk (fun hk => ?_) (fun hk => ?_))))
   ·refine A1 (A4 (pA (.bool _) (pE (gn (Aw (gr ?_))))))
    cases hk; exact AT hO
   ·refine Ar (gn (A1 (A1 (A4 (As DU hO 1 (.lit _ _ _) BK ?_)))))
    refine As DU hO 0 (.lit _ _ _) BK (bk hk fun v6 hv6 hk => ?_)
    refine AR (fun _ => I0 hv6) ?_
    refine pU (pE (gn (Aq hk (fun hk => ?_) (fun hk => ?_))))
    ·refine A1 (A4 (pA (.bool _) (pE (gn (Aw (gr ?_))))))
     cases hk; exact AT hO
    ·refine Ar (gn (A1 (A1 (A4 (As JY hO 1 (.lit _ _ _) BK ?_)))))
     refine As JY hO 0 (.lit _ _ _) BK (bk hk fun v7 hv7 hk => ?_)
     refine AR (fun _ => I0 hv7) ?_
     refine pU (pE (gn (Aq hk (fun hk => ?_) (fun hk => ?_))))
     ·refine A1 (A4 (pA (.bool _) (pE (gn (Aw (gr ?_))))))
      cases hk; exact AT hO
     ·refine Ar (gn (A1 (A4 (pA (.bool _) (pE (gn (Aw ?_)))))))
      cases hk; exact AT hO
def NT (aA0 : List Bq) (aB1 : List Bq) : Int → Option (Int ⊕ Bool) := fun s =>
 (bif decide (s < (aA0.length : Int)) then ((AK aA0 s).bind fun c2 => ((AK aB1 s).bind fun c3 => ((iA c2 c3).bind fun v4 => (bif !v4 then ((some false).map Sum.inr) else some (.inl (BT (s + (1:Int)))))))) else ((some true).map Sum.inr))
def gN (aA0 : List Bq) (aB1 : List Bq) : Option Bool :=
 (bif ((aA0.length : Int) != (aB1.length : Int)) then some false else (AJ (NT aA0 aB1) ((0:Int))))
theorem Z6 {aA0 : List Bq} {aB1 : List Bq} {r : Bool} {l1 m2 l3 m4 : Nat} (hk : gN aA0 aB1 = some r) (hlk : 0 < lk.length := by simp) : Am Tryz.prog hh 48 [AN l1 m2 aA0, AN l3 m4 aB1] H lk = some (.bool r, H) := by
 refine AI Tryz.func48 rfl Tryz.ntmps48 Tryz.results48 rfl rfl fun hO => ?_
 unfold gN at hk
 refine A1 (A4 (pA (.bool _) (pE (gn (A1 (A1 (A4 ?_)))))))
 refine pM (.lit _ _ _) ?_
 refine Af IZ ?_
 refine pM (.lit _ _ _) ?_
 refine Af IZ ?_
 refine AW (pE (gn (Aq hk (fun hk => ?_) (fun hk => ?_))))
 ·refine A1 (A4 (pA (.bool _) (pE (gn (Aw (gr ?_))))))
  cases hk; exact AT hO
 ·refine Ar (gn (A1 (A1 (A4 (pA (.int _ _) (pE (gn (BO ?_))))))))
  refine AA (F := NT aA0 aB1) (fun s S' => ∃ (J : Nat → V) (G : A3), A5 H G [] ∧ S' = ⟨CM [(0, AN l1 m2 aA0), (1, AN l3 m4 aB1), (5, iv s)] J, G⟩) hk ⟨_, _, hO, sh⟩ ?_
  rintro x1 _ y1 ⟨J, G, hO, rfl⟩ hk hx1
  refine A1 (A1 (A4 (pM (.int _ _) ?_)))
  refine pM (.lit _ _ _) ?_
  refine Af IZ ?_
  refine AW (pE (gn (Aq hk (fun hk => ?_) (fun hk => ?_))))
  ·refine Ar (gn (A1 (BO (A1 (BC [(0, true), (1, true), (2, true), (3, true), (4, true), (5, true), (6, true), (7, true), (8, false), (9, false)] [_, _, _, _, _, _, _, _, _, _] (by decide +kernel) (by rfl) ?_)))))
   refine pM (.lit _ _ _) ?_
   refine pM (.int _ _) (bk hk fun c2 hc2 hk => ?_)
   refine pX hc2 Er Az ?_
   refine Br (.agg [_, _, _, _, _]) (G8 (lm := m2) (off := 0) hc2 Ew Az) ?_
   refine pM (.lit _ _ _) ?_
   refine pM (.int _ _) (bk hk fun c3 hc3 hk => ?_)
   refine pX hc3 Er Az ?_
   refine Br (.agg [_, _, _, _, _]) (G8 (lm := m4) (off := 0) hc3 Ew Az) (bk hk fun v4 hv4 hk => ?_)
   refine AR (fun _ => ZW hv4) ?_
   refine pU (pE (gn (Aq hk (fun hk => ?_) (fun hk => ?_))))
   ·refine A1 (A4 (pA (.bool _) (pE (gn (Aw (br (gr (gr (br (gr (have hk := lx hx1 hk; ?_)))))))))))
    cases hk; exact AT hO
   ·refine Ar (bn (gn (A4 (pM (.int _ _) ?_))))
    refine AW ?_
    refine pA (.int _ _) (pE (gn ?_))
    cases hk; exact ⟨_, rfl, _, _, hO, sh⟩
  ·refine D3 (ge (ge (be (gn (have hk := lx hx1 hk; A1 (A4 (pA (.bool _) (pE (gn (Aw ?_))))))))))
   cases hk; exact AT hO
def NV (aA0 : List Bool) (aB1 : List Bool) : Int → Option (Int ⊕ Bool) := fun s =>
 (bif decide (s < (aA0.length : Int)) then ((AK aA0 s).bind fun c2 => ((AK aB1 s).bind fun c3 => (bif !(c2 == c3) then ((some false).map Sum.inr) else some (.inl (BT (s + (1:Int))))))) else ((some true).map Sum.inr))
def cR (aA0 : List Bool) (aB1 : List Bool) : Option Bool :=
 (bif ((aA0.length : Int) != (aB1.length : Int)) then some false else (AJ (NV aA0 aB1) ((0:Int))))
theorem QW {aA0 : List Bool} {aB1 : List Bool} {r : Bool} {l1 l2 : Nat} (hk : cR aA0 aB1 = some r) (hlk : 0 < lk.length := by simp) : Am Tryz.prog hh 50 [AN l1 0 aA0, AN l2 0 aB1] H lk = some (.bool r, H) := by
 refine AI Tryz.func50 rfl Tryz.ntmps50 Tryz.results50 rfl rfl fun hO => ?_
 unfold cR at hk
 refine A1 (A4 (pA (.bool _) (pE (gn (A1 (A1 (A4 ?_)))))))
 refine pM (.lit _ _ _) ?_
 refine Af HO ?_
 refine pM (.lit _ _ _) ?_
 refine Af HO ?_
 refine AW (pE (gn (Aq hk (fun hk => ?_) (fun hk => ?_))))
 ·refine A1 (A4 (pA (.bool _) (pE (gn (Aw (gr ?_))))))
  cases hk; exact AT hO
 ·refine Ar (gn (A1 (A1 (A4 (pA (.int _ _) (pE (gn (BO ?_))))))))
  refine AA (F := NV aA0 aB1) (fun s S' => ∃ (J : Nat → V) (G : A3), A5 H G [] ∧ S' = ⟨CM [(0, AN l1 0 aA0), (1, AN l2 0 aB1), (5, iv s)] J, G⟩) hk ⟨_, _, hO, sh⟩ ?_
  rintro x1 _ y1 ⟨J, G, hO, rfl⟩ hk hx1
  refine A1 (A1 (A4 (pM (.int _ _) ?_)))
  refine pM (.lit _ _ _) ?_
  refine Af HO ?_
  refine AW (pE (gn (Aq hk (fun hk => ?_) (fun hk => ?_))))
  ·refine Ar (gn (A1 (BO (A1 (BC [(0, true), (1, true), (2, true), (3, true), (4, true), (5, true), (6, true), (7, true), (8, false)] [_, _, _, _, _, _, _, _, _] (by decide +kernel) (by rfl) ?_)))))
   refine pM (.lit _ _ _) ?_
   refine pM (.int _ _) (bk hk fun c2 hc2 hk => ?_)
   refine pX hc2 Cl FO ?_
   refine Br (.bool _) (D4 (lm := 0) (off := 0) hc2 Fk) ?_
   refine pM (.lit _ _ _) ?_
   refine pM (.int _ _) (bk hk fun c3 hc3 hk => ?_)
   refine pX hc3 Cl FO ?_
   refine Br (.bool _) (D4 (lm := 0) (off := 0) hc3 Fk) ?_
   refine Zu Tryz.underlying4 (pE (gn (Aq hk (fun hk => ?_) (fun hk => ?_))))
   ·refine A1 (A4 (pA (.bool _) (pE (gn (Aw (br (gr (gr (br (gr (have hk := lx hx1 hk; ?_)))))))))))
    cases hk; exact AT hO
   ·refine Ar (bn (gn (A4 (pM (.int _ _) ?_))))
    refine AW ?_
    refine pA (.int _ _) (pE (gn ?_))
    cases hk; exact ⟨_, rfl, _, _, hO, sh⟩
  ·refine D3 (ge (ge (be (gn (have hk := lx hx1 hk; A1 (A4 (pA (.bool _) (pE (gn (Aw ?_))))))))))
   cases hk; exact AT hO
def NU (aA0 : List (List Bool)) (aB1 : List (List Bool)) : Int → Option (Int ⊕ Bool) := fun s =>
 (bif decide (s < (aA0.length : Int)) then ((AK aA0 s).bind fun c2 => ((AK aB1 s).bind fun c3 => ((cR c2 c3).bind fun v4 => (bif !v4 then ((some false).map Sum.inr) else some (.inl (BT (s + (1:Int)))))))) else ((some true).map Sum.inr))
def gO (aA0 : List (List Bool)) (aB1 : List (List Bool)) : Option Bool :=
 (bif ((aA0.length : Int) != (aB1.length : Int)) then some false else (AJ (NU aA0 aB1) ((0:Int))))
theorem Z7 {aA0 : List (List Bool)} {aB1 : List (List Bool)} {r : Bool} {l1 m2 l3 m4 : Nat} (hk : gO aA0 aB1 = some r) (hlk : 0 < lk.length := by simp) : Am Tryz.prog hh 49 [AN l1 m2 aA0, AN l3 m4 aB1] H lk = some (.bool r, H) := by
 refine AI Tryz.func49 rfl Tryz.ntmps49 Tryz.results49 rfl rfl fun hO => ?_
 unfold gO at hk
 refine A1 (A4 (pA (.bool _) (pE (gn (A1 (A1 (A4 ?_)))))))
 refine pM (.lit _ _ _) ?_
 refine Af Lv ?_
 refine pM (.lit _ _ _) ?_
 refine Af Lv ?_
 refine AW (pE (gn (Aq hk (fun hk => ?_) (fun hk => ?_))))
 ·refine A1 (A4 (pA (.bool _) (pE (gn (Aw (gr ?_))))))
  cases hk; exact AT hO
 ·refine Ar (gn (A1 (A1 (A4 (pA (.int _ _) (pE (gn (BO ?_))))))))
  refine AA (F := NU aA0 aB1) (fun s S' => ∃ (J : Nat → V) (G : A3), A5 H G [] ∧ S' = ⟨CM [(0, AN l1 m2 aA0), (1, AN l3 m4 aB1), (5, iv s)] J, G⟩) hk ⟨_, _, hO, sh⟩ ?_
  rintro x1 _ y1 ⟨J, G, hO, rfl⟩ hk hx1
  refine A1 (A1 (A4 (pM (.int _ _) ?_)))
  refine pM (.lit _ _ _) ?_
  refine Af Lv ?_
  refine AW (pE (gn (Aq hk (fun hk => ?_) (fun hk => ?_))))
  ·refine Ar (gn (A1 (BO (A1 (BC [(0, true), (1, true), (2, true), (3, true), (4, true), (5, true), (6, true), (7, true), (8, false), (9, false)] [_, _, _, _, _, _, _, _, _, _] (by decide +kernel) (by rfl) ?_)))))
   refine pM (.lit _ _ _) ?_
   refine pM (.int _ _) (bk hk fun c2 hc2 hk => ?_)
   refine pX hc2 IX GB ?_
   refine Br (.lit _ _ _) (D4 (lm := m2) (off := 0) hc2 C8) ?_
   refine pM (.lit _ _ _) ?_
   refine pM (.int _ _) (bk hk fun c3 hc3 hk => ?_)
   refine pX hc3 IX GB ?_
   refine Br (.lit _ _ _) (D4 (lm := m4) (off := 0) hc3 C8) (bk hk fun v4 hv4 hk => ?_)
   refine AR (fun _ => QW hv4) ?_
   refine pU (pE (gn (Aq hk (fun hk => ?_) (fun hk => ?_))))
   ·refine A1 (A4 (pA (.bool _) (pE (gn (Aw (br (gr (gr (br (gr (have hk := lx hx1 hk; ?_)))))))))))
    cases hk; exact AT hO
   ·refine Ar (bn (gn (A4 (pM (.int _ _) ?_))))
    refine AW ?_
    refine pA (.int _ _) (pE (gn ?_))
    cases hk; exact ⟨_, rfl, _, _, hO, sh⟩
  ·refine D3 (ge (ge (be (gn (have hk := lx hx1 hk; A1 (A4 (pA (.bool _) (pE (gn (Aw ?_))))))))))
   cases hk; exact AT hO
def fZ (aA0 : AP) (aB1 : AP) : Option Bool :=
 (bif (aA0.A0 != aB1.A0) then some false else ((Wg aA0.A6 aB1.A6).bind fun v3 => (bif !v3 then some false else ((gN aA0.A7 aB1.A7).bind fun v4 => (bif !v4 then some false else ((gO aA0.BV aB1.BV).bind fun v5 => (bif !v5 then some false else (bif (aA0.E8 != aB1.E8) then some false else some true))))))))
theorem Yr {aA0 : AP} {aB1 : AP} {r : Bool} {l1 l2 m3 l4 m5 l6 l7 m8 l9 m10 : Nat} (hk : fZ aA0 aB1 = some r) (hlk : 0 < lk.length := by simp) : Am Tryz.prog hh 13 [.agg (Ai l1 0 l2 m3 l4 m5 aA0), .agg (Ai l6 0 l7 m8 l9 m10 aB1)] H lk = some (.bool r, H) := by
 refine AI Tryz.func13 rfl Tryz.ntmps13 Tryz.results13 rfl rfl fun hO => ?_
 unfold fZ at hk
 refine A1 (A4 (BZ (cs := [_, _, _, _, _]) hO CC (fun b1 G hO => ?_)))
 refine BZ (cs := [_, _, _, _, _]) hO CC (fun b2 G hO => ?_)
 refine pA (.bool _) (pE (gn (A1 (A1 (A4 ?_)))))
 refine As EK hO 1 (.int _ _) BU ?_
 refine As EK hO 0 (.int _ _) BU ?_
 refine AW (pE (gn (Aq hk (fun hk => ?_) (fun hk => ?_))))
 ·refine A1 (A4 (pA (.bool _) (pE (gn (Aw (gr ?_))))))
  cases hk; exact AT hO
 ·refine Ar (gn (A1 (A1 (A4 (As DE hO 1 (.lit _ _ _) BK ?_)))))
  refine As DE hO 0 (.lit _ _ _) BK (bk hk fun v3 hv3 hk => ?_)
  refine AR (fun _ => I0 hv3) ?_
  refine pU (pE (gn (Aq hk (fun hk => ?_) (fun hk => ?_))))
  ·refine A1 (A4 (pA (.bool _) (pE (gn (Aw (gr ?_))))))
   cases hk; exact AT hO
  ·refine Ar (gn (A1 (A1 (A4 (As Bl hO 1 (.lit _ _ _) Du ?_)))))
   refine As Bl hO 0 (.lit _ _ _) Du (bk hk fun v4 hv4 hk => ?_)
   refine AR (fun _ => Z6 hv4) ?_
   refine pU (pE (gn (Aq hk (fun hk => ?_) (fun hk => ?_))))
   ·refine A1 (A4 (pA (.bool _) (pE (gn (Aw (gr ?_))))))
    cases hk; exact AT hO
   ·refine Ar (gn (A1 (A1 (A4 (As EL hO 1 (.lit _ _ _) IW ?_)))))
    refine As EL hO 0 (.lit _ _ _) IW (bk hk fun v5 hv5 hk => ?_)
    refine AR (fun _ => Z7 hv5) ?_
    refine pU (pE (gn (Aq hk (fun hk => ?_) (fun hk => ?_))))
    ·refine A1 (A4 (pA (.bool _) (pE (gn (Aw (gr ?_))))))
     cases hk; exact AT hO
    ·refine Ar (gn (A1 (A1 (A4 (As K6 hO 1 (.int _ _) BU ?_)))))
     refine As K6 hO 0 (.int _ _) BU ?_
     refine AW (pE (gn (Aq hk (fun hk => ?_) (fun hk => ?_))))
     ·refine A1 (A4 (pA (.bool _) (pE (gn (Aw (gr ?_))))))
      cases hk; exact AT hO
     ·refine Ar (gn (A1 (A4 (pA (.bool _) (pE (gn (Aw ?_)))))))
      cases hk; exact AT hO
def iB (aA0 : Al) (aB1 : Al) : Option Bool :=
 (bif (aA0.Want != aB1.Want) then some false else (bif (aA0.AQ != aB1.AQ) then some false else some true))
theorem ZX {aA0 : Al} {aB1 : Al} {r : Bool} (hk : iB aA0 aB1 = some r) (hlk : 0 < lk.length := by simp) : Am Tryz.prog hh 86 [.agg [iv aA0.Want, iv aA0.AQ], .agg [iv aB1.Want, iv aB1.AQ]] H lk = some (.bool r, H) := by
 refine AI Tryz.func86 rfl Tryz.ntmps86 Tryz.results86 rfl rfl fun hO => ?_
 unfold iB at hk
 refine A1 (A4 (BZ (cs := [_, _]) hO EA (fun b1 G hO => ?_)))
 refine BZ (cs := [_, _]) hO EA (fun b2 G hO => ?_)
 refine pA (.bool _) (pE (gn (A1 (A1 (A4 ?_)))))
 refine As II hO 1 (.int _ _) BU ?_
 refine As II hO 0 (.int _ _) BU ?_
 refine AW (pE (gn (Aq hk (fun hk => ?_) (fun hk => ?_))))
 ·refine A1 (A4 (pA (.bool _) (pE (gn (Aw (gr ?_))))))
  cases hk; exact AT hO
 ·refine Ar (gn (A1 (A1 (A4 (As K7 hO 1 (.int _ _) BU ?_)))))
  refine As K7 hO 0 (.int _ _) BU ?_
  refine AW (pE (gn (Aq hk (fun hk => ?_) (fun hk => ?_))))
  ·refine A1 (A4 (pA (.bool _) (pE (gn (Aw (gr ?_))))))
   cases hk; exact AT hO
  ·refine Ar (gn (A1 (A4 (pA (.bool _) (pE (gn (Aw ?_)))))))
   cases hk; exact AT hO
def NW (aA0 : List Al) (aB1 : List Al) : Int → Option (Int ⊕ Bool) := fun s =>
 (bif decide (s < (aA0.length : Int)) then ((AK aA0 s).bind fun c2 => ((AK aB1 s).bind fun c3 => ((iB c2 c3).bind fun v4 => (bif !v4 then ((some false).map Sum.inr) else some (.inl (BT (s + (1:Int)))))))) else ((some true).map Sum.inr))
def gP (aA0 : List Al) (aB1 : List Al) : Option Bool :=
 (bif ((aA0.length : Int) != (aB1.length : Int)) then some false else (AJ (NW aA0 aB1) ((0:Int))))
theorem Z8 {aA0 : List Al} {aB1 : List Al} {r : Bool} {l1 l2 : Nat} (hk : gP aA0 aB1 = some r) (hlk : 0 < lk.length := by simp) : Am Tryz.prog hh 51 [AN l1 0 aA0, AN l2 0 aB1] H lk = some (.bool r, H) := by
 refine AI Tryz.func51 rfl Tryz.ntmps51 Tryz.results51 rfl rfl fun hO => ?_
 unfold gP at hk
 refine A1 (A4 (pA (.bool _) (pE (gn (A1 (A1 (A4 ?_)))))))
 refine pM (.lit _ _ _) ?_
 refine Af Oo ?_
 refine pM (.lit _ _ _) ?_
 refine Af Oo ?_
 refine AW (pE (gn (Aq hk (fun hk => ?_) (fun hk => ?_))))
 ·refine A1 (A4 (pA (.bool _) (pE (gn (Aw (gr ?_))))))
  cases hk; exact AT hO
 ·refine Ar (gn (A1 (A1 (A4 (pA (.int _ _) (pE (gn (BO ?_))))))))
  refine AA (F := NW aA0 aB1) (fun s S' => ∃ (J : Nat → V) (G : A3), A5 H G [] ∧ S' = ⟨CM [(0, AN l1 0 aA0), (1, AN l2 0 aB1), (5, iv s)] J, G⟩) hk ⟨_, _, hO, sh⟩ ?_
  rintro x1 _ y1 ⟨J, G, hO, rfl⟩ hk hx1
  refine A1 (A1 (A4 (pM (.int _ _) ?_)))
  refine pM (.lit _ _ _) ?_
  refine Af Oo ?_
  refine AW (pE (gn (Aq hk (fun hk => ?_) (fun hk => ?_))))
  ·refine Ar (gn (A1 (BO (A1 (BC [(0, true), (1, true), (2, true), (3, true), (4, true), (5, true), (6, true), (7, true), (8, false), (9, false)] [_, _, _, _, _, _, _, _, _, _] (by decide +kernel) (by rfl) ?_)))))
   refine pM (.lit _ _ _) ?_
   refine pM (.int _ _) (bk hk fun c2 hc2 hk => ?_)
   refine pX hc2 IY EA ?_
   refine Br (.agg [_, _]) (G8 (lm := 0) (off := 0) hc2 RN EA) ?_
   refine pM (.lit _ _ _) ?_
   refine pM (.int _ _) (bk hk fun c3 hc3 hk => ?_)
   refine pX hc3 IY EA ?_
   refine Br (.agg [_, _]) (G8 (lm := 0) (off := 0) hc3 RN EA) (bk hk fun v4 hv4 hk => ?_)
   refine AR (fun _ => ZX hv4) ?_
   refine pU (pE (gn (Aq hk (fun hk => ?_) (fun hk => ?_))))
   ·refine A1 (A4 (pA (.bool _) (pE (gn (Aw (br (gr (gr (br (gr (have hk := lx hx1 hk; ?_)))))))))))
    cases hk; exact AT hO
   ·refine Ar (bn (gn (A4 (pM (.int _ _) ?_))))
    refine AW ?_
    refine pA (.int _ _) (pE (gn ?_))
    cases hk; exact ⟨_, rfl, _, _, hO, sh⟩
  ·refine D3 (ge (ge (be (gn (have hk := lx hx1 hk; A1 (A4 (pA (.bool _) (pE (gn (Aw ?_))))))))))
   cases hk; exact AT hO
def iC (aA0 : AG) (aB1 : AG) : Option Bool :=
 (bif (aA0.State != aB1.State) then some false else (bif (aA0.Ab != aB1.Ab) then some false else ((cR aA0.Aa aB1.Aa).bind fun v3 => (bif !v3 then some false else (bif !(aA0.Shown == aB1.Shown) then some false else (bif (aA0.Timer != aB1.Timer) then some false else some true))))))
theorem ZY {aA0 : AG} {aB1 : AG} {r : Bool} {l1 l2 : Nat} (hk : iC aA0 aB1 = some r) (hlk : 0 < lk.length := by simp) : Am Tryz.prog hh 87 [.agg [iv aA0.State, iv aA0.Ab, AN l1 0 aA0.Aa, .bool aA0.Shown, iv aA0.Timer], .agg [iv aB1.State, iv aB1.Ab, AN l2 0 aB1.Aa, .bool aB1.Shown, iv aB1.Timer]] H lk = some (.bool r, H) := by
 refine AI Tryz.func87 rfl Tryz.ntmps87 Tryz.results87 rfl rfl fun hO => ?_
 unfold iC at hk
 refine A1 (A4 (BZ (cs := [_, _, _, _, _]) hO Av (fun b1 G hO => ?_)))
 refine BZ (cs := [_, _, _, _, _]) hO Av (fun b2 G hO => ?_)
 refine pA (.bool _) (pE (gn (A1 (A1 (A4 ?_)))))
 refine As B8 hO 1 (.int _ _) BU ?_
 refine As B8 hO 0 (.int _ _) BU ?_
 refine AW (pE (gn (Aq hk (fun hk => ?_) (fun hk => ?_))))
 ·refine A1 (A4 (pA (.bool _) (pE (gn (Aw (gr ?_))))))
  cases hk; exact AT hO
 ·refine Ar (gn (A1 (A1 (A4 (As Bw hO 1 (.int _ _) BU ?_)))))
  refine As Bw hO 0 (.int _ _) BU ?_
  refine AW (pE (gn (Aq hk (fun hk => ?_) (fun hk => ?_))))
  ·refine A1 (A4 (pA (.bool _) (pE (gn (Aw (gr ?_))))))
   cases hk; exact AT hO
  ·refine Ar (gn (A1 (A1 (A4 (As C3 hO 1 (.lit _ _ _) C8 ?_)))))
   refine As C3 hO 0 (.lit _ _ _) C8 (bk hk fun v3 hv3 hk => ?_)
   refine AR (fun _ => QW hv3) ?_
   refine pU (pE (gn (Aq hk (fun hk => ?_) (fun hk => ?_))))
   ·refine A1 (A4 (pA (.bool _) (pE (gn (Aw (gr ?_))))))
    cases hk; exact AT hO
   ·refine Ar (gn (A1 (A1 (A4 (As Dm hO 1 (.bool _) Fk ?_)))))
    refine As Dm hO 0 (.bool _) Fk ?_
    refine Zu Tryz.underlying4 (pE (gn (Aq hk (fun hk => ?_) (fun hk => ?_))))
    ·refine A1 (A4 (pA (.bool _) (pE (gn (Aw (gr ?_))))))
     cases hk; exact AT hO
    ·refine Ar (gn (A1 (A1 (A4 (As E5 hO 1 (.int _ _) BU ?_)))))
     refine As E5 hO 0 (.int _ _) BU ?_
     refine AW (pE (gn (Aq hk (fun hk => ?_) (fun hk => ?_))))
     ·refine A1 (A4 (pA (.bool _) (pE (gn (Aw (gr ?_))))))
      cases hk; exact AT hO
     ·refine Ar (gn (A1 (A4 (pA (.bool _) (pE (gn (Aw ?_)))))))
      cases hk; exact AT hO
def NX (aA0 : List AG) (aB1 : List AG) : Int → Option (Int ⊕ Bool) := fun s =>
 (bif decide (s < (aA0.length : Int)) then ((AK aA0 s).bind fun c2 => ((AK aB1 s).bind fun c3 => ((iC c2 c3).bind fun v4 => (bif !v4 then ((some false).map Sum.inr) else some (.inl (BT (s + (1:Int)))))))) else ((some true).map Sum.inr))
def gQ (aA0 : List AG) (aB1 : List AG) : Option Bool :=
 (bif ((aA0.length : Int) != (aB1.length : Int)) then some false else (AJ (NX aA0 aB1) ((0:Int))))
theorem Z9 {aA0 : List AG} {aB1 : List AG} {r : Bool} {l1 m2 l3 m4 : Nat} (hk : gQ aA0 aB1 = some r) (hlk : 0 < lk.length := by simp) : Am Tryz.prog hh 52 [AN l1 m2 aA0, AN l3 m4 aB1] H lk = some (.bool r, H) := by
 refine AI Tryz.func52 rfl Tryz.ntmps52 Tryz.results52 rfl rfl fun hO => ?_
 unfold gQ at hk
 refine A1 (A4 (pA (.bool _) (pE (gn (A1 (A1 (A4 ?_)))))))
 refine pM (.lit _ _ _) ?_
 refine Af IJ ?_
 refine pM (.lit _ _ _) ?_
 refine Af IJ ?_
 refine AW (pE (gn (Aq hk (fun hk => ?_) (fun hk => ?_))))
 ·refine A1 (A4 (pA (.bool _) (pE (gn (Aw (gr ?_))))))
  cases hk; exact AT hO
 ·refine Ar (gn (A1 (A1 (A4 (pA (.int _ _) (pE (gn (BO ?_))))))))
  refine AA (F := NX aA0 aB1) (fun s S' => ∃ (J : Nat → V) (G : A3), A5 H G [] ∧ S' = ⟨CM [(0, AN l1 m2 aA0), (1, AN l3 m4 aB1), (5, iv s)] J, G⟩) hk ⟨_, _, hO, sh⟩ ?_
  rintro x1 _ y1 ⟨J, G, hO, rfl⟩ hk hx1
  refine A1 (A1 (A4 (pM (.int _ _) ?_)))
  refine pM (.lit _ _ _) ?_
  refine Af IJ ?_
  refine AW (pE (gn (Aq hk (fun hk => ?_) (fun hk => ?_))))
  ·refine Ar (gn (A1 (BO (A1 (BC [(0, true), (1, true), (2, true), (3, true), (4, true), (5, true), (6, true), (7, true), (8, false), (9, false)] [_, _, _, _, _, _, _, _, _, _] (by decide +kernel) (by rfl) ?_)))))
   refine pM (.lit _ _ _) ?_
   refine pM (.int _ _) (bk hk fun c2 hc2 hk => ?_)
   refine pX hc2 EJ Av ?_
   refine Br (.agg [_, _, _, _, _]) (G8 (lm := m2) (off := 0) hc2 G0 Av) ?_
   refine pM (.lit _ _ _) ?_
   refine pM (.int _ _) (bk hk fun c3 hc3 hk => ?_)
   refine pX hc3 EJ Av ?_
   refine Br (.agg [_, _, _, _, _]) (G8 (lm := m4) (off := 0) hc3 G0 Av) (bk hk fun v4 hv4 hk => ?_)
   refine AR (fun _ => ZY hv4) ?_
   refine pU (pE (gn (Aq hk (fun hk => ?_) (fun hk => ?_))))
   ·refine A1 (A4 (pA (.bool _) (pE (gn (Aw (br (gr (gr (br (gr (have hk := lx hx1 hk; ?_)))))))))))
    cases hk; exact AT hO
   ·refine Ar (bn (gn (A4 (pM (.int _ _) ?_))))
    refine AW ?_
    refine pA (.int _ _) (pE (gn ?_))
    cases hk; exact ⟨_, rfl, _, _, hO, sh⟩
  ·refine D3 (ge (ge (be (gn (have hk := lx hx1 hk; A1 (A4 (pA (.bool _) (pE (gn (Aw ?_))))))))))
   cases hk; exact AT hO
def gA (aA0 : AD) (aB1 : AD) : Option Bool :=
 (bif !(aA0.Ok == aB1.Ok) then some false else ((cR aA0.C5 aB1.C5).bind fun v3 => (bif !v3 then some false else ((gP aA0.AF aB1.AF).bind fun v4 => (bif !v4 then some false else ((gQ aA0.A7 aB1.A7).bind fun v5 => (bif !v5 then some false else some true)))))))
theorem Ys {aA0 : AD} {aB1 : AD} {r : Bool} {l1 l2 l3 m4 l5 l6 l7 m8 : Nat} (hk : gA aA0 aB1 = some r) (hlk : 0 < lk.length := by simp) : Am Tryz.prog hh 14 [.agg (Ah l1 0 l2 0 l3 m4 aA0), .agg (Ah l5 0 l6 0 l7 m8 aB1)] H lk = some (.bool r, H) := by
 refine AI Tryz.func14 rfl Tryz.ntmps14 Tryz.results14 rfl rfl fun hO => ?_
 unfold gA at hk
 refine A1 (A4 (BZ (cs := [_, _, _, _]) hO Bv (fun b1 G hO => ?_)))
 refine BZ (cs := [_, _, _, _]) hO Bv (fun b2 G hO => ?_)
 refine pA (.bool _) (pE (gn (A1 (A1 (A4 ?_)))))
 refine As Lt hO 1 (.bool _) Fk ?_
 refine As Lt hO 0 (.bool _) Fk ?_
 refine Zu Tryz.underlying4 (pE (gn (Aq hk (fun hk => ?_) (fun hk => ?_))))
 ·refine A1 (A4 (pA (.bool _) (pE (gn (Aw (gr ?_))))))
  cases hk; exact AT hO
 ·refine Ar (gn (A1 (A1 (A4 (As Cm hO 1 (.lit _ _ _) C8 ?_)))))
  refine As Cm hO 0 (.lit _ _ _) C8 (bk hk fun v3 hv3 hk => ?_)
  refine AR (fun _ => QW hv3) ?_
  refine pU (pE (gn (Aq hk (fun hk => ?_) (fun hk => ?_))))
  ·refine A1 (A4 (pA (.bool _) (pE (gn (Aw (gr ?_))))))
   cases hk; exact AT hO
  ·refine Ar (gn (A1 (A1 (A4 (As Db hO 1 (.lit _ _ _) JD ?_)))))
   refine As Db hO 0 (.lit _ _ _) JD (bk hk fun v4 hv4 hk => ?_)
   refine AR (fun _ => Z8 hv4) ?_
   refine pU (pE (gn (Aq hk (fun hk => ?_) (fun hk => ?_))))
   ·refine A1 (A4 (pA (.bool _) (pE (gn (Aw (gr ?_))))))
    cases hk; exact AT hO
   ·refine Ar (gn (A1 (A1 (A4 (As Bd hO 1 (.lit _ _ _) Dv ?_)))))
    refine As Bd hO 0 (.lit _ _ _) Dv (bk hk fun v5 hv5 hk => ?_)
    refine AR (fun _ => Z9 hv5) ?_
    refine pU (pE (gn (Aq hk (fun hk => ?_) (fun hk => ?_))))
    ·refine A1 (A4 (pA (.bool _) (pE (gn (Aw (gr ?_))))))
     cases hk; exact AT hO
    ·refine Ar (gn (A1 (A4 (pA (.bool _) (pE (gn (Aw ?_)))))))
     cases hk; exact AT hO
def NJ : ((List Int) × Int × Int) → Option (((List Int) × Int × Int) ⊕ (List Int × Int)) := fun s =>
 (bif decide (s.2.2 < (s.1.length : Int)) then ((AK s.1 s.2.2).bind fun c4 => some (.inl (s.1.set s.2.2.toNat s.2.1, BT (s.2.1 + (1:Int)), BT (s.2.2 + (1:Int))))) else ((some (s.1, s.2.1)).map Sum.inr))
def Yv (aA0 : List Int) (aK1 : Int) : Option (List Int × Int) :=
 (AJ (NJ) (aA0, aK1, (0:Int)))
theorem KS {aA0 : List Int} {aK1 : Int} {r : (List Int × Int)} {v0 : V} {F0 : List Nat} (hk : Yv aA0 aK1 = some r) (ha : CH H aA0 [v0] F0) (hF : ∀ b ∈ F0, b < H.length) (hS : ∀ b ∈ F0, AV lk b = true) (hlk : 0 < lk.length := by simp) : ∃ v H1, Am Tryz.prog hh 17 [v0, iv aK1] H lk = some (v, H1) ∧ v = iv r.2 ∧ CH H1 r.1 [v0] F0 ∧ H1.length = H.length ∧ ∀ b, b ∉ F0 → H1[b]? = H[b]? := by
 refine B0 Tryz.func17 rfl Tryz.ntmps17 Tryz.results17 rfl rfl ?_
 have hO := Dn ha hF
 have hFr := Bu.refl H F0
 unfold Yv at hk
 refine A1 (A4 (pA (.int _ _) (pE (gn (A1 (A1 (A4 ?_)))))))
 refine pA (.int _ _) (pE (gn (BO ?_)))
 refine AA (F := NJ) (fun s S' => ∃ (J : Nat → V) (G : A3) (H1 : A3), Bu H H1 F0 ∧ A5 H1 G [AY F0 F0 s.1 [v0]] ∧ S' = ⟨CM [(0, v0), (1, iv s.2.1), (5, iv s.2.2)] J, G⟩) hk ⟨_, _, _, hFr, hO, sh⟩ ?_
 rintro ⟨x1, x2, x3⟩ _ y1 ⟨J, G, H1, hFr, hO, rfl⟩ hk hx1
 refine A1 (A1 (A4 (pM (.int _ _) ?_)))
 refine pM v0 ?_
 refine Ji hO 0 D5 ?_
 refine AW (pE (gn (Aq hk (fun hk => ?_) (fun hk => ?_))))
 ·refine Ar (gn (A1 (BO (A1 (A4 (pM v0 ?_))))))
  refine pM (.int _ _) ?_
  refine pM (.int _ _) (bk hk fun c4 hc4 hk => ?_)
  refine L7 hO 0 hc4 C4 DP (fun b5 hb5 => ?_)
  refine Yd (Bm.all (α := Int)) (y' := x2) hO 0 hb5 hc4 DP (fun _ => ⟨rfl, rfl⟩) hFr hS rfl (fun H1 G hFr hO => ?_)
  have hc_6 := Bp hc4 x2
  have hv_6 := Cu (j := x3.toNat) (y := x2) hb5
  refine pE (gn (A4 (pM (.int _ _) ?_)))
  refine AW ?_
  refine pA (.int _ _) (pE (bn (gn (A4 ?_))))
  refine pM (.int _ _) ?_
  refine AW ?_
  refine pA (.int _ _) (pE (gn ?_))
  cases hk; exact ⟨_, rfl, _, _, _, hFr, hO, sh⟩
 ·refine D3 (ge (ge (be (gn (have hk := lx hx1 hk; A1 (A4 (pM (.int _ _) ?_)))))))
  refine pA (.int _ _) (pE (gn (Aw ?_)))
  replace hk := Option.some.inj hk; subst hk; exact Qg hO 0 hFr hF
def Nq : ((List Ae) × Int × Int) → Option (((List Ae) × Int × Int) ⊕ (List Ae × Int)) := fun s =>
 (bif decide (s.2.2 < (s.1.length : Int)) then ((AK s.1 s.2.2).bind fun c4 => ((AK (s.1.set s.2.2.toNat ({ c4 with Switch := s.2.1 })) s.2.2).bind fun c7 => some (.inl ((s.1.set s.2.2.toNat ({ c4 with Switch := s.2.1 })).set s.2.2.toNat ({ c7 with FC := BT (s.2.1 + (1:Int)) }), BT ((BT (s.2.1 + (1:Int))) + (1:Int)), BT (s.2.2 + (1:Int)))))) else ((some (s.1, s.2.1)).map Sum.inr))
def fC (aA0 : List Ae) (aK1 : Int) : Option (List Ae × Int) :=
 (AJ (Nq) (aA0, aK1, (0:Int)))
theorem Ub {aA0 : List Ae} {aK1 : Int} {r : (List Ae × Int)} {v0 : V} {F0 : List Nat} (hk : fC aA0 aK1 = some r) (ha : CH H aA0 [v0] F0) (hF : ∀ b ∈ F0, b < H.length) (hS : ∀ b ∈ F0, AV lk b = true) (hlk : 0 < lk.length := by simp) : ∃ v H1, Am Tryz.prog hh 88 [v0, iv aK1] H lk = some (v, H1) ∧ v = iv r.2 ∧ CH H1 r.1 [v0] F0 ∧ H1.length = H.length ∧ ∀ b, b ∉ F0 → H1[b]? = H[b]? := by
 refine B0 Tryz.func88 rfl Tryz.ntmps88 Tryz.results88 rfl rfl ?_
 have hO := Dn ha hF
 have hFr := Bu.refl H F0
 unfold fC at hk
 refine A1 (A4 (pA (.int _ _) (pE (gn (A1 (A1 (A4 ?_)))))))
 refine pA (.int _ _) (pE (gn (BO ?_)))
 refine AA (F := Nq) (fun s S' => ∃ (J : Nat → V) (G : A3) (H1 : A3), Bu H H1 F0 ∧ A5 H1 G [AY F0 F0 s.1 [v0]] ∧ S' = ⟨CM [(0, v0), (1, iv s.2.1), (5, iv s.2.2)] J, G⟩) hk ⟨_, _, _, hFr, hO, sh⟩ ?_
 rintro ⟨x1, x2, x3⟩ _ y1 ⟨J, G, H1, hFr, hO, rfl⟩ hk hx1
 refine A1 (A1 (A4 (pM (.int _ _) ?_)))
 refine pM v0 ?_
 refine Ji hO 0 Ex ?_
 refine AW (pE (gn (Aq hk (fun hk => ?_) (fun hk => ?_))))
 ·refine Ar (gn (A1 (BO (A1 (A4 (pM v0 ?_))))))
  refine pM (.int _ _) ?_
  refine pM (.int _ _) (bk hk fun c4 hc4 hk => ?_)
  refine L7 hO 0 hc4 Df BB (fun b5 hb5 => ?_)
  refine pF CP ?_
  refine Yd MQ (y' := x2) hO 0 hb5 hc4 DP (fun _ => ⟨rfl, rfl⟩) hFr hS rfl (fun H1 G hFr hO => ?_)
  have hc_6 := Bp hc4 ({ c4 with Switch := x2 } : Ae)
  have hv_6 := Cu (j := x3.toNat) (y := ({ c4 with Switch := x2 } : Ae)) hb5
  refine pE (gn (A1 (A4 (pM (.int _ _) ?_))))
  refine AW ?_
  refine pA (.int _ _) (pE (gn (A1 (A4 ?_))))
  refine pM v0 ?_
  refine pM (.int _ _) ?_
  refine pM (.int _ _) (bk hk fun c7 hc7 hk => ?_)
  refine L7 hO 0 hc7 Df BB (fun b8 hb8 => ?_)
  refine pF E7 ?_
  refine Yd Qi (y' := (BT (x2 + (1:Int)))) hO 0 hb8 hc7 DP (fun _ => ⟨rfl, rfl⟩) hFr hS rfl (fun H1 G hFr hO => ?_)
  have hc_9 := Bp hc7 ({ c7 with FC := BT (x2 + (1:Int)) } : Ae)
  have hv_9 := Cu (j := x3.toNat) (y := ({ c7 with FC := BT (x2 + (1:Int)) } : Ae)) hb8
  refine pE (gn (A4 (pM (.int _ _) ?_)))
  refine AW ?_
  refine pA (.int _ _) (pE (bn (gn (A4 ?_))))
  refine pM (.int _ _) ?_
  refine AW ?_
  refine pA (.int _ _) (pE (gn ?_))
  cases hk; exact ⟨_, rfl, _, _, _, hFr, hO, sh⟩
 ·refine D3 (ge (ge (be (gn (have hk := lx hx1 hk; A1 (A4 (pM (.int _ _) ?_)))))))
  refine pA (.int _ _) (pE (gn (Aw ?_)))
  replace hk := Option.some.inj hk; subst hk; exact Qg hO 0 hFr hF
def NY : ((List Bq) × Int × Int) → Option (((List Bq) × Int × Int) ⊕ (List Bq × Int)) := fun s =>
 (bif decide (s.2.2 < (s.1.length : Int)) then ((AK s.1 s.2.2).bind fun c4 => ((Yv c4.A0 s.2.1).bind fun z7 => ((AK (s.1.set s.2.2.toNat ({ c4 with A0 := z7.1 })) s.2.2).bind fun c8 => ((fC c8.AQ z7.2).bind fun z11 => ((AK ((s.1.set s.2.2.toNat ({ c4 with A0 := z7.1 })).set s.2.2.toNat ({ c8 with AQ := z11.1 })) s.2.2).bind fun c12 => ((fC c12.AH z11.2).bind fun z15 => ((AK (((s.1.set s.2.2.toNat ({ c4 with A0 := z7.1 })).set s.2.2.toNat ({ c8 with AQ := z11.1 })).set s.2.2.toNat ({ c12 with AH := z15.1 })) s.2.2).bind fun c16 => ((Yv c16.Bt z15.2).bind fun z19 => ((AK ((((s.1.set s.2.2.toNat ({ c4 with A0 := z7.1 })).set s.2.2.toNat ({ c8 with AQ := z11.1 })).set s.2.2.toNat ({ c12 with AH := z15.1 })).set s.2.2.toNat ({ c16 with Bt := z19.1 })) s.2.2).bind fun c20 => ((Yv c20.DB z19.2).bind fun z23 => some (.inl (((((s.1.set s.2.2.toNat ({ c4 with A0 := z7.1 })).set s.2.2.toNat ({ c8 with AQ := z11.1 })).set s.2.2.toNat ({ c12 with AH := z15.1 })).set s.2.2.toNat ({ c16 with Bt := z19.1 })).set s.2.2.toNat ({ c20 with DB := z23.1 }), z23.2, BT (s.2.2 + (1:Int)))))))))))))) else ((some (s.1, s.2.1)).map Sum.inr))
def gR (aA0 : List Bq) (aK1 : Int) : Option (List Bq × Int) :=
 (AJ (NY) (aA0, aK1, (0:Int)))
theorem ZA {aA0 : List Bq} {aK1 : Int} {r : (List Bq × Int)} {v0 : V} {F0 : List Nat} (hk : gR aA0 aK1 = some r) (ha : CH H aA0 [v0] F0) (hF : ∀ b ∈ F0, b < H.length) (hS : ∀ b ∈ F0, AV lk b = true) (hlk : 0 < lk.length := by simp) : ∃ v H1, Am Tryz.prog hh 53 [v0, iv aK1] H lk = some (v, H1) ∧ v = iv r.2 ∧ CH H1 r.1 [v0] F0 ∧ H1.length = H.length ∧ ∀ b, b ∉ F0 → H1[b]? = H[b]? := by
 refine B0 Tryz.func53 rfl Tryz.ntmps53 Tryz.results53 rfl rfl ?_
 have hO := Dn ha hF
 have hFr := Bu.refl H F0
 unfold gR at hk
 refine A1 (A4 (pA (.int _ _) (pE (gn (A1 (A1 (A4 ?_)))))))
 refine pA (.int _ _) (pE (gn (BO ?_)))
 refine AA (F := NY) (fun s S' => ∃ (J : Nat → V) (G : A3) (H1 : A3), Bu H H1 F0 ∧ A5 H1 G [AY F0 F0 s.1 [v0]] ∧ S' = ⟨CM [(0, v0), (1, iv s.2.1), (5, iv s.2.2)] J, G⟩) hk ⟨_, _, _, hFr, hO, sh⟩ ?_
 rintro ⟨x1, x2, x3⟩ _ y1 ⟨J, G, H1, hFr, hO, rfl⟩ hk hx1
 refine A1 (A1 (A4 (pM (.int _ _) ?_)))
 refine pM v0 ?_
 refine Ji hO 0 IZ ?_
 refine AW (pE (gn (Aq hk (fun hk => ?_) (fun hk => ?_))))
 ·refine Ar (gn (A1 (BO (A1 (A4 (pM v0 ?_))))))
  refine pM (.int _ _) (bk hk fun c4 hc4 hk => ?_)
  refine L7 hO 0 hc4 Er Az (fun b5 hb5 => ?_)
  refine pF BI ?_
  refine Tw LV hO 0 hb5 hc4 BK (fun u6 fs6 hs6 => ?_)
  refine pM (.int _ _) (bk hk fun z7 hz7 hk => ?_)
  refine Vl (y' := z7.1) (r := iv z7.2) hO 0 hs6 (fun _ h => h) hFr hS (fun hF1 hS1 ht1 => KS hz7 ht1 hF1 hS1) (fun H1 G hFr hO => ?_)
  refine pA (.int _ _) (pE (gn (A1 (A4 ?_))))
  refine pM v0 ?_
  refine pM (.int _ _) (bk hk fun c8 hc8 hk => ?_)
  refine L7 hO 0 hc8 Er Az (fun b9 hb9 => ?_)
  refine pF E6 ?_
  refine Tw Qj hO 0 hb9 hc8 Da (fun u10 fs10 hs10 => ?_)
  refine pM (.int _ _) (bk hk fun z11 hz11 hk => ?_)
  refine Vl (y' := z11.1) (r := iv z11.2) hO 0 hs10 (fun _ h => h) hFr hS (fun hF1 hS1 ht1 => Ub hz11 ht1 hF1 hS1) (fun H1 G hFr hO => ?_)
  refine pA (.int _ _) (pE (gn (A1 (A4 ?_))))
  refine pM v0 ?_
  refine pM (.int _ _) (bk hk fun c12 hc12 hk => ?_)
  refine L7 hO 0 hc12 Er Az (fun b13 hb13 => ?_)
  refine pF EU ?_
  refine Tw O4 hO 0 hb13 hc12 Da (fun u14 fs14 hs14 => ?_)
  refine pM (.int _ _) (bk hk fun z15 hz15 hk => ?_)
  refine Vl (y' := z15.1) (r := iv z15.2) hO 0 hs14 (fun _ h => h) hFr hS (fun hF1 hS1 ht1 => Ub hz15 ht1 hF1 hS1) (fun H1 G hFr hO => ?_)
  refine pA (.int _ _) (pE (gn (A1 (A4 ?_))))
  refine pM v0 ?_
  refine pM (.int _ _) (bk hk fun c16 hc16 hk => ?_)
  refine L7 hO 0 hc16 Er Az (fun b17 hb17 => ?_)
  refine pF DU ?_
  refine Tw Ql hO 0 hb17 hc16 BK (fun u18 fs18 hs18 => ?_)
  refine pM (.int _ _) (bk hk fun z19 hz19 hk => ?_)
  refine Vl (y' := z19.1) (r := iv z19.2) hO 0 hs18 (fun _ h => h) hFr hS (fun hF1 hS1 ht1 => KS hz19 ht1 hF1 hS1) (fun H1 G hFr hO => ?_)
  refine pA (.int _ _) (pE (gn (A4 ?_)))
  refine pM v0 ?_
  refine pM (.int _ _) (bk hk fun c20 hc20 hk => ?_)
  refine L7 hO 0 hc20 Er Az (fun b21 hb21 => ?_)
  refine pF JY ?_
  refine Tw Qk hO 0 hb21 hc20 BK (fun u22 fs22 hs22 => ?_)
  refine pM (.int _ _) (bk hk fun z23 hz23 hk => ?_)
  refine Vl (y' := z23.1) (r := iv z23.2) hO 0 hs22 (fun _ h => h) hFr hS (fun hF1 hS1 ht1 => KS hz23 ht1 hF1 hS1) (fun H1 G hFr hO => ?_)
  refine pA (.int _ _) (pE (bn (gn (A4 ?_))))
  refine pM (.int _ _) ?_
  refine AW ?_
  refine pA (.int _ _) (pE (gn ?_))
  cases hk; exact ⟨_, rfl, _, _, _, hFr, hO, sh⟩
 ·refine D3 (ge (ge (be (gn (have hk := lx hx1 hk; A1 (A4 (pM (.int _ _) ?_)))))))
  refine pA (.int _ _) (pE (gn (Aw ?_)))
  replace hk := Option.some.inj hk; subst hk; exact Qg hO 0 hFr hF
def Na : ((List Bool) × Int × Int) → Option (((List Bool) × Int × Int) ⊕ (List Bool × Int)) := fun s =>
 (bif decide (s.2.2 < (s.1.length : Int)) then ((AK s.1 s.2.2).bind fun c4 => some (.inl (s.1.set s.2.2.toNat ((Int.tmod s.2.1 (3:Int)) == (0:Int)), BT (s.2.1 + (1:Int)), BT (s.2.2 + (1:Int))))) else ((some (s.1, s.2.1)).map Sum.inr))
def cU (aA0 : List Bool) (aK1 : Int) : Option (List Bool × Int) :=
 (AJ (Na) (aA0, aK1, (0:Int)))
theorem QX {aA0 : List Bool} {aK1 : Int} {r : (List Bool × Int)} {v0 : V} {F0 : List Nat} (hk : cU aA0 aK1 = some r) (ha : CH H aA0 [v0] F0) (hF : ∀ b ∈ F0, b < H.length) (hS : ∀ b ∈ F0, AV lk b = true) (hlk : 0 < lk.length := by simp) : ∃ v H1, Am Tryz.prog hh 55 [v0, iv aK1] H lk = some (v, H1) ∧ v = iv r.2 ∧ CH H1 r.1 [v0] F0 ∧ H1.length = H.length ∧ ∀ b, b ∉ F0 → H1[b]? = H[b]? := by
 refine B0 Tryz.func55 rfl Tryz.ntmps55 Tryz.results55 rfl rfl ?_
 have hO := Dn ha hF
 have hFr := Bu.refl H F0
 unfold cU at hk
 refine A1 (A4 (pA (.int _ _) (pE (gn (A1 (A1 (A4 ?_)))))))
 refine pA (.int _ _) (pE (gn (BO ?_)))
 refine AA (F := Na) (fun s S' => ∃ (J : Nat → V) (G : A3) (H1 : A3), Bu H H1 F0 ∧ A5 H1 G [AY F0 F0 s.1 [v0]] ∧ S' = ⟨CM [(0, v0), (1, iv s.2.1), (5, iv s.2.2)] J, G⟩) hk ⟨_, _, _, hFr, hO, sh⟩ ?_
 rintro ⟨x1, x2, x3⟩ _ y1 ⟨J, G, H1, hFr, hO, rfl⟩ hk hx1
 refine A1 (A1 (A4 (pM (.int _ _) ?_)))
 refine pM v0 ?_
 refine Ji hO 0 HO ?_
 refine AW (pE (gn (Aq hk (fun hk => ?_) (fun hk => ?_))))
 ·refine Ar (gn (A1 (BO (A1 (A4 (pM v0 ?_))))))
  refine pM (.int _ _) ?_
  refine pM (.int _ _) ?_
  refine AW ?_
  refine AW (bk hk fun c4 hc4 hk => ?_)
  refine L7 hO 0 hc4 Cl FO (fun b5 hb5 => ?_)
  refine Yd (Bm.all (α := Bool)) (y' := ((Int.tmod x2 (3:Int)) == (0:Int))) hO 0 hb5 hc4 FO (fun _ => ⟨rfl, rfl⟩) hFr hS rfl (fun H1 G hFr hO => ?_)
  have hc_6 := Bp hc4 ((Int.tmod x2 (3:Int)) == (0:Int))
  have hv_6 := Cu (j := x3.toNat) (y := ((Int.tmod x2 (3:Int)) == (0:Int))) hb5
  refine pE (gn (A4 (pM (.int _ _) ?_)))
  refine AW ?_
  refine pA (.int _ _) (pE (bn (gn (A4 ?_))))
  refine pM (.int _ _) ?_
  refine AW ?_
  refine pA (.int _ _) (pE (gn ?_))
  cases hk; exact ⟨_, rfl, _, _, _, hFr, hO, sh⟩
 ·refine D3 (ge (ge (be (gn (have hk := lx hx1 hk; A1 (A4 (pM (.int _ _) ?_)))))))
  refine pA (.int _ _) (pE (gn (Aw ?_)))
  replace hk := Option.some.inj hk; subst hk; exact Qg hO 0 hFr hF
def NZ : ((List (List Bool)) × Int × Int) → Option (((List (List Bool)) × Int × Int) ⊕ (List (List Bool) × Int)) := fun s =>
 (bif decide (s.2.2 < (s.1.length : Int)) then ((AK s.1 s.2.2).bind fun c4 => ((cU c4 s.2.1).bind fun z7 => some (.inl (s.1.set s.2.2.toNat z7.1, z7.2, BT (s.2.2 + (1:Int)))))) else ((some (s.1, s.2.1)).map Sum.inr))
def gS (aA0 : List (List Bool)) (aK1 : Int) : Option (List (List Bool) × Int) :=
 (AJ (NZ) (aA0, aK1, (0:Int)))
theorem ZB {aA0 : List (List Bool)} {aK1 : Int} {r : (List (List Bool) × Int)} {v0 : V} {F0 : List Nat} (hk : gS aA0 aK1 = some r) (ha : CH H aA0 [v0] F0) (hF : ∀ b ∈ F0, b < H.length) (hS : ∀ b ∈ F0, AV lk b = true) (hlk : 0 < lk.length := by simp) : ∃ v H1, Am Tryz.prog hh 54 [v0, iv aK1] H lk = some (v, H1) ∧ v = iv r.2 ∧ CH H1 r.1 [v0] F0 ∧ H1.length = H.length ∧ ∀ b, b ∉ F0 → H1[b]? = H[b]? := by
 refine B0 Tryz.func54 rfl Tryz.ntmps54 Tryz.results54 rfl rfl ?_
 have hO := Dn ha hF
 have hFr := Bu.refl H F0
 unfold gS at hk
 refine A1 (A4 (pA (.int _ _) (pE (gn (A1 (A1 (A4 ?_)))))))
 refine pA (.int _ _) (pE (gn (BO ?_)))
 refine AA (F := NZ) (fun s S' => ∃ (J : Nat → V) (G : A3) (H1 : A3), Bu H H1 F0 ∧ A5 H1 G [AY F0 F0 s.1 [v0]] ∧ S' = ⟨CM [(0, v0), (1, iv s.2.1), (5, iv s.2.2)] J, G⟩) hk ⟨_, _, _, hFr, hO, sh⟩ ?_
 rintro ⟨x1, x2, x3⟩ _ y1 ⟨J, G, H1, hFr, hO, rfl⟩ hk hx1
 refine A1 (A1 (A4 (pM (.int _ _) ?_)))
 refine pM v0 ?_
 refine Ji hO 0 Lv ?_
 refine AW (pE (gn (Aq hk (fun hk => ?_) (fun hk => ?_))))
 ·refine Ar (gn (A1 (BO (A4 (pM v0 ?_)))))
  refine pM (.int _ _) (bk hk fun c4 hc4 hk => ?_)
  refine L7 hO 0 hc4 IX GB (fun b5 hb5 => ?_)
  refine Tw (Bm.all (α := List Bool)) hO 0 hb5 hc4 C8 (fun u6 fs6 hs6 => ?_)
  refine pM (.int _ _) (bk hk fun z7 hz7 hk => ?_)
  refine Vl (y' := z7.1) (r := iv z7.2) hO 0 hs6 (fun _ h => h) hFr hS (fun hF1 hS1 ht1 => QX hz7 ht1 hF1 hS1) (fun H1 G hFr hO => ?_)
  refine pA (.int _ _) (pE (bn (gn (A4 ?_))))
  refine pM (.int _ _) ?_
  refine AW ?_
  refine pA (.int _ _) (pE (gn ?_))
  cases hk; exact ⟨_, rfl, _, _, _, hFr, hO, sh⟩
 ·refine D3 (ge (ge (be (gn (have hk := lx hx1 hk; A1 (A4 (pM (.int _ _) ?_)))))))
  refine pA (.int _ _) (pE (gn (Aw ?_)))
  replace hk := Option.some.inj hk; subst hk; exact Qg hO 0 hFr hF
def gB (aA0 : AP) (aK1 : Int) : Option (AP × Int) :=
 ((Yv aA0.A6 aK1).bind fun z3 => ((gR (({ aA0 with A6 := z3.1 }).A7) z3.2).bind fun z5 => ((gS (({ { aA0 with A6 := z3.1 } with A7 := z5.1 }).BV) z5.2).bind fun z7 => some ({ { { aA0 with A6 := z3.1 } with A7 := z5.1 } with BV := z7.1 }, z7.2))))
theorem Yt {aA0 : AP} {aK1 : Int} {r : (AP × Int)} {v0 : List V} {F0 : List Nat} (hk : gB aA0 aK1 = some r) (ha : CH H aA0 v0 F0) (hF : ∀ b ∈ F0, b < H.length) (hS : ∀ b ∈ F0, AV lk b = true) (hlk : 0 < lk.length := by simp) : ∃ v H1, Am Tryz.prog hh 15 [.agg v0, iv aK1] H lk = some (v, H1) ∧ v = iv r.2 ∧ CH H1 r.1 v0 F0 ∧ H1.length = H.length ∧ ∀ b, b ∉ F0 → H1[b]? = H[b]? := by
 refine B0 Tryz.func15 rfl Tryz.ntmps15 Tryz.results15 rfl rfl ?_
 have hO := Dn ha hF
 have hFr := Bu.refl H F0
 unfold gB at hk
 refine A1 (A4 (bE hO 0 CC (fun b1 G hO => ?_)))
 refine pA (.int _ _) (pE (gn (A1 (A4 ?_))))
 refine pF DE ?_
 refine Vm Kb hO 0 1 BK (fun u2 fs2 hs2 => ?_)
 refine pM (.int _ _) (bk hk fun z3 hz3 hk => ?_)
 refine Vl (y' := z3.1) (r := iv z3.2) hO 1 hs2 (fun _ h => h) hFr hS (fun hF1 hS1 ht1 => KS hz3 ht1 hF1 hS1) (fun H1 G hFr hO => ?_)
 refine pA (.int _ _) (pE (gn (A1 (A4 ?_))))
 refine pF Bl ?_
 refine Vm P5 hO 0 1 Du (fun u4 fs4 hs4 => ?_)
 refine pM (.int _ _) (bk hk fun z5 hz5 hk => ?_)
 refine Vl (y' := z5.1) (r := iv z5.2) hO 1 hs4 (fun _ h => h) hFr hS (fun hF1 hS1 ht1 => ZA hz5 ht1 hF1 hS1) (fun H1 G hFr hO => ?_)
 refine pA (.int _ _) (pE (gn (A1 (A4 ?_))))
 refine pF EL ?_
 refine Vm P4 hO 0 1 IW (fun u6 fs6 hs6 => ?_)
 refine pM (.int _ _) (bk hk fun z7 hz7 hk => ?_)
 refine Vl (y' := z7.1) (r := iv z7.2) hO 1 hs6 (fun _ h => h) hFr hS (fun hF1 hS1 ht1 => ZB hz7 ht1 hF1 hS1) (fun H1 G hFr hO => ?_)
 refine pA (.int _ _) (pE (gn (A1 (A4 ?_))))
 refine pM (.int _ _) ?_
 refine pA (.int _ _) (pE (gn (Aw ?_)))
 replace hk := Option.some.inj hk; subst hk; exact Qg hO 1 hFr hF
def Nc : ((List Al) × Int × Int) → Option (((List Al) × Int × Int) ⊕ (List Al × Int)) := fun s =>
 (bif decide (s.2.2 < (s.1.length : Int)) then ((AK s.1 s.2.2).bind fun c4 => ((AK (s.1.set s.2.2.toNat ({ c4 with Want := s.2.1 })) s.2.2).bind fun c7 => some (.inl ((s.1.set s.2.2.toNat ({ c4 with Want := s.2.1 })).set s.2.2.toNat ({ c7 with AQ := BT (s.2.1 + (1:Int)) }), BT ((BT (s.2.1 + (1:Int))) + (1:Int)), BT (s.2.2 + (1:Int)))))) else ((some (s.1, s.2.1)).map Sum.inr))
def gT (aA0 : List Al) (aK1 : Int) : Option (List Al × Int) :=
 (AJ (Nc) (aA0, aK1, (0:Int)))
theorem ZC {aA0 : List Al} {aK1 : Int} {r : (List Al × Int)} {v0 : V} {F0 : List Nat} (hk : gT aA0 aK1 = some r) (ha : CH H aA0 [v0] F0) (hF : ∀ b ∈ F0, b < H.length) (hS : ∀ b ∈ F0, AV lk b = true) (hlk : 0 < lk.length := by simp) : ∃ v H1, Am Tryz.prog hh 56 [v0, iv aK1] H lk = some (v, H1) ∧ v = iv r.2 ∧ CH H1 r.1 [v0] F0 ∧ H1.length = H.length ∧ ∀ b, b ∉ F0 → H1[b]? = H[b]? := by
 refine B0 Tryz.func56 rfl Tryz.ntmps56 Tryz.results56 rfl rfl ?_
 have hO := Dn ha hF
 have hFr := Bu.refl H F0
 unfold gT at hk
 refine A1 (A4 (pA (.int _ _) (pE (gn (A1 (A1 (A4 ?_)))))))
 refine pA (.int _ _) (pE (gn (BO ?_)))
 refine AA (F := Nc) (fun s S' => ∃ (J : Nat → V) (G : A3) (H1 : A3), Bu H H1 F0 ∧ A5 H1 G [AY F0 F0 s.1 [v0]] ∧ S' = ⟨CM [(0, v0), (1, iv s.2.1), (5, iv s.2.2)] J, G⟩) hk ⟨_, _, _, hFr, hO, sh⟩ ?_
 rintro ⟨x1, x2, x3⟩ _ y1 ⟨J, G, H1, hFr, hO, rfl⟩ hk hx1
 refine A1 (A1 (A4 (pM (.int _ _) ?_)))
 refine pM v0 ?_
 refine Ji hO 0 Oo ?_
 refine AW (pE (gn (Aq hk (fun hk => ?_) (fun hk => ?_))))
 ·refine Ar (gn (A1 (BO (A1 (A4 (pM v0 ?_))))))
  refine pM (.int _ _) ?_
  refine pM (.int _ _) (bk hk fun c4 hc4 hk => ?_)
  refine L7 hO 0 hc4 IY EA (fun b5 hb5 => ?_)
  refine pF II ?_
  refine Yd O3 (y' := x2) hO 0 hb5 hc4 DP (fun _ => ⟨rfl, rfl⟩) hFr hS rfl (fun H1 G hFr hO => ?_)
  have hc_6 := Bp hc4 ({ c4 with Want := x2 } : Al)
  have hv_6 := Cu (j := x3.toNat) (y := ({ c4 with Want := x2 } : Al)) hb5
  refine pE (gn (A1 (A4 (pM (.int _ _) ?_))))
  refine AW ?_
  refine pA (.int _ _) (pE (gn (A1 (A4 ?_))))
  refine pM v0 ?_
  refine pM (.int _ _) ?_
  refine pM (.int _ _) (bk hk fun c7 hc7 hk => ?_)
  refine L7 hO 0 hc7 IY EA (fun b8 hb8 => ?_)
  refine pF K7 ?_
  refine Yd O2 (y' := (BT (x2 + (1:Int)))) hO 0 hb8 hc7 DP (fun _ => ⟨rfl, rfl⟩) hFr hS rfl (fun H1 G hFr hO => ?_)
  have hc_9 := Bp hc7 ({ c7 with AQ := BT (x2 + (1:Int)) } : Al)
  have hv_9 := Cu (j := x3.toNat) (y := ({ c7 with AQ := BT (x2 + (1:Int)) } : Al)) hb8
  refine pE (gn (A4 (pM (.int _ _) ?_)))
  refine AW ?_
  refine pA (.int _ _) (pE (bn (gn (A4 ?_))))
  refine pM (.int _ _) ?_
  refine AW ?_
  refine pA (.int _ _) (pE (gn ?_))
  cases hk; exact ⟨_, rfl, _, _, _, hFr, hO, sh⟩
 ·refine D3 (ge (ge (be (gn (have hk := lx hx1 hk; A1 (A4 (pM (.int _ _) ?_)))))))
  refine pA (.int _ _) (pE (gn (Aw ?_)))
  replace hk := Option.some.inj hk; subst hk; exact Qg hO 0 hFr hF
def Nd : ((List AG) × Int × Int) → Option (((List AG) × Int × Int) ⊕ (List AG × Int)) := fun s =>
 (bif decide (s.2.2 < (s.1.length : Int)) then ((AK s.1 s.2.2).bind fun c4 => ((AK (s.1.set s.2.2.toNat ({ c4 with State := s.2.1 })) s.2.2).bind fun c7 => ((AK ((s.1.set s.2.2.toNat ({ c4 with State := s.2.1 })).set s.2.2.toNat ({ c7 with Ab := BT (s.2.1 + (1:Int)) })) s.2.2).bind fun c10 => ((cU c10.Aa (BT ((BT (s.2.1 + (1:Int))) + (1:Int)))).bind fun z13 => ((AK (((s.1.set s.2.2.toNat ({ c4 with State := s.2.1 })).set s.2.2.toNat ({ c7 with Ab := BT (s.2.1 + (1:Int)) })).set s.2.2.toNat ({ c10 with Aa := z13.1 })) s.2.2).bind fun c14 => ((AK ((((s.1.set s.2.2.toNat ({ c4 with State := s.2.1 })).set s.2.2.toNat ({ c7 with Ab := BT (s.2.1 + (1:Int)) })).set s.2.2.toNat ({ c10 with Aa := z13.1 })).set s.2.2.toNat ({ c14 with Shown := ((Int.tmod z13.2 (3:Int)) == (0:Int)) })) s.2.2).bind fun c17 => some (.inl (((((s.1.set s.2.2.toNat ({ c4 with State := s.2.1 })).set s.2.2.toNat ({ c7 with Ab := BT (s.2.1 + (1:Int)) })).set s.2.2.toNat ({ c10 with Aa := z13.1 })).set s.2.2.toNat ({ c14 with Shown := ((Int.tmod z13.2 (3:Int)) == (0:Int)) })).set s.2.2.toNat ({ c17 with Timer := BT (z13.2 + (1:Int)) }), BT ((BT (z13.2 + (1:Int))) + (1:Int)), BT (s.2.2 + (1:Int)))))))))) else ((some (s.1, s.2.1)).map Sum.inr))
def gU (aA0 : List AG) (aK1 : Int) : Option (List AG × Int) :=
 (AJ (Nd) (aA0, aK1, (0:Int)))
theorem ZD {aA0 : List AG} {aK1 : Int} {r : (List AG × Int)} {v0 : V} {F0 : List Nat} (hk : gU aA0 aK1 = some r) (ha : CH H aA0 [v0] F0) (hF : ∀ b ∈ F0, b < H.length) (hS : ∀ b ∈ F0, AV lk b = true) (hlk : 0 < lk.length := by simp) : ∃ v H1, Am Tryz.prog hh 57 [v0, iv aK1] H lk = some (v, H1) ∧ v = iv r.2 ∧ CH H1 r.1 [v0] F0 ∧ H1.length = H.length ∧ ∀ b, b ∉ F0 → H1[b]? = H[b]? := by
 refine B0 Tryz.func57 rfl Tryz.ntmps57 Tryz.results57 rfl rfl ?_
 have hO := Dn ha hF
 have hFr := Bu.refl H F0
 unfold gU at hk
 refine A1 (A4 (pA (.int _ _) (pE (gn (A1 (A1 (A4 ?_)))))))
 refine pA (.int _ _) (pE (gn (BO ?_)))
 refine AA (F := Nd) (fun s S' => ∃ (J : Nat → V) (G : A3) (H1 : A3), Bu H H1 F0 ∧ A5 H1 G [AY F0 F0 s.1 [v0]] ∧ S' = ⟨CM [(0, v0), (1, iv s.2.1), (5, iv s.2.2)] J, G⟩) hk ⟨_, _, _, hFr, hO, sh⟩ ?_
 rintro ⟨x1, x2, x3⟩ _ y1 ⟨J, G, H1, hFr, hO, rfl⟩ hk hx1
 refine A1 (A1 (A4 (pM (.int _ _) ?_)))
 refine pM v0 ?_
 refine Ji hO 0 IJ ?_
 refine AW (pE (gn (Aq hk (fun hk => ?_) (fun hk => ?_))))
 ·refine Ar (gn (A1 (BO (A1 (A4 (pM v0 ?_))))))
  refine pM (.int _ _) ?_
  refine pM (.int _ _) (bk hk fun c4 hc4 hk => ?_)
  refine L7 hO 0 hc4 EJ Av (fun b5 hb5 => ?_)
  refine pF B8 ?_
  refine Yd BL (y' := x2) hO 0 hb5 hc4 DP (fun _ => ⟨rfl, rfl⟩) hFr hS rfl (fun H1 G hFr hO => ?_)
  have hc_6 := Bp hc4 ({ c4 with State := x2 } : AG)
  have hv_6 := Cu (j := x3.toNat) (y := ({ c4 with State := x2 } : AG)) hb5
  refine pE (gn (A1 (A4 (pM (.int _ _) ?_))))
  refine AW ?_
  refine pA (.int _ _) (pE (gn (A1 (A4 ?_))))
  refine pM v0 ?_
  refine pM (.int _ _) ?_
  refine pM (.int _ _) (bk hk fun c7 hc7 hk => ?_)
  refine L7 hO 0 hc7 EJ Av (fun b8 hb8 => ?_)
  refine pF Bw ?_
  refine Yd Bn (y' := (BT (x2 + (1:Int)))) hO 0 hb8 hc7 DP (fun _ => ⟨rfl, rfl⟩) hFr hS rfl (fun H1 G hFr hO => ?_)
  have hc_9 := Bp hc7 ({ c7 with Ab := BT (x2 + (1:Int)) } : AG)
  have hv_9 := Cu (j := x3.toNat) (y := ({ c7 with Ab := BT (x2 + (1:Int)) } : AG)) hb8
  refine pE (gn (A1 (A4 (pM (.int _ _) ?_))))
  refine AW ?_
  refine pA (.int _ _) (pE (gn (A1 (A4 ?_))))
  refine pM v0 ?_
  refine pM (.int _ _) (bk hk fun c10 hc10 hk => ?_)
  refine L7 hO 0 hc10 EJ Av (fun b11 hb11 => ?_)
  refine pF C3 ?_
  refine Tw Cb hO 0 hb11 hc10 C8 (fun u12 fs12 hs12 => ?_)
  refine pM (.int _ _) (bk hk fun z13 hz13 hk => ?_)
  refine Vl (y' := z13.1) (r := iv z13.2) hO 0 hs12 (fun _ h => h) hFr hS (fun hF1 hS1 ht1 => QX hz13 ht1 hF1 hS1) (fun H1 G hFr hO => ?_)
  refine pA (.int _ _) (pE (gn (A1 (A4 ?_))))
  refine pM v0 ?_
  refine pM (.int _ _) ?_
  refine pM (.int _ _) ?_
  refine AW ?_
  refine AW (bk hk fun c14 hc14 hk => ?_)
  refine L7 hO 0 hc14 EJ Av (fun b15 hb15 => ?_)
  refine pF Dm ?_
  refine Yd Gc (y' := ((Int.tmod z13.2 (3:Int)) == (0:Int))) hO 0 hb15 hc14 FO (fun _ => ⟨rfl, rfl⟩) hFr hS rfl (fun H1 G hFr hO => ?_)
  have hc_16 := Bp hc14 ({ c14 with Shown := ((Int.tmod z13.2 (3:Int)) == (0:Int)) } : AG)
  have hv_16 := Cu (j := x3.toNat) (y := ({ c14 with Shown := ((Int.tmod z13.2 (3:Int)) == (0:Int)) } : AG)) hb15
  refine pE (gn (A1 (A4 (pM (.int _ _) ?_))))
  refine AW ?_
  refine pA (.int _ _) (pE (gn (A1 (A4 ?_))))
  refine pM v0 ?_
  refine pM (.int _ _) ?_
  refine pM (.int _ _) (bk hk fun c17 hc17 hk => ?_)
  refine L7 hO 0 hc17 EJ Av (fun b18 hb18 => ?_)
  refine pF E5 ?_
  refine Yd Gd (y' := (BT (z13.2 + (1:Int)))) hO 0 hb18 hc17 DP (fun _ => ⟨rfl, rfl⟩) hFr hS rfl (fun H1 G hFr hO => ?_)
  have hc_19 := Bp hc17 ({ c17 with Timer := BT (z13.2 + (1:Int)) } : AG)
  have hv_19 := Cu (j := x3.toNat) (y := ({ c17 with Timer := BT (z13.2 + (1:Int)) } : AG)) hb18
  refine pE (gn (A4 (pM (.int _ _) ?_)))
  refine AW ?_
  refine pA (.int _ _) (pE (bn (gn (A4 ?_))))
  refine pM (.int _ _) ?_
  refine AW ?_
  refine pA (.int _ _) (pE (gn ?_))
  cases hk; exact ⟨_, rfl, _, _, _, hFr, hO, sh⟩
 ·refine D3 (ge (ge (be (gn (have hk := lx hx1 hk; A1 (A4 (pM (.int _ _) ?_)))))))
  refine pA (.int _ _) (pE (gn (Aw ?_)))
  replace hk := Option.some.inj hk; subst hk; exact Qg hO 0 hFr hF
def gC (aA0 : AD) (aK1 : Int) : Option (AD × Int) :=
 ((cU aA0.C5 aK1).bind fun z3 => ((gT (({ aA0 with C5 := z3.1 }).AF) z3.2).bind fun z5 => ((gU (({ { aA0 with C5 := z3.1 } with AF := z5.1 }).A7) z5.2).bind fun z7 => some ({ { { aA0 with C5 := z3.1 } with AF := z5.1 } with A7 := z7.1 }, z7.2))))
theorem Yu {aA0 : AD} {aK1 : Int} {r : (AD × Int)} {v0 : List V} {F0 : List Nat} (hk : gC aA0 aK1 = some r) (ha : CH H aA0 v0 F0) (hF : ∀ b ∈ F0, b < H.length) (hS : ∀ b ∈ F0, AV lk b = true) (hlk : 0 < lk.length := by simp) : ∃ v H1, Am Tryz.prog hh 16 [.agg v0, iv aK1] H lk = some (v, H1) ∧ v = iv r.2 ∧ CH H1 r.1 v0 F0 ∧ H1.length = H.length ∧ ∀ b, b ∉ F0 → H1[b]? = H[b]? := by
 refine B0 Tryz.func16 rfl Tryz.ntmps16 Tryz.results16 rfl rfl ?_
 have hO := Dn ha hF
 have hFr := Bu.refl H F0
 unfold gC at hk
 refine A1 (A4 (bE hO 0 Bv (fun b1 G hO => ?_)))
 refine pA (.int _ _) (pE (gn (A1 (A4 ?_))))
 refine pF Cm ?_
 refine Vm P3 hO 0 1 C8 (fun u2 fs2 hs2 => ?_)
 refine pM (.int _ _) (bk hk fun z3 hz3 hk => ?_)
 refine Vl (y' := z3.1) (r := iv z3.2) hO 1 hs2 (fun _ h => h) hFr hS (fun hF1 hS1 ht1 => QX hz3 ht1 hF1 hS1) (fun H1 G hFr hO => ?_)
 refine pA (.int _ _) (pE (gn (A1 (A4 ?_))))
 refine pF Db ?_
 refine Vm LU hO 0 1 JD (fun u4 fs4 hs4 => ?_)
 refine pM (.int _ _) (bk hk fun z5 hz5 hk => ?_)
 refine Vl (y' := z5.1) (r := iv z5.2) hO 1 hs4 (fun _ h => h) hFr hS (fun hF1 hS1 ht1 => ZC hz5 ht1 hF1 hS1) (fun H1 G hFr hO => ?_)
 refine pA (.int _ _) (pE (gn (A1 (A4 ?_))))
 refine pF Bd ?_
 refine Vm O1 hO 0 1 Dv (fun u6 fs6 hs6 => ?_)
 refine pM (.int _ _) (bk hk fun z7 hz7 hk => ?_)
 refine Vl (y' := z7.1) (r := iv z7.2) hO 1 hs6 (fun _ h => h) hFr hS (fun hF1 hS1 ht1 => ZD hz7 ht1 hF1 hS1) (fun H1 G hFr hO => ?_)
 refine pA (.int _ _) (pE (gn (A1 (A4 ?_))))
 refine pM (.int _ _) ?_
 refine pA (.int _ _) (pE (gn (Aw ?_)))
 replace hk := Option.some.inj hk; subst hk; exact Qg hO 1 hFr hF
def NK (aA0 : List Int) : (Int × Int) → Option ((Int × Int) ⊕ Int) := fun s =>
 (bif decide (s.2 < (aA0.length : Int)) then ((AK aA0 s.2).bind fun c3 => (bif (c3 != s.1) then ((some (-1:Int)).map Sum.inr) else some (.inl (BT (s.1 + (1:Int)), BT (s.2 + (1:Int)))))) else ((some s.1).map Sum.inr))
def eW (aA0 : List Int) (aK1 : Int) : Option Int :=
 (AJ (NK aA0) (aK1, (0:Int)))
theorem UX {aA0 : List Int} {aK1 : Int} {r : Int} {l1 : Nat} (hk : eW aA0 aK1 = some r) (hlk : 0 < lk.length := by simp) : Am Tryz.prog hh 18 [AN l1 0 aA0, iv aK1] H lk = some (iv r, H) := by
 refine AI Tryz.func18 rfl Tryz.ntmps18 Tryz.results18 rfl rfl fun hO => ?_
 unfold eW at hk
 refine A1 (A4 (pA (.int _ _) (pE (gn (A1 (A1 (A4 ?_)))))))
 refine pA (.int _ _) (pE (gn (BO ?_)))
 refine AA (F := NK aA0) (fun s S' => ∃ (J : Nat → V) (G : A3), A5 H G [] ∧ S' = ⟨CM [(0, AN l1 0 aA0), (1, iv s.1), (5, iv s.2)] J, G⟩) hk ⟨_, _, hO, sh⟩ ?_
 rintro ⟨x1, x2⟩ _ y1 ⟨J, G, hO, rfl⟩ hk hx1
 refine A1 (A1 (A4 (pM (.int _ _) ?_)))
 refine pM (.lit _ _ _) ?_
 refine Af D5 ?_
 refine AW (pE (gn (Aq hk (fun hk => ?_) (fun hk => ?_))))
 ·refine Ar (gn (A1 (BO (A1 (A1 (A4 (pM (.lit _ _ _) ?_)))))))
  refine pM (.int _ _) (bk hk fun c3 hc3 hk => ?_)
  refine pX hc3 C4 DP ?_
  refine Br (.int _ _) (D4 (lm := 0) (off := 0) hc3 BU) ?_
  refine pM (.int _ _) ?_
  refine AW (pE (gn (Aq hk (fun hk => ?_) (fun hk => ?_))))
  ·refine A1 (A4 (pA (.int _ _) (pE (gn (Aw (gr (br (gr (gr (br (gr (have hk := lx hx1 hk; ?_))))))))))))
   cases hk; exact AT hO
  ·refine Ar (gn (A4 (pM (.int _ _) ?_)))
   refine AW ?_
   refine pA (.int _ _) (pE (bn (gn (A4 ?_))))
   refine pM (.int _ _) ?_
   refine AW ?_
   refine pA (.int _ _) (pE (gn ?_))
   cases hk; exact ⟨_, rfl, _, _, hO, sh⟩
 ·refine D3 (ge (ge (be (gn (have hk := lx hx1 hk; A1 (A4 (pM (.int _ _) ?_)))))))
  refine pA (.int _ _) (pE (gn (Aw ?_)))
  cases hk; exact AT hO
def f3 (aAP0 : AP) (aAF1 : AD) (aAPoint2 : Int) : Option Bool :=
 ((f6 aAP0 (1048576:Int)).bind fun v3 => (bif decide (v3 < (0:Int)) then some true else ((f7 aAF1 v3).bind fun v4 => (bif decide (v4 < (0:Int)) then some true else ((f9 aAP0).bind fun v5 => ((aS aAF1).bind fun v7 => ((f8 v5 v7 aAPoint2).bind fun v9 => ((f9 aAP0).bind fun v12 => ((aS aAF1).bind fun v15 => ((eV v12 v15 aAPoint2).bind fun v18 => ((Wg v18 v9).bind fun v22 => (bif !v22 then some false else ((f9 aAP0).bind fun v24 => ((fZ v12 v24).bind fun v26 => (bif !v26 then some false else ((aS aAF1).bind fun v29 => ((gA v15 v29).bind fun v31 => (bif !v31 then some false else ((gB v12 (1:Int)).bind fun z34 => ((gC v15 z34.2).bind fun z35 => ((bif decide (z35.2 < (0:Int)) then some true else ((Wg v18 v9).bind fun v37 => some (!v37))).bind fun t36 => (bif t36 then some false else ((Yv v18 (1:Int)).bind fun z39 => ((eW z39.1 (1:Int)).bind fun v40 => (bif decide (v40 < (0:Int)) then some false else (bif (v40 != z39.2) then some false else ((f9 aAP0).bind fun v42 => ((aS aAF1).bind fun v44 => ((eV v42 v44 aAPoint2).bind fun v46 => ((Wg v46 v9).bind fun v50 => (bif !v50 then some false else ((eW z39.1 (1:Int)).bind fun v52 => (bif decide (v52 < (0:Int)) then some false else (bif (v52 != z39.2) then some false else some true))))))))))))))))))))))))))))))))))
theorem cJ {aAP0 : AP} {aAF1 : AD} {aAPoint2 : Int} {r : Bool} {l1 l2 m3 l4 m5 l6 l7 l8 m9 : Nat} (hk : f3 aAP0 aAF1 aAPoint2 = some r) (hlk : 0 < lk.length := by simp) (hlo : E9 lk H.length := by simp [E9]) : Am Tryz.prog hh 3 [.agg (Ai l1 0 l2 m3 l4 m5 aAP0), .agg (Ah l6 0 l7 0 l8 m9 aAF1), iv aAPoint2] H lk = some (.bool r, H) := by
 refine AI Tryz.func3 rfl Tryz.ntmps3 Tryz.results3 rfl rfl fun hO => ?_
 unfold f3 at hk
 refine A1 (A4 (BZ (cs := [_, _, _, _, _]) hO SX (fun b1 G hO => ?_)))
 refine BZ (cs := [_, _, _, _]) hO SY (fun b2 G hO => ?_)
 refine pA (.bool _) (pE (gn (A1 (A4 ?_))))
 refine pA (.int _ _) (pE (gn (A1 (A4 ?_))))
 refine E4 hO 1 [_, _, _, _, _] Y7 SX ?_
 refine pM (.int _ _) (bk hk fun v3 hv3 hk => ?_)
 refine AR (fun _ => cW hv3) ?_
 refine pA (.int _ _) (pE (gn (A1 (A1 (A4 ?_)))))
 refine pM (.int _ _) ?_
 refine AW (pE (gn (Aq hk (fun hk => ?_) (fun hk => ?_))))
 ·refine A1 (A4 (pA (.bool _) (pE (gn (Aw (gr ?_))))))
  cases hk; exact AT hO
 ·refine Ar (gn (A1 (A4 (E4 hO 0 [_, _, _, _] Y8 SY ?_))))
  refine pM (.int _ _) (bk hk fun v4 hv4 hk => ?_)
  refine AR (fun _ => dD hv4) ?_
  refine pA (.int _ _) (pE (gn (A1 (A1 (A4 ?_)))))
  refine pM (.int _ _) ?_
  refine AW (pE (gn (Aq hk (fun hk => ?_) (fun hk => ?_))))
  ·refine A1 (A4 (pA (.bool _) (pE (gn (Aw (gr ?_))))))
   cases hk; exact AT hO
  ·refine Ar (gn (A1 (BC [(0, true), (2, true), (4, true), (1, true), (3, false), (5, false), (6, false)] [_, _, _, _, _, _, _] (by decide +kernel) (by rfl) ?_)))
   refine E4 hO 1 [_, _, _, _, _] Y7 SX ?_
   refine E4 hO 0 [_, _, _, _] Y8 SY ?_
   refine pM (.int _ _) (bk hk fun v5 hv5 hk => ?_)
   refine Lj hO (fun _ => Qf hv5) (fun u6 F6 G hO => bk hk fun v7 hv7 hk => ?_)
   refine Lj hO (fun _ => Ma hv7) (fun u8 F8 G hO => bk hk fun v9 hv9 hk => ?_)
   obtain ⟨_, hm10⟩ := Km hO (j := 1) rfl (lk.length + 1) 7
   obtain ⟨_, hm11⟩ := Iy hO (j := 0) rfl (lk.length + 1) 7
   refine RA (vs := [(.agg u6), (.agg u8), (.int _ _)]) (caps := []) hO hlo rfl (fun _ hl => dI hv9 (hlo := hl)) ?_ (h3 := (BH hm10 (BH hm11 (BH rfl EF))))
   refine pA (.lit _ _ _) (pE (gn (A1 (A4 ?_))))
   refine E4 hO 3 [_, _, _, _, _] Y7 SX (bk hk fun v12 hv12 hk => ?_)
   refine Lj hO (fun _ => Qf hv12) (fun u13 F13 G hO => CK hO CC eE (fun b14 G hO => ?_))
   refine j7 hO 0 1 CC rfl (fun G hO => pE (gn (A1 (A4 ?_))))
   refine E4 hO 4 [_, _, _, _] Y8 SY (bk hk fun v15 hv15 hk => ?_)
   refine Lj hO (fun _ => Ma hv15) (fun u16 F16 G hO => CK hO Bv RM (fun b17 G hO => ?_))
   refine j7 hO 0 1 Bv rfl (fun G hO => pE (gn (A1 (A4 ?_))))
   refine Vn hO 2 3 FB CC ?_
   refine Vn hO 0 1 Ep Bv ?_
   refine pM (.int _ _) (bk hk fun v18 hv18 hk => ?_)
   obtain ⟨_, hm19⟩ := Km hO (j := 3) rfl (lk.length + 1) 7
   obtain ⟨_, hm20⟩ := Iy hO (j := 1) rfl (lk.length + 1) 7
   refine iS (vs := [(.agg u13), (.agg u16), (.int _ _)]) (caps := []) hO hlo rfl (fun _ hl => UW hv18 (hlo := hl)) (fun u21 F21 G hO => ?_) (h3 := (BH hm19 (BH hm20 (BH rfl EF))))
   refine pA u21 (pE (gn (A1 (A1 (A4 ?_)))))
   refine pM u21 ?_
   refine pM (.lit _ _ _) (bk hk fun v22 hv22 hk => ?_)
   obtain ⟨_, hm23⟩ := Fb hO (j := 0) rfl (lk.length + 1) 8
   refine AR (vs := [u21, (.lit _ _ _)]) (caps := []) (fun _ => I0 hv22) ?_ (h3 := (BH hm23 (BH rfl EF)))
   refine pU (pE (gn (Aq hk (fun hk => ?_) (fun hk => ?_))))
   ·refine A1 (A4 (pA (.bool _) (pE (gn (Aw (gr ?_))))))
    cases hk; exact AT hO
   ·refine Ar (gn (A1 (A1 (BC [(0, true), (1, true), (2, true), (3, false), (4, false)] [_, _, _, _, _] (by decide +kernel) (by rfl) ?_))))
    refine Vn hO 3 4 FB CC ?_
    refine E4 hO 8 [_, _, _, _, _] Y7 SX (bk hk fun v24 hv24 hk => ?_)
    refine Lj hO (fun _ => Qf hv24) (fun u25 F25 G hO => bk hk fun v26 hv26 hk => ?_)
    obtain ⟨_, hm27⟩ := Km hO (j := 5) rfl (lk.length + 1) 7
    obtain ⟨_, hm28⟩ := Km hO (j := 0) rfl (lk.length + 1) 7
    refine AR (vs := [(.agg u13), (.agg u25)]) (caps := []) (fun _ => Yr hv26) ?_ (h3 := (BH hm27 (BH hm28 EF)))
    refine pU (pE (gn (Aq hk (fun hk => ?_) (fun hk => ?_))))
    ·refine A1 (A4 (pA (.bool _) (pE (gn (Aw (gr ?_))))))
     cases hk; exact AT hO
    ·refine Ar (gn (A1 (A1 (BC [(0, true), (1, true), (2, true), (3, false), (4, false)] [_, _, _, _, _] (by decide +kernel) (by rfl) ?_))))
     refine Vn hO 2 3 Ep Bv ?_
     refine E4 hO 8 [_, _, _, _] Y8 SY (bk hk fun v29 hv29 hk => ?_)
     refine Lj hO (fun _ => Ma hv29) (fun u30 F30 G hO => bk hk fun v31 hv31 hk => ?_)
     obtain ⟨_, hm32⟩ := Iy hO (j := 4) rfl (lk.length + 1) 7
     obtain ⟨_, hm33⟩ := Iy hO (j := 0) rfl (lk.length + 1) 7
     refine AR (vs := [(.agg u16), (.agg u30)]) (caps := []) (fun _ => Ys hv31) ?_ (h3 := (BH hm32 (BH hm33 EF)))
     refine pU (pE (gn (Aq hk (fun hk => ?_) (fun hk => ?_))))
     ·refine A1 (A4 (pA (.bool _) (pE (gn (Aw (gr ?_))))))
      cases hk; exact AT hO
     ·refine Ar (gn (A1 (A4 (pA (.int _ _) (pE (gn (A1 (A4 ?_))))))))
      refine Vn hO 5 6 FB CC ?_
      refine pM (.int _ _) (bk hk fun z34 hz34 hk => ?_)
      refine dY (y' := z34.1) (r := iv z34.2) hO 6 (So.all hO (j := 6) rfl) hlo (fun hF1 hS1 ht1 => Yt hz34 ht1 hF1 hS1) (fun G hO => ?_)
      refine pA (.int _ _) (pE (gn (A1 (A4 ?_))))
      refine Vn hO 3 4 Ep Bv ?_
      refine pM (.int _ _) (bk hk fun z35 hz35 hk => ?_)
      refine dY (y' := z35.1) (r := iv z35.2) hO 4 (So.all hO (j := 4) rfl) hlo (fun hF1 hS1 ht1 => Yu hz35 ht1 hF1 hS1) (fun G hO => ?_)
      refine pA (.int _ _) (pE (gn (A1 (A1 (A4 ?_)))))
      refine pM (.int _ _) ?_
      refine AW ?_
      refine pM (.bool _) (bk hk fun t36 ht hk => ?_)
      refine AS (l1 := [_, _, _, _, _]) [63, 64, 65, 66, 67] 67 (.bool t36) ?_ ?_
      ·refine bc (b := decide (z35.2 < (0:Int))) (fun hg => ?_) (fun hg => ?_)
       ·replace hk := ct hg ht
        refine AE hg (AE hg (AE hg (AE hg (Cr hg (.bool _) ?_))))
        cases hk; exact pE ek
       ·replace hk := cf hg ht
        refine AB hg (pM u21 (AB hg ?_))
        refine pM (.lit _ _ _) (AB hg (bk hk fun v37 hv37 hk => ?_))
        obtain ⟨_, hm38⟩ := Fb hO (j := 2) rfl (lk.length + 1) 8
        refine AR (vs := [u21, (.lit _ _ _)]) (caps := []) (fun _ => I0 hv37) ?_ (h3 := (BH hm38 (BH rfl EF)))
        refine AB hg (pU ?_)
        refine Cq hg (.bool _) ?_
        cases hk; exact pE ek
      ·intro J
       refine pE (gn (Aq hk (fun hk => ?_) (fun hk => ?_)))
       ·refine A1 (A4 (pA (.bool _) (pE (gn (Aw (gr ?_))))))
        cases hk; exact AT hO
       ·refine Ar (gn (A1 (A4 (pA (.int _ _) (pE (gn (A1 (A4 ?_))))))))
        refine pM u21 ?_
        refine pM (.int _ _) (bk hk fun z39 hz39 hk => ?_)
        refine dY (y' := z39.1) (r := iv z39.2) hO 2 (So.all hO (j := 2) rfl) hlo (fun hF1 hS1 ht1 => KS hz39 ht1 hF1 hS1) (fun G hO => ?_)
        refine pA (.int _ _) (pE (gn (A1 (A4 ?_))))
        refine pA (.int _ _) (pE (gn (A1 (A4 ?_))))
        refine pM u21 ?_
        refine pM (.int _ _) (bk hk fun v40 hv40 hk => ?_)
        obtain ⟨_, hm41⟩ := Fb hO (j := 2) rfl (lk.length + 1) 8
        refine AR (vs := [u21, (.int _ _)]) (caps := []) (fun _ => UX hv40) ?_ (h3 := (BH hm41 (BH rfl EF)))
        refine pA (.int _ _) (pE (gn (A1 (A1 (A4 ?_)))))
        refine pM (.int _ _) ?_
        refine AW (pE (gn (Aq hk (fun hk => ?_) (fun hk => ?_))))
        ·refine A1 (A4 (pA (.bool _) (pE (gn (Aw (gr ?_))))))
         cases hk; exact AT hO
        ·refine Ar (gn (A1 (A1 (A4 (pM (.int _ _) ?_)))))
         refine pM (.int _ _) ?_
         refine AW (pE (gn (Aq hk (fun hk => ?_) (fun hk => ?_))))
         ·refine A1 (A4 (pA (.bool _) (pE (gn (Aw (gr ?_))))))
          cases hk; exact AT hO
         ·refine Ar (gn (A1 (BC [(0, true), (2, true), (4, true), (1, true), (3, false), (5, false), (6, false)] [_, _, _, _, _, _, _] (by decide +kernel) (by rfl) ?_)))
          refine E4 hO 10 [_, _, _, _, _] Y7 SX ?_
          refine E4 hO 9 [_, _, _, _] Y8 SY ?_
          refine pM (.int _ _) (bk hk fun v42 hv42 hk => ?_)
          refine Lj hO (fun _ => Qf hv42) (fun u43 F43 G hO => bk hk fun v44 hv44 hk => ?_)
          refine Lj hO (fun _ => Ma hv44) (fun u45 F45 G hO => bk hk fun v46 hv46 hk => ?_)
          obtain ⟨_, hm47⟩ := Km hO (j := 1) rfl (lk.length + 1) 7
          obtain ⟨_, hm48⟩ := Iy hO (j := 0) rfl (lk.length + 1) 7
          refine iS (vs := [(.agg u43), (.agg u45), (.int _ _)]) (caps := []) hO hlo rfl (fun _ hl => UW hv46 (hlo := hl)) (fun u49 F49 G hO => ?_) (h3 := (BH hm47 (BH hm48 (BH rfl EF))))
          refine pA u49 (pE (gn (A1 (A1 (A4 ?_)))))
          refine pM u49 ?_
          refine pM (.lit _ _ _) (bk hk fun v50 hv50 hk => ?_)
          obtain ⟨_, hm51⟩ := Fb hO (j := 0) rfl (lk.length + 1) 8
          refine AR (vs := [u49, (.lit _ _ _)]) (caps := []) (fun _ => I0 hv50) ?_ (h3 := (BH hm51 (BH rfl EF)))
          refine pU (pE (gn (Aq hk (fun hk => ?_) (fun hk => ?_))))
          ·refine A1 (A4 (pA (.bool _) (pE (gn (Aw (gr ?_))))))
           cases hk; exact AT hO
          ·refine Ar (gn (A1 (A4 (pA (.int _ _) (pE (gn (A1 (A4 ?_))))))))
           refine pM u21 ?_
           refine pM (.int _ _) (bk hk fun v52 hv52 hk => ?_)
           obtain ⟨_, hm53⟩ := Fb hO (j := 5) rfl (lk.length + 1) 8
           refine AR (vs := [u21, (.int _ _)]) (caps := []) (fun _ => UX hv52) ?_ (h3 := (BH hm53 (BH rfl EF)))
           refine pA (.int _ _) (pE (gn (A1 (A1 (A4 ?_)))))
           refine pM (.int _ _) ?_
           refine AW (pE (gn (Aq hk (fun hk => ?_) (fun hk => ?_))))
           ·refine A1 (A4 (pA (.bool _) (pE (gn (Aw (gr ?_))))))
            cases hk; exact AT hO
           ·refine Ar (gn (A1 (A1 (A4 (pM (.int _ _) ?_)))))
            refine pM (.int _ _) ?_
            refine AW (pE (gn (Aq hk (fun hk => ?_) (fun hk => ?_))))
            ·refine A1 (A4 (pA (.bool _) (pE (gn (Aw (gr ?_))))))
             cases hk; exact AT hO
            ·refine Ar (gn (A1 (A4 (pA (.bool _) (pE (gn (Aw ?_)))))))
             cases hk; exact AT hO
def TH (x10 : Int) (x11 : List Int) (x13 : Int) : Option (((List Int) × Int × Int) ⊕ (Cy × Int)) :=
 some (.inl (x11, x13, BT (x10 + (1:Int))))
def QZ (x32 : Int) (x33 : List Int) (x35 : List Int) (x37 : Int) : Option (((List Int) × (List Int) × Int × Int) ⊕ (Cy × Int)) :=
 some (.inl (x33, x35, x37, BT (x32 + (1:Int))))
def LK (x52 : Int) (x53 : List Int) (x55 : List Int) (x57 : List Int) (x59 : Int) : Option (((List Int) × (List Int) × (List Int) × Int × Int) ⊕ (Cy × Int)) :=
 some (.inl (x53, x55, x57, x59, BT (x52 + (1:Int))))
def TI (x76 : Int) (x77 : List Int) (x79 : List Int) (x81 : List Int) (x83 : Int) : Option (((List Int) × (List Int) × (List Int) × Int × Int) ⊕ (((List Int) × (List Int) × (List Int) × Int × Int) ⊕ (((List Int) × (List Int) × (List Int) × Int × Int) ⊕ (Cy × Int)))) :=
 some (.inl (x77, x79, x81, x83, BT (x76 + (1:Int))))
def X9 (x52 : Int) (x67 : Int) (c68 : List Ae) : ((List Int) × (List Int) × (List Int) × Int × Int) → Option (((List Int) × (List Int) × (List Int) × Int × Int) ⊕ (((List Int) × (List Int) × (List Int) × Int × Int) ⊕ (((List Int) × (List Int) × (List Int) × Int × Int) ⊕ (Cy × Int)))) := fun s =>
 (bif decide (s.2.2.2.2 < (c68.length : Int)) then ((AK c68 s.2.2.2.2).bind fun c84 => (bif (c84.Switch == x52) then (TI s.2.2.2.2 s.1 s.2.1 s.2.2.1 c84.FC) else (TI s.2.2.2.2 s.1 s.2.1 s.2.2.1 s.2.2.2.1))) else ((some (.inl (s.1, s.2.1, s.2.2.1, s.2.2.2.1, BT (x67 + (1:Int))))).map Sum.inr))
def X8 (aP0 : AP) (aF1 : AD) (c5 : Bq) (x51 : Int) (x52 : Int) : ((List Int) × (List Int) × (List Int) × Int × Int) → Option (((List Int) × (List Int) × (List Int) × Int × Int) ⊕ (((List Int) × (List Int) × (List Int) × Int × Int) ⊕ (Cy × Int))) := fun s =>
 (bif decide (s.2.2.2.2 < (([c5.AQ, c5.AH] : List (List Ae)).length : Int)) then ((AK ([c5.AQ, c5.AH] : List (List Ae)) s.2.2.2.2).bind fun c68 => (AJ (X9 x52 s.2.2.2.2 c68) (s.1, s.2.1, s.2.2.1, s.2.2.2.1, (0:Int)))) else (((bif (s.2.2.2.1 == (0:Int)) then some true else ((AK aF1.AF x52).bind fun c87 => some (s.2.2.2.1 == c87.Want))).bind fun t86 => (bif t86 then (LK x52 s.1 s.2.1 s.2.2.1 x51) else ((eX aP0 aF1 x52).bind fun v88 => (bif decide ((v88.length : Int) > (0:Int)) then ((DC 8 s.2.2.1 ([x52] : List Int)).bind fun z89 => (LK x52 s.1 s.2.1 z89 (5:Int))) else ((AK aP0.A6 x52).bind fun c91 => ((AK aF1.C5 c91).bind fun c92 => (bif c92 then ((DC 8 s.2.2.1 ([x52] : List Int)).bind fun z93 => (bif (x51 == (0:Int)) then (LK x52 s.1 s.2.1 z93 (6:Int)) else (LK x52 s.1 s.2.1 z93 x51))) else (LK x52 s.1 s.2.1 s.2.2.1 x51)))))))).map Sum.inr))
def QY (x95 : List Int) (x97 : List Int) (x99 : List Int) (x101 : Int) : Option (Cy × Int) :=
 some (({ A7 := x95, A0 := x97, AF := x99 } : Cy), x101)
def X7 (aP0 : AP) (aF1 : AD) (c5 : Bq) (x31 : Int) : ((List Int) × (List Int) × (List Int) × Int × Int) → Option (((List Int) × (List Int) × (List Int) × Int × Int) ⊕ (Cy × Int)) := fun s =>
 (bif decide (s.2.2.2.2 < (aP0.A6.length : Int)) then (AJ (X8 aP0 aF1 c5 s.2.2.2.1 s.2.2.2.2) (s.1, s.2.1, s.2.2.1, (0:Int), (0:Int))) else ((bif (x31 == (0:Int)) then (QY s.1 s.2.1 s.2.2.1 s.2.2.2.1) else (QY s.1 s.2.1 s.2.2.1 x31)).map Sum.inr))
def X6 (aP0 : AP) (aF1 : AD) (c5 : Bq) : ((List Int) × (List Int) × Int × Int) → Option (((List Int) × (List Int) × Int × Int) ⊕ (Cy × Int)) := fun s =>
 (bif decide (s.2.2.2 < aP0.A0) then ((AK aF1.C5 s.2.2.2).bind fun c38 => ((bif c38 then ((XE ([s.2.2.2] : List Int) c5.A0).bind fun v40 => ((bif v40 then some true else ((XE ([s.2.2.2] : List Int) c5.Bt).bind fun v42 => some v42)).bind fun t41 => some t41)) else some false).bind fun t39 => (bif t39 then ((DC 8 s.2.1 ([s.2.2.2] : List Int)).bind fun z43 => (bif (s.2.2.1 == (0:Int)) then (QZ s.2.2.2 s.1 z43 (4:Int)) else (QZ s.2.2.2 s.1 z43 s.2.2.1))) else (QZ s.2.2.2 s.1 s.2.1 s.2.2.1)))) else ((AJ (X7 aP0 aF1 c5 s.2.2.1) (s.1, s.2.1, ([] : List Int), (0:Int), (0:Int))).map Sum.inr))
def X5 (aP0 : AP) (aF1 : AD) (aWay2 : Int) (c5 : Bq) : ((List Int) × Int × Int) → Option (((List Int) × Int × Int) ⊕ (Cy × Int)) := fun s =>
 (bif decide (s.2.2 < (aP0.A7.length : Int)) then ((bif (s.2.2 != aWay2) then ((AK aF1.A7 s.2.2).bind fun c15 => some (c15.State != (0:Int))) else some false).bind fun t14 => ((bif t14 then ((AK aP0.BV aWay2).bind fun c17 => ((AK c17 s.2.2).bind fun c18 => ((bif c18 then some true else ((AK aP0.A7 s.2.2).bind fun c20 => ((XE c5.A0 c20.Bt).bind fun v21 => some v21))).bind fun t19 => ((bif t19 then some true else ((AK aP0.A7 s.2.2).bind fun c23 => ((XE c5.Bt c23.A0).bind fun v24 => some v24))).bind fun t22 => some t22)))) else some false).bind fun t16 => (bif t16 then ((DC 8 s.1 ([s.2.2] : List Int)).bind fun z25 => (TH s.2.2 z25 (3:Int))) else (TH s.2.2 s.1 s.2.1)))) else ((AJ (X6 aP0 aF1 c5) (s.1, ([] : List Int), s.2.1, (0:Int))).map Sum.inr))
def kU (aP0 : AP) (aF1 : AD) (aWay2 : Int) : Option (Cy × Int) :=
 ((AK aP0.A7 aWay2).bind fun c5 => (AJ (X5 aP0 aF1 aWay2 c5) (([] : List Int), (0:Int), (0:Int))))
theorem ZE {aP0 : AP} {aF1 : AD} {aWay2 : Int} {r : (Cy × Int)} {l1 l2 m3 l4 m5 l6 l7 l8 m9 : Nat} (hk : kU aP0 aF1 aWay2 = some r) (hlk : 0 < lk.length := by simp) : Am Tryz.prog hh 58 [.agg (Ai l1 0 l2 m3 l4 m5 aP0), .agg (Ah l6 0 l7 0 l8 m9 aF1), iv aWay2] H lk = some (.Fl [.agg [AN 0 0 r.1.A7, AN 0 0 r.1.A0, AN 0 0 r.1.AF], iv r.2], H) := by
 refine AI Tryz.func58 rfl Tryz.ntmps58 Tryz.results58 rfl rfl fun hO => ?_
 unfold kU at hk
 refine A1 (A4 (BZ (cs := [_, _, _, _, _]) hO CC (fun b1 G hO => ?_)))
 refine BZ (cs := [_, _, _, _]) hO Bv (fun b2 G hO => CK hO Ky W0 (fun b3 G hO => ?_))
 refine pA (.int _ _) (pE (gn (A1 (A4 (CK hO Ky W0 (fun b4 G hO => pE (gn (A1 (A4 ?_)))))))))
 refine pA (.int _ _) (pE (gn (A1 (A4 ?_))))
 refine As Bl hO 3 (.lit _ _ _) Du ?_
 refine pM (.int _ _) (bk hk fun c5 hc5 hk => ?_)
 refine pX hc5 Er Az ?_
 refine Br (.agg [_, _, _, _, _]) (G8 (lm := m3) (off := 0) hc5 Ew Az) (CK hO Az IU (fun b6 G hO => ?_))
 refine Cs (xs := [_, _, _, _, _]) hO 0 Az rfl (fun G hO => pE (gn (A1 (A1 (A4 ?_)))))
 refine As Bl hO 4 (.lit _ _ _) Du ?_
 refine Af IZ ?_
 refine pM (.int _ _) (pE (gn (BO ?_)))
 refine AA (F := X5 aP0 aF1 aWay2 c5) (fun s S' => ∃ (o7 : V) (J : Nat → V) (G : A3), A5 H G [.Ad b6 (.cells 5 (Cn m3 0 m3 0 m3 0 m3 0 m3 0 c5)), .own o7 lk.length 1 s.1.length (A8 0 s.1), .Ad b4 (.cells 3 [o7, (.tl 0 []), (.tl 0 [])]), .Ad b3 (.cells 3 [(.tl 0 []), (.tl 0 []), (.tl 0 [])]), .Ad b2 (.cells 4 (Ah l6 0 l7 0 l8 m9 aF1)), .Ad b1 (.cells 5 (Ai l1 0 l2 m3 l4 m5 aP0))] ∧ S' = ⟨CM [(2, iv aWay2), (3, .ptr b1 0), (4, .ptr b2 0), (6, .ptr b3 0), (8, .ptr b4 0), (9, iv s.2.1), (10, .ptr b6 0), (27, iv (aP0.A7.length : Int)), (28, iv s.2.2)] J, G⟩) hk ⟨(.tl 0 []), _, _, (A5.pick (A5.Gt hO lk.length ([] : List Int)) [1, 0, 2, 3, 4, 5] (by decide) rfl), sh⟩ ?_
 rintro ⟨x7, x9, x10⟩ _ y1 ⟨o7, J, G, hO, rfl⟩ hk hx1
 refine A1 (A4 (AW (pE (gn (A1 (Aq hk (fun hk => ?_) (fun hk => ?_)))))))
 ·refine Ar (gn (CQ (fun S' => ∃ (x11 : List Int) (x13 : Int) (o11 : V) (J : Nat → V) (G : A3), TH x10 x11 x13 = some y1 ∧ A5 H G [.Ad b6 (.cells 5 (Cn m3 0 m3 0 m3 0 m3 0 m3 0 c5)), .own o11 lk.length 1 x11.length (A8 0 x11), .Ad b4 (.cells 3 [o11, (.tl 0 []), (.tl 0 [])]), .Ad b3 (.cells 3 [(.tl 0 []), (.tl 0 []), (.tl 0 [])]), .Ad b2 (.cells 4 (Ah l6 0 l7 0 l8 m9 aF1)), .Ad b1 (.cells 5 (Ai l1 0 l2 m3 l4 m5 aP0))] ∧ S' = ⟨CM [(2, iv aWay2), (3, .ptr b1 0), (4, .ptr b2 0), (6, .ptr b3 0), (8, .ptr b4 0), (9, iv x13), (10, .ptr b6 0), (27, iv (aP0.A7.length : Int)), (28, iv x10)] J, G⟩) ?_ ?_))
  ·refine BO (A1 (A4 (pM (.int _ _) ?_)))
   refine pA (.int _ _) (pE (gn (A1 ?_)))
   refine BC [(0, false), (1, false), (2, false), (3, false), (4, false), (5, true), (6, true), (7, false), (8, false), (9, true), (10, false), (11, false), (12, false), (13, false), (14, true), (15, true), (16, false), (17, true), (18, true), (19, false), (20, true), (21, false), (22, true), (23, true), (24, true), (25, true), (26, true), (27, true), (28, true), (29, true), (30, false), (31, false), (32, false), (33, true), (34, true), (35, true), (36, true), (37, true), (38, true), (39, true), (40, true), (41, false), (42, false), (43, false)] [_, _, _, _, _, _, _, _, _, _, _, _, _, _, _, _, _, _, _, _, _, _, _, _, _, _, _, _, _, _, _, _, _, _, _, _, _, _, _, _, _, _, _, _] (by decide +kernel) (by rfl) ?_
   refine pM (.int _ _) ?_
   refine pM (.int _ _) ?_
   refine AW ?_
   refine pM (.bool _) (bk hk fun t14 ht hk => ?_)
   refine AS (l1 := [_, _, _, _, _, _, _, _]) [35, 36, 37, 38, 39, 40, 41, 42] 42 (.bool t14) ?_ ?_
   ·refine bc (b := (x10 != aWay2)) (fun hg => ?_) (fun hg => ?_)
    ·replace hk := ct hg ht
     refine AB hg (pF Bd (AB hg ?_))
     refine CN hO 4 (.lit _ _ _) Dv (AB hg ?_)
     refine pM (.int _ _) (AB hg (bk hk fun c15 hc15 hk => ?_))
     refine pX hc15 EJ Av (AB hg ?_)
     refine pF B8 (AB hg ?_)
     refine Br (.int _ _) (D4 (lm := m9) (off := 0) hc15 BU) (AB hg ?_)
     refine AW ?_
     refine Cr hg (.bool _) ?_
     cases hk; exact pE ek
    ·replace hk := cf hg ht
     refine AE hg (AE hg (AE hg (AE hg (AE hg (AE hg (AE hg (Cq hg (.bool _) ?_)))))))
     cases hk; exact pE ek
   ·intro J
    refine pM (.bool _) (bk hk fun t16 ht hk => ?_)
    refine AS (l1 := [_, _, _, _, _, _, _, _, _, _, _, _, _, _, _, _, _, _, _, _, _, _, _, _, _, _, _, _, _, _, _]) [44, 45, 46, 47, 48, 49, 50, 51, 52, 53, 54, 55, 56, 57, 58, 59, 60, 61, 62, 63, 64, 65, 66, 67, 68, 69, 70, 71, 72, 73, 74] 74 (.bool t16) ?_ ?_
    ·refine bc (b := t14) (fun hg => ?_) (fun hg => ?_)
     ·replace hk := ct hg ht
      refine AB hg (pF EL (AB hg ?_))
      refine CN hO 5 (.lit _ _ _) IW (AB hg ?_)
      refine pM (.int _ _) (AB hg (bk hk fun c17 hc17 hk => ?_))
      refine pX hc17 IX GB (AB hg ?_)
      refine Br (.lit _ _ _) (D4 (lm := m5) (off := 0) hc17 C8) (AB hg ?_)
      refine pM (.int _ _) (AB hg (bk hk fun c18 hc18 hk => ?_))
      refine pX hc18 Cl FO (AB hg ?_)
      refine Br (.bool _) (D4 (lm := 0) (off := 0) hc18 Fk) (AB hg ?_)
      refine pM (.bool _) (bk hk fun t19 ht hk => ?_)
      refine AS (l1 := [_, _, _, _, _, _, _, _, _, _]) [53, 54, 55, 56, 57, 58, 59, 60, 61, 62] 62 (.bool t19) ?_ ?_
      ·refine bc (b := c18) (fun hg2 => ?_) (fun hg2 => ?_)
       ·replace hk := ct hg2 ht
        refine AE hg2 (AE hg2 (AE hg2 (AE hg2 (AE hg2 (AE hg2 (AE hg2 (AE hg2 (AE hg2 (AB hg (Cr hg2 (.bool _) ?_))))))))))
        cases hk; exact pE ek
       ·replace hk := cf hg2 ht
        refine AB hg2 (pF BI (AB hg2 ?_))
        refine CN hO 0 (.lit _ _ _) BK (AB hg2 ?_)
        refine pF Bl (AB hg2 ?_)
        refine CN hO 5 (.lit _ _ _) Du (AB hg2 ?_)
        refine pM (.int _ _) (AB hg2 (bk hk fun c20 hc20 hk => ?_))
        refine pX hc20 Er Az (AB hg2 ?_)
        refine pF DU (AB hg2 ?_)
        refine Br (.lit _ _ _) (D4 (lm := m3) (off := 3) hc20 BK) (AB hg2 (bk hk fun v21 hv21 hk => ?_))
        refine AR (fun _ => I1 hv21) (AB hg ?_)
        refine Cq hg2 (.bool _) ?_
        cases hk; exact pE ek
      ·intro J
       refine AB hg (pM (.bool _) (bk hk fun t22 ht hk => ?_))
       refine AS (l1 := [_, _, _, _, _, _, _, _, _, _]) [64, 65, 66, 67, 68, 69, 70, 71, 72, 73] 73 (.bool t22) ?_ ?_
       ·refine bc (b := t19) (fun hg2 => ?_) (fun hg2 => ?_)
        ·replace hk := ct hg2 ht
         refine AE hg2 (AE hg2 (AE hg2 (AE hg2 (AE hg2 (AE hg2 (AE hg2 (AE hg2 (AE hg2 (AB hg (Cr hg2 (.bool _) ?_))))))))))
         cases hk; exact pE ek
        ·replace hk := cf hg2 ht
         refine AB hg2 (pF DU (AB hg2 ?_))
         refine CN hO 0 (.lit _ _ _) BK (AB hg2 ?_)
         refine pF Bl (AB hg2 ?_)
         refine CN hO 5 (.lit _ _ _) Du (AB hg2 ?_)
         refine pM (.int _ _) (AB hg2 (bk hk fun c23 hc23 hk => ?_))
         refine pX hc23 Er Az (AB hg2 ?_)
         refine pF BI (AB hg2 ?_)
         refine Br (.lit _ _ _) (D4 (lm := m3) (off := 0) hc23 BK) (AB hg2 (bk hk fun v24 hv24 hk => ?_))
         refine AR (fun _ => I1 hv24) (AB hg ?_)
         refine Cq hg2 (.bool _) ?_
         cases hk; exact pE ek
       ·intro J
        refine Cr hg (.bool _) ?_
        cases hk; exact pE ek
     ·replace hk := cf hg ht
      refine AE hg (AE hg (AE hg (AE hg (AE hg (AE hg (AE hg (AE hg (AE hg (CW (CW (CW (CW (CW (CW (CW (CW (CW (AE hg (AE hg (CW (CW (CW (CW (CW (CW (CW (CW (CW (AE hg (Cq hg (.bool _) ?_))))))))))))))))))))))))))))))
      cases hk; exact pE ek
    ·intro J
     refine pE (gn (Aq hk (fun hk => ?_) (fun hk => ?_)))
     ·refine A1 (A4 (As Om hO 2 o7 BK ?_))
      refine pM (.int _ _) ?_
      refine Tv (ps := [(0, (.int _ _))]) ([x10] : List Int) C4 DP MO (DG (DH _ _) (Dg)) (bk hk fun z25 hz25 hk => ?_)
      refine Si (xs := x7) hO 1 hz25 (EB ([x10] : List Int)) C4 DP W8 MO C4 rfl (fun o25 G hno25 hO => ?_)
      refine pF Om ?_
      have hc26 := C1 hO (j := 1) rfl
      refine Cs (xs := [_]) hO 2 Kx rfl (fun G hO => ?_) (h3 := hc26.1) (h6 := Bg hc26.2)
      refine pE (gn (A4 (pA (.int _ _) (pE (bn (gn ?_))))))
      exact ⟨z25, (3:Int), o25, _, _, hk, hO, sh⟩
     ·exact Ar (bn (gn (⟨x7, x9, o7, _, _, hk, hO, sh⟩)))
  ·rintro _ ⟨x11, x13, o11, J, G, hk, hO, rfl⟩
   refine A4 (AW ?_)
   refine pM (.int _ _) (pE (gn ?_))
   cases hk; exact ⟨_, rfl, o11, _, _, hO, sh⟩
 ·refine D3 (ge (ge (be (gn (have hk := lx hx1 hk; A1 (A1 (A4 (pA (.int _ _) (pE (gn (BO ?_)))))))))))
  refine AA (F := X6 aP0 aF1 c5) (fun s S' => ∃ (o27 : V) (o29 : V) (J : Nat → V) (G : A3), A5 H G [.Ad b6 (.cells 5 (Cn m3 0 m3 0 m3 0 m3 0 m3 0 c5)), .own o27 lk.length 1 s.1.length (A8 0 s.1), .own o29 lk.length 1 s.2.1.length (A8 0 s.2.1), .Ad b4 (.cells 3 [o27, o29, (.tl 0 [])]), .Ad b3 (.cells 3 [(.tl 0 []), (.tl 0 []), (.tl 0 [])]), .Ad b2 (.cells 4 (Ah l6 0 l7 0 l8 m9 aF1)), .Ad b1 (.cells 5 (Ai l1 0 l2 m3 l4 m5 aP0))] ∧ S' = ⟨CM [(3, .ptr b1 0), (4, .ptr b2 0), (6, .ptr b3 0), (8, .ptr b4 0), (9, iv s.2.2.1), (10, .ptr b6 0), (12, iv s.2.2.2)] J, G⟩) hk ⟨o7, (.tl 0 []), _, _, (A5.pick (A5.Gt hO lk.length ([] : List Int)) [1, 2, 0, 3, 4, 5, 6] (by decide) rfl), sh⟩ ?_
  rintro ⟨x27, x29, x31, x32⟩ _ y1 ⟨o27, o29, J, G, hO, rfl⟩ hk hx1
  refine A1 (A1 (A4 (pM (.int _ _) ?_)))
  refine As EK hO 6 (.int _ _) BU ?_
  refine AW (pE (gn (Aq hk (fun hk => ?_) (fun hk => ?_))))
  ·refine Ar (gn (CQ (fun S' => ∃ (x33 : List Int) (x35 : List Int) (x37 : Int) (o33 : V) (o35 : V) (J : Nat → V) (G : A3), QZ x32 x33 x35 x37 = some y1 ∧ A5 H G [.Ad b6 (.cells 5 (Cn m3 0 m3 0 m3 0 m3 0 m3 0 c5)), .own o33 lk.length 1 x33.length (A8 0 x33), .own o35 lk.length 1 x35.length (A8 0 x35), .Ad b4 (.cells 3 [o33, o35, (.tl 0 [])]), .Ad b3 (.cells 3 [(.tl 0 []), (.tl 0 []), (.tl 0 [])]), .Ad b2 (.cells 4 (Ah l6 0 l7 0 l8 m9 aF1)), .Ad b1 (.cells 5 (Ai l1 0 l2 m3 l4 m5 aP0))] ∧ S' = ⟨CM [(3, .ptr b1 0), (4, .ptr b2 0), (6, .ptr b3 0), (8, .ptr b4 0), (9, iv x37), (10, .ptr b6 0), (12, iv x32)] J, G⟩) ?_ ?_))
   ·refine BO (A1 (A4 (As Cm hO 5 (.lit _ _ _) C8 ?_)))
    refine pM (.int _ _) (bk hk fun c38 hc38 hk => ?_)
    refine pX hc38 Cl FO ?_
    refine Br (.bool _) (D4 (lm := 0) (off := 0) hc38 Fk) ?_
    refine pM (.bool _) (bk hk fun t39 ht hk => ?_)
    refine AS (l1 := [_, _, _, _, _, _, _, _, _, _, _, _, _]) [94, 95, 96, 97, 98, 99, 100, 101, 102, 103, 104, 105, 106] 106 (.bool t39) ?_ ?_
    ·refine bc (b := c38) (fun hg => ?_) (fun hg => ?_)
     ·replace hk := ct hg ht
      refine AB hg (pM (.int _ _) (AB hg ?_))
      refine Tv (ps := [(0, (.int _ _))]) ([x32] : List Int) C4 DP MO (DG (DH _ _) (Dg)) (AB hg ?_)
      refine pF BI (AB hg ?_)
      refine CN hO 0 (.lit _ _ _) BK (AB hg (bk hk fun v40 hv40 hk => ?_))
      refine AR (vs := [(.tl 1 (A8 0 ([x32] : List Int))), (.lit _ _ _)]) (caps := []) (fun _ => I1 hv40) ?_ (h3 := (BH (XX ([x32] : List Int) 6) (BH rfl EF)))
      refine AB hg (pM (.bool _) (bk hk fun t41 ht hk => ?_))
      refine AS (l1 := [_, _, _, _, _, _]) [100, 101, 102, 103, 104, 105] 105 (.bool t41) ?_ ?_
      ·refine bc (b := v40) (fun hg2 => ?_) (fun hg2 => ?_)
       ·replace hk := ct hg2 ht
        refine AE hg2 (AE hg2 (AE hg2 (AE hg2 (AE hg2 (AB hg (Cr hg2 (.bool _) ?_))))))
        cases hk; exact pE ek
       ·replace hk := cf hg2 ht
        refine AB hg2 (pM (.int _ _) (AB hg2 ?_))
        refine Tv (ps := [(0, (.int _ _))]) ([x32] : List Int) C4 DP MO (DG (DH _ _) (Dg)) (AB hg2 ?_)
        refine pF DU (AB hg2 ?_)
        refine CN hO 0 (.lit _ _ _) BK (AB hg2 (bk hk fun v42 hv42 hk => ?_))
        refine AR (vs := [(.tl 1 (A8 0 ([x32] : List Int))), (.lit _ _ _)]) (caps := []) (fun _ => I1 hv42) ?_ (h3 := (BH (XX ([x32] : List Int) 6) (BH rfl EF)))
        refine AB hg (Cq hg2 (.bool _) ?_)
        cases hk; exact pE ek
      ·intro J
       refine Cr hg (.bool _) ?_
       cases hk; exact pE ek
     ·replace hk := cf hg ht
      refine AE hg (AE hg (AE hg (AE hg (AE hg (AE hg (CW (CW (CW (CW (CW (AE hg (Cq hg (.bool _) ?_))))))))))))
      cases hk; exact pE ek
    ·intro J
     refine pE (gn (Aq hk (fun hk => ?_) (fun hk => ?_)))
     ·refine A1 (A4 (As On hO 3 o29 BK ?_))
      refine pM (.int _ _) ?_
      refine Tv (ps := [(0, (.int _ _))]) ([x32] : List Int) C4 DP MO (DG (DH _ _) (Dg)) (bk hk fun z43 hz43 hk => ?_)
      refine Si (xs := x29) hO 2 hz43 (EB ([x32] : List Int)) C4 DP W8 MO C4 rfl (fun o43 G hno43 hO => ?_)
      refine pF On ?_
      have hc44 := C1 hO (j := 2) rfl
      refine Cs (xs := [_]) hO 3 Kx rfl (fun G hO => ?_) (h3 := hc44.1) (h6 := Bg hc44.2)
      refine pE (gn (A1 (A4 (pM (.int _ _) ?_))))
      refine AW (pE (gn (Aq hk (fun hk => ?_) (fun hk => ?_))))
      ·refine A4 (pA (.int _ _) (pE (bn (gn ?_))))
       exact ⟨x27, z43, (4:Int), o27, o43, _, _, hk, hO, sh⟩
      ·exact Ar (bn (gn (⟨x27, z43, x31, o27, o43, _, _, hk, hO, sh⟩)))
     ·exact Ar (bn (gn (⟨x27, x29, x31, o27, o29, _, _, hk, hO, sh⟩)))
   ·rintro _ ⟨x33, x35, x37, o33, o35, J, G, hk, hO, rfl⟩
    refine A4 (pM (.int _ _) ?_)
    refine AW ?_
    refine pA (.int _ _) (pE (gn ?_))
    cases hk; exact ⟨_, rfl, o33, o35, _, _, hO, sh⟩
  ·refine D3 (ge (ge (be (gn (have hk := lx hx1 hk; A1 (A4 (pA (.int _ _) (pE (gn (A1 (A1 (A4 ?_))))))))))))
   refine As DE hO 6 (.lit _ _ _) BK ?_
   refine Af D5 ?_
   refine pM (.int _ _) (pE (gn (BO ?_)))
   refine AA (F := X7 aP0 aF1 c5 x31) (fun s S' => ∃ (o45 : V) (o47 : V) (o49 : V) (J : Nat → V) (G : A3), A5 H G [.Ad b6 (.cells 5 (Cn m3 0 m3 0 m3 0 m3 0 m3 0 c5)), .own o45 lk.length 1 s.1.length (A8 0 s.1), .own o47 lk.length 1 s.2.1.length (A8 0 s.2.1), .own o49 lk.length 1 s.2.2.1.length (A8 0 s.2.2.1), .Ad b4 (.cells 3 [o45, o47, o49]), .Ad b3 (.cells 3 [(.tl 0 []), (.tl 0 []), (.tl 0 [])]), .Ad b2 (.cells 4 (Ah l6 0 l7 0 l8 m9 aF1)), .Ad b1 (.cells 5 (Ai l1 0 l2 m3 l4 m5 aP0))] ∧ S' = ⟨CM [(3, .ptr b1 0), (4, .ptr b2 0), (6, .ptr b3 0), (8, .ptr b4 0), (9, iv x31), (10, .ptr b6 0), (13, iv s.2.2.2.1), (117, iv (aP0.A6.length : Int)), (118, iv s.2.2.2.2)] J, G⟩) hk ⟨o27, o29, (.tl 0 []), _, _, (A5.pick (A5.Gt hO lk.length ([] : List Int)) [1, 2, 3, 0, 4, 5, 6, 7] (by decide) rfl), sh⟩ ?_
   rintro ⟨x45, x47, x49, x51, x52⟩ _ y1 ⟨o45, o47, o49, J, G, hO, rfl⟩ hk hx1
   refine A1 (A4 (AW (pE (gn (A1 (Aq hk (fun hk => ?_) (fun hk => ?_)))))))
   ·refine Ar (gn (CQ (fun S' => ∃ (x53 : List Int) (x55 : List Int) (x57 : List Int) (x59 : Int) (o53 : V) (o55 : V) (o57 : V) (J : Nat → V) (G : A3), LK x52 x53 x55 x57 x59 = some y1 ∧ A5 H G [.Ad b6 (.cells 5 (Cn m3 0 m3 0 m3 0 m3 0 m3 0 c5)), .own o53 lk.length 1 x53.length (A8 0 x53), .own o55 lk.length 1 x55.length (A8 0 x55), .own o57 lk.length 1 x57.length (A8 0 x57), .Ad b4 (.cells 3 [o53, o55, o57]), .Ad b3 (.cells 3 [(.tl 0 []), (.tl 0 []), (.tl 0 [])]), .Ad b2 (.cells 4 (Ah l6 0 l7 0 l8 m9 aF1)), .Ad b1 (.cells 5 (Ai l1 0 l2 m3 l4 m5 aP0))] ∧ S' = ⟨CM [(3, .ptr b1 0), (4, .ptr b2 0), (6, .ptr b3 0), (8, .ptr b4 0), (9, iv x31), (10, .ptr b6 0), (13, iv x59), (117, iv (aP0.A6.length : Int)), (118, iv x52)] J, G⟩) ?_ ?_))
    ·refine BO (A1 (A4 (pM (.int _ _) ?_)))
     refine pA (.int _ _) (pE (gn (A1 (A4 ?_))))
     refine pA (.int _ _) (pE (gn (A1 (A1 (A4 ?_)))))
     refine As E6 hO 0 (.lit _ _ _) Da ?_
     refine As EU hO 0 (.lit _ _ _) Da ?_
     refine dX (ps := [(0, (.lit _ _ _)), (1, (.lit _ _ _))]) m3 ([c5.AQ, c5.AH] : List (List Ae)) Uw Pz bJ ?_
     refine Af bS ?_
     refine pM (.int _ _) (pE (gn (BO ?_)))
     refine AA (F := X8 aP0 aF1 c5 x51 x52) (fun s S' => ∃ (o60 : V) (o62 : V) (o64 : V) (J : Nat → V) (G : A3), A5 H G [.Ad b6 (.cells 5 (Cn m3 0 m3 0 m3 0 m3 0 m3 0 c5)), .own o60 lk.length 1 s.1.length (A8 0 s.1), .own o62 lk.length 1 s.2.1.length (A8 0 s.2.1), .own o64 lk.length 1 s.2.2.1.length (A8 0 s.2.2.1), .Ad b4 (.cells 3 [o60, o62, o64]), .Ad b3 (.cells 3 [(.tl 0 []), (.tl 0 []), (.tl 0 [])]), .Ad b2 (.cells 4 (Ah l6 0 l7 0 l8 m9 aF1)), .Ad b1 (.cells 5 (Ai l1 0 l2 m3 l4 m5 aP0))] ∧ S' = ⟨CM [(3, .ptr b1 0), (4, .ptr b2 0), (6, .ptr b3 0), (8, .ptr b4 0), (9, iv x31), (10, .ptr b6 0), (13, iv x51), (14, iv x52), (15, iv s.2.2.2.1), (117, iv (aP0.A6.length : Int)), (118, iv x52), (125, (.tl 2 (A8 m3 ([c5.AQ, c5.AH] : List (List Ae))))), (126, iv (([c5.AQ, c5.AH] : List (List Ae)).length : Int)), (127, iv s.2.2.2.2)] J, G⟩) hk ⟨o45, o47, o49, _, _, hO, sh⟩ ?_
     rintro ⟨x60, x62, x64, x66, x67⟩ _ y2 ⟨o60, o62, o64, J, G, hO, rfl⟩ hk hx2
     refine A1 (A4 (AW (pE (gn (A1 (Aq hk (fun hk => ?_) (fun hk => ?_)))))))
     ·refine Ar (gn (A1 (BO (A1 (A4 (bk hk fun c68 hc68 hk => e8 (lm := m3) hc68 Uw Pz ?_))))))
      refine Br (.lit _ _ _) (D4 (lm := m3) (off := 0) hc68 Da) ?_
      refine pA (.lit _ _ _) (pE (gn (A1 (A4 ?_))))
      refine pM (.lit _ _ _) ?_
      refine Af Ex ?_
      refine pM (.int _ _) (pE (gn (BO ?_)))
      refine AA (F := X9 x52 x67 c68) (fun s S' => ∃ (o69 : V) (o71 : V) (o73 : V) (J : Nat → V) (G : A3), A5 H G [.Ad b6 (.cells 5 (Cn m3 0 m3 0 m3 0 m3 0 m3 0 c5)), .own o69 lk.length 1 s.1.length (A8 0 s.1), .own o71 lk.length 1 s.2.1.length (A8 0 s.2.1), .own o73 lk.length 1 s.2.2.1.length (A8 0 s.2.2.1), .Ad b4 (.cells 3 [o69, o71, o73]), .Ad b3 (.cells 3 [(.tl 0 []), (.tl 0 []), (.tl 0 [])]), .Ad b2 (.cells 4 (Ah l6 0 l7 0 l8 m9 aF1)), .Ad b1 (.cells 5 (Ai l1 0 l2 m3 l4 m5 aP0))] ∧ S' = ⟨CM [(3, .ptr b1 0), (4, .ptr b2 0), (6, .ptr b3 0), (8, .ptr b4 0), (9, iv x31), (10, .ptr b6 0), (13, iv x51), (14, iv x52), (15, iv s.2.2.2.1), (117, iv (aP0.A6.length : Int)), (118, iv x52), (125, (.tl 2 (A8 m3 ([c5.AQ, c5.AH] : List (List Ae))))), (126, iv (([c5.AQ, c5.AH] : List (List Ae)).length : Int)), (127, iv x67), (131, AN m3 0 c68), (132, iv (c68.length : Int)), (133, iv s.2.2.2.2)] J, G⟩) hk ⟨o60, o62, o64, _, _, hO, sh⟩ ?_
      rintro ⟨x69, x71, x73, x75, x76⟩ _ y3 ⟨o69, o71, o73, J, G, hO, rfl⟩ hk hx3
      refine A1 (A4 (AW (pE (gn (A1 (Aq hk (fun hk => ?_) (fun hk => ?_)))))))
      ·refine Ar (gn (CQ (fun S' => ∃ (x77 : List Int) (x79 : List Int) (x81 : List Int) (x83 : Int) (o77 : V) (o79 : V) (o81 : V) (J : Nat → V) (G : A3), TI x76 x77 x79 x81 x83 = some y3 ∧ A5 H G [.Ad b6 (.cells 5 (Cn m3 0 m3 0 m3 0 m3 0 m3 0 c5)), .own o77 lk.length 1 x77.length (A8 0 x77), .own o79 lk.length 1 x79.length (A8 0 x79), .own o81 lk.length 1 x81.length (A8 0 x81), .Ad b4 (.cells 3 [o77, o79, o81]), .Ad b3 (.cells 3 [(.tl 0 []), (.tl 0 []), (.tl 0 [])]), .Ad b2 (.cells 4 (Ah l6 0 l7 0 l8 m9 aF1)), .Ad b1 (.cells 5 (Ai l1 0 l2 m3 l4 m5 aP0))] ∧ S' = ⟨CM [(3, .ptr b1 0), (4, .ptr b2 0), (6, .ptr b3 0), (8, .ptr b4 0), (9, iv x31), (10, .ptr b6 0), (13, iv x51), (14, iv x52), (15, iv x83), (117, iv (aP0.A6.length : Int)), (118, iv x52), (125, (.tl 2 (A8 m3 ([c5.AQ, c5.AH] : List (List Ae))))), (126, iv (([c5.AQ, c5.AH] : List (List Ae)).length : Int)), (127, iv x67), (131, AN m3 0 c68), (132, iv (c68.length : Int)), (133, iv x76)] J, G⟩) ?_ ?_))
       ·refine BO (A1 (A4 (bk hk fun c84 hc84 hk => pX hc84 Df BB ?_)))
        refine Br (.agg [_, _]) (G8 (lm := 0) (off := 0) hc84 G3 BB) (CK hO BB FT (fun b85 G hO => ?_))
        refine Cs (xs := [_, _]) hO 0 BB rfl (fun G hO => pE (gn (A1 (A4 ?_))))
        refine As CP hO 0 (.int _ _) BU ?_
        refine pM (.int _ _) ?_
        refine AW (pE (gn (Aq hk (fun hk => ?_) (fun hk => ?_))))
        ·refine A4 (As E7 hO 0 (.int _ _) BU ?_)
         refine pA (.int _ _) (pE (bn (gn ?_)))
         exact ⟨x69, x71, x73, c84.FC, o69, o71, o73, _, _, hk, (pk hO [1, 2, 3, 4, 5, 6, 7, 8]), sh⟩
        ·exact Ar (bn (gn (⟨x69, x71, x73, x75, o69, o71, o73, _, _, hk, (pk hO [1, 2, 3, 4, 5, 6, 7, 8]), sh⟩)))
       ·rintro _ ⟨x77, x79, x81, x83, o77, o79, o81, J, G, hk, hO, rfl⟩
        refine A4 (AW ?_)
        refine pM (.int _ _) (pE (gn ?_))
        cases hk; exact ⟨_, rfl, o77, o79, o81, _, _, hO, sh⟩
      ·refine D3 (ge (ge (be (bn (gn (have hk := lx hx3 hk; A4 (AW ?_)))))))
       refine pM (.int _ _) (pE (gn ?_))
       cases hk; exact ⟨_, rfl, o69, o71, o73, _, _, hO, sh⟩
     ·refine D3 (ge (ge (be (gn (have hk := lx hx2 hk; A1 (A1 (A4 (pM (.int _ _) ?_))))))))
      refine AW ?_
      refine pM (.bool _) (bk hk fun t86 ht hk => ?_)
      refine AS (l1 := [_, _, _, _, _, _, _, _, _]) [148, 149, 150, 151, 152, 153, 154, 155, 156] 156 (.bool t86) ?_ ?_
      ·refine bc (b := (x66 == (0:Int))) (fun hg => ?_) (fun hg => ?_)
       ·replace hk := ct hg ht
        refine AE hg (AE hg (AE hg (AE hg (AE hg (AE hg (AE hg (AE hg (Cr hg (.bool _) ?_))))))))
        cases hk; exact pE ek
       ·replace hk := cf hg ht
        refine AB hg (pM (.int _ _) (AB hg ?_))
        refine pF Db (AB hg ?_)
        refine CN hO 6 (.lit _ _ _) JD (AB hg ?_)
        refine pM (.int _ _) (AB hg (bk hk fun c87 hc87 hk => ?_))
        refine pX hc87 IY EA (AB hg ?_)
        refine pF II (AB hg ?_)
        refine Br (.int _ _) (D4 (lm := 0) (off := 0) hc87 BU) (AB hg ?_)
        refine AW ?_
        refine Cq hg (.bool _) ?_
        cases hk; exact pE ek
      ·intro J
       refine pE (gn (Aq hk (fun hk => ?_) (fun hk => ?_)))
       ·exact D3 (ge (be (gn (⟨x60, x62, x64, x51, o60, o62, o64, _, _, hk, hO, sh⟩))))
       ·refine Ar (gn (A1 (A4 (E4 hO 7 [_, _, _, _, _] FB CC ?_))))
        refine E4 hO 6 [_, _, _, _] Ep Bv ?_
        refine pM (.int _ _) (bk hk fun v88 hv88 hk => ?_)
        refine AR (fun _ => UY hv88) ?_
        refine Af D5 ?_
        refine AW (pE (gn (Aq hk (fun hk => ?_) (fun hk => ?_))))
        ·refine A1 (A4 (As Lu hO 4 o64 BK ?_))
         refine pM (.int _ _) ?_
         refine Tv (ps := [(0, (.int _ _))]) ([x52] : List Int) C4 DP MO (DG (DH _ _) (Dg)) (bk hk fun z89 hz89 hk => ?_)
         refine Si (xs := x64) hO 3 hz89 (EB ([x52] : List Int)) C4 DP W8 MO C4 rfl (fun o89 G hno89 hO => ?_)
         refine pF Lu ?_
         have hc90 := C1 hO (j := 3) rfl
         refine Cs (xs := [_]) hO 4 Kx rfl (fun G hO => ?_) (h3 := hc90.1) (h6 := Bg hc90.2)
         refine pE (gn (A4 (pA (.int _ _) (pE (bn (gn ?_))))))
         exact ⟨x60, x62, z89, (5:Int), o60, o62, o89, _, _, hk, hO, sh⟩
        ·refine A1 (BC [(0, true), (1, true), (2, true), (3, true), (4, true), (5, true), (6, true), (7, false), (8, true)] [_, _, _, _, _, _, _, _, _] (by decide +kernel) (by rfl) ?_)
         refine As Cm hO 6 (.lit _ _ _) C8 ?_
         refine As DE hO 7 (.lit _ _ _) BK ?_
         refine pM (.int _ _) (bk hk fun c91 hc91 hk => ?_)
         refine pX hc91 C4 DP ?_
         refine Br (.int _ _) (D4 (lm := 0) (off := 0) hc91 BU) (bk hk fun c92 hc92 hk => ?_)
         refine pX hc92 Cl FO ?_
         refine Br (.bool _) (D4 (lm := 0) (off := 0) hc92 Fk) (pE (gn (Aq hk (fun hk => ?_) (fun hk => ?_))))
         ·refine A1 (A4 (As Lu hO 4 o64 BK ?_))
          refine pM (.int _ _) ?_
          refine Tv (ps := [(0, (.int _ _))]) ([x52] : List Int) C4 DP MO (DG (DH _ _) (Dg)) (bk hk fun z93 hz93 hk => ?_)
          refine Si (xs := x64) hO 3 hz93 (EB ([x52] : List Int)) C4 DP W8 MO C4 rfl (fun o93 G hno93 hO => ?_)
          refine pF Lu ?_
          have hc94 := C1 hO (j := 3) rfl
          refine Cs (xs := [_]) hO 4 Kx rfl (fun G hO => ?_) (h3 := hc94.1) (h6 := Bg hc94.2)
          refine pE (gn (A1 (A4 (pM (.int _ _) ?_))))
          refine AW (pE (gn (Aq hk (fun hk => ?_) (fun hk => ?_))))
          ·refine A4 (pA (.int _ _) (pE (bn (gn ?_))))
           exact ⟨x60, x62, z93, (6:Int), o60, o62, o93, _, _, hk, hO, sh⟩
          ·exact Ar (bn (gn (⟨x60, x62, z93, x51, o60, o62, o93, _, _, hk, hO, sh⟩)))
         ·exact Ar (bn (gn (⟨x60, x62, x64, x51, o60, o62, o64, _, _, hk, hO, sh⟩)))
    ·rintro _ ⟨x53, x55, x57, x59, o53, o55, o57, J, G, hk, hO, rfl⟩
     refine A4 (AW ?_)
     refine pM (.int _ _) (pE (gn ?_))
     cases hk; exact ⟨_, rfl, o53, o55, o57, _, _, hO, sh⟩
   ·refine D3 (ge (ge (be (gn (have hk := lx hx1 hk; CQ (fun S' => ∃ (x95 : List Int) (x97 : List Int) (x99 : List Int) (x101 : Int) (o95 : V) (o97 : V) (o99 : V) (J : Nat → V) (G : A3), QY x95 x97 x99 x101 = some r ∧ A5 H G [.own o95 lk.length 1 x95.length (A8 0 x95), .own o97 lk.length 1 x97.length (A8 0 x97), .own o99 lk.length 1 x99.length (A8 0 x99), .Ad b4 (.cells 3 [o95, o97, o99]), .Ad b3 (.cells 3 [(.tl 0 []), (.tl 0 []), (.tl 0 [])])] ∧ S' = ⟨CM [(6, .ptr b3 0), (8, .ptr b4 0), (9, iv x101)] J, G⟩) ?_ ?_)))))
    ·refine A1 (A4 (pM (.int _ _) ?_))
     refine AW (pE (gn (Aq hk (fun hk => ?_) (fun hk => ?_))))
     ·refine A4 (pM (.int _ _) ?_)
      refine pA (.int _ _) (pE (gn ?_))
      exact ⟨x45, x47, x49, x51, o45, o47, o49, _, _, hk, (pk hO [1, 2, 3, 4, 5]), sh⟩
     ·exact Ar (gn (⟨x45, x47, x49, x31, o45, o47, o49, _, _, hk, (pk hO [1, 2, 3, 4, 5]), sh⟩))
    ·rintro _ ⟨x95, x97, x99, x101, o95, o97, o99, J, G, hk, hO, rfl⟩
     refine A1 (A4 (E4 hO 3 [_, _, _] a7 Ky ?_))
     refine pM (.int _ _) ?_
     have hc102 := C1 hO (j := 0) rfl
     have hc103 := C1 hO (j := 1) rfl
     have hc104 := C1 hO (j := 2) rfl
     refine Cs (xs := [_, _, _]) hO 4 Ky rfl (fun G hO => ?_) (h6 := (Bj hc102.2 (Bj hc103.2 (Bj hc104.2 IM))))
     refine pA (.int _ _) (pE (gn (Aw ?_)))
     replace hk := Option.some.inj hk; subst hk; exact Gp hO (XL (n := 3) (DL (Ds (n := 2) (DL (HI (xs := x95) hlk 0) (DL (HI (xs := x97) hlk 0) (DL (HI (xs := x99) hlk 0) (HX))))) (DL (C7 _ _) (HX)))) (G9 hO 4 [_, _, _] a7 Ky (JB (.int _ _) Dl))
end
end Go.Proofs.YtphpkphklegfeaaGreat.K
