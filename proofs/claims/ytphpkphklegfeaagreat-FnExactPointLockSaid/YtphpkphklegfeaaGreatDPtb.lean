/-
 The functions that FnExactPointLock reaches, as typed Lean functions, and that the interpreter computes them. Part 2 of 4. No conditions.
-/
import Derived.Test.YtphpkphklegfeaaGreatDPta
set_option linter.unusedVariables false
set_option linter.unusedSimpArgs false
set_option maxRecDepth 100000
namespace Go.Proofs.YtphpkphklegfeaaGreat.K
noncomputable section
variable {H : A3} {lk : Lk}
def Nm (x3 : Int) (c4 : AG) (c6 : AG) : Int → Option (Int ⊕ (Int ⊕ Bool)) := fun s =>
 (bif decide (s < (c4.Aa.length : Int)) then ((AK c4.Aa s).bind fun c9 => ((AK c6.Aa s).bind fun c10 => (bif !(c9 == c10) then (((some false).map Sum.inr).map Sum.inr) else some (.inl (BT (s + (1:Int))))))) else ((some (.inl (BT (x3 + (1:Int))))).map Sum.inr))
def Nl (aA0 : AD) (aB1 : AD) : Int → Option (Int ⊕ Bool) := fun s =>
 (bif decide (s < (aA0.A7.length : Int)) then ((AK aA0.A7 s).bind fun c4 => ((AK aB1.A7 s).bind fun c6 => (bif ((((c4.State != c6.State) || (c4.Ab != c6.Ab)) || !(c4.Shown == c6.Shown)) || (c4.Timer != c6.Timer)) then ((some false).map Sum.inr) else (AJ (Nm s c4 c6) ((0:Int)))))) else ((some true).map Sum.inr))
def cZ (aA0 : AD) (aB1 : AD) : Option Bool :=
 (AJ (Nl aA0 aB1) ((0:Int)))
theorem ZN {aA0 : AD} {aB1 : AD} {r : Bool} {l1 l2 l3 m4 l5 l6 l7 m8 : Nat} (hk : cZ aA0 aB1 = some r) (hlk : 0 < lk.length := by simp) : Am Tryz.prog hh 74 [.agg (Ah l1 0 l2 0 l3 m4 aA0), .agg (Ah l5 0 l6 0 l7 m8 aB1)] H lk = some (.bool r, H) := by
 refine AI Tryz.func74 rfl Tryz.ntmps74 Tryz.results74 rfl rfl fun hO => ?_
 unfold cZ at hk
 refine A1 (A4 (BZ (cs := [_, _, _, _]) hO Bv (fun b1 G hO => ?_)))
 refine BZ (cs := [_, _, _, _]) hO Bv (fun b2 G hO => ?_)
 refine pA (.bool _) (pE (gn (A1 (A1 (A4 ?_)))))
 refine As Bd hO 1 (.lit _ _ _) Dv ?_
 refine Af IJ ?_
 refine pM (.int _ _) (pE (gn (BO ?_)))
 refine AA (F := Nl aA0 aB1) (fun s S' => ∃ (J : Nat → V) (G : A3), A5 H G [.Ad b2 (.cells 4 (Ah l5 0 l6 0 l7 m8 aB1)), .Ad b1 (.cells 4 (Ah l1 0 l2 0 l3 m4 aA0))] ∧ S' = ⟨CM [(2, .ptr b1 0), (3, .ptr b2 0), (11, iv (aA0.A7.length : Int)), (12, iv s)] J, G⟩) hk ⟨_, _, hO, sh⟩ ?_
 rintro x3 _ y1 ⟨J, G, hO, rfl⟩ hk hx1
 refine A1 (A4 (AW (pE (gn (A1 (Aq hk (fun hk => ?_) (fun hk => ?_)))))))
 ·refine Ar (gn (A1 (BO (A1 (A4 (pM (.int _ _) ?_))))))
  refine pA (.int _ _) (pE (gn (A1 (A4 ?_))))
  refine As Bd hO 1 (.lit _ _ _) Dv ?_
  refine pM (.int _ _) (bk hk fun c4 hc4 hk => ?_)
  refine pX hc4 EJ Av ?_
  refine Br (.agg [_, _, _, _, _]) (G8 (lm := m4) (off := 0) hc4 G0 Av) (CK hO Av FN (fun b5 G hO => ?_))
  refine Cs (xs := [_, _, _, _, _]) hO 0 Av rfl (fun G hO => pE (gn (A1 (A4 ?_))))
  refine As Bd hO 1 (.lit _ _ _) Dv ?_
  refine pM (.int _ _) (bk hk fun c6 hc6 hk => ?_)
  refine pX hc6 EJ Av ?_
  refine Br (.agg [_, _, _, _, _]) (G8 (lm := m8) (off := 0) hc6 G0 Av) (CK hO Av FN (fun b7 G hO => ?_))
  refine Cs (xs := [_, _, _, _, _]) hO 0 Av rfl (fun G hO => pE (gn (A1 (A1 (A4 ?_)))))
  refine As B8 hO 1 (.int _ _) BU ?_
  refine As B8 hO 0 (.int _ _) BU ?_
  refine AW ?_
  refine pM (.bool _) ?_
  refine AS (l1 := [_, _, _, _, _, _]) [31, 32, 33, 34, 35, 36] 36 (.bool ((c4.State != c6.State) || (c4.Ab != c6.Ab))) ?_ ?_
  ·refine bc (b := (c4.State != c6.State)) (fun hg => ?_) (fun hg => ?_)
   ·refine AE hg (AE hg (AE hg (AE hg (AE hg (Cr hg (.bool _) ?_)))))
    exact pE (ek (by rw [hg]; rfl))
   ·refine AB hg (pF Bw (AB hg ?_))
    refine CN hO 1 (.int _ _) BU (AB hg ?_)
    refine pF Bw (AB hg ?_)
    refine CN hO 0 (.int _ _) BU (AB hg ?_)
    refine AW ?_
    refine Cq hg (.bool _) ?_
    exact pE (ek (by rw [hg]; rfl))
  ·intro J
   refine pM (.bool _) ?_
   refine AS (l1 := [_, _, _, _, _, _]) [38, 39, 40, 41, 42, 43] 43 (.bool (((c4.State != c6.State) || (c4.Ab != c6.Ab)) || !(c4.Shown == c6.Shown))) ?_ ?_
   ·refine bc (b := ((c4.State != c6.State) || (c4.Ab != c6.Ab))) (fun hg => ?_) (fun hg => ?_)
    ·refine AE hg (AE hg (AE hg (AE hg (AE hg (Cr hg (.bool _) ?_)))))
     exact pE (ek (by rw [hg]; rfl))
    ·refine AB hg (pF Dm (AB hg ?_))
     refine CN hO 1 (.bool _) Fk (AB hg ?_)
     refine pF Dm (AB hg ?_)
     refine CN hO 0 (.bool _) Fk (AB hg ?_)
     refine Zu Tryz.underlying4 ?_
     refine Cq hg (.bool _) ?_
     exact pE (ek (by rw [hg]; rfl))
   ·intro J
    refine pM (.bool _) ?_
    refine AS (l1 := [_, _, _, _, _, _]) [45, 46, 47, 48, 49, 50] 50 (.bool ((((c4.State != c6.State) || (c4.Ab != c6.Ab)) || !(c4.Shown == c6.Shown)) || (c4.Timer != c6.Timer))) ?_ ?_
    ·refine bc (b := (((c4.State != c6.State) || (c4.Ab != c6.Ab)) || !(c4.Shown == c6.Shown))) (fun hg => ?_) (fun hg => ?_)
     ·refine AE hg (AE hg (AE hg (AE hg (AE hg (Cr hg (.bool _) ?_)))))
      exact pE (ek (by rw [hg]; rfl))
     ·refine AB hg (pF E5 (AB hg ?_))
      refine CN hO 1 (.int _ _) BU (AB hg ?_)
      refine pF E5 (AB hg ?_)
      refine CN hO 0 (.int _ _) BU (AB hg ?_)
      refine AW ?_
      refine Cq hg (.bool _) ?_
      exact pE (ek (by rw [hg]; rfl))
    ·intro J
     refine pE (gn (Aq hk (fun hk => ?_) (fun hk => ?_)))
     ·refine A1 (A4 (pA (.bool _) (pE (gn (Aw (gr (br (gr (gr (br (gr (have hk := lx hx1 hk; ?_))))))))))))
      cases hk; exact AT hO
     ·refine Ar (gn (A1 (A4 (As C3 hO 1 (.lit _ _ _) C8 ?_))))
      refine Af HO ?_
      refine pM (.int _ _) (pE (gn (BO ?_)))
      refine AA (F := Nm x3 c4 c6) (fun s S' => ∃ (J : Nat → V) (G : A3), A5 H G [.Ad b7 (.cells 5 [iv c6.State, iv c6.Ab, AN m8 0 c6.Aa, .bool c6.Shown, iv c6.Timer]), .Ad b5 (.cells 5 [iv c4.State, iv c4.Ab, AN m4 0 c4.Aa, .bool c4.Shown, iv c4.Timer]), .Ad b2 (.cells 4 (Ah l5 0 l6 0 l7 m8 aB1)), .Ad b1 (.cells 4 (Ah l1 0 l2 0 l3 m4 aA0))] ∧ S' = ⟨CM [(2, .ptr b1 0), (3, .ptr b2 0), (6, .ptr b5 0), (7, .ptr b7 0), (11, iv (aA0.A7.length : Int)), (12, iv x3), (53, iv (c4.Aa.length : Int)), (54, iv s)] J, G⟩) hk ⟨_, _, hO, sh⟩ ?_
      rintro x8 _ y2 ⟨J, G, hO, rfl⟩ hk hx2
      refine A1 (A4 (AW (pE (gn (A1 (Aq hk (fun hk => ?_) (fun hk => ?_)))))))
      ·refine Ar (gn (A1 (BO (A1 (A4 (pM (.int _ _) ?_))))))
       refine pA (.int _ _) (pE (gn (A1 ?_)))
       refine BC [(0, true), (1, true), (2, true), (3, true), (4, true), (5, true), (6, true), (7, true), (8, true), (9, true), (10, false)] [_, _, _, _, _, _, _, _, _, _, _] (by decide +kernel) (by rfl) ?_
       refine As C3 hO 1 (.lit _ _ _) C8 ?_
       refine pM (.int _ _) (bk hk fun c9 hc9 hk => ?_)
       refine pX hc9 Cl FO ?_
       refine Br (.bool _) (D4 (lm := 0) (off := 0) hc9 Fk) ?_
       refine As C3 hO 0 (.lit _ _ _) C8 ?_
       refine pM (.int _ _) (bk hk fun c10 hc10 hk => ?_)
       refine pX hc10 Cl FO ?_
       refine Br (.bool _) (D4 (lm := 0) (off := 0) hc10 Fk) ?_
       refine Zu Tryz.underlying4 (pE (gn (Aq hk (fun hk => ?_) (fun hk => ?_))))
       ·refine A1 (A4 (pA (.bool _) (pE (gn (Aw (br (gr (gr (br (br (gr (gr (br (gr (have hk := lx hx2 hk; have hk := lx hx1 hk; ?_)))))))))))))))
        cases hk; exact AT hO
       ·refine Ar (bn (gn (A4 (AW ?_))))
        refine pM (.int _ _) (pE (gn ?_))
        cases hk; exact ⟨_, rfl, _, _, hO, sh⟩
      ·refine D3 (ge (ge (be (bn (gn (have hk := lx hx2 hk; A4 (AW ?_)))))))
       refine pM (.int _ _) (pE (gn ?_))
       cases hk; exact ⟨_, rfl, _, _, (pk hO [2, 3]), sh⟩
 ·refine D3 (ge (ge (be (gn (have hk := lx hx1 hk; A1 (A4 (pA (.bool _) (pE (gn (Aw ?_))))))))))
  cases hk; exact AT hO
def QR (aP0 : AP) (aF1 : AD) (x10 : Int) : Int → Option (Int ⊕ (Int ⊕ Bool)) := fun s =>
 (bif decide (s < (aF1.A7.length : Int)) then ((bif (x10 != s) then ((AK aP0.BV x10).bind fun c14 => ((AK c14 s).bind fun c15 => some c15)) else some false).bind fun t13 => ((bif t13 then ((AK aF1.A7 x10).bind fun c17 => some (c17.State != (0:Int))) else some false).bind fun t16 => ((bif t16 then ((AK aF1.A7 s).bind fun c19 => some (c19.State != (0:Int))) else some false).bind fun t18 => (bif t18 then (((some false).map Sum.inr).map Sum.inr) else some (.inl (BT (s + (1:Int)))))))) else ((some (.inl (BT (x10 + (1:Int))))).map Sum.inr))
def Jq (aP0 : AP) (aF1 : AD) : Int → Option (Int ⊕ Bool) := fun s =>
 (bif decide (s < (aF1.A7.length : Int)) then ((fB aP0 aF1 s).bind fun v11 => (bif !v11 then ((some false).map Sum.inr) else (AJ (QR aP0 aF1 s) ((0:Int))))) else (((cV aF1).bind fun v20 => ((aW aP0 v20).bind fun z33 => ((cZ aF1 z33).bind fun v35 => some v35))).map Sum.inr))
def NL (aP0 : AP) (aF1 : AD) : Int → Option (Int ⊕ Bool) := fun s =>
 (bif decide (s < (aF1.AF.length : Int)) then ((AK aF1.AF s).bind fun c5 => ((TD c5.Want (1:Int) (2:Int)).bind fun v7 => ((bif !v7 then some true else ((TD c5.AQ (0:Int) (2:Int)).bind fun v9 => some (!v9))).bind fun t8 => (bif t8 then ((some false).map Sum.inr) else some (.inl (BT (s + (1:Int)))))))) else ((AJ (Jq aP0 aF1) ((0:Int))).map Sum.inr))
def gH (aP0 : AP) (aF1 : AD) : Option Bool :=
 ((gW aP0).bind fun v3 => (bif ((((!v3 || !aF1.Ok) || ((aF1.C5.length : Int) != aP0.A0)) || ((aF1.AF.length : Int) != (aP0.A6.length : Int))) || ((aF1.A7.length : Int) != (aP0.A7.length : Int))) then some false else (AJ (NL aP0 aF1) ((0:Int)))))
theorem Z0 {aP0 : AP} {aF1 : AD} {r : Bool} {l1 l2 m3 l4 m5 l6 l7 l8 m9 : Nat} (hk : gH aP0 aF1 = some r) (hlk : 0 < lk.length := by simp) (hlo : E9 lk H.length := by simp [E9]) : Am Tryz.prog hh 36 [.agg (Ai l1 0 l2 m3 l4 m5 aP0), .agg (Ah l6 0 l7 0 l8 m9 aF1)] H lk = some (.bool r, H) := by
 refine AI Tryz.func36 rfl Tryz.ntmps36 Tryz.results36 rfl rfl fun hO => ?_
 unfold gH at hk
 refine A1 (A4 (BZ (cs := [_, _, _, _, _]) hO CC (fun b1 G hO => ?_)))
 refine BZ (cs := [_, _, _, _]) hO Bv (fun b2 G hO => ?_)
 refine pA (.bool _) (pE (gn (A1 (A1 (A4 ?_)))))
 refine E4 hO 1 [_, _, _, _, _] FB CC (bk hk fun v3 hv3 hk => ?_)
 refine AR (fun _ => ZL hv3) ?_
 refine pU ?_
 refine pM (.bool _) ?_
 refine AS (l1 := [_, _, _, _]) [14, 15, 16, 17] 17 (.bool (!v3 || !aF1.Ok)) ?_ ?_
 ·refine bc (b := !v3) (fun hg => ?_) (fun hg => ?_)
  ·refine AE hg (AE hg (AE hg (Cr hg (.bool _) ?_)))
   exact pE (ek (by rw [hg]; rfl))
  ·refine AB hg (pF Lt (AB hg ?_))
   refine CN hO 0 (.bool _) Fk (AB hg ?_)
   refine pU ?_
   refine Cq hg (.bool _) ?_
   exact pE (ek (by rw [hg]; rfl))
 ·intro J
  refine pM (.bool _) ?_
  refine AS (l1 := [_, _, _, _, _, _, _]) [19, 20, 21, 22, 23, 24, 25] 25 (.bool ((!v3 || !aF1.Ok) || ((aF1.C5.length : Int) != aP0.A0))) ?_ ?_
  ·refine bc (b := (!v3 || !aF1.Ok)) (fun hg => ?_) (fun hg => ?_)
   ·refine AE hg (AE hg (AE hg (AE hg (AE hg (AE hg (Cr hg (.bool _) ?_))))))
    exact pE (ek (by rw [hg]; rfl))
   ·refine AB hg (pF Cm (AB hg ?_))
    refine CN hO 0 (.lit _ _ _) C8 (AB hg ?_)
    refine Af HO (AB hg ?_)
    refine pF EK (AB hg ?_)
    refine CN hO 1 (.int _ _) BU (AB hg ?_)
    refine AW ?_
    refine Cq hg (.bool _) ?_
    exact pE (ek (by rw [hg]; rfl))
  ·intro J
   refine pM (.bool _) ?_
   refine AS (l1 := [_, _, _, _, _, _, _, _]) [27, 28, 29, 30, 31, 32, 33, 34] 34 (.bool (((!v3 || !aF1.Ok) || ((aF1.C5.length : Int) != aP0.A0)) || ((aF1.AF.length : Int) != (aP0.A6.length : Int)))) ?_ ?_
   ·refine bc (b := ((!v3 || !aF1.Ok) || ((aF1.C5.length : Int) != aP0.A0))) (fun hg => ?_) (fun hg => ?_)
    ·refine AE hg (AE hg (AE hg (AE hg (AE hg (AE hg (AE hg (Cr hg (.bool _) ?_)))))))
     exact pE (ek (by rw [hg]; rfl))
    ·refine AB hg (pF Db (AB hg ?_))
     refine CN hO 0 (.lit _ _ _) JD (AB hg ?_)
     refine Af Oo (AB hg ?_)
     refine pF DE (AB hg ?_)
     refine CN hO 1 (.lit _ _ _) BK (AB hg ?_)
     refine Af D5 (AB hg ?_)
     refine AW ?_
     refine Cq hg (.bool _) ?_
     exact pE (ek (by rw [hg]; rfl))
   ·intro J
    refine pM (.bool _) ?_
    refine AS (l1 := [_, _, _, _, _, _, _, _]) [36, 37, 38, 39, 40, 41, 42, 43] 43 (.bool ((((!v3 || !aF1.Ok) || ((aF1.C5.length : Int) != aP0.A0)) || ((aF1.AF.length : Int) != (aP0.A6.length : Int))) || ((aF1.A7.length : Int) != (aP0.A7.length : Int)))) ?_ ?_
    ·refine bc (b := (((!v3 || !aF1.Ok) || ((aF1.C5.length : Int) != aP0.A0)) || ((aF1.AF.length : Int) != (aP0.A6.length : Int)))) (fun hg => ?_) (fun hg => ?_)
     ·refine AE hg (AE hg (AE hg (AE hg (AE hg (AE hg (AE hg (Cr hg (.bool _) ?_)))))))
      exact pE (ek (by rw [hg]; rfl))
     ·refine AB hg (pF Bd (AB hg ?_))
      refine CN hO 0 (.lit _ _ _) Dv (AB hg ?_)
      refine Af IJ (AB hg ?_)
      refine pF Bl (AB hg ?_)
      refine CN hO 1 (.lit _ _ _) Du (AB hg ?_)
      refine Af IZ (AB hg ?_)
      refine AW ?_
      refine Cq hg (.bool _) ?_
      exact pE (ek (by rw [hg]; rfl))
    ·intro J
     refine pE (gn (Aq hk (fun hk => ?_) (fun hk => ?_)))
     ·refine A1 (A4 (pA (.bool _) (pE (gn (Aw (gr ?_))))))
      cases hk; exact AT hO
     ·refine Ar (gn (A1 (A1 (A4 (As Db hO 0 (.lit _ _ _) JD ?_)))))
      refine Af Oo ?_
      refine pM (.int _ _) (pE (gn (BO ?_)))
      refine AA (F := NL aP0 aF1) (fun s S' => ∃ (J : Nat → V) (G : A3), A5 H G [.Ad b2 (.cells 4 (Ah l6 0 l7 0 l8 m9 aF1)), .Ad b1 (.cells 5 (Ai l1 0 l2 m3 l4 m5 aP0))] ∧ S' = ⟨CM [(2, .ptr b1 0), (3, .ptr b2 0), (45, AN l7 0 aF1.AF), (46, iv (aF1.AF.length : Int)), (47, iv s)] J, G⟩) hk ⟨_, _, hO, sh⟩ ?_
      rintro x4 _ y1 ⟨J, G, hO, rfl⟩ hk hx1
      refine A1 (A4 (AW (pE (gn (A1 (Aq hk (fun hk => ?_) (fun hk => ?_)))))))
      ·refine Ar (gn (A1 (BO (A1 (A4 (bk hk fun c5 hc5 hk => pX hc5 IY EA ?_))))))
       refine Br (.agg [_, _]) (G8 (lm := 0) (off := 0) hc5 RN EA) (CK hO EA SV (fun b6 G hO => ?_))
       refine Cs (xs := [_, _]) hO 0 EA rfl (fun G hO => pE (gn (A1 (A4 ?_))))
       refine As II hO 0 (.int _ _) BU (bk hk fun v7 hv7 hk => ?_)
       refine AR (fun _ => Ed hv7) ?_
       refine pU ?_
       refine pM (.bool _) (bk hk fun t8 ht hk => ?_)
       refine AS (l1 := [_, _, _, _, _]) [56, 57, 58, 59, 60] 60 (.bool t8) ?_ ?_
       ·refine bc (b := !v7) (fun hg => ?_) (fun hg => ?_)
        ·replace hk := ct hg ht
         refine AE hg (AE hg (AE hg (AE hg (Cr hg (.bool _) ?_))))
         cases hk; exact pE ek
        ·replace hk := cf hg ht
         refine AB hg (pF K7 (AB hg ?_))
         refine CN hO 0 (.int _ _) BU (AB hg (bk hk fun v9 hv9 hk => ?_))
         refine AR (fun _ => Ed hv9) (AB hg ?_)
         refine pU ?_
         refine Cq hg (.bool _) ?_
         cases hk; exact pE ek
       ·intro J
        refine pE (gn (Aq hk (fun hk => ?_) (fun hk => ?_)))
        ·refine A1 (A4 (pA (.bool _) (pE (gn (Aw (br (gr (gr (br (gr (have hk := lx hx1 hk; ?_)))))))))))
         cases hk; exact AT hO
        ·refine Ar (bn (gn (A4 (AW ?_))))
         refine pM (.int _ _) (pE (gn ?_))
         cases hk; exact ⟨_, rfl, _, _, (pk hO [1, 2]), sh⟩
      ·refine D3 (ge (ge (be (gn (have hk := lx hx1 hk; A1 (A1 (A4 (As Bd hO 0 (.lit _ _ _) Dv ?_))))))))
       refine Af IJ ?_
       refine pM (.int _ _) (pE (gn (BO ?_)))
       refine AA (F := Jq aP0 aF1) (fun s S' => ∃ (J : Nat → V) (G : A3), A5 H G [.Ad b2 (.cells 4 (Ah l6 0 l7 0 l8 m9 aF1)), .Ad b1 (.cells 5 (Ai l1 0 l2 m3 l4 m5 aP0))] ∧ S' = ⟨CM [(2, .ptr b1 0), (3, .ptr b2 0), (64, iv (aF1.A7.length : Int)), (65, iv s)] J, G⟩) hk ⟨_, _, hO, sh⟩ ?_
       rintro x10 _ y1 ⟨J, G, hO, rfl⟩ hk hx1
       refine A1 (A4 (AW (pE (gn (A1 (Aq hk (fun hk => ?_) (fun hk => ?_)))))))
       ·refine Ar (gn (A1 (BO (A1 (A4 (pM (.int _ _) ?_))))))
        refine pA (.int _ _) (pE (gn (A1 (A1 (A4 ?_)))))
        refine E4 hO 1 [_, _, _, _, _] FB CC ?_
        refine E4 hO 0 [_, _, _, _] Ep Bv ?_
        refine pM (.int _ _) (bk hk fun v11 hv11 hk => ?_)
        refine AR (fun _ => ZM hv11) ?_
        refine pU (pE (gn (Aq hk (fun hk => ?_) (fun hk => ?_))))
        ·refine A1 (A4 (pA (.bool _) (pE (gn (Aw (gr (br (gr (gr (br (gr (have hk := lx hx1 hk; ?_))))))))))))
         cases hk; exact AT hO
        ·refine Ar (gn (A1 (A4 (As Bd hO 0 (.lit _ _ _) Dv ?_))))
         refine Af IJ ?_
         refine pM (.int _ _) (pE (gn (BO ?_)))
         refine AA (F := QR aP0 aF1 x10) (fun s S' => ∃ (J : Nat → V) (G : A3), A5 H G [.Ad b2 (.cells 4 (Ah l6 0 l7 0 l8 m9 aF1)), .Ad b1 (.cells 5 (Ai l1 0 l2 m3 l4 m5 aP0))] ∧ S' = ⟨CM [(2, .ptr b1 0), (3, .ptr b2 0), (7, iv x10), (64, iv (aF1.A7.length : Int)), (65, iv x10), (75, iv (aF1.A7.length : Int)), (76, iv s)] J, G⟩) hk ⟨_, _, hO, sh⟩ ?_
         rintro x12 _ y2 ⟨J, G, hO, rfl⟩ hk hx2
         refine A1 (A4 (AW (pE (gn (A1 (Aq hk (fun hk => ?_) (fun hk => ?_)))))))
         ·refine Ar (gn (A1 (BO (A1 (A4 (pM (.int _ _) ?_))))))
          refine pA (.int _ _) (pE (gn (A1 (A4 ?_))))
          refine pM (.int _ _) ?_
          refine pM (.int _ _) ?_
          refine AW ?_
          refine pM (.bool _) (bk hk fun t13 ht hk => ?_)
          refine AS (l1 := [_, _, _, _, _, _, _, _, _]) [83, 84, 85, 86, 87, 88, 89, 90, 91] 91 (.bool t13) ?_ ?_
          ·refine bc (b := (x10 != x12)) (fun hg => ?_) (fun hg => ?_)
           ·replace hk := ct hg ht
            refine AB hg (pF EL (AB hg ?_))
            refine CN hO 1 (.lit _ _ _) IW (AB hg ?_)
            refine pM (.int _ _) (AB hg (bk hk fun c14 hc14 hk => ?_))
            refine pX hc14 IX GB (AB hg ?_)
            refine Br (.lit _ _ _) (D4 (lm := m5) (off := 0) hc14 C8) (AB hg ?_)
            refine pM (.int _ _) (AB hg (bk hk fun c15 hc15 hk => ?_))
            refine pX hc15 Cl FO (AB hg ?_)
            refine Br (.bool _) (D4 (lm := 0) (off := 0) hc15 Fk) ?_
            refine Cr hg (.bool _) ?_
            cases hk; exact pE ek
           ·replace hk := cf hg ht
            refine AE hg (AE hg (AE hg (AE hg (AE hg (AE hg (AE hg (AE hg (Cq hg (.bool _) ?_))))))))
            cases hk; exact pE ek
          ·intro J
           refine pM (.bool _) (bk hk fun t16 ht hk => ?_)
           refine AS (l1 := [_, _, _, _, _, _, _, _]) [93, 94, 95, 96, 97, 98, 99, 100] 100 (.bool t16) ?_ ?_
           ·refine bc (b := t13) (fun hg => ?_) (fun hg => ?_)
            ·replace hk := ct hg ht
             refine AB hg (pF Bd (AB hg ?_))
             refine CN hO 0 (.lit _ _ _) Dv (AB hg ?_)
             refine pM (.int _ _) (AB hg (bk hk fun c17 hc17 hk => ?_))
             refine pX hc17 EJ Av (AB hg ?_)
             refine pF B8 (AB hg ?_)
             refine Br (.int _ _) (D4 (lm := m9) (off := 0) hc17 BU) (AB hg ?_)
             refine AW ?_
             refine Cr hg (.bool _) ?_
             cases hk; exact pE ek
            ·replace hk := cf hg ht
             refine AE hg (AE hg (AE hg (AE hg (AE hg (AE hg (AE hg (Cq hg (.bool _) ?_)))))))
             cases hk; exact pE ek
           ·intro J
            refine pM (.bool _) (bk hk fun t18 ht hk => ?_)
            refine AS (l1 := [_, _, _, _, _, _, _, _]) [102, 103, 104, 105, 106, 107, 108, 109] 109 (.bool t18) ?_ ?_
            ·refine bc (b := t16) (fun hg => ?_) (fun hg => ?_)
             ·replace hk := ct hg ht
              refine AB hg (pF Bd (AB hg ?_))
              refine CN hO 0 (.lit _ _ _) Dv (AB hg ?_)
              refine pM (.int _ _) (AB hg (bk hk fun c19 hc19 hk => ?_))
              refine pX hc19 EJ Av (AB hg ?_)
              refine pF B8 (AB hg ?_)
              refine Br (.int _ _) (D4 (lm := m9) (off := 0) hc19 BU) (AB hg ?_)
              refine AW ?_
              refine Cr hg (.bool _) ?_
              cases hk; exact pE ek
             ·replace hk := cf hg ht
              refine AE hg (AE hg (AE hg (AE hg (AE hg (AE hg (AE hg (Cq hg (.bool _) ?_)))))))
              cases hk; exact pE ek
            ·intro J
             refine pE (gn (Aq hk (fun hk => ?_) (fun hk => ?_)))
             ·refine A1 (A4 (pA (.bool _) (pE (gn (Aw (br (gr (gr (br (br (gr (gr (br (gr (have hk := lx hx2 hk; have hk := lx hx1 hk; ?_)))))))))))))))
              cases hk; exact AT hO
             ·refine Ar (bn (gn (A4 (AW ?_))))
              refine pM (.int _ _) (pE (gn ?_))
              cases hk; exact ⟨_, rfl, _, _, hO, sh⟩
         ·refine D3 (ge (ge (be (bn (gn (have hk := lx hx2 hk; A4 (AW ?_)))))))
          refine pM (.int _ _) (pE (gn ?_))
          cases hk; exact ⟨_, rfl, _, _, hO, sh⟩
       ·refine D3 (ge (ge (be (gn (have hk := lx hx1 hk; A1 (A4 (E4 hO 0 [_, _, _, _] Ep Bv (bk hk fun v20 hv20 hk => ?_))))))))
        refine Lj hO (fun _ => ZG hv20) (fun u21 F21 G hO => ?_)
        replace hO : A5 H G (AY [] _ ((v20.Ok, v20.C5, v20.AF, v20.A7) : Bool × (List Bool) × (List Al) × (List AG)) _ :: [.Ad b2 (.cells 4 (Ah l6 0 l7 0 l8 m9 aF1)), .Ad b1 (.cells 5 (Ai l1 0 l2 m3 l4 m5 aP0))]) := hO
        obtain ⟨cs22, Fb22, he, hP⟩ := A5.Y3 hO
        clear hO; subst he; have hO := hP; clear hP
        obtain ⟨u23, cs23, F23, Fb23, he, hP⟩ := A5.RJ hO
        clear hO; subst he; have hO := hP; clear hP
        obtain ⟨u25, cs25, F25, Fb25, he, hP⟩ := A5.RJ hO
        clear hO; subst he; have hO := hP; clear hP
        obtain ⟨u27, rfl⟩ := A5.bA hO
        refine CK hO Bv RM (fun b29 G hO => ?_)
        have hc30 := B6 hO (j := 3) rfl
        have hc31 := B6 hO (j := 2) rfl
        have hc32 := B6 hO (j := 1) rfl
        refine Cs (xs := [_, _, _, _]) hO 0 Bv rfl (fun G hO => ?_) (h6 := (Bj rfl (Bj hc30.2 (Bj hc31.2 (Bj hc32.2 IM)))))
        refine pE (gn (A1 (A4 (E4 hO 5 [_, _, _, _, _] FB CC ?_))))
        replace hO := (A5.pick hO [0, 3, 2, 1, 4, 5] (by decide) rfl : A5 H G ([.Ad b29 (.cells 4 [.bool v20.Ok, u23, u25, u27]), AY [] F23 v20.C5 [u23], AY [] F25 v20.AF [u25], AY [] Fb25 v20.A7 [u27]] ++ [.Ad b2 (.cells 4 (Ah l6 0 l7 0 l8 m9 aF1)), .Ad b1 (.cells 5 (Ai l1 0 l2 m3 l4 m5 aP0))]))
        refine bk hk fun z33 hz33 hk => iR (rs0 := [.Ad b29 (.cells 4 [.bool v20.Ok, u23, u25, u27]), AY [] F23 v20.C5 [u23], AY [] F25 v20.AF [u25], AY [] Fb25 v20.A7 [u27]]) (rs1 := fun (Fs34 : List Nat × List Nat × List Nat) => [.Ad b29 (.cells 4 [.bool z33.Ok, u23, u25, u27]), AY [] Fs34.1 z33.C5 [u23], AY [] Fs34.2.1 z33.AF [u25], AY [] Fs34.2.2 z33.A7 [u27]]) (rest := [.Ad b2 (.cells 4 (Ah l6 0 l7 0 l8 m9 aF1)), .Ad b1 (.cells 5 (Ai l1 0 l2 m3 l4 m5 aP0))]) (S := (b29 :: (F23 ++ (F25 ++ (Fb25 ++ []))))) hO hlo rfl (R4 rfl) (Ms rfl) (A5.lo hO) (fun _ hl1 hlt1 hun1 ho1 => ZI hz33 ho1 hun1 hlt1 hl1) (fun _ => (RQ rfl (RQ rfl (RQ rfl (RQ rfl fE))))) (fun Fs34 G hO => pE (gn (A1 (A4 ?_))))
        refine E4 hO 4 [_, _, _, _] Ep Bv ?_
        refine E4 hO 0 [_, _, _, _] Ep Bv (bk hk fun v35 hv35 hk => ?_)
        obtain ⟨_, hm36⟩ := S7 hO (j := 3) rfl (lk.length + 1) 7
        obtain ⟨_, hm37⟩ := Fb hO (j := 2) rfl (lk.length + 1) 7
        obtain ⟨_, hm38⟩ := Fb hO (j := 1) rfl (lk.length + 1) 7
        refine AR (vs := [(.agg [_, _, _, _]), (.agg [_, _, _, _])]) (caps := []) (fun _ => ZN hv35) ?_ (h3 := (BH rfl (BH (Qt (DS rfl (DS hm38 (DS hm37 (DS hm36 Qw))))) EF)))
        refine pA (.bool _) (pE (gn (Aw ?_)))
        cases hk; exact AT hO
def KG (aF1 : AD) (aI2 : Int) (aSection3 : Int) (c4 : Bq) : Int → Option (Int ⊕ Bool) := fun s =>
 (bif decide (s < (c4.A0.length : Int)) then ((AK c4.A0 s).bind fun c6 => ((bif (c6 == aSection3) then ((AK aF1.A7 aI2).bind fun c8 => some (decide (s ≥ c8.Ab))) else some false).bind fun t7 => (bif t7 then ((some true).map Sum.inr) else some (.inl (BT (s + (1:Int))))))) else ((some false).map Sum.inr))
def WV (aP0 : AP) (aF1 : AD) (aI2 : Int) (aSection3 : Int) : Option Bool :=
 ((AK aF1.A7 aI2).bind fun c3 => (bif (c3.State == (0:Int)) then some false else ((AK aP0.A7 aI2).bind fun c4 => (AJ (KG aF1 aI2 aSection3 c4) ((0:Int))))))
theorem WW {aP0 : AP} {aF1 : AD} {aI2 : Int} {aSection3 : Int} {r : Bool} {l1 l2 m3 l4 m5 l6 l7 l8 m9 : Nat} (hk : WV aP0 aF1 aI2 aSection3 = some r) (hlk : 0 < lk.length := by simp) : Am Tryz.prog hh 105 [.agg (Ai l1 0 l2 m3 l4 m5 aP0), .agg (Ah l6 0 l7 0 l8 m9 aF1), iv aI2, iv aSection3] H lk = some (.bool r, H) := by
 refine AI Tryz.func105 rfl Tryz.ntmps105 Tryz.results105 rfl rfl fun hO => ?_
 unfold WV at hk
 refine A1 (A4 (BZ (cs := [_, _, _, _, _]) hO CC (fun b1 G hO => ?_)))
 refine BZ (cs := [_, _, _, _]) hO Bv (fun b2 G hO => ?_)
 refine pA (.bool _) (pE (gn (A1 (A1 (A4 ?_)))))
 refine As Bd hO 0 (.lit _ _ _) Dv ?_
 refine pM (.int _ _) (bk hk fun c3 hc3 hk => ?_)
 refine pX hc3 EJ Av ?_
 refine pF B8 ?_
 refine Br (.int _ _) (D4 (lm := m9) (off := 0) hc3 BU) ?_
 refine AW (pE (gn (Aq hk (fun hk => ?_) (fun hk => ?_))))
 ·refine A1 (A4 (pA (.bool _) (pE (gn (Aw (gr ?_))))))
  cases hk; exact AT hO
 ·refine Ar (gn (A1 (A1 (A4 (As Bl hO 1 (.lit _ _ _) Du ?_)))))
  refine pM (.int _ _) (bk hk fun c4 hc4 hk => ?_)
  refine pX hc4 Er Az ?_
  refine pF BI ?_
  refine Br (.lit _ _ _) (D4 (lm := m3) (off := 0) hc4 BK) ?_
  refine Af D5 ?_
  refine pM (.int _ _) (pE (gn (BO ?_)))
  refine AA (F := KG aF1 aI2 aSection3 c4) (fun s S' => ∃ (J : Nat → V) (G : A3), A5 H G [.Ad b2 (.cells 4 (Ah l6 0 l7 0 l8 m9 aF1))] ∧ S' = ⟨CM [(2, iv aI2), (3, iv aSection3), (5, .ptr b2 0), (23, AN m3 0 c4.A0), (24, iv (c4.A0.length : Int)), (25, iv s)] J, G⟩) hk ⟨_, _, (pk hO [0]), sh⟩ ?_
  rintro x5 _ y1 ⟨J, G, hO, rfl⟩ hk hx1
  refine A1 (A4 (AW (pE (gn (A1 (Aq hk (fun hk => ?_) (fun hk => ?_)))))))
  ·refine Ar (gn (A1 (BO (A1 (A4 (pM (.int _ _) (bk hk fun c6 hc6 hk => ?_)))))))
   refine pX hc6 C4 DP ?_
   refine Br (.int _ _) (D4 (lm := 0) (off := 0) hc6 BU) ?_
   refine pA (.int _ _) ?_
   refine pA (.int _ _) (pE (gn (A1 (A4 ?_))))
   refine pM (.int _ _) ?_
   refine pM (.int _ _) ?_
   refine AW ?_
   refine pM (.bool _) (bk hk fun t7 ht hk => ?_)
   refine AS (l1 := [_, _, _, _, _, _, _, _, _]) [34, 35, 36, 37, 38, 39, 40, 41, 42] 42 (.bool t7) ?_ ?_
   ·refine bc (b := (c6 == aSection3)) (fun hg => ?_) (fun hg => ?_)
    ·replace hk := ct hg ht
     refine AB hg (pM (.int _ _) (AB hg ?_))
     refine pF Bd (AB hg ?_)
     refine CN hO 0 (.lit _ _ _) Dv (AB hg ?_)
     refine pM (.int _ _) (AB hg (bk hk fun c8 hc8 hk => ?_))
     refine pX hc8 EJ Av (AB hg ?_)
     refine pF Bw (AB hg ?_)
     refine Br (.int _ _) (D4 (lm := m9) (off := 1) hc8 BU) (AB hg ?_)
     refine AW ?_
     refine Cr hg (.bool _) ?_
     cases hk; exact pE ek
    ·replace hk := cf hg ht
     refine AE hg (AE hg (AE hg (AE hg (AE hg (AE hg (AE hg (AE hg (Cq hg (.bool _) ?_))))))))
     cases hk; exact pE ek
   ·intro J
    refine pE (gn (Aq hk (fun hk => ?_) (fun hk => ?_)))
    ·refine A1 (A4 (pA (.bool _) (pE (gn (Aw (br (gr (gr (br (gr (have hk := lx hx1 hk; ?_)))))))))))
     cases hk; exact AT hO
    ·refine Ar (bn (gn (A4 (AW ?_))))
     refine pM (.int _ _) (pE (gn ?_))
     cases hk; exact ⟨_, rfl, _, _, hO, sh⟩
  ·refine D3 (ge (ge (be (gn (have hk := lx hx1 hk; A1 (A4 (pA (.bool _) (pE (gn (Aw ?_))))))))))
   cases hk; exact AT hO
def Jr (aP0 : AP) (aF1 : AD) (aI2 : Int) (aPoint3 : Int) (c8 : Bq) : Int → Option (Int ⊕ Int) := fun s =>
 (bif decide (s < (c8.AQ.length : Int)) then ((AK c8.AQ s).bind fun c10 => ((bif (c10.Switch == aPoint3) then ((AK aP0.A6 aPoint3).bind fun c13 => ((WV aP0 aF1 aI2 c13).bind fun v14 => some v14)) else some false).bind fun t12 => (bif t12 then ((some c10.FC).map Sum.inr) else some (.inl (BT (s + (1:Int))))))) else ((some (0:Int)).map Sum.inr))
def LN (aP0 : AP) (aF1 : AD) (aI2 : Int) (aPoint3 : Int) (c4 : Bq) : Int → Option (Int ⊕ Int) := fun s =>
 (bif decide (s < (c4.AH.length : Int)) then ((AK c4.AH s).bind fun c6 => (bif (c6.Switch == aPoint3) then ((some c6.FC).map Sum.inr) else some (.inl (BT (s + (1:Int)))))) else (((AK aP0.A7 aI2).bind fun c8 => (AJ (Jr aP0 aF1 aI2 aPoint3 c8) ((0:Int)))).map Sum.inr))
def gX (aP0 : AP) (aF1 : AD) (aI2 : Int) (aPoint3 : Int) : Option Int :=
 ((AK aF1.A7 aI2).bind fun c3 => (bif (c3.State == (0:Int)) then some (0:Int) else ((AK aP0.A7 aI2).bind fun c4 => (AJ (LN aP0 aF1 aI2 aPoint3 c4) ((0:Int))))))
theorem ZO {aP0 : AP} {aF1 : AD} {aI2 : Int} {aPoint3 : Int} {r : Int} {l1 l2 m3 l4 m5 l6 l7 l8 m9 : Nat} (hk : gX aP0 aF1 aI2 aPoint3 = some r) (hlk : 0 < lk.length := by simp) : Am Tryz.prog hh 75 [.agg (Ai l1 0 l2 m3 l4 m5 aP0), .agg (Ah l6 0 l7 0 l8 m9 aF1), iv aI2, iv aPoint3] H lk = some (iv r, H) := by
 refine AI Tryz.func75 rfl Tryz.ntmps75 Tryz.results75 rfl rfl fun hO => ?_
 unfold gX at hk
 refine A1 (A4 (BZ (cs := [_, _, _, _, _]) hO CC (fun b1 G hO => ?_)))
 refine BZ (cs := [_, _, _, _]) hO Bv (fun b2 G hO => ?_)
 refine pA (.int _ _) (pE (gn (A1 (A1 (A4 ?_)))))
 refine As Bd hO 0 (.lit _ _ _) Dv ?_
 refine pM (.int _ _) (bk hk fun c3 hc3 hk => ?_)
 refine pX hc3 EJ Av ?_
 refine pF B8 ?_
 refine Br (.int _ _) (D4 (lm := m9) (off := 0) hc3 BU) ?_
 refine AW (pE (gn (Aq hk (fun hk => ?_) (fun hk => ?_))))
 ·refine A1 (A4 (pA (.int _ _) (pE (gn (Aw (gr ?_))))))
  cases hk; exact AT hO
 ·refine Ar (gn (A1 (A1 (A4 (As Bl hO 1 (.lit _ _ _) Du ?_)))))
  refine pM (.int _ _) (bk hk fun c4 hc4 hk => ?_)
  refine pX hc4 Er Az ?_
  refine pF EU ?_
  refine Br (.lit _ _ _) (D4 (lm := m3) (off := 2) hc4 Da) ?_
  refine Af Ex ?_
  refine pM (.int _ _) (pE (gn (BO ?_)))
  refine AA (F := LN aP0 aF1 aI2 aPoint3 c4) (fun s S' => ∃ (J : Nat → V) (G : A3), A5 H G [.Ad b2 (.cells 4 (Ah l6 0 l7 0 l8 m9 aF1)), .Ad b1 (.cells 5 (Ai l1 0 l2 m3 l4 m5 aP0))] ∧ S' = ⟨CM [(2, iv aI2), (3, iv aPoint3), (4, .ptr b1 0), (5, .ptr b2 0), (25, AN m3 0 c4.AH), (26, iv (c4.AH.length : Int)), (27, iv s)] J, G⟩) hk ⟨_, _, hO, sh⟩ ?_
  rintro x5 _ y1 ⟨J, G, hO, rfl⟩ hk hx1
  refine A1 (A4 (AW (pE (gn (A1 (Aq hk (fun hk => ?_) (fun hk => ?_)))))))
  ·refine Ar (gn (A1 (BO (A1 (A4 (bk hk fun c6 hc6 hk => pX hc6 Df BB ?_))))))
   refine Br (.agg [_, _]) (G8 (lm := 0) (off := 0) hc6 G3 BB) (CK hO BB FT (fun b7 G hO => ?_))
   refine Cs (xs := [_, _]) hO 0 BB rfl (fun G hO => pE (gn (A1 (A4 ?_))))
   refine As CP hO 0 (.int _ _) BU ?_
   refine pM (.int _ _) ?_
   refine AW (pE (gn (Aq hk (fun hk => ?_) (fun hk => ?_))))
   ·refine A1 (A4 (As E7 hO 0 (.int _ _) BU ?_))
    refine pA (.int _ _) (pE (gn (Aw (br (gr (gr (br (gr (have hk := lx hx1 hk; ?_)))))))))
    cases hk; exact AT hO
   ·refine Ar (bn (gn (A4 (AW ?_))))
    refine pM (.int _ _) (pE (gn ?_))
    cases hk; exact ⟨_, rfl, _, _, (pk hO [1, 2]), sh⟩
  ·refine D3 (ge (ge (be (gn (have hk := lx hx1 hk; A1 (A1 (A4 (As Bl hO 1 (.lit _ _ _) Du ?_))))))))
   refine pM (.int _ _) (bk hk fun c8 hc8 hk => ?_)
   refine pX hc8 Er Az ?_
   refine pF E6 ?_
   refine Br (.lit _ _ _) (D4 (lm := m3) (off := 1) hc8 Da) ?_
   refine Af Ex ?_
   refine pM (.int _ _) (pE (gn (BO ?_)))
   refine AA (F := Jr aP0 aF1 aI2 aPoint3 c8) (fun s S' => ∃ (J : Nat → V) (G : A3), A5 H G [.Ad b2 (.cells 4 (Ah l6 0 l7 0 l8 m9 aF1)), .Ad b1 (.cells 5 (Ai l1 0 l2 m3 l4 m5 aP0))] ∧ S' = ⟨CM [(2, iv aI2), (3, iv aPoint3), (4, .ptr b1 0), (5, .ptr b2 0), (43, AN m3 0 c8.AQ), (44, iv (c8.AQ.length : Int)), (45, iv s)] J, G⟩) hk ⟨_, _, hO, sh⟩ ?_
   rintro x9 _ y1 ⟨J, G, hO, rfl⟩ hk hx1
   refine A1 (A4 (AW (pE (gn (A1 (Aq hk (fun hk => ?_) (fun hk => ?_)))))))
   ·refine Ar (gn (A1 (BO (A1 (A4 (bk hk fun c10 hc10 hk => pX hc10 Df BB ?_))))))
    refine Br (.agg [_, _]) (G8 (lm := 0) (off := 0) hc10 G3 BB) (CK hO BB FT (fun b11 G hO => ?_))
    refine Cs (xs := [_, _]) hO 0 BB rfl (fun G hO => pE (gn (A1 ?_)))
    refine BC [(0, false), (1, true), (2, true), (3, false), (4, false), (5, true), (6, true), (7, true), (8, true), (9, true), (10, true), (11, true), (12, true), (13, false), (14, false)] [_, _, _, _, _, _, _, _, _, _, _, _, _, _, _] (by decide +kernel) (by rfl) ?_
    refine As CP hO 0 (.int _ _) BU ?_
    refine pM (.int _ _) ?_
    refine AW ?_
    refine pM (.bool _) (bk hk fun t12 ht hk => ?_)
    refine AS (l1 := [_, _, _, _, _, _, _, _, _, _]) [54, 55, 56, 57, 58, 59, 60, 61, 62, 63] 63 (.bool t12) ?_ ?_
    ·refine bc (b := (c10.Switch == aPoint3)) (fun hg => ?_) (fun hg => ?_)
     ·replace hk := ct hg ht
      refine AB hg (E4 hO 2 [_, _, _, _, _] FB CC (AB hg ?_))
      refine E4 hO 1 [_, _, _, _] Ep Bv (AB hg ?_)
      refine pM (.int _ _) (AB hg ?_)
      refine pF DE (AB hg ?_)
      refine CN hO 2 (.lit _ _ _) BK (AB hg ?_)
      refine pM (.int _ _) (AB hg (bk hk fun c13 hc13 hk => ?_))
      refine pX hc13 C4 DP (AB hg ?_)
      refine Br (.int _ _) (D4 (lm := 0) (off := 0) hc13 BU) (AB hg (bk hk fun v14 hv14 hk => ?_))
      refine AR (fun _ => WW hv14) ?_
      refine Cr hg (.bool _) ?_
      cases hk; exact pE ek
     ·replace hk := cf hg ht
      refine AE hg (AE hg (AE hg (AE hg (AE hg (AE hg (AE hg (AE hg (AE hg (Cq hg (.bool _) ?_)))))))))
      cases hk; exact pE ek
    ·intro J
     refine pE (gn (Aq hk (fun hk => ?_) (fun hk => ?_)))
     ·refine A1 (A4 (As E7 hO 0 (.int _ _) BU ?_))
      refine pA (.int _ _) (pE (gn (Aw (br (gr (gr (br (gr (have hk := lx hx1 hk; ?_)))))))))
      cases hk; exact AT hO
     ·refine Ar (bn (gn (A4 (AW ?_))))
      refine pM (.int _ _) (pE (gn ?_))
      cases hk; exact ⟨_, rfl, _, _, (pk hO [1, 2]), sh⟩
   ·refine D3 (ge (ge (be (gn (have hk := lx hx1 hk; A1 (A4 (pA (.int _ _) (pE (gn (Aw ?_))))))))))
    cases hk; exact AT hO
def QS (x5 : Int) (x6 : List Int) : Option (((List Int) × Int) ⊕ (List Int)) :=
 some (.inl (x6, BT (x5 + (1:Int))))
def LI (aP0 : AP) (aF1 : AD) (aPoint2 : Int) : ((List Int) × Int) → Option (((List Int) × Int) ⊕ (List Int)) := fun s =>
 (bif decide (s.2 < (aP0.A7.length : Int)) then ((gX aP0 aF1 s.2 aPoint2).bind fun v8 => (bif decide (v8 > (0:Int)) then ((DC 8 s.1 ([s.2] : List Int)).bind fun z9 => (QS s.2 z9)) else (QS s.2 s.1))) else ((some s.1).map Sum.inr))
def eX (aP0 : AP) (aF1 : AD) (aPoint2 : Int) : Option (List Int) :=
 (AJ (LI aP0 aF1 aPoint2) (([] : List Int), (0:Int)))
theorem UY {aP0 : AP} {aF1 : AD} {aPoint2 : Int} {r : (List Int)} {l1 l2 m3 l4 m5 l6 l7 l8 m9 : Nat} (hk : eX aP0 aF1 aPoint2 = some r) (hlk : 0 < lk.length := by simp) : Am Tryz.prog hh 38 [.agg (Ai l1 0 l2 m3 l4 m5 aP0), .agg (Ah l6 0 l7 0 l8 m9 aF1), iv aPoint2] H lk = some (AN 0 0 r, H) := by
 refine AI Tryz.func38 rfl Tryz.ntmps38 Tryz.results38 rfl rfl fun hO => ?_
 unfold eX at hk
 refine A1 (A4 (BZ (cs := [_, _, _, _, _]) hO CC (fun b1 G hO => ?_)))
 refine BZ (cs := [_, _, _, _]) hO Bv (fun b2 G hO => ?_)
 refine pA (.tl 0 []) (pE (gn (A1 (A4 ?_))))
 refine pA (.tl 0 []) (pE (gn (A1 (A1 (A4 ?_)))))
 refine As Bl hO 1 (.lit _ _ _) Du ?_
 refine Af IZ ?_
 refine pM (.int _ _) (pE (gn (BO ?_)))
 refine AA (F := LI aP0 aF1 aPoint2) (fun s S' => ∃ (o3 : V) (J : Nat → V) (G : A3), A5 H G [.Ad b2 (.cells 4 (Ah l6 0 l7 0 l8 m9 aF1)), .Ad b1 (.cells 5 (Ai l1 0 l2 m3 l4 m5 aP0)), .own o3 lk.length 1 s.1.length (A8 0 s.1)] ∧ S' = ⟨CM [(2, iv aPoint2), (3, .ptr b1 0), (4, .ptr b2 0), (7, o3), (11, iv (aP0.A7.length : Int)), (12, iv s.2)] J, G⟩) hk ⟨(.tl 0 []), _, _, (A5.pick (A5.Gt hO lk.length ([] : List Int)) [1, 2, 0] (by decide) rfl), sh⟩ ?_
 rintro ⟨x3, x5⟩ _ y1 ⟨o3, J, G, hO, rfl⟩ hk hx1
 refine A1 (A4 (AW (pE (gn (A1 (Aq hk (fun hk => ?_) (fun hk => ?_)))))))
 ·refine Ar (gn (CQ (fun S' => ∃ (x6 : List Int) (o6 : V) (J : Nat → V) (G : A3), QS x5 x6 = some y1 ∧ A5 H G [.Ad b2 (.cells 4 (Ah l6 0 l7 0 l8 m9 aF1)), .Ad b1 (.cells 5 (Ai l1 0 l2 m3 l4 m5 aP0)), .own o6 lk.length 1 x6.length (A8 0 x6)] ∧ S' = ⟨CM [(2, iv aPoint2), (3, .ptr b1 0), (4, .ptr b2 0), (7, o6), (11, iv (aP0.A7.length : Int)), (12, iv x5)] J, G⟩) ?_ ?_))
  ·refine BO (A1 (A4 (pM (.int _ _) ?_)))
   refine pA (.int _ _) (pE (gn (A1 (A4 ?_))))
   refine E4 hO 1 [_, _, _, _, _] FB CC ?_
   refine E4 hO 0 [_, _, _, _] Ep Bv ?_
   refine pM (.int _ _) ?_
   refine pM (.int _ _) (bk hk fun v8 hv8 hk => ?_)
   refine AR (fun _ => ZO hv8) ?_
   refine AW (pE (gn (Aq hk (fun hk => ?_) (fun hk => ?_))))
   ·refine A4 (pM o3 ?_)
    refine pM (.int _ _) ?_
    refine Tv (ps := [(0, (.int _ _))]) ([x5] : List Int) C4 DP MO (DG (DH _ _) (Dg)) (bk hk fun z9 hz9 hk => ?_)
    refine Si (xs := x3) hO 2 hz9 (EB ([x5] : List Int)) C4 DP W8 MO C4 rfl (fun o9 G hno9 hO => ?_)
    refine pA o9 (pE (bn (gn ?_)))
    exact ⟨z9, o9, _, _, hk, hO, sh⟩
   ·exact Ar (bn (gn (⟨x3, o3, _, _, hk, hO, sh⟩)))
  ·rintro _ ⟨x6, o6, J, G, hk, hO, rfl⟩
   refine A4 (AW ?_)
   refine pM (.int _ _) (pE (gn ?_))
   cases hk; exact ⟨_, rfl, o6, _, _, hO, sh⟩
 ·refine D3 (ge (ge (be (gn (have hk := lx hx1 hk; A1 (A4 (pM o3 ?_)))))))
  refine pA o3 (pE (gn (Aw ?_)))
  replace hk := Option.some.inj hk; subst hk; exact Gp hO (HI (xs := x3) hlk 2) (JB o3 Dl)
def f8 (aP0 : AP) (aF1 : AD) (aPoint2 : Int) : Option (List Int) :=
 ((gH aP0 aF1).bind fun v3 => ((bif !v3 then some true else ((TD aPoint2 (0:Int) (BT ((aP0.A6.length : Int) - (1:Int)))).bind fun v5 => some (!v5))).bind fun t4 => (bif t4 then some ([] : List Int) else ((eX aP0 aF1 aPoint2).bind fun v6 => some v6))))
theorem dI {aP0 : AP} {aF1 : AD} {aPoint2 : Int} {r : (List Int)} {l1 l2 m3 l4 m5 l6 l7 l8 m9 : Nat} (hk : f8 aP0 aF1 aPoint2 = some r) (hlk : 0 < lk.length := by simp) (hlo : E9 lk H.length := by simp [E9]) : Am Tryz.prog hh 8 [.agg (Ai l1 0 l2 m3 l4 m5 aP0), .agg (Ah l6 0 l7 0 l8 m9 aF1), iv aPoint2] H lk = some (AN 0 0 r, H) := by
 refine AI Tryz.func8 rfl Tryz.ntmps8 Tryz.results8 rfl rfl fun hO => ?_
 unfold f8 at hk
 refine A1 (A4 (BZ (cs := [_, _, _, _, _]) hO CC (fun b1 G hO => ?_)))
 refine BZ (cs := [_, _, _, _]) hO Bv (fun b2 G hO => ?_)
 refine pA (.tl 0 []) (pE (gn (A1 (A1 (A4 ?_)))))
 refine E4 hO 1 [_, _, _, _, _] FB CC ?_
 refine E4 hO 0 [_, _, _, _] Ep Bv (bk hk fun v3 hv3 hk => ?_)
 refine RA hO hlo rfl (fun _ hl => Z0 hv3 (hlo := hl)) ?_
 refine pU ?_
 refine pM (.bool _) (bk hk fun t4 ht hk => ?_)
 refine AS (l1 := [_, _, _, _, _, _, _, _]) [12, 13, 14, 15, 16, 17, 18, 19] 19 (.bool t4) ?_ ?_
 ·refine bc (b := !v3) (fun hg => ?_) (fun hg => ?_)
  ·replace hk := ct hg ht
   refine AE hg (AE hg (AE hg (AE hg (AE hg (AE hg (AE hg (Cr hg (.bool _) ?_)))))))
   cases hk; exact pE ek
  ·replace hk := cf hg ht
   refine AB hg (pM (.int _ _) (AB hg ?_))
   refine pF DE (AB hg ?_)
   refine CN hO 1 (.lit _ _ _) BK (AB hg ?_)
   refine Af D5 (AB hg ?_)
   refine AW (AB hg (bk hk fun v5 hv5 hk => ?_))
   refine AR (fun _ => Ed hv5) (AB hg ?_)
   refine pU ?_
   refine Cq hg (.bool _) ?_
   cases hk; exact pE ek
 ·intro J
  refine pE (gn (Aq hk (fun hk => ?_) (fun hk => ?_)))
  ·refine A1 (A4 (pA (.tl 0 []) (pE (gn (Aw (gr ?_))))))
   replace hk := Option.some.inj hk; subst hk; exact Gp hO (dM (k := 0) Int) (JB (.tl 0 []) Dl)
  ·refine Ar (gn (A1 (A4 (E4 hO 1 [_, _, _, _, _] FB CC ?_))))
   refine E4 hO 0 [_, _, _, _] Ep Bv ?_
   refine pM (.int _ _) (bk hk fun v6 hv6 hk => ?_)
   refine AR (fun _ => UY hv6) ?_
   refine pA (.lit _ _ _) (pE (gn (Aw ?_)))
   replace hk := Option.some.inj hk; subst hk; exact Gp hO (dL hlk v6) (JB (.lit _ _ _) Dl)
def TF (aX0 : Int) (aLo1 : Int) (aHi2 : Int) : Option Bool :=
 some (decide (aX0 ≥ aLo1) && decide (aX0 ≤ aHi2))
theorem Ee {aX0 : Int} {aLo1 : Int} {aHi2 : Int} {r : Bool} (hk : TF aX0 aLo1 aHi2 = some r) (hlk : 0 < lk.length := by simp) : Am Tryz.prog hh 46 [iv aX0, iv aLo1, iv aHi2] H lk = some (.bool r, H) := by
 refine AI Tryz.func46 rfl Tryz.ntmps46 Tryz.results46 rfl rfl fun hO => ?_
 unfold TF at hk
 refine A1 (A4 (pA (.bool _) (pE (gn (A1 (A4 ?_))))))
 refine pM (.int _ _) ?_
 refine pM (.int _ _) ?_
 refine AW ?_
 refine pM (.bool _) ?_
 refine AS (l1 := [_, _, _, _]) [11, 12, 13, 14] 14 (.bool (decide (aX0 ≥ aLo1) && decide (aX0 ≤ aHi2))) ?_ ?_
 ·refine bc (b := decide (aX0 ≥ aLo1)) (fun hg => ?_) (fun hg => ?_)
  ·refine AB hg (pM (.int _ _) (AB hg ?_))
   refine pM (.int _ _) (AB hg ?_)
   refine AW ?_
   refine Cr hg (.bool _) ?_
   exact pE (ek (by rw [hg]; rfl))
  ·refine AE hg (AE hg (AE hg (Cq hg (.bool _) ?_)))
   exact pE (ek (by rw [hg]; rfl))
 ·intro J
  refine pA (.bool _) (pE (gn (Aw ?_)))
  cases hk; exact AT hO
def Qc (aS0 : List Int) (aV1 : Int) : Int → Option (Int ⊕ Int) := fun s =>
 (bif decide (s < (aS0.length : Int)) then ((AK aS0 s).bind fun c2 => (bif (aV1 == c2) then ((some s).map Sum.inr) else some (.inl (BT (s + (1:Int)))))) else ((some (-1:Int)).map Sum.inr))
def dE (aS0 : List Int) (aV1 : Int) : Option Int :=
 (AJ (Qc aS0 aV1) ((0:Int)))
theorem Ua {aS0 : List Int} {aV1 : Int} {r : Int} {l1 : Nat} (hk : dE aS0 aV1 = some r) (hlk : 0 < lk.length := by simp) : Am Tryz.prog hh 84 [AN l1 0 aS0, iv aV1] H lk = some (iv r, H) := by
 refine AI Tryz.func84 rfl Tryz.ntmps84 Tryz.results84 rfl rfl fun hO => ?_
 unfold dE at hk
 refine A1 (A4 (pA (.int _ _) (pE (gn (A1 (A1 (A4 ?_)))))))
 refine pM (.lit _ _ _) ?_
 refine Af D5 ?_
 refine pM (.int _ _) (pE (gn (BO ?_)))
 refine AA (F := Qc aS0 aV1) (fun s S' => ∃ (J : Nat → V) (G : A3), A5 H G [] ∧ S' = ⟨CM [(0, AN l1 0 aS0), (1, iv aV1), (7, iv (aS0.length : Int)), (8, iv s)] J, G⟩) hk ⟨_, _, hO, sh⟩ ?_
 rintro x1 _ y1 ⟨J, G, hO, rfl⟩ hk hx1
 refine A1 (A4 (AW (pE (gn (A1 (Aq hk (fun hk => ?_) (fun hk => ?_)))))))
 ·refine Ar (gn (A1 (BO (A1 (A4 (pM (.int _ _) ?_))))))
  refine pA (.int _ _) (pE (gn (A1 (A4 ?_))))
  refine pM (.int _ _) ?_
  refine pM (.lit _ _ _) ?_
  refine pM (.int _ _) (bk hk fun c2 hc2 hk => ?_)
  refine pX hc2 C4 DP ?_
  refine Br (.int _ _) (D4 (lm := 0) (off := 0) hc2 BU) ?_
  refine AW (pE (gn (Aq hk (fun hk => ?_) (fun hk => ?_))))
  ·refine A1 (A4 (pM (.int _ _) ?_))
   refine pA (.int _ _) (pE (gn (Aw (br (gr (gr (br (gr (have hk := lx hx1 hk; ?_)))))))))
   cases hk; exact AT hO
  ·refine Ar (bn (gn (A4 (AW ?_))))
   refine pM (.int _ _) (pE (gn ?_))
   cases hk; exact ⟨_, rfl, _, _, hO, sh⟩
 ·refine D3 (ge (ge (be (gn (have hk := lx hx1 hk; A1 (A4 (pA (.int _ _) (pE (gn (Aw ?_))))))))))
  cases hk; exact AT hO
def ZZ (aS0 : List Int) (aV1 : Int) : Option Bool :=
 ((dE aS0 aV1).bind fun v1 => some (decide (v1 ≥ (0:Int))))
theorem KU {aS0 : List Int} {aV1 : Int} {r : Bool} {l1 : Nat} (hk : ZZ aS0 aV1 = some r) (hlk : 0 < lk.length := by simp) : Am Tryz.prog hh 91 [AN l1 0 aS0, iv aV1] H lk = some (.bool r, H) := by
 refine AI Tryz.func91 rfl Tryz.ntmps91 Tryz.results91 rfl rfl fun hO => ?_
 unfold ZZ at hk
 refine A1 (A4 (pA (.bool _) (pE (gn (A1 (A4 ?_))))))
 refine pM (.lit _ _ _) ?_
 refine pM (.int _ _) (bk hk fun v1 hv1 hk => ?_)
 refine AR (fun _ => Ua hv1) ?_
 refine AW ?_
 refine pA (.bool _) (pE (gn (Aw ?_)))
 cases hk; exact AT hO
def Mh (aL0 : List Int) (aN1 : Int) : Int → Option (Int ⊕ Bool) := fun s =>
 (bif decide (s < (aL0.length : Int)) then ((AK aL0 s).bind fun c2 => ((TF c2 (0:Int) (BT (aN1 - (1:Int)))).bind fun v3 => ((bif !v3 then some true else ((RK aL0 (0:Int) s).bind fun y5 => ((ZZ y5 c2).bind fun v6 => some v6))).bind fun t4 => (bif t4 then ((some false).map Sum.inr) else some (.inl (BT (s + (1:Int)))))))) else ((some (decide ((aL0.length : Int) ≤ (30:Int)))).map Sum.inr))
def TB (aL0 : List Int) (aN1 : Int) : Option Bool :=
 (AJ (Mh aL0 aN1) ((0:Int)))
theorem NI {aL0 : List Int} {aN1 : Int} {r : Bool} {l1 : Nat} (hk : TB aL0 aN1 = some r) (hlk : 0 < lk.length := by simp) : Am Tryz.prog hh 130 [AN l1 0 aL0, iv aN1] H lk = some (.bool r, H) := by
 refine AI Tryz.func130 rfl Tryz.ntmps130 Tryz.results130 rfl rfl fun hO => ?_
 unfold TB at hk
 refine A1 (A4 (pA (.bool _) (pE (gn (A1 (A1 (A4 ?_)))))))
 refine pM (.lit _ _ _) ?_
 refine Af D5 ?_
 refine pM (.int _ _) (pE (gn (BO ?_)))
 refine AA (F := Mh aL0 aN1) (fun s S' => ∃ (J : Nat → V) (G : A3), A5 H G [] ∧ S' = ⟨CM [(0, AN l1 0 aL0), (1, iv aN1), (7, AN l1 0 aL0), (8, iv (aL0.length : Int)), (9, iv s)] J, G⟩) hk ⟨_, _, hO, sh⟩ ?_
 rintro x1 _ y1 ⟨J, G, hO, rfl⟩ hk hx1
 refine A1 (A4 (AW (pE (gn (A1 (Aq hk (fun hk => ?_) (fun hk => ?_)))))))
 ·refine Ar (gn (A1 (BO (A1 (A4 (pM (.int _ _) (bk hk fun c2 hc2 hk => ?_)))))))
  refine pX hc2 C4 DP ?_
  refine Br (.int _ _) (D4 (lm := 0) (off := 0) hc2 BU) ?_
  refine pA (.int _ _) ?_
  refine pA (.int _ _) (pE (gn (A1 (A4 ?_))))
  refine pM (.int _ _) ?_
  refine pM (.int _ _) ?_
  refine AW (bk hk fun v3 hv3 hk => ?_)
  refine AR (fun _ => Ee hv3) ?_
  refine pU ?_
  refine pM (.bool _) (bk hk fun t4 ht hk => ?_)
  refine AS (l1 := [_, _, _, _, _, _]) [20, 21, 22, 23, 24, 25] 25 (.bool t4) ?_ ?_
  ·refine bc (b := !v3) (fun hg => ?_) (fun hg => ?_)
   ·replace hk := ct hg ht
    refine AE hg (AE hg (AE hg (AE hg (AE hg (Cr hg (.bool _) ?_)))))
    cases hk; exact pE ek
   ·replace hk := cf hg ht
    refine AB hg (pM (.lit _ _ _) (AB hg ?_))
    refine pM (.int _ _) (AB hg (bk hk fun y5 hy5 hk => ?_))
    refine j0 hy5 C4 DP (AB hg ?_)
    refine pM (.int _ _) (AB hg (bk hk fun v6 hv6 hk => ?_))
    refine AR (fun _ => KU hv6) ?_
    refine Cq hg (.bool _) ?_
    cases hk; exact pE ek
  ·intro J
   refine pE (gn (Aq hk (fun hk => ?_) (fun hk => ?_)))
   ·refine A1 (A4 (pA (.bool _) (pE (gn (Aw (br (gr (gr (br (gr (have hk := lx hx1 hk; ?_)))))))))))
    cases hk; exact AT hO
   ·refine Ar (bn (gn (A4 (AW ?_))))
    refine pM (.int _ _) (pE (gn ?_))
    cases hk; exact ⟨_, rfl, _, _, hO, sh⟩
 ·refine D3 (ge (ge (be (gn (have hk := lx hx1 hk; A1 (A4 (pM (.lit _ _ _) ?_)))))))
  refine Af D5 ?_
  refine AW ?_
  refine pA (.bool _) (pE (gn (Aw ?_)))
  cases hk; exact AT hO
def Yn (aX0 : Int) (aA1 : List Int) : Option Bool :=
 ((ZZ aA1 aX0).bind fun v1 => some v1)
theorem Wc {aX0 : Int} {aA1 : List Int} {r : Bool} {l1 : Nat} {q0 : Nat} (hk : Yn aX0 aA1 = some r) (hq0 : H[q0]? = some (.cells 1 [AN l1 0 aA1])) (hlk : 0 < lk.length := by simp) : Am Tryz.prog hh 113 [iv aX0, .ptr q0 0] H lk = some (.bool r, H) := by
 refine AI Tryz.func113 rfl Tryz.ntmps113 Tryz.results113 rfl rfl fun hO => ?_
 unfold Yn at hk
 refine A1 (A4 (pA (.bool _) (pE (gn (A1 (A4 ?_))))))
 refine kI (.lit _ _ _) hO hq0 BK ?_
 refine pM (.int _ _) (bk hk fun v1 hv1 hk => ?_)
 refine AR (fun _ => KU hv1) ?_
 refine pA (.bool _) (pE (gn (Aw ?_)))
 cases hk; exact AT hO
def Gy (aS0 : List Int) (aC1_0 : List Int) : Int → Option (Int ⊕ Int) := fun s =>
 (bif decide (s < (aS0.length : Int)) then ((AK aS0 s).bind fun c2 => ((Yn c2 aC1_0).bind fun v3 => (bif v3 then ((some s).map Sum.inr) else some (.inl (BT (s + (1:Int))))))) else ((some (-1:Int)).map Sum.inr))
def Im (aS0 : List Int) (aC1_0 : List Int) : Option Int :=
 (AJ (Gy aS0 aC1_0) ((0:Int)))
theorem QK {aS0 : List Int} {aC1_0 : List Int} {r : Int} {l1 l2 : Nat} {q0 : Nat} (hk : Im aS0 aC1_0 = some r) (hq0 : H[q0]? = some (.cells 1 [AN l2 0 aC1_0])) (hlk : 0 < lk.length := by simp) : Am Tryz.prog hh 127 [AN l1 0 aS0, .fn 113 [.ptr q0 0]] H lk = some (iv r, H) := by
 refine AI Tryz.func127 rfl Tryz.ntmps127 Tryz.results127 rfl rfl fun hO => ?_
 unfold Im at hk
 refine A1 (A4 (pA (.int _ _) (pE (gn (A1 (A1 (A4 ?_)))))))
 refine pM (.lit _ _ _) ?_
 refine Af D5 ?_
 refine pM (.int _ _) (pE (gn (BO ?_)))
 refine AA (F := Gy aS0 aC1_0) (fun s S' => ∃ (J : Nat → V) (G : A3), A5 H G [] ∧ S' = ⟨CM [(0, AN l1 0 aS0), (1, .fn 113 [.ptr q0 0]), (7, iv (aS0.length : Int)), (8, iv s)] J, G⟩) hk ⟨_, _, hO, sh⟩ ?_
 rintro x1 _ y1 ⟨J, G, hO, rfl⟩ hk hx1
 refine A1 (A4 (AW (pE (gn (A1 (Aq hk (fun hk => ?_) (fun hk => ?_)))))))
 ·refine Ar (gn (A1 (BO (A1 (A4 (pM (.int _ _) ?_))))))
  refine pA (.int _ _) (pE (gn (A1 (A4 ?_))))
  refine pM (.fn _ _) ?_
  refine pM (.lit _ _ _) ?_
  refine pM (.int _ _) (bk hk fun c2 hc2 hk => ?_)
  refine pX hc2 C4 DP ?_
  refine Br (.int _ _) (D4 (lm := 0) (off := 0) hc2 BU) (bk hk fun v3 hv3 hk => ?_)
  refine AR (fun _ => Wc hv3 (H8 hO hq0)) (pE (gn (Aq hk (fun hk => ?_) (fun hk => ?_))))
  ·refine A1 (A4 (pM (.int _ _) ?_))
   refine pA (.int _ _) (pE (gn (Aw (br (gr (gr (br (gr (have hk := lx hx1 hk; ?_)))))))))
   cases hk; exact AT hO
  ·refine Ar (bn (gn (A4 (AW ?_))))
   refine pM (.int _ _) (pE (gn ?_))
   cases hk; exact ⟨_, rfl, _, _, hO, sh⟩
 ·refine D3 (ge (ge (be (gn (have hk := lx hx1 hk; A1 (A4 (pA (.int _ _) (pE (gn (Aw ?_))))))))))
  cases hk; exact AT hO
def KN (aS0 : List Int) (aC1_0 : List Int) : Option Bool :=
 ((Im aS0 aC1_0).bind fun v1 => some (decide (v1 ≥ (0:Int))))
theorem QI {aS0 : List Int} {aC1_0 : List Int} {r : Bool} {l1 l2 : Nat} {q0 : Nat} (hk : KN aS0 aC1_0 = some r) (hq0 : H[q0]? = some (.cells 1 [AN l2 0 aC1_0])) (hlk : 0 < lk.length := by simp) : Am Tryz.prog hh 112 [AN l1 0 aS0, .fn 113 [.ptr q0 0]] H lk = some (.bool r, H) := by
 refine AI Tryz.func112 rfl Tryz.ntmps112 Tryz.results112 rfl rfl fun hO => ?_
 unfold KN at hk
 refine A1 (A4 (pA (.bool _) (pE (gn (A1 (A4 ?_))))))
 refine pM (.lit _ _ _) ?_
 refine pM (.fn _ _) (bk hk fun v1 hv1 hk => ?_)
 refine AR (fun _ => QK hv1 (H8 hO hq0)) ?_
 refine AW ?_
 refine pA (.bool _) (pE (gn (Aw ?_)))
 cases hk; exact AT hO
def aX (aA0 : List Int) (aB1 : List Int) : Option Bool :=
 ((KN aA0 aB1).bind fun v2 => some v2)
theorem Ml {aA0 : List Int} {aB1 : List Int} {r : Bool} {l1 l2 : Nat} (hk : aX aA0 aB1 = some r) (hlk : 0 < lk.length := by simp) : Am Tryz.prog hh 90 [AN l1 0 aA0, AN l2 0 aB1] H lk = some (.bool r, H) := by
 refine AI Tryz.func90 rfl Tryz.ntmps90 Tryz.results90 rfl rfl fun hO => ?_
 unfold aX at hk
 refine A1 (A4 (BZ (cs := [_]) hO Kx (fun b1 G hO => ?_)))
 refine pA (.bool _) (pE (gn (A1 (A4 ?_))))
 refine pM (.lit _ _ _) ?_
 refine kH (vs := [_]) (bk hk fun v2 hv2 hk => ?_)
 refine AR (fun _ => QI hv2 (hO.get (k := 0) rfl).1) ?_
 refine pA (.bool _) (pE (gn (Aw ?_)))
 cases hk; exact AT hO
def KR (aP0 : AP) (aW1 : Bq) : Int → Option (Int ⊕ Bool) := fun s =>
 (bif decide (s < (aW1.AQ.length : Int)) then ((AK aW1.AQ s).bind fun c24 => ((AK aP0.A6 c24.Switch).bind fun c26 => ((ZZ aW1.A0 c26).bind fun v27 => (bif !v27 then ((some false).map Sum.inr) else some (.inl (BT (s + (1:Int)))))))) else (((aX aW1.A0 aW1.Bt).bind fun v28 => some (!v28)).map Sum.inr))
def Hz (aP0 : AP) (aW1 : Bq) (z12 : List Ae) : ((List (Int × Bool)) × (List Ae) × Int) → Option (((List (Int × Bool)) × (List Ae) × Int) ⊕ Bool) := fun s =>
 (bif decide (s.2.2 < (z12.length : Int)) then ((AK s.2.1 s.2.2).bind fun c17 => ((TF c17.Switch (0:Int) (BT ((aP0.A6.length : Int) - (1:Int)))).bind fun v20 => ((bif !v20 then some true else ((TF c17.FC (1:Int) (2:Int)).bind fun v22 => some (!v22))).bind fun t21 => (bif (t21 || (J1 c17.Switch s.1 false)) then ((some false).map Sum.inr) else some (.inl (PD c17.Switch true s.1, s.2.1, BT (s.2.2 + (1:Int)))))))) else ((AJ (KR aP0 aW1) ((0:Int))).map Sum.inr))
def Wl (aP0 : AP) (aW1 : Bq) : Option Bool :=
 ((bif ((aW1.A0.length : Int) == (0:Int)) then some true else ((TB aW1.A0 aP0.A0).bind fun v4 => some (!v4))).bind fun t3 => ((bif t3 then some true else ((TB aW1.Bt aP0.A0).bind fun v6 => some (!v6))).bind fun t5 => ((bif t5 then some true else ((TB aW1.DB aP0.A0).bind fun v8 => some (!v8))).bind fun t7 => (bif ((t7 || decide ((aW1.AQ.length : Int) > (30:Int))) || decide ((aW1.AH.length : Int) > (30:Int))) then some false else ((DC 16 ([] : List Ae) aW1.AQ).bind fun z10 => ((DC 16 z10 aW1.AH).bind fun z12 => (AJ (Hz aP0 aW1 z12) (([] : List (Int × Bool)), z12, (0:Int)))))))))
theorem Wm {aP0 : AP} {aW1 : Bq} {r : Bool} {l1 l2 m3 l4 m5 l6 l7 l8 l9 l10 : Nat} (hk : Wl aP0 aW1 = some r) (hlk : 0 < lk.length := by simp) : Am Tryz.prog hh 122 [.agg (Ai l1 0 l2 m3 l4 m5 aP0), .agg (Cn l6 0 l7 0 l8 0 l9 0 l10 0 aW1)] H lk = some (.bool r, H) := by
 refine AI Tryz.func122 rfl Tryz.ntmps122 Tryz.results122 rfl rfl fun hO => ?_
 unfold Wl at hk
 refine A1 (A4 (BZ (cs := [_, _, _, _, _]) hO CC (fun b1 G hO => ?_)))
 refine BZ (cs := [_, _, _, _, _]) hO Az (fun b2 G hO => ?_)
 refine pA (.bool _) (pE (gn (A1 (A1 (A4 ?_)))))
 refine As BI hO 0 (.lit _ _ _) BK ?_
 refine Af D5 ?_
 refine AW ?_
 refine pM (.bool _) (bk hk fun t3 ht hk => ?_)
 refine AS (l1 := [_, _, _, _, _, _, _]) [15, 16, 17, 18, 19, 20, 21] 21 (.bool t3) ?_ ?_
 ·refine bc (b := ((aW1.A0.length : Int) == (0:Int))) (fun hg => ?_) (fun hg => ?_)
  ·replace hk := ct hg ht
   refine AE hg (AE hg (AE hg (AE hg (AE hg (AE hg (Cr hg (.bool _) ?_))))))
   cases hk; exact pE ek
  ·replace hk := cf hg ht
   refine AB hg (pF BI (AB hg ?_))
   refine CN hO 0 (.lit _ _ _) BK (AB hg ?_)
   refine pF EK (AB hg ?_)
   refine CN hO 1 (.int _ _) BU (AB hg (bk hk fun v4 hv4 hk => ?_))
   refine AR (fun _ => NI hv4) (AB hg ?_)
   refine pU ?_
   refine Cq hg (.bool _) ?_
   cases hk; exact pE ek
 ·intro J
  refine pM (.bool _) (bk hk fun t5 ht hk => ?_)
  refine AS (l1 := [_, _, _, _, _, _, _]) [23, 24, 25, 26, 27, 28, 29] 29 (.bool t5) ?_ ?_
  ·refine bc (b := t3) (fun hg => ?_) (fun hg => ?_)
   ·replace hk := ct hg ht
    refine AE hg (AE hg (AE hg (AE hg (AE hg (AE hg (Cr hg (.bool _) ?_))))))
    cases hk; exact pE ek
   ·replace hk := cf hg ht
    refine AB hg (pF DU (AB hg ?_))
    refine CN hO 0 (.lit _ _ _) BK (AB hg ?_)
    refine pF EK (AB hg ?_)
    refine CN hO 1 (.int _ _) BU (AB hg (bk hk fun v6 hv6 hk => ?_))
    refine AR (fun _ => NI hv6) (AB hg ?_)
    refine pU ?_
    refine Cq hg (.bool _) ?_
    cases hk; exact pE ek
  ·intro J
   refine pM (.bool _) (bk hk fun t7 ht hk => ?_)
   refine AS (l1 := [_, _, _, _, _, _, _]) [31, 32, 33, 34, 35, 36, 37] 37 (.bool t7) ?_ ?_
   ·refine bc (b := t5) (fun hg => ?_) (fun hg => ?_)
    ·replace hk := ct hg ht
     refine AE hg (AE hg (AE hg (AE hg (AE hg (AE hg (Cr hg (.bool _) ?_))))))
     cases hk; exact pE ek
    ·replace hk := cf hg ht
     refine AB hg (pF JY (AB hg ?_))
     refine CN hO 0 (.lit _ _ _) BK (AB hg ?_)
     refine pF EK (AB hg ?_)
     refine CN hO 1 (.int _ _) BU (AB hg (bk hk fun v8 hv8 hk => ?_))
     refine AR (fun _ => NI hv8) (AB hg ?_)
     refine pU ?_
     refine Cq hg (.bool _) ?_
     cases hk; exact pE ek
   ·intro J
    refine pM (.bool _) ?_
    refine AS (l1 := [_, _, _, _, _]) [39, 40, 41, 42, 43] 43 (.bool (t7 || decide ((aW1.AQ.length : Int) > (30:Int)))) ?_ ?_
    ·refine bc (b := t7) (fun hg => ?_) (fun hg => ?_)
     ·refine AE hg (AE hg (AE hg (AE hg (Cr hg (.bool _) ?_))))
      exact pE (ek (by rw [hg]; rfl))
     ·refine AB hg (pF E6 (AB hg ?_))
      refine CN hO 0 (.lit _ _ _) Da (AB hg ?_)
      refine Af Ex (AB hg ?_)
      refine AW ?_
      refine Cq hg (.bool _) ?_
      exact pE (ek (by rw [hg]; rfl))
    ·intro J
     refine pM (.bool _) ?_
     refine AS (l1 := [_, _, _, _, _]) [45, 46, 47, 48, 49] 49 (.bool ((t7 || decide ((aW1.AQ.length : Int) > (30:Int))) || decide ((aW1.AH.length : Int) > (30:Int)))) ?_ ?_
     ·refine bc (b := (t7 || decide ((aW1.AQ.length : Int) > (30:Int)))) (fun hg => ?_) (fun hg => ?_)
      ·refine AE hg (AE hg (AE hg (AE hg (Cr hg (.bool _) ?_))))
       exact pE (ek (by rw [hg]; rfl))
      ·refine AB hg (pF EU (AB hg ?_))
       refine CN hO 0 (.lit _ _ _) Da (AB hg ?_)
       refine Af Ex (AB hg ?_)
       refine AW ?_
       refine Cq hg (.bool _) ?_
       exact pE (ek (by rw [hg]; rfl))
     ·intro J
      refine pE (gn (Aq hk (fun hk => ?_) (fun hk => ?_)))
      ·refine A1 (A4 (pA (.bool _) (pE (gn (Aw (gr ?_))))))
       cases hk; exact AT hO
      ·refine Ar (gn (A1 (A4 (mX Int Bool hO (fun b9 G hO => ?_)))))
       refine pA (.FA _) (pE (gn (A1 (A1 ?_))))
       refine BC [(0, true), (1, true), (3, true), (4, true), (7, true), (2, true), (5, false), (6, false)] [_, _, _, _, _, _, _, _] (by decide +kernel) (by rfl) ?_
       refine As E6 hO 1 (.lit _ _ _) Da ?_
       refine As EU hO 1 (.lit _ _ _) Da ?_
       refine pM (.int _ _) (bk hk fun z10 hz10 hk => ?_)
       refine Xs (xs := aW1.AQ) hO hz10 Tryz.func114 bN Df BB SW FT (fun o10 G hno10 hO => bk hk fun z12 hz12 hk => ?_)
       refine Si (xs := z10) hO 0 hz12 (HS _ aW1.AH) Df BB SW FT Df rfl (fun o12 G hno12 hO => ?_)
       refine iW (VD hO (j := 0) rfl) Ex (pE (gn (BO ?_)))
       refine AA (F := Hz aP0 aW1 z12) (fun s S' => ∃ (o14 : V) (J : Nat → V) (G : A3), A5 H G [.Ad b9 (.mp (BF s.1)), .Ad b2 (.cells 5 (Cn l6 0 l7 0 l8 0 l9 0 l10 0 aW1)), .Ad b1 (.cells 5 (Ai l1 0 l2 m3 l4 m5 aP0)), .own o14 lk.length 2 s.2.1.length (A8 0 s.2.1)] ∧ S' = ⟨CM [(2, .ptr b1 0), (3, .ptr b2 0), (5, .FA b9), (56, o14), (57, iv (z12.length : Int)), (58, iv s.2.2)] J, G⟩) hk ⟨o12, _, _, (pk hO [1, 2, 3, 0]), sh⟩ ?_
       rintro ⟨x13, x14, x16⟩ _ y1 ⟨o14, J, G, hO, rfl⟩ hk hx1
       refine A1 (A4 (AW (pE (gn (A1 (Aq hk (fun hk => ?_) (fun hk => ?_)))))))
       ·refine Ar (gn (A1 (BO (A1 (A4 (bk hk fun c17 hc17 hk => n7 hO 3 hc17 Df BB (fun lv18 => ?_)))))))
        refine Br (.agg [_, _]) (G8 (lm := 0) (off := 0) hc17 G3 BB) (CK hO BB FT (fun b19 G hO => ?_))
        refine Cs (xs := [_, _]) hO 0 BB rfl (fun G hO => pE (gn (A1 (A1 (A4 ?_)))))
        refine As CP hO 0 (.int _ _) BU ?_
        refine As DE hO 3 (.lit _ _ _) BK ?_
        refine Af D5 ?_
        refine AW (bk hk fun v20 hv20 hk => ?_)
        refine AR (fun _ => Ee hv20) ?_
        refine pU ?_
        refine pM (.bool _) (bk hk fun t21 ht hk => ?_)
        refine AS (l1 := [_, _, _, _, _]) [71, 72, 73, 74, 75] 75 (.bool t21) ?_ ?_
        ·refine bc (b := !v20) (fun hg => ?_) (fun hg => ?_)
         ·replace hk := ct hg ht
          refine AE hg (AE hg (AE hg (AE hg (Cr hg (.bool _) ?_))))
          cases hk; exact pE ek
         ·replace hk := cf hg ht
          refine AB hg (pF E7 (AB hg ?_))
          refine CN hO 0 (.int _ _) BU (AB hg (bk hk fun v22 hv22 hk => ?_))
          refine AR (fun _ => Ee hv22) (AB hg ?_)
          refine pU ?_
          refine Cq hg (.bool _) ?_
          cases hk; exact pE ek
        ·intro J
         refine pM (.bool _) ?_
         refine AS (l1 := [_, _, _, _, _]) [77, 78, 79, 80, 81] 81 (.bool (t21 || (J1 c17.Switch x13 false))) ?_ ?_
         ·refine bc (b := t21) (fun hg => ?_) (fun hg => ?_)
          ·refine AE hg (AE hg (AE hg (AE hg (Cr hg (.bool _) ?_))))
           exact pE (ek (by rw [hg]; rfl))
          ·refine AB hg (pM (.FA _) (AB hg ?_))
           refine pF CP (AB hg ?_)
           refine CN hO 0 (.int _ _) BU (AB hg ?_)
           refine mW c17.Switch (false : Bool) (hO.get (k := 1) rfl).1 bQ Ue n8 ?_
           refine Cq hg (.bool _) ?_
           exact pE (ek (by rw [hg]; rfl))
         ·intro J
          refine pE (gn (Aq hk (fun hk => ?_) (fun hk => ?_)))
          ·refine A1 (A4 (pA (.bool _) (pE (gn (Aw (gr (br (gr (gr (br (gr (have hk := lx hx1 hk; ?_))))))))))))
           cases hk; exact AT hO
          ·refine Ar (gn (A4 (pM (.FA _) ?_)))
           refine As CP hO 0 (.int _ _) BU ?_
           refine mZ hO 1 c17.Switch true bQ Ue rfl (fun G hO => pE (bn (gn (A4 ?_))))
           refine AW ?_
           refine pM (.int _ _) (pE (gn ?_))
           cases hk; exact ⟨_, rfl, o14, _, _, (pk hO [1, 2, 3, 4]), sh⟩
       ·refine D3 (ge (ge (be (gn (have hk := lx hx1 hk; A1 (A1 (A4 (As E6 hO 1 (.lit _ _ _) Da ?_))))))))
        refine Af Ex ?_
        refine pM (.int _ _) (pE (gn (BO ?_)))
        refine AA (F := KR aP0 aW1) (fun s S' => ∃ (J : Nat → V) (G : A3), A5 H G [.Ad b2 (.cells 5 (Cn l6 0 l7 0 l8 0 l9 0 l10 0 aW1)), .Ad b1 (.cells 5 (Ai l1 0 l2 m3 l4 m5 aP0))] ∧ S' = ⟨CM [(2, .ptr b1 0), (3, .ptr b2 0), (87, AN l7 0 aW1.AQ), (88, iv (aW1.AQ.length : Int)), (89, iv s)] J, G⟩) hk ⟨_, _, (pk hO [1, 2]), sh⟩ ?_
        rintro x23 _ y1 ⟨J, G, hO, rfl⟩ hk hx1
        refine A1 (A4 (AW (pE (gn (A1 (Aq hk (fun hk => ?_) (fun hk => ?_)))))))
        ·refine Ar (gn (A1 (BO (A1 (A4 (bk hk fun c24 hc24 hk => pX hc24 Df BB ?_))))))
         refine Br (.agg [_, _]) (G8 (lm := 0) (off := 0) hc24 G3 BB) (CK hO BB FT (fun b25 G hO => ?_))
         refine Cs (xs := [_, _]) hO 0 BB rfl (fun G hO => pE (gn (A1 ?_)))
         refine BC [(0, true), (1, true), (2, true), (3, true), (4, true), (5, true), (6, true), (7, true), (8, false), (9, false)] [_, _, _, _, _, _, _, _, _, _] (by decide +kernel) (by rfl) ?_
         refine As BI hO 1 (.lit _ _ _) BK ?_
         refine As DE hO 2 (.lit _ _ _) BK ?_
         refine As CP hO 0 (.int _ _) BU (bk hk fun c26 hc26 hk => ?_)
         refine pX hc26 C4 DP ?_
         refine Br (.int _ _) (D4 (lm := 0) (off := 0) hc26 BU) (bk hk fun v27 hv27 hk => ?_)
         refine AR (fun _ => KU hv27) ?_
         refine pU (pE (gn (Aq hk (fun hk => ?_) (fun hk => ?_))))
         ·refine A1 (A4 (pA (.bool _) (pE (gn (Aw (br (gr (gr (br (gr (have hk := lx hx1 hk; ?_)))))))))))
          cases hk; exact AT hO
         ·refine Ar (bn (gn (A4 (AW ?_))))
          refine pM (.int _ _) (pE (gn ?_))
          cases hk; exact ⟨_, rfl, _, _, (pk hO [1, 2]), sh⟩
        ·refine D3 (ge (ge (be (gn (have hk := lx hx1 hk; A1 (A4 (As BI hO 0 (.lit _ _ _) BK ?_)))))))
         refine As DU hO 0 (.lit _ _ _) BK (bk hk fun v28 hv28 hk => ?_)
         refine AR (fun _ => Ml hv28) ?_
         refine pU ?_
         refine pA (.bool _) (pE (gn (Aw ?_)))
         cases hk; exact AT hO
def MY (aP0 : AP) (x15 : Int) : Int → Option (Int ⊕ (Int ⊕ Ba)) := fun s =>
 (bif decide (s < (aP0.A7.length : Int)) then ((AK aP0.BV x15).bind fun c17 => ((AK c17 s).bind fun c18 => ((AK aP0.BV s).bind fun c19 => ((AK c19 x15).bind fun c20 => ((bif !(c18 == c20) then some true else ((bif (x15 != s) then ((AK aP0.BV x15).bind fun c23 => ((AK c23 s).bind fun c24 => some (!c24))) else some false).bind fun t22 => ((bif t22 then ((AK aP0.A7 x15).bind fun c26 => ((AK aP0.A7 s).bind fun c27 => ((aX c26.A0 c27.A0).bind fun v28 => some v28))) else some false).bind fun t25 => some t25))).bind fun t21 => (bif t21 then (((some ({ Code := (5:Int), At := x15 } : Ba)).map Sum.inr).map Sum.inr) else some (.inl (BT (s + (1:Int)))))))))) else ((some (.inl (BT (x15 + (1:Int))))).map Sum.inr))
def Gx (aP0 : AP) : Int → Option (Int ⊕ Ba) := fun s =>
 (bif decide (s < (aP0.A7.length : Int)) then (AJ (MY aP0 s) ((0:Int))) else ((some ({ Code := 0, At := 0 } : Ba)).map Sum.inr))
def JM (aP0 : AP) : Int → Option (Int ⊕ Ba) := fun s =>
 (bif decide (s < (aP0.BV.length : Int)) then ((AK aP0.BV s).bind fun c14 => (bif ((c14.length : Int) != (aP0.A7.length : Int)) then ((some ({ Code := (4:Int), At := s } : Ba)).map Sum.inr) else some (.inl (BT (s + (1:Int)))))) else ((AJ (Gx aP0) ((0:Int))).map Sum.inr))
def JL (aP0 : AP) : Int → Option (Int ⊕ Ba) := fun s =>
 (bif decide (s < (aP0.A7.length : Int)) then ((AK aP0.A7 s).bind fun c10 => ((Wl aP0 c10).bind fun v12 => (bif !v12 then ((some ({ Code := (3:Int), At := s } : Ba)).map Sum.inr) else some (.inl (BT (s + (1:Int))))))) else ((bif ((aP0.BV.length : Int) != (aP0.A7.length : Int)) then some ({ Code := (4:Int), At := (0:Int) } : Ba) else (AJ (JM aP0) ((0:Int)))).map Sum.inr))
def Hu (aP0 : AP) : Int → Option (Int ⊕ Ba) := fun s =>
 (bif decide (s < (aP0.A6.length : Int)) then ((AK aP0.A6 s).bind fun c7 => ((TF c7 (0:Int) (BT (aP0.A0 - (1:Int)))).bind fun v8 => (bif !v8 then ((some ({ Code := (2:Int), At := s } : Ba)).map Sum.inr) else some (.inl (BT (s + (1:Int))))))) else ((AJ (JL aP0) ((0:Int))).map Sum.inr))
def WX (aP0 : AP) : Option Ba :=
 ((TF aP0.A0 (1:Int) (60:Int)).bind fun v3 => ((bif !v3 then some true else ((TF aP0.E8 (1:Int) (300:Int)).bind fun v5 => some (!v5))).bind fun t4 => (bif ((t4 || decide ((aP0.A6.length : Int) > (40:Int))) || decide ((aP0.A7.length : Int) > (100:Int))) then some ({ Code := (1:Int), At := (0:Int) } : Ba) else (AJ (Hu aP0) ((0:Int))))))
theorem WY {aP0 : AP} {r : Ba} {l1 l2 m3 l4 m5 : Nat} (hk : WX aP0 = some r) (hlk : 0 < lk.length := by simp) : Am Tryz.prog hh 107 [.agg (Ai l1 0 l2 m3 l4 m5 aP0)] H lk = some (.agg [iv r.Code, iv r.At], H) := by
 refine AI Tryz.func107 rfl Tryz.ntmps107 Tryz.results107 rfl rfl fun hO => ?_
 unfold WX at hk
 refine A1 (A4 (BZ (cs := [_, _, _, _, _]) hO CC (fun b1 G hO => CK hO D0 FU (fun b2 G hO => pE (gn (A1 (A1 (A4 ?_))))))))
 refine As EK hO 1 (.int _ _) BU (bk hk fun v3 hv3 hk => ?_)
 refine AR (fun _ => Ee hv3) ?_
 refine pU ?_
 refine pM (.bool _) (bk hk fun t4 ht hk => ?_)
 refine AS (l1 := [_, _, _, _, _]) [16, 17, 18, 19, 20] 20 (.bool t4) ?_ ?_
 ·refine bc (b := !v3) (fun hg => ?_) (fun hg => ?_)
  ·replace hk := ct hg ht
   refine AE hg (AE hg (AE hg (AE hg (Cr hg (.bool _) ?_))))
   cases hk; exact pE ek
  ·replace hk := cf hg ht
   refine AB hg (pF K6 (AB hg ?_))
   refine CN hO 1 (.int _ _) BU (AB hg (bk hk fun v5 hv5 hk => ?_))
   refine AR (fun _ => Ee hv5) (AB hg ?_)
   refine pU ?_
   refine Cq hg (.bool _) ?_
   cases hk; exact pE ek
 ·intro J
  refine pM (.bool _) ?_
  refine AS (l1 := [_, _, _, _, _]) [22, 23, 24, 25, 26] 26 (.bool (t4 || decide ((aP0.A6.length : Int) > (40:Int)))) ?_ ?_
  ·refine bc (b := t4) (fun hg => ?_) (fun hg => ?_)
   ·refine AE hg (AE hg (AE hg (AE hg (Cr hg (.bool _) ?_))))
    exact pE (ek (by rw [hg]; rfl))
   ·refine AB hg (pF DE (AB hg ?_))
    refine CN hO 1 (.lit _ _ _) BK (AB hg ?_)
    refine Af D5 (AB hg ?_)
    refine AW ?_
    refine Cq hg (.bool _) ?_
    exact pE (ek (by rw [hg]; rfl))
  ·intro J
   refine pM (.bool _) ?_
   refine AS (l1 := [_, _, _, _, _]) [28, 29, 30, 31, 32] 32 (.bool ((t4 || decide ((aP0.A6.length : Int) > (40:Int))) || decide ((aP0.A7.length : Int) > (100:Int)))) ?_ ?_
   ·refine bc (b := (t4 || decide ((aP0.A6.length : Int) > (40:Int)))) (fun hg => ?_) (fun hg => ?_)
    ·refine AE hg (AE hg (AE hg (AE hg (Cr hg (.bool _) ?_))))
     exact pE (ek (by rw [hg]; rfl))
    ·refine AB hg (pF Bl (AB hg ?_))
     refine CN hO 1 (.lit _ _ _) Du (AB hg ?_)
     refine Af IZ (AB hg ?_)
     refine AW ?_
     refine Cq hg (.bool _) ?_
     exact pE (ek (by rw [hg]; rfl))
   ·intro J
    refine pE (gn (Aq hk (fun hk => ?_) (fun hk => ?_)))
    ·refine A1 (A4 (R9 [_, _] FU Gm ?_))
     refine Cs (xs := [_, _]) hO 0 D0 rfl (fun G hO => pE (gn (Aw (gr ?_))))
     replace hk := Option.some.inj hk; subst hk; exact Gp hO (Ds (n := 2) (DL (C7 _ _) (DL (C7 _ _) (HX)))) (G9 hO 0 [_, _] HC D0 Dl)
    ·refine Ar (gn (A1 (A1 (A4 (As DE hO 1 (.lit _ _ _) BK ?_)))))
     refine Af D5 ?_
     refine pM (.int _ _) (pE (gn (BO ?_)))
     refine AA (F := Hu aP0) (fun s S' => ∃ (J : Nat → V) (G : A3), A5 H G [.Ad b2 (.cells 2 [iv 0, iv 0]), .Ad b1 (.cells 5 (Ai l1 0 l2 m3 l4 m5 aP0))] ∧ S' = ⟨CM [(1, .ptr b1 0), (2, .ptr b2 0), (35, AN l1 0 aP0.A6), (36, iv (aP0.A6.length : Int)), (37, iv s)] J, G⟩) hk ⟨_, _, hO, sh⟩ ?_
     rintro x6 _ y1 ⟨J, G, hO, rfl⟩ hk hx1
     refine A1 (A4 (AW (pE (gn (A1 (Aq hk (fun hk => ?_) (fun hk => ?_)))))))
     ·refine Ar (gn (A1 (BO (A1 (A4 (pM (.int _ _) (bk hk fun c7 hc7 hk => ?_)))))))
      refine pX hc7 C4 DP ?_
      refine Br (.int _ _) (D4 (lm := 0) (off := 0) hc7 BU) ?_
      refine pA (.int _ _) ?_
      refine pA (.int _ _) (pE (gn (A1 (A4 ?_))))
      refine pM (.int _ _) ?_
      refine As EK hO 1 (.int _ _) BU ?_
      refine AW (bk hk fun v8 hv8 hk => ?_)
      refine AR (fun _ => Ee hv8) ?_
      refine pU (pE (gn (Aq hk (fun hk => ?_) (fun hk => ?_))))
      ·refine A1 (A4 (pM (.int _ _) ?_))
       refine R9 [_, _] FU Gm ?_
       refine Cs (xs := [_, _]) hO 0 D0 rfl (fun G hO => pE (gn (Aw (br (gr (gr (br (gr (have hk := lx hx1 hk; ?_)))))))))
       replace hk := Option.some.inj hk; subst hk; exact Gp hO (Ds (n := 2) (DL (C7 _ _) (DL (C7 _ _) (HX)))) (G9 hO 0 [_, _] HC D0 Dl)
      ·refine Ar (bn (gn (A4 (AW ?_))))
       refine pM (.int _ _) (pE (gn ?_))
       cases hk; exact ⟨_, rfl, _, _, hO, sh⟩
     ·refine D3 (ge (ge (be (gn (have hk := lx hx1 hk; A1 (A1 (A4 (As Bl hO 1 (.lit _ _ _) Du ?_))))))))
      refine Af IZ ?_
      refine pM (.int _ _) (pE (gn (BO ?_)))
      refine AA (F := JL aP0) (fun s S' => ∃ (J : Nat → V) (G : A3), A5 H G [.Ad b2 (.cells 2 [iv 0, iv 0]), .Ad b1 (.cells 5 (Ai l1 0 l2 m3 l4 m5 aP0))] ∧ S' = ⟨CM [(1, .ptr b1 0), (2, .ptr b2 0), (52, AN l2 m3 aP0.A7), (53, iv (aP0.A7.length : Int)), (54, iv s)] J, G⟩) hk ⟨_, _, hO, sh⟩ ?_
      rintro x9 _ y1 ⟨J, G, hO, rfl⟩ hk hx1
      refine A1 (A4 (AW (pE (gn (A1 (Aq hk (fun hk => ?_) (fun hk => ?_)))))))
      ·refine Ar (gn (A1 (BO (A1 (A4 (pM (.int _ _) (bk hk fun c10 hc10 hk => ?_)))))))
       refine pX hc10 Er Az ?_
       refine Br (.agg [_, _, _, _, _]) (G8 (lm := m3) (off := 0) hc10 Ew Az) (CK hO Az IU (fun b11 G hO => ?_))
       refine pA (.int _ _) ?_
       refine Cs (xs := [_, _, _, _, _]) hO 0 Az rfl (fun G hO => pE (gn (A1 (A4 ?_))))
       refine E4 hO 2 [_, _, _, _, _] FB CC ?_
       refine E4 hO 0 [_, _, _, _, _] Ew Az (bk hk fun v12 hv12 hk => ?_)
       refine AR (fun _ => Wm hv12) ?_
       refine pU (pE (gn (Aq hk (fun hk => ?_) (fun hk => ?_))))
       ·refine A1 (A4 (pM (.int _ _) ?_))
        refine R9 [_, _] FU Gm ?_
        refine Cs (xs := [_, _]) hO 1 D0 rfl (fun G hO => pE (gn (Aw (br (gr (gr (br (gr (have hk := lx hx1 hk; ?_)))))))))
        replace hk := Option.some.inj hk; subst hk; exact Gp hO (Ds (n := 2) (DL (C7 _ _) (DL (C7 _ _) (HX)))) (G9 hO 1 [_, _] HC D0 Dl)
       ·refine Ar (bn (gn (A4 (AW ?_))))
        refine pM (.int _ _) (pE (gn ?_))
        cases hk; exact ⟨_, rfl, _, _, (pk hO [1, 2]), sh⟩
      ·refine D3 (ge (ge (be (gn (have hk := lx hx1 hk; A1 (A1 (A4 (As EL hO 1 (.lit _ _ _) IW ?_))))))))
       refine Af Lv ?_
       refine As Bl hO 1 (.lit _ _ _) Du ?_
       refine Af IZ ?_
       refine AW (pE (gn (Aq hk (fun hk => ?_) (fun hk => ?_))))
       ·refine A1 (A4 (R9 [_, _] FU Gm ?_))
        refine Cs (xs := [_, _]) hO 0 D0 rfl (fun G hO => pE (gn (Aw (gr ?_))))
        replace hk := Option.some.inj hk; subst hk; exact Gp hO (Ds (n := 2) (DL (C7 _ _) (DL (C7 _ _) (HX)))) (G9 hO 0 [_, _] HC D0 Dl)
       ·refine Ar (gn (A1 (A1 (A4 (As EL hO 1 (.lit _ _ _) IW ?_)))))
        refine Af Lv ?_
        refine pM (.int _ _) (pE (gn (BO ?_)))
        refine AA (F := JM aP0) (fun s S' => ∃ (J : Nat → V) (G : A3), A5 H G [.Ad b2 (.cells 2 [iv 0, iv 0]), .Ad b1 (.cells 5 (Ai l1 0 l2 m3 l4 m5 aP0))] ∧ S' = ⟨CM [(1, .ptr b1 0), (2, .ptr b2 0), (75, AN l4 m5 aP0.BV), (76, iv (aP0.BV.length : Int)), (77, iv s)] J, G⟩) hk ⟨_, _, hO, sh⟩ ?_
        rintro x13 _ y1 ⟨J, G, hO, rfl⟩ hk hx1
        refine A1 (A4 (AW (pE (gn (A1 (Aq hk (fun hk => ?_) (fun hk => ?_)))))))
        ·refine Ar (gn (A1 (BO (A1 (A4 (pM (.int _ _) (bk hk fun c14 hc14 hk => ?_)))))))
         refine pX hc14 IX GB ?_
         refine Br (.lit _ _ _) (D4 (lm := m5) (off := 0) hc14 C8) ?_
         refine pA (.int _ _) ?_
         refine pA (.lit _ _ _) (pE (gn (A1 (A4 ?_))))
         refine pM (.lit _ _ _) ?_
         refine Af HO ?_
         refine As Bl hO 1 (.lit _ _ _) Du ?_
         refine Af IZ ?_
         refine AW (pE (gn (Aq hk (fun hk => ?_) (fun hk => ?_))))
         ·refine A1 (A4 (pM (.int _ _) ?_))
          refine R9 [_, _] FU Gm ?_
          refine Cs (xs := [_, _]) hO 0 D0 rfl (fun G hO => pE (gn (Aw (br (gr (gr (br (gr (have hk := lx hx1 hk; ?_)))))))))
          replace hk := Option.some.inj hk; subst hk; exact Gp hO (Ds (n := 2) (DL (C7 _ _) (DL (C7 _ _) (HX)))) (G9 hO 0 [_, _] HC D0 Dl)
         ·refine Ar (bn (gn (A4 (AW ?_))))
          refine pM (.int _ _) (pE (gn ?_))
          cases hk; exact ⟨_, rfl, _, _, hO, sh⟩
        ·refine D3 (ge (ge (be (gn (have hk := lx hx1 hk; A1 (A1 (A4 (As Bl hO 1 (.lit _ _ _) Du ?_))))))))
         refine Af IZ ?_
         refine pM (.int _ _) (pE (gn (BO ?_)))
         refine AA (F := Gx aP0) (fun s S' => ∃ (J : Nat → V) (G : A3), A5 H G [.Ad b2 (.cells 2 [iv 0, iv 0]), .Ad b1 (.cells 5 (Ai l1 0 l2 m3 l4 m5 aP0))] ∧ S' = ⟨CM [(1, .ptr b1 0), (2, .ptr b2 0), (93, iv (aP0.A7.length : Int)), (94, iv s)] J, G⟩) hk ⟨_, _, hO, sh⟩ ?_
         rintro x15 _ y1 ⟨J, G, hO, rfl⟩ hk hx1
         refine A1 (A4 (AW (pE (gn (A1 (Aq hk (fun hk => ?_) (fun hk => ?_)))))))
         ·refine Ar (gn (A1 (BO (A1 (A4 (pM (.int _ _) ?_))))))
          refine pA (.int _ _) (pE (gn (A1 (A4 ?_))))
          refine As Bl hO 1 (.lit _ _ _) Du ?_
          refine Af IZ ?_
          refine pM (.int _ _) (pE (gn (BO ?_)))
          refine AA (F := MY aP0 x15) (fun s S' => ∃ (J : Nat → V) (G : A3), A5 H G [.Ad b2 (.cells 2 [iv 0, iv 0]), .Ad b1 (.cells 5 (Ai l1 0 l2 m3 l4 m5 aP0))] ∧ S' = ⟨CM [(1, .ptr b1 0), (2, .ptr b2 0), (9, iv x15), (93, iv (aP0.A7.length : Int)), (94, iv x15), (99, iv (aP0.A7.length : Int)), (100, iv s)] J, G⟩) hk ⟨_, _, hO, sh⟩ ?_
          rintro x16 _ y2 ⟨J, G, hO, rfl⟩ hk hx2
          refine A1 (A4 (AW (pE (gn (A1 (Aq hk (fun hk => ?_) (fun hk => ?_)))))))
          ·refine Ar (gn (A1 (BO (A1 (A4 (pM (.int _ _) ?_))))))
           refine pA (.int _ _) (pE (gn (A1 ?_)))
           refine BC [(0, true), (1, true), (2, true), (3, true), (4, true), (5, true), (6, true), (7, true), (8, true), (9, true), (10, true), (11, true), (12, true), (13, true), (14, true), (15, true), (16, false), (17, false), (18, false), (19, false), (20, false), (21, false), (22, false), (23, true), (24, true), (25, false), (26, true), (27, true), (28, false), (29, true), (30, false), (31, false), (32, false), (33, true), (34, true), (35, true), (36, true), (37, true), (38, true), (39, true), (40, true), (41, true), (42, true), (43, true), (44, true), (45, false), (46, false), (47, false)] [_, _, _, _, _, _, _, _, _, _, _, _, _, _, _, _, _, _, _, _, _, _, _, _, _, _, _, _, _, _, _, _, _, _, _, _, _, _, _, _, _, _, _, _, _, _, _, _] (by decide +kernel) (by rfl) ?_
           refine As EL hO 1 (.lit _ _ _) IW ?_
           refine pM (.int _ _) (bk hk fun c17 hc17 hk => ?_)
           refine pX hc17 IX GB ?_
           refine Br (.lit _ _ _) (D4 (lm := m5) (off := 0) hc17 C8) ?_
           refine pM (.int _ _) (bk hk fun c18 hc18 hk => ?_)
           refine pX hc18 Cl FO ?_
           refine Br (.bool _) (D4 (lm := 0) (off := 0) hc18 Fk) ?_
           refine As EL hO 1 (.lit _ _ _) IW ?_
           refine pM (.int _ _) (bk hk fun c19 hc19 hk => ?_)
           refine pX hc19 IX GB ?_
           refine Br (.lit _ _ _) (D4 (lm := m5) (off := 0) hc19 C8) ?_
           refine pM (.int _ _) (bk hk fun c20 hc20 hk => ?_)
           refine pX hc20 Cl FO ?_
           refine Br (.bool _) (D4 (lm := 0) (off := 0) hc20 Fk) ?_
           refine Zu Tryz.underlying4 ?_
           refine pM (.bool _) (bk hk fun t21 ht hk => ?_)
           refine AS (l1 := [_, _, _, _, _, _, _, _, _, _, _, _, _, _, _, _, _, _, _, _, _, _, _, _, _, _, _, _, _, _]) [121, 122, 123, 124, 125, 126, 127, 128, 129, 130, 131, 132, 133, 134, 135, 136, 137, 138, 139, 140, 141, 142, 143, 144, 145, 146, 147, 148, 149, 150] 150 (.bool t21) ?_ ?_
           ·refine bc (b := !(c18 == c20)) (fun hg => ?_) (fun hg => ?_)
            ·replace hk := ct hg ht
             refine AE hg (AE hg (AE hg (AE hg (CW (CW (CW (CW (CW (CW (CW (CW (CW (AE hg (AE hg (CW (CW (CW (CW (CW (CW (CW (CW (CW (CW (CW (CW (CW (AE hg (Cr hg (.bool _) ?_)))))))))))))))))))))))))))))
             cases hk; exact pE ek
            ·replace hk := cf hg ht
             refine AB hg (pM (.int _ _) (AB hg ?_))
             refine pM (.int _ _) (AB hg ?_)
             refine AW (AB hg ?_)
             refine pM (.bool _) (bk hk fun t22 ht hk => ?_)
             refine AS (l1 := [_, _, _, _, _, _, _, _, _, _]) [125, 126, 127, 128, 129, 130, 131, 132, 133, 134] 134 (.bool t22) ?_ ?_
             ·refine bc (b := (x15 != x16)) (fun hg2 => ?_) (fun hg2 => ?_)
              ·replace hk := ct hg2 ht
               refine AB hg2 (pF EL (AB hg2 ?_))
               refine CN hO 1 (.lit _ _ _) IW (AB hg2 ?_)
               refine pM (.int _ _) (AB hg2 (bk hk fun c23 hc23 hk => ?_))
               refine pX hc23 IX GB (AB hg2 ?_)
               refine Br (.lit _ _ _) (D4 (lm := m5) (off := 0) hc23 C8) (AB hg2 ?_)
               refine pM (.int _ _) (AB hg2 (bk hk fun c24 hc24 hk => ?_))
               refine pX hc24 Cl FO (AB hg2 ?_)
               refine Br (.bool _) (D4 (lm := 0) (off := 0) hc24 Fk) (AB hg2 ?_)
               refine pU (AB hg ?_)
               refine Cr hg2 (.bool _) ?_
               cases hk; exact pE ek
              ·replace hk := cf hg2 ht
               refine AE hg2 (AE hg2 (AE hg2 (AE hg2 (AE hg2 (AE hg2 (AE hg2 (AE hg2 (AE hg2 (AB hg (Cq hg2 (.bool _) ?_))))))))))
               cases hk; exact pE ek
             ·intro J
              refine AB hg (pM (.bool _) (bk hk fun t25 ht hk => ?_))
              refine AS (l1 := [_, _, _, _, _, _, _, _, _, _, _, _, _, _]) [136, 137, 138, 139, 140, 141, 142, 143, 144, 145, 146, 147, 148, 149] 149 (.bool t25) ?_ ?_
              ·refine bc (b := t22) (fun hg2 => ?_) (fun hg2 => ?_)
               ·replace hk := ct hg2 ht
                refine AB hg2 (pF Bl (AB hg2 ?_))
                refine CN hO 1 (.lit _ _ _) Du (AB hg2 ?_)
                refine pM (.int _ _) (AB hg2 (bk hk fun c26 hc26 hk => ?_))
                refine pX hc26 Er Az (AB hg2 ?_)
                refine pF BI (AB hg2 ?_)
                refine Br (.lit _ _ _) (D4 (lm := m3) (off := 0) hc26 BK) (AB hg2 ?_)
                refine pF Bl (AB hg2 ?_)
                refine CN hO 1 (.lit _ _ _) Du (AB hg2 ?_)
                refine pM (.int _ _) (AB hg2 (bk hk fun c27 hc27 hk => ?_))
                refine pX hc27 Er Az (AB hg2 ?_)
                refine pF BI (AB hg2 ?_)
                refine Br (.lit _ _ _) (D4 (lm := m3) (off := 0) hc27 BK) (AB hg2 (bk hk fun v28 hv28 hk => ?_))
                refine AR (fun _ => Ml hv28) (AB hg ?_)
                refine Cr hg2 (.bool _) ?_
                cases hk; exact pE ek
               ·replace hk := cf hg2 ht
                refine AE hg2 (AE hg2 (AE hg2 (AE hg2 (AE hg2 (AE hg2 (AE hg2 (AE hg2 (AE hg2 (AE hg2 (AE hg2 (AE hg2 (AE hg2 (AB hg (Cq hg2 (.bool _) ?_))))))))))))))
                cases hk; exact pE ek
              ·intro J
               refine Cq hg (.bool _) ?_
               cases hk; exact pE ek
           ·intro J
            refine pE (gn (Aq hk (fun hk => ?_) (fun hk => ?_)))
            ·refine A1 (A4 (pM (.int _ _) ?_))
             refine R9 [_, _] FU Gm ?_
             refine Cs (xs := [_, _]) hO 0 D0 rfl (fun G hO => pE (gn (Aw (br (gr (gr (br (br (gr (gr (br (gr (have hk := lx hx2 hk; have hk := lx hx1 hk; ?_)))))))))))))
             replace hk := Option.some.inj hk; subst hk; exact Gp hO (Ds (n := 2) (DL (C7 _ _) (DL (C7 _ _) (HX)))) (G9 hO 0 [_, _] HC D0 Dl)
            ·refine Ar (bn (gn (A4 (AW ?_))))
             refine pM (.int _ _) (pE (gn ?_))
             cases hk; exact ⟨_, rfl, _, _, hO, sh⟩
          ·refine D3 (ge (ge (be (bn (gn (have hk := lx hx2 hk; A4 (AW ?_)))))))
           refine pM (.int _ _) (pE (gn ?_))
           cases hk; exact ⟨_, rfl, _, _, hO, sh⟩
         ·refine D3 (ge (ge (be (gn (have hk := lx hx1 hk; A1 (A4 (R9 [_, _] FU Gm ?_)))))))
          refine Cs (xs := [_, _]) hO 0 D0 rfl (fun G hO => pE (gn (Aw ?_)))
          replace hk := Option.some.inj hk; subst hk; exact Gp hO (Ds (n := 2) (DL (C7 _ _) (DL (C7 _ _) (HX)))) (G9 hO 0 [_, _] HC D0 Dl)
def hQ (aP0 : AP) : Option Bool :=
 ((WX aP0).bind fun v2 => some ((v2.Code == 0) && ((v2.At == 0) && true)))
theorem ZS {aP0 : AP} {r : Bool} {l1 l2 m3 l4 m5 : Nat} (hk : hQ aP0 = some r) (hlk : 0 < lk.length := by simp) : Am Tryz.prog hh 79 [.agg (Ai l1 0 l2 m3 l4 m5 aP0)] H lk = some (.bool r, H) := by
 refine AI Tryz.func79 rfl Tryz.ntmps79 Tryz.results79 rfl rfl fun hO => ?_
 unfold hQ at hk
 refine A1 (A4 (BZ (cs := [_, _, _, _, _]) hO CC (fun b1 G hO => ?_)))
 refine pA (.bool _) (pE (gn (A1 (A4 ?_))))
 refine E4 hO 0 [_, _, _, _, _] FB CC (bk hk fun v2 hv2 hk => ?_)
 refine AR (fun _ => WY hv2) ?_
 refine R9 [_, _] FU Gm ?_
 refine mU jQ (eT (eU _ _ _) (eT (eU _ _ _) (rfl))) ?_
 refine pA (.bool _) (pE (gn (Aw ?_)))
 cases hk; exact AT hO
def Mi (aS0 : List Bool) (aV1 : Bool) : Int → Option (Int ⊕ Int) := fun s =>
 (bif decide (s < (aS0.length : Int)) then ((AK aS0 s).bind fun c2 => (bif (aV1 == c2) then ((some s).map Sum.inr) else some (.inl (BT (s + (1:Int)))))) else ((some (-1:Int)).map Sum.inr))
def Ws (aS0 : List Bool) (aV1 : Bool) : Option Int :=
 (AJ (Mi aS0 aV1) ((0:Int)))
theorem Wt {aS0 : List Bool} {aV1 : Bool} {r : Int} {l1 : Nat} (hk : Ws aS0 aV1 = some r) (hlk : 0 < lk.length := by simp) : Am Tryz.prog hh 131 [AN l1 0 aS0, .bool aV1] H lk = some (iv r, H) := by
 refine AI Tryz.func131 rfl Tryz.ntmps131 Tryz.results131 rfl rfl fun hO => ?_
 unfold Ws at hk
 refine A1 (A4 (pA (.int _ _) (pE (gn (A1 (A1 (A4 ?_)))))))
 refine pM (.lit _ _ _) ?_
 refine Af HO ?_
 refine pM (.int _ _) (pE (gn (BO ?_)))
 refine AA (F := Mi aS0 aV1) (fun s S' => ∃ (J : Nat → V) (G : A3), A5 H G [] ∧ S' = ⟨CM [(0, AN l1 0 aS0), (1, .bool aV1), (7, iv (aS0.length : Int)), (8, iv s)] J, G⟩) hk ⟨_, _, hO, sh⟩ ?_
 rintro x1 _ y1 ⟨J, G, hO, rfl⟩ hk hx1
 refine A1 (A4 (AW (pE (gn (A1 (Aq hk (fun hk => ?_) (fun hk => ?_)))))))
 ·refine Ar (gn (A1 (BO (A1 (A4 (pM (.int _ _) ?_))))))
  refine pA (.int _ _) (pE (gn (A1 (A4 ?_))))
  refine pM (.bool _) ?_
  refine pM (.lit _ _ _) ?_
  refine pM (.int _ _) (bk hk fun c2 hc2 hk => ?_)
  refine pX hc2 Cl FO ?_
  refine Br (.bool _) (D4 (lm := 0) (off := 0) hc2 Fk) ?_
  refine mT Tryz.underlying4 (pE (gn (Aq hk (fun hk => ?_) (fun hk => ?_))))
  ·refine A1 (A4 (pM (.int _ _) ?_))
   refine pA (.int _ _) (pE (gn (Aw (br (gr (gr (br (gr (have hk := lx hx1 hk; ?_)))))))))
   cases hk; exact AT hO
  ·refine Ar (bn (gn (A4 (AW ?_))))
   refine pM (.int _ _) (pE (gn ?_))
   cases hk; exact ⟨_, rfl, _, _, hO, sh⟩
 ·refine D3 (ge (ge (be (gn (have hk := lx hx1 hk; A1 (A4 (pA (.int _ _) (pE (gn (Aw ?_))))))))))
  cases hk; exact AT hO
def VR (aS0 : List Bool) (aV1 : Bool) : Option Bool :=
 ((Ws aS0 aV1).bind fun v1 => some (decide (v1 ≥ (0:Int))))
theorem Rk {aS0 : List Bool} {aV1 : Bool} {r : Bool} {l1 : Nat} (hk : VR aS0 aV1 = some r) (hlk : 0 < lk.length := by simp) : Am Tryz.prog hh 123 [AN l1 0 aS0, .bool aV1] H lk = some (.bool r, H) := by
 refine AI Tryz.func123 rfl Tryz.ntmps123 Tryz.results123 rfl rfl fun hO => ?_
 unfold VR at hk
 refine A1 (A4 (pA (.bool _) (pE (gn (A1 (A4 ?_))))))
 refine pM (.lit _ _ _) ?_
 refine pM (.bool _) (bk hk fun v1 hv1 hk => ?_)
 refine AR (fun _ => Wt hv1) ?_
 refine AW ?_
 refine pA (.bool _) (pE (gn (Aw ?_)))
 cases hk; exact AT hO
def MZ (aH1 : AG) : Option Bool :=
 some (!((aH1.State == (0:Int)) && aH1.Shown) && !(((aH1.State == (2:Int)) || (aH1.State == (3:Int))) && !aH1.Shown))
def KI (aP0 : AP) (aH1 : AG) : Option Bool :=
 (bif (aH1.State == (3:Int)) then ((TF aH1.Timer (1:Int) aP0.E8).bind fun v7 => (bif !v7 then some false else (MZ aH1))) else (bif (aH1.Timer != (0:Int)) then some false else (MZ aH1)))
def WZ (aP0 : AP) (aH1 : AG) (aW2 : Bq) : Option Bool :=
 ((TF aH1.State (0:Int) (4:Int)).bind fun v4 => ((bif (!v4 || ((aH1.Aa.length : Int) != (aW2.A0.length : Int))) then some true else ((TF aH1.Ab (0:Int) (BT ((aW2.A0.length : Int) - (1:Int)))).bind fun v6 => some (!v6))).bind fun t5 => (bif t5 then some false else (bif (aH1.State != (4:Int)) then ((bif (aH1.Ab != (0:Int)) then some true else ((VR aH1.Aa true).bind fun v9 => some v9)).bind fun t8 => (bif t8 then some false else (KI aP0 aH1))) else ((RK aH1.Aa (0:Int) aH1.Ab).bind fun y10 => ((VR y10 false).bind fun v11 => (bif v11 then some false else (KI aP0 aH1))))))))
theorem Wa {aP0 : AP} {aH1 : AG} {aW2 : Bq} {r : Bool} {l1 l2 m3 l4 m5 l6 l7 l8 l9 l10 l11 : Nat} (hk : WZ aP0 aH1 aW2 = some r) (hlk : 0 < lk.length := by simp) : Am Tryz.prog hh 108 [.agg (Ai l1 0 l2 m3 l4 m5 aP0), .agg [iv aH1.State, iv aH1.Ab, AN l6 0 aH1.Aa, .bool aH1.Shown, iv aH1.Timer], .agg (Cn l7 0 l8 0 l9 0 l10 0 l11 0 aW2)] H lk = some (.bool r, H) := by
 refine AI Tryz.func108 rfl Tryz.ntmps108 Tryz.results108 rfl rfl fun hO => ?_
 unfold WZ at hk
 refine A1 (A4 (BZ (cs := [_, _, _, _, _]) hO CC (fun b1 G hO => ?_)))
 refine BZ (cs := [_, _, _, _, _]) hO Av (fun b2 G hO => ?_)
 refine BZ (cs := [_, _, _, _, _]) hO Az (fun b3 G hO => ?_)
 refine pA (.bool _) (pE (gn (A1 (A4 ?_))))
 refine As BI hO 0 (.lit _ _ _) BK ?_
 refine Af D5 ?_
 refine pA (.int _ _) (pE (gn (A1 (A1 (A4 ?_)))))
 refine As B8 hO 1 (.int _ _) BU (bk hk fun v4 hv4 hk => ?_)
 refine AR (fun _ => Ee hv4) ?_
 refine pU ?_
 refine pM (.bool _) ?_
 refine AS (l1 := [_, _, _, _, _, _]) [16, 17, 18, 19, 20, 21] 21 (.bool (!v4 || ((aH1.Aa.length : Int) != (aW2.A0.length : Int)))) ?_ ?_
 ·refine bc (b := !v4) (fun hg => ?_) (fun hg => ?_)
  ·refine AE hg (AE hg (AE hg (AE hg (AE hg (Cr hg (.bool _) ?_)))))
   exact pE (ek (by rw [hg]; rfl))
  ·refine AB hg (pF C3 (AB hg ?_))
   refine CN hO 1 (.lit _ _ _) C8 (AB hg ?_)
   refine Af HO (AB hg ?_)
   refine pM (.int _ _) (AB hg ?_)
   refine AW ?_
   refine Cq hg (.bool _) ?_
   exact pE (ek (by rw [hg]; rfl))
 ·intro J
  refine pM (.bool _) (bk hk fun t5 ht hk => ?_)
  refine AS (l1 := [_, _, _, _, _, _, _]) [23, 24, 25, 26, 27, 28, 29] 29 (.bool t5) ?_ ?_
  ·refine bc (b := (!v4 || ((aH1.Aa.length : Int) != (aW2.A0.length : Int)))) (fun hg => ?_) (fun hg => ?_)
   ·replace hk := ct hg ht
    refine AE hg (AE hg (AE hg (AE hg (AE hg (AE hg (Cr hg (.bool _) ?_))))))
    cases hk; exact pE ek
   ·replace hk := cf hg ht
    refine AB hg (pF Bw (AB hg ?_))
    refine CN hO 1 (.int _ _) BU (AB hg ?_)
    refine pM (.int _ _) (AB hg ?_)
    refine AW (AB hg (bk hk fun v6 hv6 hk => ?_))
    refine AR (fun _ => Ee hv6) (AB hg ?_)
    refine pU ?_
    refine Cq hg (.bool _) ?_
    cases hk; exact pE ek
  ·intro J
   refine pE (gn (Aq hk (fun hk => ?_) (fun hk => ?_)))
   ·refine A1 (A4 (pA (.bool _) (pE (gn (Aw (gr ?_))))))
    cases hk; exact AT hO
   ·refine Ar (gn (CQ (fun S' => ∃  (J : Nat → V) (G : A3), KI aP0 aH1 = some r ∧ A5 H G [.Ad b2 (.cells 5 [iv aH1.State, iv aH1.Ab, AN l6 0 aH1.Aa, .bool aH1.Shown, iv aH1.Timer]), .Ad b1 (.cells 5 (Ai l1 0 l2 m3 l4 m5 aP0))] ∧ S' = ⟨CM [(3, .ptr b1 0), (4, .ptr b2 0)] J, G⟩) ?_ ?_))
    ·refine A1 (A4 (As B8 hO 1 (.int _ _) BU ?_))
     refine AW (pE (gn (Aq hk (fun hk => ?_) (fun hk => ?_))))
     ·refine A1 (A4 (As Bw hO 1 (.int _ _) BU ?_))
      refine AW ?_
      refine pM (.bool _) (bk hk fun t8 ht hk => ?_)
      refine AS (l1 := [_, _, _, _]) [37, 38, 39, 40] 40 (.bool t8) ?_ ?_
      ·refine bc (b := (aH1.Ab != (0:Int))) (fun hg => ?_) (fun hg => ?_)
       ·replace hk := ct hg ht
        refine AE hg (AE hg (AE hg (Cr hg (.bool _) ?_)))
        cases hk; exact pE ek
       ·replace hk := cf hg ht
        refine AB hg (pF C3 (AB hg ?_))
        refine CN hO 1 (.lit _ _ _) C8 (AB hg (bk hk fun v9 hv9 hk => ?_))
        refine AR (fun _ => Rk hv9) ?_
        refine Cq hg (.bool _) ?_
        cases hk; exact pE ek
      ·intro J
       refine pE (gn (Aq hk (fun hk => ?_) (fun hk => ?_)))
       ·refine A1 (A4 (pA (.bool _) (pE (gn (Aw (gr ?_))))))
        cases hk; exact AT hO
       ·exact Ar (gn (⟨_, _, hk, (pk hO [1, 2]), sh⟩))
     ·refine A1 (A4 (As C3 hO 1 (.lit _ _ _) C8 ?_))
      refine As Bw hO 1 (.int _ _) BU (bk hk fun y10 hy10 hk => ?_)
      refine j0 hy10 Cl FO (bk hk fun v11 hv11 hk => ?_)
      refine AR (fun _ => Rk hv11) (pE (gn (Aq hk (fun hk => ?_) (fun hk => ?_))))
      ·refine A1 (A4 (pA (.bool _) (pE (gn (Aw (gr ?_))))))
       cases hk; exact AT hO
      ·exact Ar (gn (⟨_, _, hk, (pk hO [1, 2]), sh⟩))
    ·rintro _ ⟨J, G, hk, hO, rfl⟩
     refine CQ (fun S' => ∃  (J : Nat → V) (G : A3), MZ aH1 = some r ∧ A5 H G [.Ad b2 (.cells 5 [iv aH1.State, iv aH1.Ab, AN l6 0 aH1.Aa, .bool aH1.Shown, iv aH1.Timer])] ∧ S' = ⟨CM [(4, .ptr b2 0)] J, G⟩) ?_ ?_
     ·refine A1 (A4 (As B8 hO 0 (.int _ _) BU ?_))
      refine AW (pE (gn (Aq hk (fun hk => ?_) (fun hk => ?_))))
      ·refine A1 (A4 (As E5 hO 0 (.int _ _) BU ?_))
       refine As K6 hO 1 (.int _ _) BU (bk hk fun v7 hv7 hk => ?_)
       refine AR (fun _ => Ee hv7) ?_
       refine pU (pE (gn (Aq hk (fun hk => ?_) (fun hk => ?_))))
       ·refine A1 (A4 (pA (.bool _) (pE (gn (Aw (gr ?_))))))
        cases hk; exact AT hO
       ·exact Ar (gn (⟨_, _, hk, (pk hO [0]), sh⟩))
      ·refine A1 (A4 (As E5 hO 0 (.int _ _) BU ?_))
       refine AW (pE (gn (Aq hk (fun hk => ?_) (fun hk => ?_))))
       ·refine A1 (A4 (pA (.bool _) (pE (gn (Aw (gr ?_))))))
        cases hk; exact AT hO
       ·exact Ar (gn (⟨_, _, hk, (pk hO [0]), sh⟩))
     ·rintro _ ⟨J, G, hk, hO, rfl⟩
      refine A1 (A4 (As B8 hO 0 (.int _ _) BU ?_))
      refine AW ?_
      refine pM (.bool _) ?_
      refine AS (l1 := [_, _, _]) [63, 64, 65] 65 (.bool ((aH1.State == (0:Int)) && aH1.Shown)) ?_ ?_
      ·refine bc (b := (aH1.State == (0:Int))) (fun hg => ?_) (fun hg => ?_)
       ·refine AB hg (pF Dm (AB hg ?_))
        refine CN hO 0 (.bool _) Fk ?_
        refine Cr hg (.bool _) ?_
        exact pE (ek (by rw [hg]; rfl))
       ·refine AE hg (AE hg (Cq hg (.bool _) ?_))
        exact pE (ek (by rw [hg]; rfl))
      ·intro J
       refine pU ?_
       refine pM (.bool _) ?_
       refine AS (l1 := [_, _, _, _, _, _, _, _, _, _, _, _, _, _, _]) [68, 69, 70, 71, 72, 73, 74, 75, 76, 77, 78, 79, 80, 81, 82] 82 (.bool (!((aH1.State == (0:Int)) && aH1.Shown) && !(((aH1.State == (2:Int)) || (aH1.State == (3:Int))) && !aH1.Shown))) ?_ ?_
       ·refine bc (b := !((aH1.State == (0:Int)) && aH1.Shown)) (fun hg => ?_) (fun hg => ?_)
        ·refine AB hg (pF B8 (AB hg ?_))
         refine CN hO 0 (.int _ _) BU (AB hg ?_)
         refine AW (AB hg ?_)
         refine pM (.bool _) ?_
         refine AS (l1 := [_, _, _, _]) [72, 73, 74, 75] 75 (.bool ((aH1.State == (2:Int)) || (aH1.State == (3:Int)))) ?_ ?_
         ·refine bc (b := (aH1.State == (2:Int))) (fun hg2 => ?_) (fun hg2 => ?_)
          ·refine AE hg2 (AE hg2 (AE hg2 (AB hg (Cr hg2 (.bool _) ?_))))
           exact pE (ek (by rw [hg2]; rfl))
          ·refine AB hg2 (pF B8 (AB hg2 ?_))
           refine CN hO 0 (.int _ _) BU (AB hg2 ?_)
           refine AW (AB hg ?_)
           refine Cq hg2 (.bool _) ?_
           exact pE (ek (by rw [hg2]; rfl))
         ·intro J
          refine AB hg (pM (.bool _) ?_)
          refine AS (l1 := [_, _, _, _]) [77, 78, 79, 80] 80 (.bool (((aH1.State == (2:Int)) || (aH1.State == (3:Int))) && !aH1.Shown)) ?_ ?_
          ·refine bc (b := ((aH1.State == (2:Int)) || (aH1.State == (3:Int)))) (fun hg2 => ?_) (fun hg2 => ?_)
           ·refine AB hg2 (pF Dm (AB hg2 ?_))
            refine CN hO 0 (.bool _) Fk (AB hg2 ?_)
            refine pU (AB hg ?_)
            refine Cr hg2 (.bool _) ?_
            exact pE (ek (by rw [hg2]; rfl))
           ·refine AE hg2 (AE hg2 (AE hg2 (AB hg (Cq hg2 (.bool _) ?_))))
            exact pE (ek (by rw [hg2]; rfl))
          ·intro J
           refine AB hg (pU ?_)
           refine Cr hg (.bool _) ?_
           exact pE (ek (by rw [hg]; rfl))
        ·refine AE hg (AE hg (AE hg (AE hg (CW (CW (CW (AE hg (AE hg (CW (CW (CW (AE hg (AE hg (Cq hg (.bool _) ?_))))))))))))))
         exact pE (ek (by rw [hg]; rfl))
       ·intro J
        refine pA (.bool _) (pE (gn (Aw ?_)))
        cases hk; exact AT hO
def Nw (aF0 : AD) (z3 : List Bool) (z5 : List Al) : Int → Option (Int ⊕ AD) := fun s =>
 (bif decide (s < (aF0.A7.length : Int)) then ((AK aF0.A7 s).bind fun c14 => ((DC 1 ([] : List Bool) c14.Aa).bind fun z16 => ((AK aF0.A7 s).bind fun c18 => some (.inl (BT (s + (1:Int))))))) else ((some ({ Ok := aF0.Ok, C5 := z3, AF := z5, A7 := aF0.A7 } : AD)).map Sum.inr))
def dJ (aF0 : AD) : Option AD :=
 ((DC 1 ([] : List Bool) aF0.C5).bind fun z3 => ((DC 16 ([] : List Al) aF0.AF).bind fun z5 => ((DC 56 ([] : List AG) aF0.A7).bind fun z7 => (AJ (Nw aF0 z3 z5) ((0:Int))))))
theorem Zc {aF0 : AD} {r : AD} {l1 l2 l3 m4 : Nat} (hk : dJ aF0 = some r) (hlk : 0 < lk.length := by simp) (hvm4 : m4 ≤ lk.length := by simp only [List.length_append, List.length_singleton]; omega) : ∃ v H1, Am Tryz.prog hh 95 [.agg (Ah l1 0 l2 0 l3 m4 aF0)] H lk = some (v, H1) ∧ Hn H r v H1 := by
 refine B0 Tryz.func95 rfl Tryz.ntmps95 Tryz.results95 rfl rfl ?_
 have hO := A5.nil H
 unfold dJ at hk
 refine A1 (A4 (BZ (cs := [_, _, _, _]) hO Bv (fun b1 G hO => CK hO Bv RM (fun b2 G hO => pE (gn (A1 ?_))))))
 refine BC [(0, true), (1, true), (3, true), (4, true), (6, true), (7, true), (2, true), (9, false), (5, true), (8, false), (10, false), (11, false), (12, false), (13, false), (14, false)] [_, _, _, _, _, _, _, _, _, _, _, _, _, _, _] (by decide +kernel) (by rfl) ?_
 refine As Cm hO 1 (.lit _ _ _) C8 ?_
 refine As Db hO 1 (.lit _ _ _) JD ?_
 refine As Bd hO 1 (.lit _ _ _) Dv (bk hk fun z3 hz3 hk => ?_)
 refine RB (xs := aF0.C5) hO hz3 Tryz.func115 bO Cl FO eF bK (fun u4 F4 G hO => ?_)
 refine pF Cm (bk hk fun z5 hz5 hk => ?_)
 refine RB (xs := aF0.AF) hO hz5 Tryz.func116 jL IY EA eG SV (fun u6 F6 G hO => bk hk fun z7 hz7 hk => ?_)
 refine Zv (xs := aF0.A7) hO hz7 Tryz.func117 jM EJ Av Y9 FN (fun u8 F8 G hO => ?_)
 have hc9 := B6 hO (j := 2) rfl
 refine Cs (xs := [_]) hO 4 GB rfl (fun G hO => ?_) (h3 := hc9.1) (h6 := Bg hc9.2)
 refine pF Db ?_
 have hc10 := B6 hO (j := 1) rfl
 refine Cs (xs := [_]) hO 4 eL rfl (fun G hO => ?_) (h3 := hc10.1) (h6 := Bg hc10.2)
 refine pF Bd ?_
 have hc11 := Vg hO (j := 0) rfl
 refine Cs (xs := [_]) hO 4 eM rfl (fun G hO => ?_) (h3 := hc11.1) (h6 := Bg hc11.2)
 refine pE (gn (A1 (A1 (A4 (As Bd hO 4 u8 Dv ?_)))))
 refine iV hO 0 IJ ?_
 refine pM (.int _ _) (pE (gn (BO ?_)))
 refine AA (F := Nw aF0 z3 z5) (fun s S' => ∃ (F12 : List Nat) (J : Nat → V) (G : A3), A5 H G [UN m4 F12 aF0.A7 u8 s.toNat, AY [] F6 z5 [u6], AY [] F4 z3 [u4], .Ad b2 (.cells 4 [.bool false, (.tl 0 []), (.tl 0 []), (.tl 0 [])]), .Ad b1 (.cells 4 [.bool aF0.Ok, u4, u6, u8])] ∧ S' = ⟨CM [(1, .ptr b1 0), (2, .ptr b2 0), (18, iv (aF0.A7.length : Int)), (19, iv s)] J, G⟩) hk ⟨F8, _, _, hO, sh⟩ ?_
 rintro x13 _ y1 ⟨F12, J, G, hO, rfl⟩ hk hx1
 refine A1 (A4 (AW (pE (gn (A1 ?_)))))
 refine mJ (b := decide (x13 < (aF0.A7.length : Int))) (fun hb => ?_) (fun hb => ?_)
 ·replace hk := ct hb hk
  refine Ar (gn (A1 (BO (A1 (A4 (pM (.int _ _) ?_))))))
  refine pA (.int _ _) (pE (gn ?_))
  refine BC [(0, true), (1, true), (2, true), (3, true), (4, true), (5, true), (6, true), (7, true), (8, true), (9, true), (10, false), (11, false), (12, false)] [_, _, _, _, _, _, _, _, _, _, _, _, _] (by decide +kernel) (by rfl) ?_
  refine As Bd hO 4 u8 Dv ?_
  refine pM (.int _ _) ?_
  refine As Bd hO 4 u8 Dv ?_
  refine pM (.int _ _) (bk hk fun c14 hc14 hk => ?_)
  refine mK hO 0 hc14 EJ Av (fun b15 hb15 => ?_)
  refine pF C3 ?_
  refine mV (off := 2) hO 0 hb15 hc14 C8 ?_ (w := AN m4 0 c14.Aa)
  refine bk hk fun z16 hz16 hk => RB (xs := c14.Aa) hO hz16 Tryz.func115 bO Cl FO eF bK (fun u17 F17 G hO => bk hk fun c18 hc18 hk => ?_)
  refine mK hO 1 hc18 EJ Av (fun b19 hb19 => ?_)
  refine pF C3 ?_
  have hqc : z16 = c18.Aa := (WE hz16).trans (congrArg AG.Aa (Option.some.inj (hc14.symm.trans hc18)))
  rw [hqc] at hO
  replace hO : A5 H G (AY [] F17 c18.Aa [u17] :: [UN m4 F12 aF0.A7 u8 x13.toNat, AY [] F6 z5 [u6], AY [] F4 z3 [u4], .Ad b2 (.cells 4 [.bool false, (.tl 0 []), (.tl 0 []), (.tl 0 [])]), .Ad b1 (.cells 4 [.bool aF0.Ok, u4, u6, u8])]) := hO
  refine mY hO 0 hb19 hc18 GB rfl (fun G F h => TrE.MG (c18.State : Int) (TrE.MG (c18.Ab : Int) (TrE.SG ((c18.Shown, c18.Timer) : Bool × Int) h))) rfl (fun G hO => pE (bn (gn (A4 ?_))))
  refine AW ?_
  refine pM (.int _ _) (pE (gn ?_))
  replace hO := hO.iN (j := 0) rfl (YM hz7 hc18)
  cases hk; exact ⟨_, rfl, (F12 ++ F17), _, _, hO, sh⟩
 ·replace hk := cf hb hk
  refine D3 (ge (ge (be (gn (have hk := lx hx1 hk; A1 (A4 ?_))))))
  replace hO := hO.Zk (j := 0) rfl (dU hb)
  refine E4 hO 4 [_, _, _, _] Ep Bv ?_
  have hc20 := B6 hO (j := 2) rfl
  have hc21 := B6 hO (j := 1) rfl
  have hc22 := B6 hO (j := 0) rfl
  refine Cs (xs := [_, _, _, _]) hO 3 Bv rfl (fun G hO => ?_) (h6 := (Bj rfl (Bj hc20.2 (Bj hc21.2 (Bj hc22.2 IM)))))
  refine pE (gn (Aw ?_))
  replace hk := Option.some.inj hk; subst hk; exact Jx hO (Oq (x := ({ Ok := aF0.Ok, C5 := z3, AF := z5, A7 := aF0.A7 } : AD)) (CD (c1 := [_]) (Kz aF0.Ok) (CD (c1 := [_]) (Cv (x := z3) 2) (CD (c1 := [_]) (Cv (x := z5) 1) (Cv (x := aF0.A7) 0))))) (G9 hO 3 [_, _, _, _] Ep Bv Dl)
def iD (aW0 : Bq) : Option (List Ae) :=
 ((DC 16 ([] : List Ae) aW0.AQ).bind fun z2 => ((DC 16 z2 aW0.AH).bind fun z4 => some z4))
theorem Uc {aW0 : Bq} {r : (List Ae)} {l1 l2 l3 l4 l5 : Nat} (hk : iD aW0 = some r) (hlk : 0 < lk.length := by simp) : Am Tryz.prog hh 92 [.agg (Cn l1 0 l2 0 l3 0 l4 0 l5 0 aW0)] H lk = some (AN 0 0 r, H) := by
 refine AI Tryz.func92 rfl Tryz.ntmps92 Tryz.results92 rfl rfl fun hO => ?_
 unfold iD at hk
 refine A1 (A4 (BZ (cs := [_, _, _, _, _]) hO Az (fun b1 G hO => ?_)))
 refine pA (.tl 0 []) (pE (gn (A1 ?_)))
 refine BC [(0, true), (1, true), (3, true), (4, true), (2, true), (5, false), (6, false)] [_, _, _, _, _, _, _] (by decide +kernel) (by rfl) ?_
 refine As E6 hO 0 (.lit _ _ _) Da ?_
 refine As EU hO 0 (.lit _ _ _) Da (bk hk fun z2 hz2 hk => ?_)
 refine Xs (xs := aW0.AQ) hO hz2 Tryz.func114 bN Df BB SW FT (fun o2 G hno2 hO => bk hk fun z4 hz4 hk => ?_)
 refine Si (xs := z2) hO 0 hz4 (HS _ aW0.AH) Df BB SW FT Df rfl (fun o4 G hno4 hO => ?_)
 refine pA o4 (pE (gn (Aw ?_)))
 replace hk := Option.some.inj hk; subst hk; exact Gp hO (HI (xs := z4) hlk 0) (JB o4 Dl)
def Yo (aS0 : Int) (aA1 : AD) : Option Bool :=
 ((AK aA1.C5 aS0).bind fun c1 => some c1)
theorem Wd {aS0 : Int} {aA1 : AD} {r : Bool} {l1 l2 l3 m4 : Nat} {q0 : Nat} (hk : Yo aS0 aA1 = some r) (hq0 : H[q0]? = some (.cells 4 (Ah l1 0 l2 0 l3 m4 aA1))) (hlk : 0 < lk.length := by simp) : Am Tryz.prog hh 118 [iv aS0, .ptr q0 0] H lk = some (.bool r, H) := by
 refine AI Tryz.func118 rfl Tryz.ntmps118 Tryz.results118 rfl rfl fun hO => ?_
 unfold Yo at hk
 refine A1 (A4 (pA (.bool _) (pE (gn (A1 (A4 ?_))))))
 refine pF Cm ?_
 refine kI (.lit _ _ _) hO hq0 C8 ?_
 refine pM (.int _ _) (bk hk fun c1 hc1 hk => ?_)
 refine pX hc1 Cl FO ?_
 refine Br (.bool _) (D4 (lm := 0) (off := 0) hc1 Fk) ?_
 refine pA (.bool _) (pE (gn (Aw ?_)))
 cases hk; exact AT hO
def Gz (aS0 : List Int) (aC1_0 : AD) : Int → Option (Int ⊕ Int) := fun s =>
 (bif decide (s < (aS0.length : Int)) then ((AK aS0 s).bind fun c2 => ((Yo c2 aC1_0).bind fun v3 => (bif v3 then ((some s).map Sum.inr) else some (.inl (BT (s + (1:Int))))))) else ((some (-1:Int)).map Sum.inr))
def Io (aS0 : List Int) (aC1_0 : AD) : Option Int :=
 (AJ (Gz aS0 aC1_0) ((0:Int)))
theorem QL {aS0 : List Int} {aC1_0 : AD} {r : Int} {l1 l2 l3 l4 m5 : Nat} {q0 : Nat} (hk : Io aS0 aC1_0 = some r) (hq0 : H[q0]? = some (.cells 4 (Ah l2 0 l3 0 l4 m5 aC1_0))) (hlk : 0 < lk.length := by simp) : Am Tryz.prog hh 127 [AN l1 0 aS0, .fn 118 [.ptr q0 0]] H lk = some (iv r, H) := by
 refine AI Tryz.func127 rfl Tryz.ntmps127 Tryz.results127 rfl rfl fun hO => ?_
 unfold Io at hk
 refine A1 (A4 (pA (.int _ _) (pE (gn (A1 (A1 (A4 ?_)))))))
 refine pM (.lit _ _ _) ?_
 refine Af D5 ?_
 refine pM (.int _ _) (pE (gn (BO ?_)))
 refine AA (F := Gz aS0 aC1_0) (fun s S' => ∃ (J : Nat → V) (G : A3), A5 H G [] ∧ S' = ⟨CM [(0, AN l1 0 aS0), (1, .fn 118 [.ptr q0 0]), (7, iv (aS0.length : Int)), (8, iv s)] J, G⟩) hk ⟨_, _, hO, sh⟩ ?_
 rintro x1 _ y1 ⟨J, G, hO, rfl⟩ hk hx1
 refine A1 (A4 (AW (pE (gn (A1 (Aq hk (fun hk => ?_) (fun hk => ?_)))))))
 ·refine Ar (gn (A1 (BO (A1 (A4 (pM (.int _ _) ?_))))))
  refine pA (.int _ _) (pE (gn (A1 (A4 ?_))))
  refine pM (.fn _ _) ?_
  refine pM (.lit _ _ _) ?_
  refine pM (.int _ _) (bk hk fun c2 hc2 hk => ?_)
  refine pX hc2 C4 DP ?_
  refine Br (.int _ _) (D4 (lm := 0) (off := 0) hc2 BU) (bk hk fun v3 hv3 hk => ?_)
  refine AR (fun _ => Wd hv3 (H8 hO hq0)) (pE (gn (Aq hk (fun hk => ?_) (fun hk => ?_))))
  ·refine A1 (A4 (pM (.int _ _) ?_))
   refine pA (.int _ _) (pE (gn (Aw (br (gr (gr (br (gr (have hk := lx hx1 hk; ?_)))))))))
   cases hk; exact AT hO
  ·refine Ar (bn (gn (A4 (AW ?_))))
   refine pM (.int _ _) (pE (gn ?_))
   cases hk; exact ⟨_, rfl, _, _, hO, sh⟩
 ·refine D3 (ge (ge (be (gn (have hk := lx hx1 hk; A1 (A4 (pA (.int _ _) (pE (gn (Aw ?_))))))))))
  cases hk; exact AT hO
def KO (aS0 : List Int) (aC1_0 : AD) : Option Bool :=
 ((Io aS0 aC1_0).bind fun v1 => some (decide (v1 ≥ (0:Int))))
theorem QJ {aS0 : List Int} {aC1_0 : AD} {r : Bool} {l1 l2 l3 l4 m5 : Nat} {q0 : Nat} (hk : KO aS0 aC1_0 = some r) (hq0 : H[q0]? = some (.cells 4 (Ah l2 0 l3 0 l4 m5 aC1_0))) (hlk : 0 < lk.length := by simp) : Am Tryz.prog hh 112 [AN l1 0 aS0, .fn 118 [.ptr q0 0]] H lk = some (.bool r, H) := by
 refine AI Tryz.func112 rfl Tryz.ntmps112 Tryz.results112 rfl rfl fun hO => ?_
 unfold KO at hk
 refine A1 (A4 (pA (.bool _) (pE (gn (A1 (A4 ?_))))))
 refine pM (.lit _ _ _) ?_
 refine pM (.fn _ _) (bk hk fun v1 hv1 hk => ?_)
 refine AR (fun _ => QL hv1 (H8 hO hq0)) ?_
 refine AW ?_
 refine pA (.bool _) (pE (gn (Aw ?_)))
 cases hk; exact AT hO
def fD (aF0 : AD) (aL1 : List Int) : Option Bool :=
 ((KO aL1 aF0).bind fun v2 => some v2)
theorem Ud {aF0 : AD} {aL1 : List Int} {r : Bool} {l1 l2 l3 m4 l5 : Nat} (hk : fD aF0 aL1 = some r) (hlk : 0 < lk.length := by simp) : Am Tryz.prog hh 97 [.agg (Ah l1 0 l2 0 l3 m4 aF0), AN l5 0 aL1] H lk = some (.bool r, H) := by
 refine AI Tryz.func97 rfl Tryz.ntmps97 Tryz.results97 rfl rfl fun hO => ?_
 unfold fD at hk
 refine A1 (A4 (BZ (cs := [_, _, _, _]) hO Bv (fun b1 G hO => ?_)))
 refine pA (.bool _) (pE (gn (A1 (A4 ?_))))
 refine pM (.lit _ _ _) ?_
 refine kH (vs := [_]) (bk hk fun v2 hv2 hk => ?_)
 refine AR (fun _ => QJ hv2 (hO.get (k := 0) rfl).1) ?_
 refine pA (.bool _) (pE (gn (Aw ?_)))
 cases hk; exact AT hO
def KP (aF1 : AD) (c3 : Bq) (v5 : (List Ae)) : Int → Option (Int ⊕ Bool) := fun s =>
 (bif decide (s < (v5.length : Int)) then ((AK v5 s).bind fun c7 => ((AK aF1.AF c7.Switch).bind fun c9 => (bif !((c9.Want == c7.FC) && ((c9.AQ == c7.FC) && true)) then ((some false).map Sum.inr) else some (.inl (BT (s + (1:Int))))))) else (((fD aF1 c3.A0).bind fun v10 => ((bif !v10 then ((fD aF1 c3.Bt).bind fun v12 => some (!v12)) else some false).bind fun t11 => some t11)).map Sum.inr))
def We (aP0 : AP) (aF1 : AD) (aWay2 : Int) : Option Bool :=
 ((AK aP0.A7 aWay2).bind fun c3 => ((iD c3).bind fun v5 => (AJ (KP aF1 c3 v5) ((0:Int)))))
theorem Wf {aP0 : AP} {aF1 : AD} {aWay2 : Int} {r : Bool} {l1 l2 m3 l4 m5 l6 l7 l8 m9 : Nat} (hk : We aP0 aF1 aWay2 = some r) (hlk : 0 < lk.length := by simp) : Am Tryz.prog hh 119 [.agg (Ai l1 0 l2 m3 l4 m5 aP0), .agg (Ah l6 0 l7 0 l8 m9 aF1), iv aWay2] H lk = some (.bool r, H) := by
 refine AI Tryz.func119 rfl Tryz.ntmps119 Tryz.results119 rfl rfl fun hO => ?_
 unfold We at hk
 refine A1 (A4 (BZ (cs := [_, _, _, _, _]) hO CC (fun b1 G hO => ?_)))
 refine BZ (cs := [_, _, _, _]) hO Bv (fun b2 G hO => ?_)
 refine pA (.bool _) (pE (gn (A1 (A4 ?_))))
 refine As Bl hO 1 (.lit _ _ _) Du ?_
 refine pM (.int _ _) (bk hk fun c3 hc3 hk => ?_)
 refine pX hc3 Er Az ?_
 refine Br (.agg [_, _, _, _, _]) (G8 (lm := m3) (off := 0) hc3 Ew Az) (CK hO Az IU (fun b4 G hO => ?_))
 refine Cs (xs := [_, _, _, _, _]) hO 0 Az rfl (fun G hO => pE (gn (A1 (A1 (A4 ?_)))))
 refine E4 hO 0 [_, _, _, _, _] Ew Az (bk hk fun v5 hv5 hk => ?_)
 refine AR (fun _ => Uc hv5) ?_
 refine Af Ex ?_
 refine pM (.int _ _) (pE (gn (BO ?_)))
 refine AA (F := KP aF1 c3 v5) (fun s S' => ∃ (J : Nat → V) (G : A3), A5 H G [.Ad b4 (.cells 5 (Cn m3 0 m3 0 m3 0 m3 0 m3 0 c3)), .Ad b2 (.cells 4 (Ah l6 0 l7 0 l8 m9 aF1))] ∧ S' = ⟨CM [(4, .ptr b2 0), (7, .ptr b4 0), (16, AN 0 0 v5), (17, iv (v5.length : Int)), (18, iv s)] J, G⟩) hk ⟨_, _, (pk hO [0, 1]), sh⟩ ?_
 rintro x6 _ y1 ⟨J, G, hO, rfl⟩ hk hx1
 refine A1 (A4 (AW (pE (gn (A1 (Aq hk (fun hk => ?_) (fun hk => ?_)))))))
 ·refine Ar (gn (A1 (BO (A1 (A4 (bk hk fun c7 hc7 hk => pX hc7 Df BB ?_))))))
  refine Br (.agg [_, _]) (G8 (lm := 0) (off := 0) hc7 G3 BB) (CK hO BB FT (fun b8 G hO => ?_))
  refine Cs (xs := [_, _]) hO 0 BB rfl (fun G hO => pE (gn (A1 ?_)))
  refine BC [(0, true), (1, true), (2, true), (3, true), (4, true), (5, true), (6, true), (7, true), (8, true), (9, true), (10, true), (11, false)] [_, _, _, _, _, _, _, _, _, _, _, _] (by decide +kernel) (by rfl) ?_
  refine As Db hO 2 (.lit _ _ _) JD ?_
  refine As CP hO 0 (.int _ _) BU (bk hk fun c9 hc9 hk => ?_)
  refine pX hc9 IY EA ?_
  refine Br (.agg [_, _]) (G8 (lm := 0) (off := 0) hc9 RN EA) ?_
  refine As E7 hO 0 (.int _ _) BU ?_
  refine As E7 hO 0 (.int _ _) BU ?_
  refine R9 [_, _] SV m7 ?_
  refine iU jR (eT (eU _ _ _) (eT (eU _ _ _) (rfl))) (pE (gn (Aq hk (fun hk => ?_) (fun hk => ?_))))
  ·refine A1 (A4 (pA (.bool _) (pE (gn (Aw (br (gr (gr (br (gr (have hk := lx hx1 hk; ?_)))))))))))
   cases hk; exact AT hO
  ·refine Ar (bn (gn (A4 (AW ?_))))
   refine pM (.int _ _) (pE (gn ?_))
   cases hk; exact ⟨_, rfl, _, _, (pk hO [1, 2]), sh⟩
 ·refine D3 (ge (ge (be (gn (have hk := lx hx1 hk; A1 (A4 (E4 hO 1 [_, _, _, _] Ep Bv ?_)))))))
  refine As BI hO 0 (.lit _ _ _) BK (bk hk fun v10 hv10 hk => ?_)
  refine AR (fun _ => Ud hv10) ?_
  refine pU ?_
  refine pM (.bool _) (bk hk fun t11 ht hk => ?_)
  refine AS (l1 := [_, _, _, _, _, _]) [41, 42, 43, 44, 45, 46] 46 (.bool t11) ?_ ?_
  ·refine bc (b := !v10) (fun hg => ?_) (fun hg => ?_)
   ·replace hk := ct hg ht
    refine AB hg (E4 hO 1 [_, _, _, _] Ep Bv (AB hg ?_))
    refine pF DU (AB hg ?_)
    refine CN hO 0 (.lit _ _ _) BK (AB hg (bk hk fun v12 hv12 hk => ?_))
    refine AR (fun _ => Ud hv12) (AB hg ?_)
    refine pU ?_
    refine Cr hg (.bool _) ?_
    cases hk; exact pE ek
   ·replace hk := cf hg ht
    refine AE hg (AE hg (AE hg (AE hg (AE hg (Cq hg (.bool _) ?_)))))
    cases hk; exact pE ek
  ·intro J
   refine pA (.bool _) (pE (gn (Aw ?_)))
   cases hk; exact AT hO
def kC (aW0 : Bq) : Option AG :=
 ((GF 1 (aW0.A0.length : Int)).bind fun m3 => some ({ State := 0, Ab := 0, Aa := List.replicate m3 (false : Bool), Shown := false, Timer := 0 } : AG))
theorem Zd {aW0 : Bq} {r : AG} {l1 l2 l3 l4 l5 : Nat} (hk : kC aW0 = some r) (hlk : 0 < lk.length := by simp) : ∃ v H1, Am Tryz.prog hh 98 [.agg (Cn l1 0 l2 0 l3 0 l4 0 l5 0 aW0)] H lk = some (v, H1) ∧ Hn H r v H1 := by
 refine B0 Tryz.func98 rfl Tryz.ntmps98 Tryz.results98 rfl rfl ?_
 have hO := A5.nil H
 unfold kC at hk
 refine A1 (A4 (BZ (cs := [_, _, _, _, _]) hO Az (fun b1 G hO => CK hO Av FN (fun b2 G hO => pE (gn (A1 (A4 ?_)))))))
 refine As BI hO 1 (.lit _ _ _) BK ?_
 refine Af D5 (bk hk fun m3 hm3 hk => ?_)
 refine fG hO hm3 (false : Bool) Cl FO eF bK (fun b4 G hO => ?_)
 refine R9 [_, _, _, _, _] FN bR ?_
 refine Cs (xs := [_, _, _, _, _]) hO 1 Av rfl (fun G hO => pE (gn (Aw ?_)))
 replace hk := Option.some.inj hk; subst hk; exact Jx hO (V3 (x := ({ State := 0, Ab := 0, Aa := List.replicate m3 (false : Bool), Shown := false, Timer := 0 } : AG)) (CD (c1 := [_]) (JE 0) (CD (c1 := [_]) (JE 0) (CD (c1 := [_]) (L0 (xs := (List.replicate m3 (false : Bool))) List.length_replicate hlk 0) (CD (c1 := [_]) (Kz false) (JE 0)))))) (G9 hO 1 [_, _, _, _, _] G0 Av Dl)
def Gb (x4 : Int) (x5 : List AG) : Option (((List AG) × Int) ⊕ AD) :=
 some (.inl (x5, BT (x4 + (1:Int))))
def Ju (aF1 : AD) (x4 : Int) (c9 : Bq) : ((List AG) × AG) → Option (((List AG) × AG) ⊕ (((List AG) × Int) ⊕ AD)) := fun s =>
 ((bif decide (s.2.Ab < (c9.A0.length : Int)) then ((AK s.2.Aa s.2.Ab).bind fun c46 => some c46) else some false).bind fun t44 => ((bif t44 then ((AK c9.A0 s.2.Ab).bind fun c49 => ((AK aF1.C5 c49).bind fun c50 => some (!c50))) else some false).bind fun t48 => ((bif t48 then ((bif (s.2.Ab == (BT ((c9.A0.length : Int) - (1:Int)))) then some true else ((AK s.2.Aa (BT (s.2.Ab + (1:Int)))).bind fun c55 => some c55)).bind fun t53 => some t53) else some false).bind fun t52 => (bif t52 then some (.inl (s.1.set x4.toNat ({ s.2 with Ab := BT (s.2.Ab + (1:Int)) }), ({ s.2 with Ab := BT (s.2.Ab + (1:Int)) } : AG))) else ((bif (s.2.Ab == (c9.A0.length : Int)) then ((kC c9).bind fun v58 => (Gb x4 (s.1.set x4.toNat v58))) else (Gb x4 s.1)).map Sum.inr)))))
def LQ (aF1 : AD) (x4 : Int) (c9 : Bq) : ((List AG) × AG × Int) → Option (((List AG) × AG × Int) ⊕ (((List AG) × Int) ⊕ AD)) := fun s =>
 (bif decide (s.2.2 < (c9.A0.length : Int)) then ((AK c9.A0 s.2.2).bind fun c29 => ((AK s.2.1.Aa s.2.2).bind fun c32 => ((bif c32 then some true else ((AK aF1.C5 c29).bind fun c35 => some c35)).bind fun t34 => ((AK s.2.1.Aa s.2.2).bind fun c37 => some (.inl (s.1.set x4.toNat ({ s.2.1 with Aa := s.2.1.Aa.set s.2.2.toNat t34 }), ({ s.2.1 with Aa := s.2.1.Aa.set s.2.2.toNat t34 } : AG), BT (s.2.2 + (1:Int)))))))) else ((AJ (Ju aF1 x4 c9) (s.1, s.2.1)).map Sum.inr))
def Ny (aP0 : AP) (aF1 : AD) (x4 : Int) (c9 : Bq) (x11 : List AG) (c13 : AG) (x16 : Bool) : Option (((List AG) × Int) ⊕ AD) :=
 (bif x16 then ((We aP0 ({ Ok := aF1.Ok, C5 := aF1.C5, AF := aF1.AF, A7 := x11.set x4.toNat ({ c13 with State := (1:Int) }) } : AD) x4).bind fun v18 => (bif v18 then (Gb x4 (((x11.set x4.toNat ({ c13 with State := (1:Int) })).set x4.toNat ({ ({ c13 with State := (1:Int) } : AG) with State := (2:Int) })).set x4.toNat ({ ({ ({ c13 with State := (1:Int) } : AG) with State := (2:Int) } : AG) with Shown := true }))) else (Gb x4 (x11.set x4.toNat ({ c13 with State := (1:Int) }))))) else (bif (c13.State == (4:Int)) then (AJ (LQ aF1 x4 c9) (x11, c13, (0:Int))) else (Gb x4 x11)))
def LR (aP0 : AP) (aF1 : AD) (x4 : Int) (c9 : Bq) (x11 : List AG) (c13 : AG) : Option (((List AG) × Int) ⊕ AD) :=
 (bif (c13.State == (1:Int)) then (Ny aP0 aF1 x4 c9 x11 c13 (c13.State == (1:Int))) else (Ny aP0 aF1 x4 c9 x11 c13 (c13.State == (2:Int))))
def Nx (aP0 : AP) (aF1 : AD) : ((List AG) × Int) → Option (((List AG) × Int) ⊕ AD) := fun s =>
 (bif decide (s.2 < (aF1.A7.length : Int)) then ((AK s.1 s.2).bind fun c7 => ((AK aP0.A7 s.2).bind fun c9 => (bif (c7.State == (0:Int)) then (Gb s.2 s.1) else ((bif (c7.State != (4:Int)) then ((AK c9.A0 (0:Int)).bind fun c61 => ((AK aF1.C5 c61).bind fun c62 => some c62)) else some false).bind fun t60 => (bif t60 then (LR aP0 aF1 s.2 c9 ((s.1.set s.2.toNat ({ c7 with State := (4:Int) })).set s.2.toNat ({ ({ c7 with State := (4:Int) } : AG) with Timer := (0:Int) })) ({ ({ c7 with State := (4:Int) } : AG) with Timer := (0:Int) } : AG)) else (LR aP0 aF1 s.2 c9 s.1 c7)))))) else ((some ({ Ok := aF1.Ok, C5 := aF1.C5, AF := aF1.AF, A7 := s.1 } : AD)).map Sum.inr))
def aY (aP0 : AP) (aF1 : AD) : Option AD :=
 (AJ (Nx aP0 aF1) (aF1.A7, (0:Int)))
theorem Ze {aP0 : AP} {aF1 : AD} {r : AD} {l1 l2 m3 l4 m5 : Nat} {q0 : Nat} {vp1 vp2 vp3 : V} {S0 Fp1 Fp2 Fp3 : List Nat} (hk : aY aP0 aF1 = some r) (hO : A5 H H [.DA S0 q0 (.cells 4 [.bool aF1.Ok, vp1, vp2, vp3]), AY S0 Fp1 aF1.C5 [vp1], AY S0 Fp2 aF1.AF [vp2], AY S0 Fp3 aF1.A7 [vp3]]) (hS : ∀ b ∈ S0, AV lk b = true) (hlt : ∀ b ∈ S0, b < H.length) (hlo : E9 lk H.length) (hlk : 0 < lk.length := by simp) : ∃ v H1, Am Tryz.prog hh 99 [.agg (Ai l1 0 l2 m3 l4 m5 aP0), .ptr q0 0] H lk = some (v, H1) ∧ v = .Fl [] ∧ ∃ (Fs : List Nat × List Nat × List Nat) (Hm : A3), Bu H Hm (S0) ∧ A5 Hm H1 [.DA S0 q0 (.cells 4 [.bool r.Ok, vp1, vp2, vp3]), AY S0 Fs.1 r.C5 [vp1], AY S0 Fs.2.1 r.AF [vp2], AY S0 Fs.2.2 r.A7 [vp3]] := by
 refine B0 Tryz.func99 rfl Tryz.ntmps99 Tryz.results99 rfl rfl ?_
 have hFr := Bu.refl H (S0)
 unfold aY at hk
 have hq := (List.getElem?_eq_some_iff.1 (hO.XM (k := 0) rfl).1).1
 refine A1 (A4 (BZ (cs := [_, _, _, _, _]) hO CC (fun b1 G hO => pE (gn (A1 (A4 ?_))))))
 refine pM (.ptr _ _) ?_
 refine Ch ?_
 refine pF Bd ?_
 refine Yc hO 1 vp3 Dv ?_
 refine Ji hO 4 IJ ?_
 refine pM (.int _ _) (pE (gn (BO ?_)))
 refine AA (F := Nx aP0 aF1) (fun s S' => ∃ (F3 : List Nat) (J : Nat → V) (G : A3) (H1 : A3), Bu H H1 S0 ∧ A5 H1 G [.Ad b1 (.cells 5 (Ai l1 0 l2 m3 l4 m5 aP0)), .DA S0 q0 (.cells 4 [.bool aF1.Ok, vp1, vp2, vp3]), AY S0 Fp1 aF1.C5 [vp1], AY S0 Fp2 aF1.AF [vp2], AY S0 F3 s.1 [vp3]] ∧ S' = ⟨CM [(1, .ptr q0 0), (2, .ptr b1 0), (13, iv (aF1.A7.length : Int)), (14, iv s.2)] J, G⟩) hk ⟨Fp3, _, _, _, hFr, hO, sh⟩ ?_
 rintro ⟨x2, x4⟩ _ y1 ⟨F3, J, G, H1, hFr, hO, rfl⟩ hk hx1
 refine A1 (A4 (AW (pE (gn (A1 (Aq hk (fun hk => ?_) (fun hk => ?_)))))))
 ·refine Ar (gn (CQ (fun S' => ∃ (x5 : List AG) (F6 : List Nat) (J : Nat → V) (G : A3) (H1 : A3), Gb x4 x5 = some y1 ∧ Bu H H1 S0 ∧ A5 H1 G [.Ad b1 (.cells 5 (Ai l1 0 l2 m3 l4 m5 aP0)), .DA S0 q0 (.cells 4 [.bool aF1.Ok, vp1, vp2, vp3]), AY S0 Fp1 aF1.C5 [vp1], AY S0 Fp2 aF1.AF [vp2], AY S0 F6 x5 [vp3]] ∧ S' = ⟨CM [(1, .ptr q0 0), (2, .ptr b1 0), (13, iv (aF1.A7.length : Int)), (14, iv x4)] J, G⟩) ?_ ?_))
  ·refine BO (A1 (A4 (pM (.int _ _) ?_)))
   refine pA (.int _ _) (pE (gn (A1 (A4 ?_))))
   refine pM (.ptr _ _) ?_
   refine Ch ?_
   refine pF Bd ?_
   refine Yc hO 1 vp3 Dv ?_
   refine pM (.int _ _) (bk hk fun c7 hc7 hk => ?_)
   refine L7 hO 4 hc7 EJ Av (fun b8 hb8 => ?_)
   refine pA (.ptr _ _) (pE (gn (A1 (A4 ?_))))
   refine As Bl hO 0 (.lit _ _ _) Du ?_
   refine pM (.int _ _) (bk hk fun c9 hc9 hk => ?_)
   refine pX hc9 Er Az ?_
   refine Br (.agg [_, _, _, _, _]) (G8 (lm := m3) (off := 0) hc9 Ew Az) (CK hO Az IU (fun b10 G hO => ?_))
   refine Cs (xs := [_, _, _, _, _]) hO 0 Az hFr.1.symm (fun G hO => pE (gn (A1 (A1 (A4 ?_)))))
   refine pM (.ptr _ _) ?_
   refine Ch ?_
   refine pF B8 ?_
   refine GM BL (.int _ _) hO 5 hb8 hc7 BU ?_
   refine AW (pE (gn (Aq hk (fun hk => ?_) (fun hk => ?_))))
   ·exact D3 (ge (be (gn (⟨x2, F3, _, _, _, hk, hFr, (pk hO [1, 2, 3, 4, 5]), sh⟩))))
   ·refine Ar (gn (CQ (fun S' => ∃ (x11 : List AG) (c13 : AG) (F12 : List Nat) (J : Nat → V) (G : A3) (H1 : A3), LR aP0 aF1 x4 c9 x11 c13 = some y1 ∧ AK x11 x4 = some c13 ∧ vp3 = .sl b8 0 x11.length ∧ Bu H H1 S0 ∧ A5 H1 G [.Ad b10 (.cells 5 (Cn m3 0 m3 0 m3 0 m3 0 m3 0 c9)), .Ad b1 (.cells 5 (Ai l1 0 l2 m3 l4 m5 aP0)), .DA S0 q0 (.cells 4 [.bool aF1.Ok, vp1, vp2, vp3]), AY S0 Fp1 aF1.C5 [vp1], AY S0 Fp2 aF1.AF [vp2], AY S0 F12 x11 [vp3]] ∧ S' = ⟨CM [(1, .ptr q0 0), (2, .ptr b1 0), (4, iv x4), (5, .ptr b8 (x4.toNat * 5)), (6, .ptr b10 0), (13, iv (aF1.A7.length : Int)), (14, iv x4)] J, G⟩) ?_ ?_))
    ·refine A1 (BC [(0, false), (1, false), (2, false), (3, true), (4, false), (5, false), (6, true), (7, true), (8, true), (9, true), (10, true), (11, true), (12, true), (13, true), (14, false), (15, true), (16, false)] [_, _, _, _, _, _, _, _, _, _, _, _, _, _, _, _, _] (by decide +kernel) (by rfl) ?_)
     refine pM (.ptr _ _) ?_
     refine Ch ?_
     refine pF B8 ?_
     refine GM BL (.int _ _) hO 5 hb8 hc7 BU ?_
     refine AW ?_
     refine pM (.bool _) (bk hk fun t60 ht hk => ?_)
     refine AS (l1 := [_, _, _, _, _, _, _, _, _, _, _]) [39, 40, 41, 42, 43, 44, 45, 46, 47, 48, 49] 49 (.bool t60) ?_ ?_
     ·refine bc (b := (c7.State != (4:Int))) (fun hg => ?_) (fun hg => ?_)
      ·replace hk := ct hg ht
       refine AB hg (pM (.ptr _ _) (AB hg ?_))
       refine Ch (AB hg ?_)
       refine pF Cm (AB hg ?_)
       refine Yc hO 2 vp1 C8 (AB hg ?_)
       refine pF BI (AB hg ?_)
       refine CN hO 0 (.lit _ _ _) BK (AB hg (bk hk fun c61 hc61 hk => ?_))
       refine pX hc61 C4 DP (AB hg ?_)
       refine Br (.int _ _) (D4 (lm := 0) (off := 0) hc61 BU) (AB hg (bk hk fun c62 hc62 hk => ?_))
       refine L7 hO 3 hc62 Cl FO (fun b63 hb63 => AB hg ?_)
       refine GM (Bm.all (α := Bool)) (.bool _) hO 3 hb63 hc62 Fk ?_
       refine Cr hg (.bool _) ?_
       cases hk; exact pE ek
      ·replace hk := cf hg ht
       refine AE hg (AE hg (AE hg (AE hg (AE hg (AE hg (AE hg (AE hg (AE hg (AE hg (Cq hg (.bool _) ?_))))))))))
       cases hk; exact pE ek
     ·intro J
      refine pE (gn (Aq hk (fun hk => ?_) (fun hk => ?_)))
      ·refine A4 (pM (.ptr _ _) ?_)
       refine pM (.ptr _ _) ?_
       refine Ch ?_
       refine pF B8 ?_
       refine MS BL (y' := (4:Int)) hO 5 hb8 hc7 DP (fun _ => ⟨rfl, rfl⟩) hFr hS rfl (fun H1 G hFr hO => ?_)
       have hc_64 := Bp hc7 ({ c7 with State := (4:Int) } : AG)
       have hv_64 := Cu (j := x4.toNat) (y := ({ c7 with State := (4:Int) } : AG)) hb8
       refine Ch ?_
       refine pF E5 ?_
       refine MS Gd (y' := (0:Int)) hO 5 hv_64 hc_64 DP (fun _ => ⟨rfl, rfl⟩) hFr hS rfl (fun H1 G hFr hO => ?_)
       have hc_65 := Bp hc_64 ({ ({ c7 with State := (4:Int) } : AG) with Timer := (0:Int) } : AG)
       have hv_65 := Cu (j := x4.toNat) (y := ({ ({ c7 with State := (4:Int) } : AG) with Timer := (0:Int) } : AG)) hv_64
       exact pE (gn (⟨(x2.set x4.toNat ({ c7 with State := (4:Int) })).set x4.toNat ({ ({ c7 with State := (4:Int) } : AG) with Timer := (0:Int) }), ({ ({ c7 with State := (4:Int) } : AG) with Timer := (0:Int) } : AG), F3, _, _, _, hk, hc_65, hv_65, hFr, hO, sh⟩))
      ·exact Ar (gn (⟨x2, c7, F3, _, _, _, hk, hc7, hb8, hFr, hO, sh⟩))
    ·rintro _ ⟨x11, c13, F12, J, G, H1, hk, hc13, hv14, hFr, hO, rfl⟩
     refine A1 (A4 (pM (.ptr _ _) ?_))
     refine Ch ?_
     refine pF B8 ?_
     refine GM BL (.int _ _) hO 5 hv14 hc13 BU (pE (gn (BO ?_)))
     refine CQ (fun S' => ∃ (x16 : Bool) (F15 : List Nat) (J : Nat → V) (G : A3) (H1 : A3), Ny aP0 aF1 x4 c9 x11 c13 x16 = some y1 ∧ AK x11 x4 = some c13 ∧ vp3 = .sl b8 0 x11.length ∧ Bu H H1 S0 ∧ A5 H1 G [.Ad b10 (.cells 5 (Cn m3 0 m3 0 m3 0 m3 0 m3 0 c9)), .Ad b1 (.cells 5 (Ai l1 0 l2 m3 l4 m5 aP0)), .DA S0 q0 (.cells 4 [.bool aF1.Ok, vp1, vp2, vp3]), AY S0 Fp1 aF1.C5 [vp1], AY S0 Fp2 aF1.AF [vp2], AY S0 F15 x11 [vp3]] ∧ S' = ⟨CM [(1, .ptr q0 0), (2, .ptr b1 0), (4, iv x4), (5, .ptr b8 (x4.toNat * 5)), (6, .ptr b10 0), (13, iv (aF1.A7.length : Int)), (14, iv x4), (59, iv c13.State), (60, .bool x16)] J, G⟩) ?_ ?_
     ·refine A1 (A4 (AW ?_))
      refine pA (.bool _) (pE (gn (Aq hk (fun hk => ?_) (fun hk => ?_))))
      ·exact Ar (gn (⟨(c13.State == (1:Int)), F12, _, _, _, hk, hc13, hv14, hFr, hO, sh⟩))
      ·refine A4 (AW ?_)
       refine pA (.bool _) (pE (gn ?_))
       exact ⟨(c13.State == (2:Int)), F12, _, _, _, hk, hc13, hv14, hFr, hO, sh⟩
     ·rintro _ ⟨x16, F15, J, G, H1, hk, hc13, hv14, hFr, hO, rfl⟩
      refine Aq hk (fun hk => ?_) (fun hk => ?_)
      ·refine A1 (A4 (pM (.ptr _ _) ?_))
       refine Ch ?_
       refine pF B8 ?_
       refine MS BL (y' := (1:Int)) hO 5 hv14 hc13 DP (fun _ => ⟨rfl, rfl⟩) hFr hS rfl (fun H1 G hFr hO => ?_)
       have hc_17 := Bp hc13 ({ c13 with State := (1:Int) } : AG)
       have hv_17 := Cu (j := x4.toNat) (y := ({ c13 with State := (1:Int) } : AG)) hv14
       refine pE (gn (A1 (BC [(0, true), (1, true), (2, true), (3, true), (4, true), (5, false)] [_, _, _, _, _, _] (by decide +kernel) (by rfl) ?_)))
       refine E4 hO 1 [_, _, _, _, _] FB CC ?_
       refine pM (.ptr _ _) ?_
       refine Ch ?_
       refine iY hO 2 Ep Bv ?_
       refine pM (.int _ _) (bk hk fun v18 hv18 hk => ?_)
       obtain ⟨_, hm19⟩ := S7 hO (j := 5) rfl (lk.length + 1) 7
       obtain ⟨_, hm20⟩ := Fb hO (j := 4) rfl (lk.length + 1) 7
       obtain ⟨_, hm21⟩ := Fb hO (j := 3) rfl (lk.length + 1) 7
       refine AR (vs := [(.agg [_, _, _, _, _]), (.agg [_, _, _, _]), (.int _ _)]) (caps := []) (fun _ => Wf hv18) ?_ (h3 := (BH rfl (BH (Qt (DS rfl (DS hm21 (DS hm20 (DS hm19 Qw))))) (BH rfl EF))))
       refine pE (gn (Aq hk (fun hk => ?_) (fun hk => ?_)))
       ·refine A4 (pM (.ptr _ _) ?_)
        refine pM (.ptr _ _) ?_
        refine Ch ?_
        refine pF B8 ?_
        refine MS BL (y' := (2:Int)) hO 5 hv_17 hc_17 DP (fun _ => ⟨rfl, rfl⟩) hFr hS rfl (fun H1 G hFr hO => ?_)
        have hc_22 := Bp hc_17 ({ ({ c13 with State := (1:Int) } : AG) with State := (2:Int) } : AG)
        have hv_22 := Cu (j := x4.toNat) (y := ({ ({ c13 with State := (1:Int) } : AG) with State := (2:Int) } : AG)) hv_17
        refine Ch ?_
        refine pF Dm ?_
        refine MS Gc (y' := true) hO 5 hv_22 hc_22 FO (fun _ => ⟨rfl, rfl⟩) hFr hS rfl (fun H1 G hFr hO => ?_)
        have hc_23 := Bp hc_22 ({ ({ ({ c13 with State := (1:Int) } : AG) with State := (2:Int) } : AG) with Shown := true } : AG)
        have hv_23 := Cu (j := x4.toNat) (y := ({ ({ ({ c13 with State := (1:Int) } : AG) with State := (2:Int) } : AG) with Shown := true } : AG)) hv_22
        exact pE (bn (bn (gn (⟨((x11.set x4.toNat ({ c13 with State := (1:Int) })).set x4.toNat ({ ({ c13 with State := (1:Int) } : AG) with State := (2:Int) })).set x4.toNat ({ ({ ({ c13 with State := (1:Int) } : AG) with State := (2:Int) } : AG) with Shown := true }), F15, _, _, _, hk, hFr, (pk hO [1, 2, 3, 4, 5]), sh⟩))))
       ·exact Ar (bn (bn (gn (⟨x11.set x4.toNat ({ c13 with State := (1:Int) }), F15, _, _, _, hk, hFr, (pk hO [1, 2, 3, 4, 5]), sh⟩))))
      ·refine A1 (A4 (AW ?_))
       refine pA (.bool _) (pE (gn (Aq hk (fun hk => ?_) (fun hk => ?_))))
       ·refine A1 (A1 (A4 (As BI hO 0 (.lit _ _ _) BK ?_)))
        refine Af D5 ?_
        refine pM (.int _ _) (pE (gn (BO ?_)))
        refine AA (F := LQ aF1 x4 c9) (fun s S' => ∃ (F25 : List Nat) (J : Nat → V) (G : A3) (H1 : A3), AK s.1 x4 = some s.2.1 ∧ vp3 = .sl b8 0 s.1.length ∧ Bu H H1 S0 ∧ A5 H1 G [.Ad b10 (.cells 5 (Cn m3 0 m3 0 m3 0 m3 0 m3 0 c9)), .Ad b1 (.cells 5 (Ai l1 0 l2 m3 l4 m5 aP0)), .DA S0 q0 (.cells 4 [.bool aF1.Ok, vp1, vp2, vp3]), AY S0 Fp1 aF1.C5 [vp1], AY S0 Fp2 aF1.AF [vp2], AY S0 F25 s.1 [vp3]] ∧ S' = ⟨CM [(1, .ptr q0 0), (2, .ptr b1 0), (5, .ptr b8 (x4.toNat * 5)), (6, .ptr b10 0), (13, iv (aF1.A7.length : Int)), (14, iv x4), (81, AN m3 0 c9.A0), (82, iv (c9.A0.length : Int)), (83, iv s.2.2)] J, G⟩) hk ⟨F15, _, _, _, hc13, hv14, hFr, hO, sh⟩ ?_
        rintro ⟨x24, c26, x28⟩ _ y2 ⟨F25, J, G, H1, hc26, hv27, hFr, hO, rfl⟩ hk hx2
        refine A1 (A4 (AW (pE (gn (A1 (Aq hk (fun hk => ?_) (fun hk => ?_)))))))
        ·refine Ar (gn (A1 (BO (A1 (A4 (pM (.int _ _) (bk hk fun c29 hc29 hk => ?_)))))))
         refine pX hc29 C4 DP ?_
         refine Br (.int _ _) (D4 (lm := 0) (off := 0) hc29 BU) ?_
         refine pA (.int _ _) ?_
         refine pA (.int _ _) (pE (gn ?_))
         refine BC [(0, true), (1, true), (2, true), (3, true), (4, true), (5, true), (6, true), (7, true), (8, true), (9, true), (10, true), (11, true), (12, true), (13, true), (14, true), (15, true), (16, true), (17, true), (18, true), (19, true), (20, true), (21, false), (22, false)] [_, _, _, _, _, _, _, _, _, _, _, _, _, _, _, _, _, _, _, _, _, _, _] (by decide +kernel) (by rfl) ?_
         refine pM (.ptr _ _) ?_
         refine Ch ?_
         refine pF C3 ?_
         refine Tw Cb hO 5 hv27 hc26 C8 (fun u30 fs30 hs30 => ?_)
         refine pM (.int _ _) ?_
         refine pM (.ptr _ _) ?_
         refine Ch ?_
         refine pF C3 ?_
         refine Tw Cb hO 5 hv27 hc26 C8 (fun u31 fs31 hs31 => ?_)
         refine pM (.int _ _) (bk hk fun c32 hc32 hk => ?_)
         refine e7 hs31 hc32 Cl FO (fun b33 hb33 => ?_)
         refine Xt (.bool _) hs31 hb33 hc32 Fk ?_
         refine pM (.bool _) (bk hk fun t34 ht hk => ?_)
         refine AS (l1 := [_, _, _, _, _, _, _, _]) [101, 102, 103, 104, 105, 106, 107, 108] 108 (.bool t34) ?_ ?_
         ·refine bc (b := c32) (fun hg => ?_) (fun hg => ?_)
          ·replace hk := ct hg ht
           refine AE hg (AE hg (AE hg (AE hg (AE hg (AE hg (AE hg (Cr hg (.bool _) ?_)))))))
           cases hk; exact pE ek
          ·replace hk := cf hg ht
           refine AB hg (pM (.ptr _ _) (AB hg ?_))
           refine Ch (AB hg ?_)
           refine pF Cm (AB hg ?_)
           refine Yc hO 2 vp1 C8 (AB hg ?_)
           refine pM (.int _ _) (AB hg (bk hk fun c35 hc35 hk => ?_))
           refine L7 hO 3 hc35 Cl FO (fun b36 hb36 => AB hg ?_)
           refine GM (Bm.all (α := Bool)) (.bool _) hO 3 hb36 hc35 Fk ?_
           refine Cq hg (.bool _) ?_
           cases hk; exact pE ek
         ·intro J
          refine bk hk fun c37 hc37 hk => e7 hs30 hc37 Cl FO (fun b38 hb38 => ?_)
          refine iZ (y' := t34) hO 5 hs30 hb38 hc37 FO (fun _ => ⟨rfl, rfl⟩) hFr hS rfl (fun H1 G hFr hO => ?_)
          replace hO : A5 H1 G [.Ad b10 (.cells 5 (Cn m3 0 m3 0 m3 0 m3 0 m3 0 c9)), .Ad b1 (.cells 5 (Ai l1 0 l2 m3 l4 m5 aP0)), .DA S0 q0 (.cells 4 [.bool aF1.Ok, vp1, vp2, vp3]), AY S0 Fp1 aF1.C5 [vp1], AY S0 Fp2 aF1.AF [vp2], AY S0 F25 (x24.set x4.toNat ({ c26 with Aa := c26.Aa.set x28.toNat t34 })) [vp3]] := hO
          have hc_39 := Bp hc26 ({ c26 with Aa := c26.Aa.set x28.toNat t34 } : AG)
          have hv_39 := Cu (j := x4.toNat) (y := ({ c26 with Aa := c26.Aa.set x28.toNat t34 } : AG)) hv27
          refine pE (bn (gn (A4 (AW ?_))))
          refine pM (.int _ _) (pE (gn ?_))
          cases hk; exact ⟨_, rfl, F25, _, _, _, hc_39, hv_39, hFr, hO, sh⟩
        ·refine D3 (ge (ge (be (gn (have hk := lx hx2 hk; A1 (BO (AA (F := Ju aF1 x4 c9) (fun s S' => ∃ (F41 : List Nat) (J : Nat → V) (G : A3) (H1 : A3), AK s.1 x4 = some s.2 ∧ vp3 = .sl b8 0 s.1.length ∧ Bu H H1 S0 ∧ A5 H1 G [.Ad b10 (.cells 5 (Cn m3 0 m3 0 m3 0 m3 0 m3 0 c9)), .Ad b1 (.cells 5 (Ai l1 0 l2 m3 l4 m5 aP0)), .DA S0 q0 (.cells 4 [.bool aF1.Ok, vp1, vp2, vp3]), AY S0 Fp1 aF1.C5 [vp1], AY S0 Fp2 aF1.AF [vp2], AY S0 F41 s.1 [vp3]] ∧ S' = ⟨CM [(1, .ptr q0 0), (2, .ptr b1 0), (5, .ptr b8 (x4.toNat * 5)), (6, .ptr b10 0), (13, iv (aF1.A7.length : Int)), (14, iv x4)] J, G⟩) hk ⟨F25, _, _, _, hc26, hv27, hFr, hO, sh⟩ ?_)))))))
         rintro ⟨x40, c42⟩ _ y2 ⟨F41, J, G, H1, hc42, hv43, hFr, hO, rfl⟩ hk hx2
         refine A1 (A1 (BC [(0, true), (1, true), (2, true), (3, true), (4, true), (5, true), (6, true), (7, false), (8, false), (9, true), (10, true), (11, true), (12, true), (13, true), (14, true), (15, true), (16, true), (17, false), (18, true), (19, false), (20, false), (21, true), (22, true), (23, true), (24, true), (25, true), (26, true), (27, true), (28, true), (29, true), (30, true), (31, true), (32, true), (33, false), (34, true), (35, false), (36, false), (37, false), (38, true), (39, true), (40, true), (41, true), (42, true), (43, true), (44, true), (45, true), (46, false), (47, false), (48, true), (49, true), (50, true), (51, true), (52, true), (53, true), (54, true), (55, true), (56, true), (57, false), (58, true), (59, false), (60, false)] [_, _, _, _, _, _, _, _, _, _, _, _, _, _, _, _, _, _, _, _, _, _, _, _, _, _, _, _, _, _, _, _, _, _, _, _, _, _, _, _, _, _, _, _, _, _, _, _, _, _, _, _, _, _, _, _, _, _, _, _, _] (by decide +kernel) (by rfl) ?_))
         refine pM (.ptr _ _) ?_
         refine Ch ?_
         refine pF Bw ?_
         refine GM Bn (.int _ _) hO 5 hv43 hc42 BU ?_
         refine As BI hO 0 (.lit _ _ _) BK ?_
         refine Af D5 ?_
         refine AW ?_
         refine pM (.bool _) (bk hk fun t44 ht hk => ?_)
         refine AS (l1 := [_, _, _, _, _, _, _, _, _, _, _]) [120, 121, 122, 123, 124, 125, 126, 127, 128, 129, 130] 130 (.bool t44) ?_ ?_
         ·refine bc (b := decide (c42.Ab < (c9.A0.length : Int))) (fun hg => ?_) (fun hg => ?_)
          ·replace hk := ct hg ht
           refine AB hg (pM (.ptr _ _) (AB hg ?_))
           refine Ch (AB hg ?_)
           refine pF C3 (AB hg ?_)
           refine Tw Cb hO 5 hv43 hc42 C8 (fun u45 fs45 hs45 => AB hg ?_)
           refine pM (.ptr _ _) (AB hg ?_)
           refine Ch (AB hg ?_)
           refine pF Bw (AB hg ?_)
           refine GM Bn (.int _ _) hO 5 hv43 hc42 BU (AB hg (bk hk fun c46 hc46 hk => ?_))
           refine e7 hs45 hc46 Cl FO (fun b47 hb47 => AB hg ?_)
           refine Xt (.bool _) hs45 hb47 hc46 Fk ?_
           refine Cr hg (.bool _) ?_
           cases hk; exact pE ek
          ·replace hk := cf hg ht
           refine AE hg (AE hg (AE hg (AE hg (AE hg (AE hg (AE hg (AE hg (AE hg (AE hg (Cq hg (.bool _) ?_))))))))))
           cases hk; exact pE ek
         ·intro J
          refine pM (.bool _) (bk hk fun t48 ht hk => ?_)
          refine AS (l1 := [_, _, _, _, _, _, _, _, _, _, _, _, _, _, _, _]) [132, 133, 134, 135, 136, 137, 138, 139, 140, 141, 142, 143, 144, 145, 146, 147] 147 (.bool t48) ?_ ?_
          ·refine bc (b := t44) (fun hg => ?_) (fun hg => ?_)
           ·replace hk := ct hg ht
            refine AB hg (pM (.ptr _ _) (AB hg ?_))
            refine Ch (AB hg ?_)
            refine pF Cm (AB hg ?_)
            refine Yc hO 2 vp1 C8 (AB hg ?_)
            refine pF BI (AB hg ?_)
            refine CN hO 0 (.lit _ _ _) BK (AB hg ?_)
            refine pM (.ptr _ _) (AB hg ?_)
            refine Ch (AB hg ?_)
            refine pF Bw (AB hg ?_)
            refine GM Bn (.int _ _) hO 5 hv43 hc42 BU (AB hg (bk hk fun c49 hc49 hk => ?_))
            refine pX hc49 C4 DP (AB hg ?_)
            refine Br (.int _ _) (D4 (lm := 0) (off := 0) hc49 BU) (AB hg (bk hk fun c50 hc50 hk => ?_))
            refine L7 hO 3 hc50 Cl FO (fun b51 hb51 => AB hg ?_)
            refine GM (Bm.all (α := Bool)) (.bool _) hO 3 hb51 hc50 Fk (AB hg ?_)
            refine pU ?_
            refine Cr hg (.bool _) ?_
            cases hk; exact pE ek
           ·replace hk := cf hg ht
            refine AE hg (AE hg (AE hg (AE hg (AE hg (AE hg (AE hg (AE hg (AE hg (AE hg (AE hg (AE hg (AE hg (AE hg (AE hg (Cq hg (.bool _) ?_)))))))))))))))
            cases hk; exact pE ek
          ·intro J
           refine pM (.bool _) (bk hk fun t52 ht hk => ?_)
           refine AS (l1 := [_, _, _, _, _, _, _, _, _, _, _, _, _, _, _, _, _, _, _, _, _, _, _]) [149, 150, 151, 152, 153, 154, 155, 156, 157, 158, 159, 160, 161, 162, 163, 164, 165, 166, 167, 168, 169, 170, 171] 171 (.bool t52) ?_ ?_
           ·refine bc (b := t48) (fun hg => ?_) (fun hg => ?_)
            ·replace hk := ct hg ht
             refine AB hg (pM (.ptr _ _) (AB hg ?_))
             refine Ch (AB hg ?_)
             refine pF Bw (AB hg ?_)
             refine GM Bn (.int _ _) hO 5 hv43 hc42 BU (AB hg ?_)
             refine pF BI (AB hg ?_)
             refine CN hO 0 (.lit _ _ _) BK (AB hg ?_)
             refine Af D5 (AB hg ?_)
             refine AW (AB hg ?_)
             refine AW (AB hg ?_)
             refine pM (.bool _) (bk hk fun t53 ht hk => ?_)
             refine AS (l1 := [_, _, _, _, _, _, _, _, _, _, _, _]) [159, 160, 161, 162, 163, 164, 165, 166, 167, 168, 169, 170] 170 (.bool t53) ?_ ?_
             ·refine bc (b := (c42.Ab == (BT ((c9.A0.length : Int) - (1:Int))))) (fun hg2 => ?_) (fun hg2 => ?_)
              ·replace hk := ct hg2 ht
               refine AE hg2 (AE hg2 (AE hg2 (AE hg2 (AE hg2 (AE hg2 (AE hg2 (AE hg2 (AE hg2 (AE hg2 (AE hg2 (AB hg (Cr hg2 (.bool _) ?_))))))))))))
               cases hk; exact pE ek
              ·replace hk := cf hg2 ht
               refine AB hg2 (pM (.ptr _ _) (AB hg2 ?_))
               refine Ch (AB hg2 ?_)
               refine pF C3 (AB hg2 ?_)
               refine Tw Cb hO 5 hv43 hc42 C8 (fun u54 fs54 hs54 => AB hg2 ?_)
               refine pM (.ptr _ _) (AB hg2 ?_)
               refine Ch (AB hg2 ?_)
               refine pF Bw (AB hg2 ?_)
               refine GM Bn (.int _ _) hO 5 hv43 hc42 BU (AB hg2 ?_)
               refine AW (AB hg2 (bk hk fun c55 hc55 hk => ?_))
               refine e7 hs54 hc55 Cl FO (fun b56 hb56 => AB hg2 ?_)
               refine Xt (.bool _) hs54 hb56 hc55 Fk (AB hg ?_)
               refine Cq hg2 (.bool _) ?_
               cases hk; exact pE ek
             ·intro J
              refine Cr hg (.bool _) ?_
              cases hk; exact pE ek
            ·replace hk := cf hg ht
             refine AE hg (AE hg (AE hg (AE hg (AE hg (AE hg (AE hg (AE hg (AE hg (AE hg (CW (CW (CW (CW (CW (CW (CW (CW (CW (CW (CW (AE hg (Cq hg (.bool _) ?_))))))))))))))))))))))
             cases hk; exact pE ek
           ·intro J
            refine pE (gn (Aq hk (fun hk => ?_) (fun hk => ?_)))
            ·refine Ar (gn (BO (A4 (pM (.ptr _ _) ?_))))
             refine Ch ?_
             refine pF Bw ?_
             refine GM Bn (.int _ _) hO 5 hv43 hc42 BU ?_
             refine AW ?_
             refine Ch ?_
             refine pF Bw ?_
             refine MS Bn (y' := (BT (c42.Ab + (1:Int)))) hO 5 hv43 hc42 DP (fun _ => ⟨rfl, rfl⟩) hFr hS rfl (fun H1 G hFr hO => ?_)
             have hc_57 := Bp hc42 ({ c42 with Ab := BT (c42.Ab + (1:Int)) } : AG)
             have hv_57 := Cu (j := x4.toNat) (y := ({ c42 with Ab := BT (c42.Ab + (1:Int)) } : AG)) hv43
             refine pE (bn (gn ?_))
             cases hk; exact ⟨_, rfl, F41, _, _, _, hc_57, hv_57, hFr, hO, sh⟩
            ·refine D3 (ge (ge (be (gn (have hk := lx hx2 hk; A1 (BC [(0, true), (1, true), (2, true), (3, true), (4, true), (5, true), (6, true), (7, false)] [_, _, _, _, _, _, _, _] (by decide +kernel) (by rfl) ?_))))))
             refine pM (.ptr _ _) ?_
             refine Ch ?_
             refine pF Bw ?_
             refine GM Bn (.int _ _) hO 5 hv43 hc42 BU ?_
             refine As BI hO 0 (.lit _ _ _) BK ?_
             refine Af D5 ?_
             refine AW (pE (gn (Aq hk (fun hk => ?_) (fun hk => ?_))))
             ·refine A4 (pM (.ptr _ _) ?_)
              refine E4 hO 0 [_, _, _, _, _] Ew Az (bk hk fun v58 hv58 hk => ?_)
              refine Lj hO (fun _ => Zd hv58) (fun u59 F59 G hO => ?_)
              refine Ch ?_
              refine bH hO 5 hv43 hc42 Av hFr hS rfl (fun H1 G hFr hO => pE (bn (bn (gn ?_))))
              exact ⟨x40.set x4.toNat v58, (F41 ++ F59), _, _, _, hk, hFr, (pk hO [1, 2, 3, 4, 5]), sh⟩
             ·exact Ar (bn (bn (gn (⟨x40, F41, _, _, _, hk, hFr, (pk hO [1, 2, 3, 4, 5]), sh⟩))))
       ·exact Ar (bn (bn (gn (⟨x11, F15, _, _, _, hk, hFr, (pk hO [1, 2, 3, 4, 5]), sh⟩))))
  ·rintro _ ⟨x5, F6, J, G, H1, hk, hFr, hO, rfl⟩
   refine A4 (AW ?_)
   refine pM (.int _ _) (pE (gn ?_))
   cases hk; exact ⟨_, rfl, F6, _, _, _, hFr, hO, sh⟩
 ·refine D3 (ge (ge (be (have hk := lx hx1 hk; ?_))))
  replace hk := Option.some.inj hk; subst hk; exact XF (Fp1, Fp2, F3) (pk hO [1, 2, 3, 4]) hFr (J9 (Zx hq) (J9 Lm (J9 Lm (J9 Lm Xy)))) rfl rfl rfl rfl (by first | exact Or.inl rfl | exact Or.inr rfl)
def Mb (aS10 : List Bool) (aS21 : List Bool) : Int → Option (Int ⊕ Bool) := fun s =>
 (bif decide (s < (aS10.length : Int)) then ((AK aS10 s).bind fun c2 => ((AK aS21 s).bind fun c3 => (bif !(c2 == c3) then ((some false).map Sum.inr) else some (.inl (BT (s + (1:Int))))))) else ((some true).map Sum.inr))
def VS (aS10 : List Bool) (aS21 : List Bool) : Option Bool :=
 (bif ((aS10.length : Int) != (aS21.length : Int)) then some false else (AJ (Mb aS10 aS21) ((0:Int))))
theorem Rl {aS10 : List Bool} {aS21 : List Bool} {r : Bool} {l1 l2 : Nat} (hk : VS aS10 aS21 = some r) (hlk : 0 < lk.length := by simp) : Am Tryz.prog hh 124 [AN l1 0 aS10, AN l2 0 aS21] H lk = some (.bool r, H) := by
 refine AI Tryz.func124 rfl Tryz.ntmps124 Tryz.results124 rfl rfl fun hO => ?_
 unfold VS at hk
 refine A1 (A4 (pA (.bool _) (pE (gn (A1 (A1 (A4 ?_)))))))
 refine pM (.lit _ _ _) ?_
 refine Af HO ?_
 refine pM (.lit _ _ _) ?_
 refine Af HO ?_
 refine AW (pE (gn (Aq hk (fun hk => ?_) (fun hk => ?_))))
 ·refine A1 (A4 (pA (.bool _) (pE (gn (Aw (gr ?_))))))
  cases hk; exact AT hO
 ·refine Ar (gn (A1 (A1 (A4 (pM (.lit _ _ _) ?_)))))
  refine Af HO ?_
  refine pM (.int _ _) (pE (gn (BO ?_)))
  refine AA (F := Mb aS10 aS21) (fun s S' => ∃ (J : Nat → V) (G : A3), A5 H G [] ∧ S' = ⟨CM [(0, AN l1 0 aS10), (1, AN l2 0 aS21), (12, iv (aS10.length : Int)), (13, iv s)] J, G⟩) hk ⟨_, _, hO, sh⟩ ?_
  rintro x1 _ y1 ⟨J, G, hO, rfl⟩ hk hx1
  refine A1 (A4 (AW (pE (gn (A1 (Aq hk (fun hk => ?_) (fun hk => ?_)))))))
  ·refine Ar (gn (A1 (BO (A1 (A4 (pM (.int _ _) ?_))))))
   refine pA (.int _ _) (pE (gn (A1 ?_)))
   refine BC [(0, true), (1, true), (2, true), (3, true), (4, true), (5, true), (6, true), (7, true), (8, false)] [_, _, _, _, _, _, _, _, _] (by decide +kernel) (by rfl) ?_
   refine pM (.lit _ _ _) ?_
   refine pM (.int _ _) (bk hk fun c2 hc2 hk => ?_)
   refine pX hc2 Cl FO ?_
   refine Br (.bool _) (D4 (lm := 0) (off := 0) hc2 Fk) ?_
   refine pM (.lit _ _ _) ?_
   refine pM (.int _ _) (bk hk fun c3 hc3 hk => ?_)
   refine pX hc3 Cl FO ?_
   refine Br (.bool _) (D4 (lm := 0) (off := 0) hc3 Fk) ?_
   refine Zu Tryz.underlying4 (pE (gn (Aq hk (fun hk => ?_) (fun hk => ?_))))
   ·refine A1 (A4 (pA (.bool _) (pE (gn (Aw (br (gr (gr (br (gr (have hk := lx hx1 hk; ?_)))))))))))
    cases hk; exact AT hO
   ·refine Ar (bn (gn (A4 (AW ?_))))
    refine pM (.int _ _) (pE (gn ?_))
    cases hk; exact ⟨_, rfl, _, _, hO, sh⟩
  ·refine D3 (ge (ge (be (gn (have hk := lx hx1 hk; A1 (A4 (pA (.bool _) (pE (gn (Aw ?_))))))))))
   cases hk; exact AT hO
def Mc (aS10 : List Al) (aS21 : List Al) : Int → Option (Int ⊕ Bool) := fun s =>
 (bif decide (s < (aS10.length : Int)) then ((AK aS10 s).bind fun c2 => ((AK aS21 s).bind fun c3 => (bif !((c2.Want == c3.Want) && ((c2.AQ == c3.AQ) && true)) then ((some false).map Sum.inr) else some (.inl (BT (s + (1:Int))))))) else ((some true).map Sum.inr))
def Wn (aS10 : List Al) (aS21 : List Al) : Option Bool :=
 (bif ((aS10.length : Int) != (aS21.length : Int)) then some false else (AJ (Mc aS10 aS21) ((0:Int))))
theorem Wo {aS10 : List Al} {aS21 : List Al} {r : Bool} {l1 l2 : Nat} (hk : Wn aS10 aS21 = some r) (hlk : 0 < lk.length := by simp) : Am Tryz.prog hh 125 [AN l1 0 aS10, AN l2 0 aS21] H lk = some (.bool r, H) := by
 refine AI Tryz.func125 rfl Tryz.ntmps125 Tryz.results125 rfl rfl fun hO => ?_
 unfold Wn at hk
 refine A1 (A4 (pA (.bool _) (pE (gn (A1 (A1 (A4 ?_)))))))
 refine pM (.lit _ _ _) ?_
 refine Af Oo ?_
 refine pM (.lit _ _ _) ?_
 refine Af Oo ?_
 refine AW (pE (gn (Aq hk (fun hk => ?_) (fun hk => ?_))))
 ·refine A1 (A4 (pA (.bool _) (pE (gn (Aw (gr ?_))))))
  cases hk; exact AT hO
 ·refine Ar (gn (A1 (A1 (A4 (pM (.lit _ _ _) ?_)))))
  refine Af Oo ?_
  refine pM (.int _ _) (pE (gn (BO ?_)))
  refine AA (F := Mc aS10 aS21) (fun s S' => ∃ (J : Nat → V) (G : A3), A5 H G [] ∧ S' = ⟨CM [(0, AN l1 0 aS10), (1, AN l2 0 aS21), (12, iv (aS10.length : Int)), (13, iv s)] J, G⟩) hk ⟨_, _, hO, sh⟩ ?_
  rintro x1 _ y1 ⟨J, G, hO, rfl⟩ hk hx1
  refine A1 (A4 (AW (pE (gn (A1 (Aq hk (fun hk => ?_) (fun hk => ?_)))))))
  ·refine Ar (gn (A1 (BO (A1 (A4 (pM (.int _ _) ?_))))))
   refine pA (.int _ _) (pE (gn (A1 ?_)))
   refine BC [(0, true), (1, true), (2, true), (3, true), (4, true), (5, true), (6, true), (7, true), (8, false)] [_, _, _, _, _, _, _, _, _] (by decide +kernel) (by rfl) ?_
   refine pM (.lit _ _ _) ?_
   refine pM (.int _ _) (bk hk fun c2 hc2 hk => ?_)
   refine pX hc2 IY EA ?_
   refine Br (.agg [_, _]) (G8 (lm := 0) (off := 0) hc2 RN EA) ?_
   refine pM (.lit _ _ _) ?_
   refine pM (.int _ _) (bk hk fun c3 hc3 hk => ?_)
   refine pX hc3 IY EA ?_
   refine Br (.agg [_, _]) (G8 (lm := 0) (off := 0) hc3 RN EA) ?_
   refine iU jR (eT (eU _ _ _) (eT (eU _ _ _) (rfl))) (pE (gn (Aq hk (fun hk => ?_) (fun hk => ?_))))
   ·refine A1 (A4 (pA (.bool _) (pE (gn (Aw (br (gr (gr (br (gr (have hk := lx hx1 hk; ?_)))))))))))
    cases hk; exact AT hO
   ·refine Ar (bn (gn (A4 (AW ?_))))
    refine pM (.int _ _) (pE (gn ?_))
    cases hk; exact ⟨_, rfl, _, _, hO, sh⟩
  ·refine D3 (ge (ge (be (gn (have hk := lx hx1 hk; A1 (A4 (pA (.bool _) (pE (gn (Aw ?_))))))))))
   cases hk; exact AT hO
def KJ (aA0 : AD) (aB1 : AD) : Int → Option (Int ⊕ Bool) := fun s =>
 (bif decide (s < (aA0.A7.length : Int)) then ((AK aA0.A7 s).bind fun c7 => ((AK aB1.A7 s).bind fun c9 => ((bif ((((c7.State != c9.State) || (c7.Ab != c9.Ab)) || !(c7.Shown == c9.Shown)) || (c7.Timer != c9.Timer)) then some true else ((VS c7.Aa c9.Aa).bind fun v12 => some (!v12))).bind fun t11 => (bif t11 then ((some false).map Sum.inr) else some (.inl (BT (s + (1:Int)))))))) else ((some true).map Sum.inr))
def T9 (aA0 : AD) (aB1 : AD) : Option Bool :=
 ((VS aA0.C5 aB1.C5).bind fun v3 => ((bif !v3 then some true else ((Wn aA0.AF aB1.AF).bind fun v5 => some (!v5))).bind fun t4 => (bif (t4 || ((aA0.A7.length : Int) != (aB1.A7.length : Int))) then some false else (AJ (KJ aA0 aB1) ((0:Int))))))
theorem Wb {aA0 : AD} {aB1 : AD} {r : Bool} {l1 l2 l3 m4 l5 l6 l7 m8 : Nat} (hk : T9 aA0 aB1 = some r) (hlk : 0 < lk.length := by simp) : Am Tryz.prog hh 109 [.agg (Ah l1 0 l2 0 l3 m4 aA0), .agg (Ah l5 0 l6 0 l7 m8 aB1)] H lk = some (.bool r, H) := by
 refine AI Tryz.func109 rfl Tryz.ntmps109 Tryz.results109 rfl rfl fun hO => ?_
 unfold T9 at hk
 refine A1 (A4 (BZ (cs := [_, _, _, _]) hO Bv (fun b1 G hO => ?_)))
 refine BZ (cs := [_, _, _, _]) hO Bv (fun b2 G hO => ?_)
 refine pA (.bool _) (pE (gn (A1 (A1 (A4 ?_)))))
 refine As Cm hO 1 (.lit _ _ _) C8 ?_
 refine As Cm hO 0 (.lit _ _ _) C8 (bk hk fun v3 hv3 hk => ?_)
 refine AR (fun _ => Rl hv3) ?_
 refine pU ?_
 refine pM (.bool _) (bk hk fun t4 ht hk => ?_)
 refine AS (l1 := [_, _, _, _, _, _, _]) [15, 16, 17, 18, 19, 20, 21] 21 (.bool t4) ?_ ?_
 ·refine bc (b := !v3) (fun hg => ?_) (fun hg => ?_)
  ·replace hk := ct hg ht
   refine AE hg (AE hg (AE hg (AE hg (AE hg (AE hg (Cr hg (.bool _) ?_))))))
   cases hk; exact pE ek
  ·replace hk := cf hg ht
   refine AB hg (pF Db (AB hg ?_))
   refine CN hO 1 (.lit _ _ _) JD (AB hg ?_)
   refine pF Db (AB hg ?_)
   refine CN hO 0 (.lit _ _ _) JD (AB hg (bk hk fun v5 hv5 hk => ?_))
   refine AR (fun _ => Wo hv5) (AB hg ?_)
   refine pU ?_
   refine Cq hg (.bool _) ?_
   cases hk; exact pE ek
 ·intro J
  refine pM (.bool _) ?_
  refine AS (l1 := [_, _, _, _, _, _, _, _]) [23, 24, 25, 26, 27, 28, 29, 30] 30 (.bool (t4 || ((aA0.A7.length : Int) != (aB1.A7.length : Int)))) ?_ ?_
  ·refine bc (b := t4) (fun hg => ?_) (fun hg => ?_)
   ·refine AE hg (AE hg (AE hg (AE hg (AE hg (AE hg (AE hg (Cr hg (.bool _) ?_)))))))
    exact pE (ek (by rw [hg]; rfl))
   ·refine AB hg (pF Bd (AB hg ?_))
    refine CN hO 1 (.lit _ _ _) Dv (AB hg ?_)
    refine Af IJ (AB hg ?_)
    refine pF Bd (AB hg ?_)
    refine CN hO 0 (.lit _ _ _) Dv (AB hg ?_)
    refine Af IJ (AB hg ?_)
    refine AW ?_
    refine Cq hg (.bool _) ?_
    exact pE (ek (by rw [hg]; rfl))
  ·intro J
   refine pE (gn (Aq hk (fun hk => ?_) (fun hk => ?_)))
   ·refine A1 (A4 (pA (.bool _) (pE (gn (Aw (gr ?_))))))
    cases hk; exact AT hO
   ·refine Ar (gn (A1 (A1 (A4 (As Bd hO 1 (.lit _ _ _) Dv ?_)))))
    refine Af IJ ?_
    refine pM (.int _ _) (pE (gn (BO ?_)))
    refine AA (F := KJ aA0 aB1) (fun s S' => ∃ (J : Nat → V) (G : A3), A5 H G [.Ad b2 (.cells 4 (Ah l5 0 l6 0 l7 m8 aB1))] ∧ S' = ⟨CM [(3, .ptr b2 0), (32, AN l3 m4 aA0.A7), (33, iv (aA0.A7.length : Int)), (34, iv s)] J, G⟩) hk ⟨_, _, (pk hO [0]), sh⟩ ?_
    rintro x6 _ y1 ⟨J, G, hO, rfl⟩ hk hx1
    refine A1 (A4 (AW (pE (gn (A1 (Aq hk (fun hk => ?_) (fun hk => ?_)))))))
    ·refine Ar (gn (A1 (BO (A1 (A4 (pM (.int _ _) (bk hk fun c7 hc7 hk => ?_)))))))
     refine pX hc7 EJ Av ?_
     refine Br (.agg [_, _, _, _, _]) (G8 (lm := m4) (off := 0) hc7 G0 Av) (CK hO Av FN (fun b8 G hO => ?_))
     refine pA (.int _ _) ?_
     refine Cs (xs := [_, _, _, _, _]) hO 0 Av rfl (fun G hO => pE (gn (A1 (A4 ?_))))
     refine As Bd hO 1 (.lit _ _ _) Dv ?_
     refine pM (.int _ _) (bk hk fun c9 hc9 hk => ?_)
     refine pX hc9 EJ Av ?_
     refine Br (.agg [_, _, _, _, _]) (G8 (lm := m8) (off := 0) hc9 G0 Av) (CK hO Av FN (fun b10 G hO => ?_))
     refine Cs (xs := [_, _, _, _, _]) hO 0 Av rfl (fun G hO => pE (gn (A1 (A4 ?_))))
     refine As B8 hO 1 (.int _ _) BU ?_
     refine As B8 hO 0 (.int _ _) BU ?_
     refine AW ?_
     refine pM (.bool _) ?_
     refine AS (l1 := [_, _, _, _, _, _]) [50, 51, 52, 53, 54, 55] 55 (.bool ((c7.State != c9.State) || (c7.Ab != c9.Ab))) ?_ ?_
     ·refine bc (b := (c7.State != c9.State)) (fun hg => ?_) (fun hg => ?_)
      ·refine AE hg (AE hg (AE hg (AE hg (AE hg (Cr hg (.bool _) ?_)))))
       exact pE (ek (by rw [hg]; rfl))
      ·refine AB hg (pF Bw (AB hg ?_))
       refine CN hO 1 (.int _ _) BU (AB hg ?_)
       refine pF Bw (AB hg ?_)
       refine CN hO 0 (.int _ _) BU (AB hg ?_)
       refine AW ?_
       refine Cq hg (.bool _) ?_
       exact pE (ek (by rw [hg]; rfl))
     ·intro J
      refine pM (.bool _) ?_
      refine AS (l1 := [_, _, _, _, _, _]) [57, 58, 59, 60, 61, 62] 62 (.bool (((c7.State != c9.State) || (c7.Ab != c9.Ab)) || !(c7.Shown == c9.Shown))) ?_ ?_
      ·refine bc (b := ((c7.State != c9.State) || (c7.Ab != c9.Ab))) (fun hg => ?_) (fun hg => ?_)
       ·refine AE hg (AE hg (AE hg (AE hg (AE hg (Cr hg (.bool _) ?_)))))
        exact pE (ek (by rw [hg]; rfl))
       ·refine AB hg (pF Dm (AB hg ?_))
        refine CN hO 1 (.bool _) Fk (AB hg ?_)
        refine pF Dm (AB hg ?_)
        refine CN hO 0 (.bool _) Fk (AB hg ?_)
        refine Zu Tryz.underlying4 ?_
        refine Cq hg (.bool _) ?_
        exact pE (ek (by rw [hg]; rfl))
      ·intro J
       refine pM (.bool _) ?_
       refine AS (l1 := [_, _, _, _, _, _]) [64, 65, 66, 67, 68, 69] 69 (.bool ((((c7.State != c9.State) || (c7.Ab != c9.Ab)) || !(c7.Shown == c9.Shown)) || (c7.Timer != c9.Timer))) ?_ ?_
       ·refine bc (b := (((c7.State != c9.State) || (c7.Ab != c9.Ab)) || !(c7.Shown == c9.Shown))) (fun hg => ?_) (fun hg => ?_)
        ·refine AE hg (AE hg (AE hg (AE hg (AE hg (Cr hg (.bool _) ?_)))))
         exact pE (ek (by rw [hg]; rfl))
        ·refine AB hg (pF E5 (AB hg ?_))
         refine CN hO 1 (.int _ _) BU (AB hg ?_)
         refine pF E5 (AB hg ?_)
         refine CN hO 0 (.int _ _) BU (AB hg ?_)
         refine AW ?_
         refine Cq hg (.bool _) ?_
         exact pE (ek (by rw [hg]; rfl))
       ·intro J
        refine pM (.bool _) (bk hk fun t11 ht hk => ?_)
        refine AS (l1 := [_, _, _, _, _, _, _]) [71, 72, 73, 74, 75, 76, 77] 77 (.bool t11) ?_ ?_
        ·refine bc (b := ((((c7.State != c9.State) || (c7.Ab != c9.Ab)) || !(c7.Shown == c9.Shown)) || (c7.Timer != c9.Timer))) (fun hg => ?_) (fun hg => ?_)
         ·replace hk := ct hg ht
          refine AE hg (AE hg (AE hg (AE hg (AE hg (AE hg (Cr hg (.bool _) ?_))))))
          cases hk; exact pE ek
         ·replace hk := cf hg ht
          refine AB hg (pF C3 (AB hg ?_))
          refine CN hO 1 (.lit _ _ _) C8 (AB hg ?_)
          refine pF C3 (AB hg ?_)
          refine CN hO 0 (.lit _ _ _) C8 (AB hg (bk hk fun v12 hv12 hk => ?_))
          refine AR (fun _ => Rl hv12) (AB hg ?_)
          refine pU ?_
          refine Cq hg (.bool _) ?_
          cases hk; exact pE ek
        ·intro J
         refine pE (gn (Aq hk (fun hk => ?_) (fun hk => ?_)))
         ·refine A1 (A4 (pA (.bool _) (pE (gn (Aw (br (gr (gr (br (gr (have hk := lx hx1 hk; ?_)))))))))))
          cases hk; exact AT hO
         ·refine Ar (bn (gn (A4 (AW ?_))))
          refine pM (.int _ _) (pE (gn ?_))
          cases hk; exact ⟨_, rfl, _, _, (pk hO [2]), sh⟩
    ·refine D3 (ge (ge (be (gn (have hk := lx hx1 hk; A1 (A4 (pA (.bool _) (pE (gn (Aw ?_))))))))))
     cases hk; exact AT hO
end
end Go.Proofs.YtphpkphklegfeaaGreat.K
