/-
 The functions that FnExactBlocked reaches, as typed Lean functions, and that the interpreter computes them. Part 2 of 4. No conditions.
-/
import Derived.Test.YtphpkphklegfeaaGreatDBda
set_option linter.unusedVariables false
set_option linter.unusedSimpArgs false
set_option maxRecDepth 100000
namespace Go.Proofs.YtphpkphklegfeaaGreat.K
noncomputable section
variable {H : A3} {lk : Lk}
def OP (x3 : Int) (c4 : AH) (c6 : AH) : Int → Option (Int ⊕ (Int ⊕ Bool)) := fun s =>
 (bif decide (s < (c4.Ab.length : Int)) then ((AL c4.Ab s).bind fun c9 => ((AL c6.Ab s).bind fun c10 => (bif !(c9 == c10) then (((some false).map Sum.inr).map Sum.inr) else some (.inl (BV (s + (1:Int))))))) else ((some (.inl (BV (x3 + (1:Int))))).map Sum.inr))
def OO (aA0 : AE) (aB1 : AE) : Int → Option (Int ⊕ Bool) := fun s =>
 (bif decide (s < (aA0.A5.length : Int)) then ((AL aA0.A5 s).bind fun c4 => ((AL aB1.A5 s).bind fun c6 => (bif ((((c4.State != c6.State) || (c4.Ac != c6.Ac)) || !(c4.Shown == c6.Shown)) || (c4.Timer != c6.Timer)) then ((some false).map Sum.inr) else (AJ (OP s c4 c6) ((0:Int)))))) else ((some true).map Sum.inr))
def eQ (aA0 : AE) (aB1 : AE) : Option Bool :=
 (AJ (OO aA0 aB1) ((0:Int)))
theorem aA {aA0 : AE} {aB1 : AE} {r : Bool} {l1 l2 l3 m4 l5 l6 l7 m8 : Nat} (hk : eQ aA0 aB1 = some r) (hlk : 0 < lk.length := by simp) : Al Tryz.prog hh 74 [.agg (Ai l1 0 l2 0 l3 m4 aA0), .agg (Ai l5 0 l6 0 l7 m8 aB1)] H lk = some (.bool r, H) := by
 refine AI Tryz.func74 rfl Tryz.ntmps74 Tryz.results74 rfl rfl fun hO => ?_
 unfold eQ at hk
 refine A1 (A4 (Ba (cs := [_, _, _, _]) hO C0 (fun b1 G hO => ?_)))
 refine Ba (cs := [_, _, _, _]) hO C0 (fun b2 G hO => ?_)
 refine pA (.bool _) (pE (gn (A1 (A1 (A4 ?_)))))
 refine Au Bl hO 1 (.lit _ _ _) E6 ?_
 refine Ah Ih ?_
 refine pM (.int _ _) (pE (gn (BQ ?_)))
 refine AD (F := OO aA0 aB1) (fun s S' => ∃ (J : Nat → V) (G : A3), A6 H G [.Ad b2 (.cells 4 (Ai l5 0 l6 0 l7 m8 aB1)), .Ad b1 (.cells 4 (Ai l1 0 l2 0 l3 m4 aA0))] ∧ S' = ⟨CO [(2, .ptr b1 0), (3, .ptr b2 0), (11, iv (aA0.A5.length : Int)), (12, iv s)] J, G⟩) hk ⟨_, _, hO, sh⟩ ?_
 rintro x3 _ y1 ⟨J, G, hO, rfl⟩ hk hx1
 refine A1 (A4 (AX (pE (gn (A1 (Aq hk (fun hk => ?_) (fun hk => ?_)))))))
 ·refine As (gn (A1 (BQ (A1 (A4 (pM (.int _ _) ?_))))))
  refine pA (.int _ _) (pE (gn (A1 (A4 ?_))))
  refine Au Bl hO 1 (.lit _ _ _) E6 ?_
  refine pM (.int _ _) (bk hk fun c4 hc4 hk => ?_)
  refine pX hc4 EN Ay ?_
  refine By (.agg [_, _, _, _, _]) (GG (lm := m4) (off := 0) hc4 G9 Ay) (C7 hO Ay FT (fun b5 G hO => ?_))
  refine Cl (xs := [_, _, _, _, _]) hO 0 Ay rfl (fun G hO => pE (gn (A1 (A4 ?_))))
  refine Au Bl hO 1 (.lit _ _ _) E6 ?_
  refine pM (.int _ _) (bk hk fun c6 hc6 hk => ?_)
  refine pX hc6 EN Ay ?_
  refine By (.agg [_, _, _, _, _]) (GG (lm := m8) (off := 0) hc6 G9 Ay) (C7 hO Ay FT (fun b7 G hO => ?_))
  refine Cl (xs := [_, _, _, _, _]) hO 0 Ay rfl (fun G hO => pE (gn (A1 (A1 (A4 ?_)))))
  refine Au B9 hO 1 (.int _ _) BW ?_
  refine Au B9 hO 0 (.int _ _) BW ?_
  refine AX ?_
  refine pM (.bool _) ?_
  refine AU (l1 := [_, _, _, _, _, _]) [31, 32, 33, 34, 35, 36] 36 (.bool ((c4.State != c6.State) || (c4.Ac != c6.Ac))) ?_ ?_
  ·refine bc (b := (c4.State != c6.State)) (fun hg => ?_) (fun hg => ?_)
   ·refine AG hg (AG hg (AG hg (AG hg (AG hg (Cv hg (.bool _) ?_)))))
    exact pE (ek (by rw [hg]; rfl))
   ·refine AF hg (pF C1 (AF hg ?_))
    refine CP hO 1 (.int _ _) BW (AF hg ?_)
    refine pF C1 (AF hg ?_)
    refine CP hO 0 (.int _ _) BW (AF hg ?_)
    refine AX ?_
    refine Cu hg (.bool _) ?_
    exact pE (ek (by rw [hg]; rfl))
  ·intro J
   refine pM (.bool _) ?_
   refine AU (l1 := [_, _, _, _, _, _]) [38, 39, 40, 41, 42, 43] 43 (.bool (((c4.State != c6.State) || (c4.Ac != c6.Ac)) || !(c4.Shown == c6.Shown))) ?_ ?_
   ·refine bc (b := ((c4.State != c6.State) || (c4.Ac != c6.Ac))) (fun hg => ?_) (fun hg => ?_)
    ·refine AG hg (AG hg (AG hg (AG hg (AG hg (Cv hg (.bool _) ?_)))))
     exact pE (ek (by rw [hg]; rfl))
    ·refine AF hg (pF Dv (AF hg ?_))
     refine CP hO 1 (.bool _) Fv (AF hg ?_)
     refine pF Dv (AF hg ?_)
     refine CP hO 0 (.bool _) Fv (AF hg ?_)
     refine bG Tryz.underlying4 ?_
     refine Cu hg (.bool _) ?_
     exact pE (ek (by rw [hg]; rfl))
   ·intro J
    refine pM (.bool _) ?_
    refine AU (l1 := [_, _, _, _, _, _]) [45, 46, 47, 48, 49, 50] 50 (.bool ((((c4.State != c6.State) || (c4.Ac != c6.Ac)) || !(c4.Shown == c6.Shown)) || (c4.Timer != c6.Timer))) ?_ ?_
    ·refine bc (b := (((c4.State != c6.State) || (c4.Ac != c6.Ac)) || !(c4.Shown == c6.Shown))) (fun hg => ?_) (fun hg => ?_)
     ·refine AG hg (AG hg (AG hg (AG hg (AG hg (Cv hg (.bool _) ?_)))))
      exact pE (ek (by rw [hg]; rfl))
     ·refine AF hg (pF EA (AF hg ?_))
      refine CP hO 1 (.int _ _) BW (AF hg ?_)
      refine pF EA (AF hg ?_)
      refine CP hO 0 (.int _ _) BW (AF hg ?_)
      refine AX ?_
      refine Cu hg (.bool _) ?_
      exact pE (ek (by rw [hg]; rfl))
    ·intro J
     refine pE (gn (Aq hk (fun hk => ?_) (fun hk => ?_)))
     ·refine A1 (A4 (pA (.bool _) (pE (gn (Av (gr (br (gr (gr (br (gr (have hk := lx hx1 hk; ?_))))))))))))
      cases hk; exact AT hO
     ·refine As (gn (A1 (A4 (Au C6 hO 1 (.lit _ _ _) CC ?_))))
      refine Ah Hd ?_
      refine pM (.int _ _) (pE (gn (BQ ?_)))
      refine AD (F := OP x3 c4 c6) (fun s S' => ∃ (J : Nat → V) (G : A3), A6 H G [.Ad b7 (.cells 5 [iv c6.State, iv c6.Ac, AN m8 0 c6.Ab, .bool c6.Shown, iv c6.Timer]), .Ad b5 (.cells 5 [iv c4.State, iv c4.Ac, AN m4 0 c4.Ab, .bool c4.Shown, iv c4.Timer]), .Ad b2 (.cells 4 (Ai l5 0 l6 0 l7 m8 aB1)), .Ad b1 (.cells 4 (Ai l1 0 l2 0 l3 m4 aA0))] ∧ S' = ⟨CO [(2, .ptr b1 0), (3, .ptr b2 0), (6, .ptr b5 0), (7, .ptr b7 0), (11, iv (aA0.A5.length : Int)), (12, iv x3), (53, iv (c4.Ab.length : Int)), (54, iv s)] J, G⟩) hk ⟨_, _, hO, sh⟩ ?_
      rintro x8 _ y2 ⟨J, G, hO, rfl⟩ hk hx2
      refine A1 (A4 (AX (pE (gn (A1 (Aq hk (fun hk => ?_) (fun hk => ?_)))))))
      ·refine As (gn (A1 (BQ (A1 (A4 (pM (.int _ _) ?_))))))
       refine pA (.int _ _) (pE (gn (A1 ?_)))
       refine BG [(0, true), (1, true), (2, true), (3, true), (4, true), (5, true), (6, true), (7, true), (8, true), (9, true), (10, false)] [_, _, _, _, _, _, _, _, _, _, _] (by decide +kernel) (by rfl) ?_
       refine Au C6 hO 1 (.lit _ _ _) CC ?_
       refine pM (.int _ _) (bk hk fun c9 hc9 hk => ?_)
       refine pX hc9 Cn FU ?_
       refine By (.bool _) (D7 (lm := 0) (off := 0) hc9 Fv) ?_
       refine Au C6 hO 0 (.lit _ _ _) CC ?_
       refine pM (.int _ _) (bk hk fun c10 hc10 hk => ?_)
       refine pX hc10 Cn FU ?_
       refine By (.bool _) (D7 (lm := 0) (off := 0) hc10 Fv) ?_
       refine bG Tryz.underlying4 (pE (gn (Aq hk (fun hk => ?_) (fun hk => ?_))))
       ·refine A1 (A4 (pA (.bool _) (pE (gn (Av (br (gr (gr (br (br (gr (gr (br (gr (have hk := lx hx2 hk; have hk := lx hx1 hk; ?_)))))))))))))))
        cases hk; exact AT hO
       ·refine As (bn (gn (A4 (AX ?_))))
        refine pM (.int _ _) (pE (gn ?_))
        cases hk; exact ⟨_, rfl, _, _, hO, sh⟩
      ·refine D6 (ge (ge (be (bn (gn (have hk := lx hx2 hk; A4 (AX ?_)))))))
       refine pM (.int _ _) (pE (gn ?_))
       cases hk; exact ⟨_, rfl, _, _, (pk hO [2, 3]), sh⟩
 ·refine D6 (ge (ge (be (gn (have hk := lx hx1 hk; A1 (A4 (pA (.bool _) (pE (gn (Av ?_))))))))))
  cases hk; exact AT hO
def RD (aP0 : AQ) (aF1 : AE) (x10 : Int) : Int → Option (Int ⊕ (Int ⊕ Bool)) := fun s =>
 (bif decide (s < (aF1.A5.length : Int)) then ((bif (x10 != s) then ((AL aP0.BX x10).bind fun c14 => ((AL c14 s).bind fun c15 => some c15)) else some false).bind fun t13 => ((bif t13 then ((AL aF1.A5 x10).bind fun c17 => some (c17.State != (0:Int))) else some false).bind fun t16 => ((bif t16 then ((AL aF1.A5 s).bind fun c19 => some (c19.State != (0:Int))) else some false).bind fun t18 => (bif t18 then (((some false).map Sum.inr).map Sum.inr) else some (.inl (BV (s + (1:Int)))))))) else ((some (.inl (BV (x10 + (1:Int))))).map Sum.inr))
def KE (aP0 : AQ) (aF1 : AE) : Int → Option (Int ⊕ Bool) := fun s =>
 (bif decide (s < (aF1.A5.length : Int)) then ((gW aP0 aF1 s).bind fun v11 => (bif !v11 then ((some false).map Sum.inr) else (AJ (RD aP0 aF1 s) ((0:Int))))) else (((eM aF1).bind fun v20 => ((cM aP0 v20).bind fun z33 => ((eQ aF1 z33).bind fun v35 => some v35))).map Sum.inr))
def Nx (aP0 : AQ) (aF1 : AE) : Int → Option (Int ⊕ Bool) := fun s =>
 (bif decide (s < (aF1.A8.length : Int)) then ((AL aF1.A8 s).bind fun c5 => ((U1 c5.Want (1:Int) (2:Int)).bind fun v7 => ((bif !v7 then some true else ((U1 c5.AO (0:Int) (2:Int)).bind fun v9 => some (!v9))).bind fun t8 => (bif t8 then ((some false).map Sum.inr) else some (.inl (BV (s + (1:Int)))))))) else ((AJ (KE aP0 aF1) ((0:Int))).map Sum.inr))
def iY (aP0 : AQ) (aF1 : AE) : Option Bool :=
 ((jM aP0).bind fun v3 => (bif ((((!v3 || !aF1.Ok) || ((aF1.C9.length : Int) != aP0.A0)) || ((aF1.A8.length : Int) != (aP0.A7.length : Int))) || ((aF1.A5.length : Int) != (aP0.A5.length : Int))) then some false else (AJ (Nx aP0 aF1) ((0:Int)))))
theorem Zg {aP0 : AQ} {aF1 : AE} {r : Bool} {l1 l2 m3 l4 m5 l6 l7 l8 m9 : Nat} (hk : iY aP0 aF1 = some r) (hlk : 0 < lk.length := by simp) (hlo : Di lk H.length := by simp [Di]) : Al Tryz.prog hh 36 [.agg (Aj l1 0 l2 m3 l4 m5 aP0), .agg (Ai l6 0 l7 0 l8 m9 aF1)] H lk = some (.bool r, H) := by
 refine AI Tryz.func36 rfl Tryz.ntmps36 Tryz.results36 rfl rfl fun hO => ?_
 unfold iY at hk
 refine A1 (A4 (Ba (cs := [_, _, _, _, _]) hO CH (fun b1 G hO => ?_)))
 refine Ba (cs := [_, _, _, _]) hO C0 (fun b2 G hO => ?_)
 refine pA (.bool _) (pE (gn (A1 (A1 (A4 ?_)))))
 refine Dw hO 1 [_, _, _, _, _] FG CH (bk hk fun v3 hv3 hk => ?_)
 refine AR (fun _ => a8 hv3) ?_
 refine pU ?_
 refine pM (.bool _) ?_
 refine AU (l1 := [_, _, _, _]) [14, 15, 16, 17] 17 (.bool (!v3 || !aF1.Ok)) ?_ ?_
 ·refine bc (b := !v3) (fun hg => ?_) (fun hg => ?_)
  ·refine AG hg (AG hg (AG hg (Cv hg (.bool _) ?_)))
   exact pE (ek (by rw [hg]; rfl))
  ·refine AF hg (pF MW (AF hg ?_))
   refine CP hO 0 (.bool _) Fv (AF hg ?_)
   refine pU ?_
   refine Cu hg (.bool _) ?_
   exact pE (ek (by rw [hg]; rfl))
 ·intro J
  refine pM (.bool _) ?_
  refine AU (l1 := [_, _, _, _, _, _, _]) [19, 20, 21, 22, 23, 24, 25] 25 (.bool ((!v3 || !aF1.Ok) || ((aF1.C9.length : Int) != aP0.A0))) ?_ ?_
  ·refine bc (b := (!v3 || !aF1.Ok)) (fun hg => ?_) (fun hg => ?_)
   ·refine AG hg (AG hg (AG hg (AG hg (AG hg (AG hg (Cv hg (.bool _) ?_))))))
    exact pE (ek (by rw [hg]; rfl))
   ·refine AF hg (pF Co (AF hg ?_))
    refine CP hO 0 (.lit _ _ _) CC (AF hg ?_)
    refine Ah Hd (AF hg ?_)
    refine pF EO (AF hg ?_)
    refine CP hO 1 (.int _ _) BW (AF hg ?_)
    refine AX ?_
    refine Cu hg (.bool _) ?_
    exact pE (ek (by rw [hg]; rfl))
  ·intro J
   refine pM (.bool _) ?_
   refine AU (l1 := [_, _, _, _, _, _, _, _]) [27, 28, 29, 30, 31, 32, 33, 34] 34 (.bool (((!v3 || !aF1.Ok) || ((aF1.C9.length : Int) != aP0.A0)) || ((aF1.A8.length : Int) != (aP0.A7.length : Int)))) ?_ ?_
   ·refine bc (b := ((!v3 || !aF1.Ok) || ((aF1.C9.length : Int) != aP0.A0))) (fun hg => ?_) (fun hg => ?_)
    ·refine AG hg (AG hg (AG hg (AG hg (AG hg (AG hg (AG hg (Cv hg (.bool _) ?_)))))))
     exact pE (ek (by rw [hg]; rfl))
    ·refine AF hg (pF Dh (AF hg ?_))
     refine CP hO 0 (.lit _ _ _) JX (AF hg ?_)
     refine Ah Pa (AF hg ?_)
     refine pF Dg (AF hg ?_)
     refine CP hO 1 (.lit _ _ _) BC (AF hg ?_)
     refine Ah DE (AF hg ?_)
     refine AX ?_
     refine Cu hg (.bool _) ?_
     exact pE (ek (by rw [hg]; rfl))
   ·intro J
    refine pM (.bool _) ?_
    refine AU (l1 := [_, _, _, _, _, _, _, _]) [36, 37, 38, 39, 40, 41, 42, 43] 43 (.bool ((((!v3 || !aF1.Ok) || ((aF1.C9.length : Int) != aP0.A0)) || ((aF1.A8.length : Int) != (aP0.A7.length : Int))) || ((aF1.A5.length : Int) != (aP0.A5.length : Int)))) ?_ ?_
    ·refine bc (b := (((!v3 || !aF1.Ok) || ((aF1.C9.length : Int) != aP0.A0)) || ((aF1.A8.length : Int) != (aP0.A7.length : Int)))) (fun hg => ?_) (fun hg => ?_)
     ·refine AG hg (AG hg (AG hg (AG hg (AG hg (AG hg (AG hg (Cv hg (.bool _) ?_)))))))
      exact pE (ek (by rw [hg]; rfl))
     ·refine AF hg (pF Bl (AF hg ?_))
      refine CP hO 0 (.lit _ _ _) E6 (AF hg ?_)
      refine Ah Ih (AF hg ?_)
      refine pF Bk (AF hg ?_)
      refine CP hO 1 (.lit _ _ _) Du (AF hg ?_)
      refine Ah I2 (AF hg ?_)
      refine AX ?_
      refine Cu hg (.bool _) ?_
      exact pE (ek (by rw [hg]; rfl))
    ·intro J
     refine pE (gn (Aq hk (fun hk => ?_) (fun hk => ?_)))
     ·refine A1 (A4 (pA (.bool _) (pE (gn (Av (gr ?_))))))
      cases hk; exact AT hO
     ·refine As (gn (A1 (A1 (A4 (Au Dh hO 0 (.lit _ _ _) JX ?_)))))
      refine Ah Pa ?_
      refine pM (.int _ _) (pE (gn (BQ ?_)))
      refine AD (F := Nx aP0 aF1) (fun s S' => ∃ (J : Nat → V) (G : A3), A6 H G [.Ad b2 (.cells 4 (Ai l6 0 l7 0 l8 m9 aF1)), .Ad b1 (.cells 5 (Aj l1 0 l2 m3 l4 m5 aP0))] ∧ S' = ⟨CO [(2, .ptr b1 0), (3, .ptr b2 0), (45, AN l7 0 aF1.A8), (46, iv (aF1.A8.length : Int)), (47, iv s)] J, G⟩) hk ⟨_, _, hO, sh⟩ ?_
      rintro x4 _ y1 ⟨J, G, hO, rfl⟩ hk hx1
      refine A1 (A4 (AX (pE (gn (A1 (Aq hk (fun hk => ?_) (fun hk => ?_)))))))
      ·refine As (gn (A1 (BQ (A1 (A4 (bk hk fun c5 hc5 hk => pX hc5 Iv EE ?_))))))
       refine By (.agg [_, _]) (GG (lm := 0) (off := 0) hc5 SD EE) (C7 hO EE TN (fun b6 G hO => ?_))
       refine Cl (xs := [_, _]) hO 0 EE rfl (fun G hO => pE (gn (A1 (A4 ?_))))
       refine Au Ig hO 0 (.int _ _) BW (bk hk fun v7 hv7 hk => ?_)
       refine AR (fun _ => Ei hv7) ?_
       refine pU ?_
       refine pM (.bool _) (bk hk fun t8 ht hk => ?_)
       refine AU (l1 := [_, _, _, _, _]) [56, 57, 58, 59, 60] 60 (.bool t8) ?_ ?_
       ·refine bc (b := !v7) (fun hg => ?_) (fun hg => ?_)
        ·replace hk := ct hg ht
         refine AG hg (AG hg (AG hg (AG hg (Cv hg (.bool _) ?_))))
         cases hk; exact pE ek
        ·replace hk := cf hg ht
         refine AF hg (pF KZ (AF hg ?_))
         refine CP hO 0 (.int _ _) BW (AF hg (bk hk fun v9 hv9 hk => ?_))
         refine AR (fun _ => Ei hv9) (AF hg ?_)
         refine pU ?_
         refine Cu hg (.bool _) ?_
         cases hk; exact pE ek
       ·intro J
        refine pE (gn (Aq hk (fun hk => ?_) (fun hk => ?_)))
        ·refine A1 (A4 (pA (.bool _) (pE (gn (Av (br (gr (gr (br (gr (have hk := lx hx1 hk; ?_)))))))))))
         cases hk; exact AT hO
        ·refine As (bn (gn (A4 (AX ?_))))
         refine pM (.int _ _) (pE (gn ?_))
         cases hk; exact ⟨_, rfl, _, _, (pk hO [1, 2]), sh⟩
      ·refine D6 (ge (ge (be (gn (have hk := lx hx1 hk; A1 (A1 (A4 (Au Bl hO 0 (.lit _ _ _) E6 ?_))))))))
       refine Ah Ih ?_
       refine pM (.int _ _) (pE (gn (BQ ?_)))
       refine AD (F := KE aP0 aF1) (fun s S' => ∃ (J : Nat → V) (G : A3), A6 H G [.Ad b2 (.cells 4 (Ai l6 0 l7 0 l8 m9 aF1)), .Ad b1 (.cells 5 (Aj l1 0 l2 m3 l4 m5 aP0))] ∧ S' = ⟨CO [(2, .ptr b1 0), (3, .ptr b2 0), (64, iv (aF1.A5.length : Int)), (65, iv s)] J, G⟩) hk ⟨_, _, hO, sh⟩ ?_
       rintro x10 _ y1 ⟨J, G, hO, rfl⟩ hk hx1
       refine A1 (A4 (AX (pE (gn (A1 (Aq hk (fun hk => ?_) (fun hk => ?_)))))))
       ·refine As (gn (A1 (BQ (A1 (A4 (pM (.int _ _) ?_))))))
        refine pA (.int _ _) (pE (gn (A1 (A1 (A4 ?_)))))
        refine Dw hO 1 [_, _, _, _, _] FG CH ?_
        refine Dw hO 0 [_, _, _, _] Ew C0 ?_
        refine pM (.int _ _) (bk hk fun v11 hv11 hk => ?_)
        refine AR (fun _ => a9 hv11) ?_
        refine pU (pE (gn (Aq hk (fun hk => ?_) (fun hk => ?_))))
        ·refine A1 (A4 (pA (.bool _) (pE (gn (Av (gr (br (gr (gr (br (gr (have hk := lx hx1 hk; ?_))))))))))))
         cases hk; exact AT hO
        ·refine As (gn (A1 (A4 (Au Bl hO 0 (.lit _ _ _) E6 ?_))))
         refine Ah Ih ?_
         refine pM (.int _ _) (pE (gn (BQ ?_)))
         refine AD (F := RD aP0 aF1 x10) (fun s S' => ∃ (J : Nat → V) (G : A3), A6 H G [.Ad b2 (.cells 4 (Ai l6 0 l7 0 l8 m9 aF1)), .Ad b1 (.cells 5 (Aj l1 0 l2 m3 l4 m5 aP0))] ∧ S' = ⟨CO [(2, .ptr b1 0), (3, .ptr b2 0), (7, iv x10), (64, iv (aF1.A5.length : Int)), (65, iv x10), (75, iv (aF1.A5.length : Int)), (76, iv s)] J, G⟩) hk ⟨_, _, hO, sh⟩ ?_
         rintro x12 _ y2 ⟨J, G, hO, rfl⟩ hk hx2
         refine A1 (A4 (AX (pE (gn (A1 (Aq hk (fun hk => ?_) (fun hk => ?_)))))))
         ·refine As (gn (A1 (BQ (A1 (A4 (pM (.int _ _) ?_))))))
          refine pA (.int _ _) (pE (gn (A1 (A4 ?_))))
          refine pM (.int _ _) ?_
          refine pM (.int _ _) ?_
          refine AX ?_
          refine pM (.bool _) (bk hk fun t13 ht hk => ?_)
          refine AU (l1 := [_, _, _, _, _, _, _, _, _]) [83, 84, 85, 86, 87, 88, 89, 90, 91] 91 (.bool t13) ?_ ?_
          ·refine bc (b := (x10 != x12)) (fun hg => ?_) (fun hg => ?_)
           ·replace hk := ct hg ht
            refine AF hg (pF EP (AF hg ?_))
            refine CP hO 1 (.lit _ _ _) It (AF hg ?_)
            refine pM (.int _ _) (AF hg (bk hk fun c14 hc14 hk => ?_))
            refine pX hc14 Iu GI (AF hg ?_)
            refine By (.lit _ _ _) (D7 (lm := m5) (off := 0) hc14 CC) (AF hg ?_)
            refine pM (.int _ _) (AF hg (bk hk fun c15 hc15 hk => ?_))
            refine pX hc15 Cn FU (AF hg ?_)
            refine By (.bool _) (D7 (lm := 0) (off := 0) hc15 Fv) ?_
            refine Cv hg (.bool _) ?_
            cases hk; exact pE ek
           ·replace hk := cf hg ht
            refine AG hg (AG hg (AG hg (AG hg (AG hg (AG hg (AG hg (AG hg (Cu hg (.bool _) ?_))))))))
            cases hk; exact pE ek
          ·intro J
           refine pM (.bool _) (bk hk fun t16 ht hk => ?_)
           refine AU (l1 := [_, _, _, _, _, _, _, _]) [93, 94, 95, 96, 97, 98, 99, 100] 100 (.bool t16) ?_ ?_
           ·refine bc (b := t13) (fun hg => ?_) (fun hg => ?_)
            ·replace hk := ct hg ht
             refine AF hg (pF Bl (AF hg ?_))
             refine CP hO 0 (.lit _ _ _) E6 (AF hg ?_)
             refine pM (.int _ _) (AF hg (bk hk fun c17 hc17 hk => ?_))
             refine pX hc17 EN Ay (AF hg ?_)
             refine pF B9 (AF hg ?_)
             refine By (.int _ _) (D7 (lm := m9) (off := 0) hc17 BW) (AF hg ?_)
             refine AX ?_
             refine Cv hg (.bool _) ?_
             cases hk; exact pE ek
            ·replace hk := cf hg ht
             refine AG hg (AG hg (AG hg (AG hg (AG hg (AG hg (AG hg (Cu hg (.bool _) ?_)))))))
             cases hk; exact pE ek
           ·intro J
            refine pM (.bool _) (bk hk fun t18 ht hk => ?_)
            refine AU (l1 := [_, _, _, _, _, _, _, _]) [102, 103, 104, 105, 106, 107, 108, 109] 109 (.bool t18) ?_ ?_
            ·refine bc (b := t16) (fun hg => ?_) (fun hg => ?_)
             ·replace hk := ct hg ht
              refine AF hg (pF Bl (AF hg ?_))
              refine CP hO 0 (.lit _ _ _) E6 (AF hg ?_)
              refine pM (.int _ _) (AF hg (bk hk fun c19 hc19 hk => ?_))
              refine pX hc19 EN Ay (AF hg ?_)
              refine pF B9 (AF hg ?_)
              refine By (.int _ _) (D7 (lm := m9) (off := 0) hc19 BW) (AF hg ?_)
              refine AX ?_
              refine Cv hg (.bool _) ?_
              cases hk; exact pE ek
             ·replace hk := cf hg ht
              refine AG hg (AG hg (AG hg (AG hg (AG hg (AG hg (AG hg (Cu hg (.bool _) ?_)))))))
              cases hk; exact pE ek
            ·intro J
             refine pE (gn (Aq hk (fun hk => ?_) (fun hk => ?_)))
             ·refine A1 (A4 (pA (.bool _) (pE (gn (Av (br (gr (gr (br (br (gr (gr (br (gr (have hk := lx hx2 hk; have hk := lx hx1 hk; ?_)))))))))))))))
              cases hk; exact AT hO
             ·refine As (bn (gn (A4 (AX ?_))))
              refine pM (.int _ _) (pE (gn ?_))
              cases hk; exact ⟨_, rfl, _, _, hO, sh⟩
         ·refine D6 (ge (ge (be (bn (gn (have hk := lx hx2 hk; A4 (AX ?_)))))))
          refine pM (.int _ _) (pE (gn ?_))
          cases hk; exact ⟨_, rfl, _, _, hO, sh⟩
       ·refine D6 (ge (ge (be (gn (have hk := lx hx1 hk; A1 (A4 (Dw hO 0 [_, _, _, _] Ew C0 (bk hk fun v20 hv20 hk => ?_))))))))
        refine ML hO (fun _ => Zw hv20) (fun u21 F21 G hO => ?_)
        replace hO : A6 H G (AY [] _ ((v20.Ok, v20.C9, v20.A8, v20.A5) : Bool × (List Bool) × (List Am) × (List AH)) _ :: [.Ad b2 (.cells 4 (Ai l6 0 l7 0 l8 m9 aF1)), .Ad b1 (.cells 5 (Aj l1 0 l2 m3 l4 m5 aP0))]) := hO
        obtain ⟨cs22, Fb22, he, hP⟩ := A6.Yi hO
        clear hO; subst he; have hO := hP; clear hP
        obtain ⟨u23, cs23, F23, Fb23, he, hP⟩ := A6.S8 hO
        clear hO; subst he; have hO := hP; clear hP
        obtain ⟨u25, cs25, F25, Fb25, he, hP⟩ := A6.S8 hO
        clear hO; subst he; have hO := hP; clear hP
        obtain ⟨u27, rfl⟩ := A6.cQ hO
        refine C7 hO C0 SC (fun b29 G hO => ?_)
        have hc30 := B7 hO (j := 3) rfl
        have hc31 := B7 hO (j := 2) rfl
        have hc32 := B7 hO (j := 1) rfl
        refine Cl (xs := [_, _, _, _]) hO 0 C0 rfl (fun G hO => ?_) (h6 := (Bq rfl (Bq hc30.2 (Bq hc31.2 (Bq hc32.2 Ik)))))
        refine pE (gn (A1 (A4 (Dw hO 5 [_, _, _, _, _] FG CH ?_))))
        replace hO := (A6.pick hO [0, 3, 2, 1, 4, 5] (by decide) rfl : A6 H G ([.Ad b29 (.cells 4 [.bool v20.Ok, u23, u25, u27]), AY [] F23 v20.C9 [u23], AY [] F25 v20.A8 [u25], AY [] Fb25 v20.A5 [u27]] ++ [.Ad b2 (.cells 4 (Ai l6 0 l7 0 l8 m9 aF1)), .Ad b1 (.cells 5 (Aj l1 0 l2 m3 l4 m5 aP0))]))
        refine bk hk fun z33 hz33 hk => kG (rs0 := [.Ad b29 (.cells 4 [.bool v20.Ok, u23, u25, u27]), AY [] F23 v20.C9 [u23], AY [] F25 v20.A8 [u25], AY [] Fb25 v20.A5 [u27]]) (rs1 := fun (Fs34 : List Nat × List Nat × List Nat) => [.Ad b29 (.cells 4 [.bool z33.Ok, u23, u25, u27]), AY [] Fs34.1 z33.C9 [u23], AY [] Fs34.2.1 z33.A8 [u25], AY [] Fs34.2.2 z33.A5 [u27]]) (rest := [.Ad b2 (.cells 4 (Ai l6 0 l7 0 l8 m9 aF1)), .Ad b1 (.cells 5 (Aj l1 0 l2 m3 l4 m5 aP0))]) (S := (b29 :: (F23 ++ (F25 ++ (Fb25 ++ []))))) hO hlo rfl (Rq rfl) (NT rfl) (A6.lo hO) (fun _ hl1 hlt1 hun1 ho1 => Zy hz33 ho1 hun1 hlt1 hl1) (fun _ => (SF rfl (SF rfl (SF rfl (SF rfl gZ))))) (fun Fs34 G hO => pE (gn (A1 (A4 ?_))))
        refine Dw hO 4 [_, _, _, _] Ew C0 ?_
        refine Dw hO 0 [_, _, _, _] Ew C0 (bk hk fun v35 hv35 hk => ?_)
        obtain ⟨_, hm36⟩ := Sx hO (j := 3) rfl (lk.length + 1) 7
        obtain ⟨_, hm37⟩ := JG hO (j := 2) rfl (lk.length + 1) 7
        obtain ⟨_, hm38⟩ := JG hO (j := 1) rfl (lk.length + 1) 7
        refine AR (vs := [(.agg [_, _, _, _]), (.agg [_, _, _, _])]) (caps := []) (fun _ => aA hv35) ?_ (h3 := (BK rfl (BK (Rh (DW rfl (DW hm38 (DW hm37 (DW hm36 Rk))))) EJ)))
        refine pA (.bool _) (pE (gn (Av ?_)))
        cases hk; exact AT hO
def Ki (aF1 : AE) (aI2 : Int) (aSection3 : Int) (c4 : Bu) : Int → Option (Int ⊕ Bool) := fun s =>
 (bif decide (s < (c4.A0.length : Int)) then ((AL c4.A0 s).bind fun c6 => ((bif (c6 == aSection3) then ((AL aF1.A5 aI2).bind fun c8 => some (decide (s ≥ c8.Ac))) else some false).bind fun t7 => (bif t7 then ((some true).map Sum.inr) else some (.inl (BV (s + (1:Int))))))) else ((some false).map Sum.inr))
def XK (aP0 : AQ) (aF1 : AE) (aI2 : Int) (aSection3 : Int) : Option Bool :=
 ((AL aF1.A5 aI2).bind fun c3 => (bif (c3.State == (0:Int)) then some false else ((AL aP0.A5 aI2).bind fun c4 => (AJ (Ki aF1 aI2 aSection3 c4) ((0:Int))))))
theorem XL {aP0 : AQ} {aF1 : AE} {aI2 : Int} {aSection3 : Int} {r : Bool} {l1 l2 m3 l4 m5 l6 l7 l8 m9 : Nat} (hk : XK aP0 aF1 aI2 aSection3 = some r) (hlk : 0 < lk.length := by simp) : Al Tryz.prog hh 105 [.agg (Aj l1 0 l2 m3 l4 m5 aP0), .agg (Ai l6 0 l7 0 l8 m9 aF1), iv aI2, iv aSection3] H lk = some (.bool r, H) := by
 refine AI Tryz.func105 rfl Tryz.ntmps105 Tryz.results105 rfl rfl fun hO => ?_
 unfold XK at hk
 refine A1 (A4 (Ba (cs := [_, _, _, _, _]) hO CH (fun b1 G hO => ?_)))
 refine Ba (cs := [_, _, _, _]) hO C0 (fun b2 G hO => ?_)
 refine pA (.bool _) (pE (gn (A1 (A1 (A4 ?_)))))
 refine Au Bl hO 0 (.lit _ _ _) E6 ?_
 refine pM (.int _ _) (bk hk fun c3 hc3 hk => ?_)
 refine pX hc3 EN Ay ?_
 refine pF B9 ?_
 refine By (.int _ _) (D7 (lm := m9) (off := 0) hc3 BW) ?_
 refine AX (pE (gn (Aq hk (fun hk => ?_) (fun hk => ?_))))
 ·refine A1 (A4 (pA (.bool _) (pE (gn (Av (gr ?_))))))
  cases hk; exact AT hO
 ·refine As (gn (A1 (A1 (A4 (Au Bk hO 1 (.lit _ _ _) Du ?_)))))
  refine pM (.int _ _) (bk hk fun c4 hc4 hk => ?_)
  refine pX hc4 Ex B1 ?_
  refine pF BL ?_
  refine By (.lit _ _ _) (D7 (lm := m3) (off := 0) hc4 BC) ?_
  refine Ah DE ?_
  refine pM (.int _ _) (pE (gn (BQ ?_)))
  refine AD (F := Ki aF1 aI2 aSection3 c4) (fun s S' => ∃ (J : Nat → V) (G : A3), A6 H G [.Ad b2 (.cells 4 (Ai l6 0 l7 0 l8 m9 aF1))] ∧ S' = ⟨CO [(2, iv aI2), (3, iv aSection3), (5, .ptr b2 0), (23, AN m3 0 c4.A0), (24, iv (c4.A0.length : Int)), (25, iv s)] J, G⟩) hk ⟨_, _, (pk hO [0]), sh⟩ ?_
  rintro x5 _ y1 ⟨J, G, hO, rfl⟩ hk hx1
  refine A1 (A4 (AX (pE (gn (A1 (Aq hk (fun hk => ?_) (fun hk => ?_)))))))
  ·refine As (gn (A1 (BQ (A1 (A4 (pM (.int _ _) (bk hk fun c6 hc6 hk => ?_)))))))
   refine pX hc6 C8 DS ?_
   refine By (.int _ _) (D7 (lm := 0) (off := 0) hc6 BW) ?_
   refine pA (.int _ _) ?_
   refine pA (.int _ _) (pE (gn (A1 (A4 ?_))))
   refine pM (.int _ _) ?_
   refine pM (.int _ _) ?_
   refine AX ?_
   refine pM (.bool _) (bk hk fun t7 ht hk => ?_)
   refine AU (l1 := [_, _, _, _, _, _, _, _, _]) [34, 35, 36, 37, 38, 39, 40, 41, 42] 42 (.bool t7) ?_ ?_
   ·refine bc (b := (c6 == aSection3)) (fun hg => ?_) (fun hg => ?_)
    ·replace hk := ct hg ht
     refine AF hg (pM (.int _ _) (AF hg ?_))
     refine pF Bl (AF hg ?_)
     refine CP hO 0 (.lit _ _ _) E6 (AF hg ?_)
     refine pM (.int _ _) (AF hg (bk hk fun c8 hc8 hk => ?_))
     refine pX hc8 EN Ay (AF hg ?_)
     refine pF C1 (AF hg ?_)
     refine By (.int _ _) (D7 (lm := m9) (off := 1) hc8 BW) (AF hg ?_)
     refine AX ?_
     refine Cv hg (.bool _) ?_
     cases hk; exact pE ek
    ·replace hk := cf hg ht
     refine AG hg (AG hg (AG hg (AG hg (AG hg (AG hg (AG hg (AG hg (Cu hg (.bool _) ?_))))))))
     cases hk; exact pE ek
   ·intro J
    refine pE (gn (Aq hk (fun hk => ?_) (fun hk => ?_)))
    ·refine A1 (A4 (pA (.bool _) (pE (gn (Av (br (gr (gr (br (gr (have hk := lx hx1 hk; ?_)))))))))))
     cases hk; exact AT hO
    ·refine As (bn (gn (A4 (AX ?_))))
     refine pM (.int _ _) (pE (gn ?_))
     cases hk; exact ⟨_, rfl, _, _, hO, sh⟩
  ·refine D6 (ge (ge (be (gn (have hk := lx hx1 hk; A1 (A4 (pA (.bool _) (pE (gn (Av ?_))))))))))
   cases hk; exact AT hO
def KH (aP0 : AQ) (aF1 : AE) (aI2 : Int) (aPoint3 : Int) (c8 : Bu) : Int → Option (Int ⊕ Int) := fun s =>
 (bif decide (s < (c8.AO.length : Int)) then ((AL c8.AO s).bind fun c10 => ((bif (c10.Switch == aPoint3) then ((AL aP0.A7 aPoint3).bind fun c13 => ((XK aP0 aF1 aI2 c13).bind fun v14 => some v14)) else some false).bind fun t12 => (bif t12 then ((some c10.EZ).map Sum.inr) else some (.inl (BV (s + (1:Int))))))) else ((some (0:Int)).map Sum.inr))
def Lw (aP0 : AQ) (aF1 : AE) (aI2 : Int) (aPoint3 : Int) (c4 : Bu) : Int → Option (Int ⊕ Int) := fun s =>
 (bif decide (s < (c4.AB.length : Int)) then ((AL c4.AB s).bind fun c6 => (bif (c6.Switch == aPoint3) then ((some c6.EZ).map Sum.inr) else some (.inl (BV (s + (1:Int)))))) else (((AL aP0.A5 aI2).bind fun c8 => (AJ (KH aP0 aF1 aI2 aPoint3 c8) ((0:Int)))).map Sum.inr))
def jN (aP0 : AQ) (aF1 : AE) (aI2 : Int) (aPoint3 : Int) : Option Int :=
 ((AL aF1.A5 aI2).bind fun c3 => (bif (c3.State == (0:Int)) then some (0:Int) else ((AL aP0.A5 aI2).bind fun c4 => (AJ (Lw aP0 aF1 aI2 aPoint3 c4) ((0:Int))))))
theorem aB {aP0 : AQ} {aF1 : AE} {aI2 : Int} {aPoint3 : Int} {r : Int} {l1 l2 m3 l4 m5 l6 l7 l8 m9 : Nat} (hk : jN aP0 aF1 aI2 aPoint3 = some r) (hlk : 0 < lk.length := by simp) : Al Tryz.prog hh 75 [.agg (Aj l1 0 l2 m3 l4 m5 aP0), .agg (Ai l6 0 l7 0 l8 m9 aF1), iv aI2, iv aPoint3] H lk = some (iv r, H) := by
 refine AI Tryz.func75 rfl Tryz.ntmps75 Tryz.results75 rfl rfl fun hO => ?_
 unfold jN at hk
 refine A1 (A4 (Ba (cs := [_, _, _, _, _]) hO CH (fun b1 G hO => ?_)))
 refine Ba (cs := [_, _, _, _]) hO C0 (fun b2 G hO => ?_)
 refine pA (.int _ _) (pE (gn (A1 (A1 (A4 ?_)))))
 refine Au Bl hO 0 (.lit _ _ _) E6 ?_
 refine pM (.int _ _) (bk hk fun c3 hc3 hk => ?_)
 refine pX hc3 EN Ay ?_
 refine pF B9 ?_
 refine By (.int _ _) (D7 (lm := m9) (off := 0) hc3 BW) ?_
 refine AX (pE (gn (Aq hk (fun hk => ?_) (fun hk => ?_))))
 ·refine A1 (A4 (pA (.int _ _) (pE (gn (Av (gr ?_))))))
  cases hk; exact AT hO
 ·refine As (gn (A1 (A1 (A4 (Au Bk hO 1 (.lit _ _ _) Du ?_)))))
  refine pM (.int _ _) (bk hk fun c4 hc4 hk => ?_)
  refine pX hc4 Ex B1 ?_
  refine pF EX ?_
  refine By (.lit _ _ _) (D7 (lm := m3) (off := 2) hc4 Df) ?_
  refine Ah FC ?_
  refine pM (.int _ _) (pE (gn (BQ ?_)))
  refine AD (F := Lw aP0 aF1 aI2 aPoint3 c4) (fun s S' => ∃ (J : Nat → V) (G : A3), A6 H G [.Ad b2 (.cells 4 (Ai l6 0 l7 0 l8 m9 aF1)), .Ad b1 (.cells 5 (Aj l1 0 l2 m3 l4 m5 aP0))] ∧ S' = ⟨CO [(2, iv aI2), (3, iv aPoint3), (4, .ptr b1 0), (5, .ptr b2 0), (25, AN m3 0 c4.AB), (26, iv (c4.AB.length : Int)), (27, iv s)] J, G⟩) hk ⟨_, _, hO, sh⟩ ?_
  rintro x5 _ y1 ⟨J, G, hO, rfl⟩ hk hx1
  refine A1 (A4 (AX (pE (gn (A1 (Aq hk (fun hk => ?_) (fun hk => ?_)))))))
  ·refine As (gn (A1 (BQ (A1 (A4 (bk hk fun c6 hc6 hk => pX hc6 Dl BD ?_))))))
   refine By (.agg [_, _]) (GG (lm := 0) (off := 0) hc6 GA BD) (C7 hO BD FZ (fun b7 G hO => ?_))
   refine Cl (xs := [_, _]) hO 0 BD rfl (fun G hO => pE (gn (A1 (A4 ?_))))
   refine Au CR hO 0 (.int _ _) BW ?_
   refine pM (.int _ _) ?_
   refine AX (pE (gn (Aq hk (fun hk => ?_) (fun hk => ?_))))
   ·refine A1 (A4 (Au EC hO 0 (.int _ _) BW ?_))
    refine pA (.int _ _) (pE (gn (Av (br (gr (gr (br (gr (have hk := lx hx1 hk; ?_)))))))))
    cases hk; exact AT hO
   ·refine As (bn (gn (A4 (AX ?_))))
    refine pM (.int _ _) (pE (gn ?_))
    cases hk; exact ⟨_, rfl, _, _, (pk hO [1, 2]), sh⟩
  ·refine D6 (ge (ge (be (gn (have hk := lx hx1 hk; A1 (A1 (A4 (Au Bk hO 1 (.lit _ _ _) Du ?_))))))))
   refine pM (.int _ _) (bk hk fun c8 hc8 hk => ?_)
   refine pX hc8 Ex B1 ?_
   refine pF EB ?_
   refine By (.lit _ _ _) (D7 (lm := m3) (off := 1) hc8 Df) ?_
   refine Ah FC ?_
   refine pM (.int _ _) (pE (gn (BQ ?_)))
   refine AD (F := KH aP0 aF1 aI2 aPoint3 c8) (fun s S' => ∃ (J : Nat → V) (G : A3), A6 H G [.Ad b2 (.cells 4 (Ai l6 0 l7 0 l8 m9 aF1)), .Ad b1 (.cells 5 (Aj l1 0 l2 m3 l4 m5 aP0))] ∧ S' = ⟨CO [(2, iv aI2), (3, iv aPoint3), (4, .ptr b1 0), (5, .ptr b2 0), (43, AN m3 0 c8.AO), (44, iv (c8.AO.length : Int)), (45, iv s)] J, G⟩) hk ⟨_, _, hO, sh⟩ ?_
   rintro x9 _ y1 ⟨J, G, hO, rfl⟩ hk hx1
   refine A1 (A4 (AX (pE (gn (A1 (Aq hk (fun hk => ?_) (fun hk => ?_)))))))
   ·refine As (gn (A1 (BQ (A1 (A4 (bk hk fun c10 hc10 hk => pX hc10 Dl BD ?_))))))
    refine By (.agg [_, _]) (GG (lm := 0) (off := 0) hc10 GA BD) (C7 hO BD FZ (fun b11 G hO => ?_))
    refine Cl (xs := [_, _]) hO 0 BD rfl (fun G hO => pE (gn (A1 ?_)))
    refine BG [(0, false), (1, true), (2, true), (3, false), (4, false), (5, true), (6, true), (7, true), (8, true), (9, true), (10, true), (11, true), (12, true), (13, false), (14, false)] [_, _, _, _, _, _, _, _, _, _, _, _, _, _, _] (by decide +kernel) (by rfl) ?_
    refine Au CR hO 0 (.int _ _) BW ?_
    refine pM (.int _ _) ?_
    refine AX ?_
    refine pM (.bool _) (bk hk fun t12 ht hk => ?_)
    refine AU (l1 := [_, _, _, _, _, _, _, _, _, _]) [54, 55, 56, 57, 58, 59, 60, 61, 62, 63] 63 (.bool t12) ?_ ?_
    ·refine bc (b := (c10.Switch == aPoint3)) (fun hg => ?_) (fun hg => ?_)
     ·replace hk := ct hg ht
      refine AF hg (Dw hO 2 [_, _, _, _, _] FG CH (AF hg ?_))
      refine Dw hO 1 [_, _, _, _] Ew C0 (AF hg ?_)
      refine pM (.int _ _) (AF hg ?_)
      refine pF Dg (AF hg ?_)
      refine CP hO 2 (.lit _ _ _) BC (AF hg ?_)
      refine pM (.int _ _) (AF hg (bk hk fun c13 hc13 hk => ?_))
      refine pX hc13 C8 DS (AF hg ?_)
      refine By (.int _ _) (D7 (lm := 0) (off := 0) hc13 BW) (AF hg (bk hk fun v14 hv14 hk => ?_))
      refine AR (fun _ => XL hv14) ?_
      refine Cv hg (.bool _) ?_
      cases hk; exact pE ek
     ·replace hk := cf hg ht
      refine AG hg (AG hg (AG hg (AG hg (AG hg (AG hg (AG hg (AG hg (AG hg (Cu hg (.bool _) ?_)))))))))
      cases hk; exact pE ek
    ·intro J
     refine pE (gn (Aq hk (fun hk => ?_) (fun hk => ?_)))
     ·refine A1 (A4 (Au EC hO 0 (.int _ _) BW ?_))
      refine pA (.int _ _) (pE (gn (Av (br (gr (gr (br (gr (have hk := lx hx1 hk; ?_)))))))))
      cases hk; exact AT hO
     ·refine As (bn (gn (A4 (AX ?_))))
      refine pM (.int _ _) (pE (gn ?_))
      cases hk; exact ⟨_, rfl, _, _, (pk hO [1, 2]), sh⟩
   ·refine D6 (ge (ge (be (gn (have hk := lx hx1 hk; A1 (A4 (pA (.int _ _) (pE (gn (Av ?_))))))))))
    cases hk; exact AT hO
def RE (x5 : Int) (x6 : List Int) : Option (((List Int) × Int) ⊕ (List Int)) :=
 some (.inl (x6, BV (x5 + (1:Int))))
def Ln (aP0 : AQ) (aF1 : AE) (aPoint2 : Int) : ((List Int) × Int) → Option (((List Int) × Int) ⊕ (List Int)) := fun s =>
 (bif decide (s.2 < (aP0.A5.length : Int)) then ((jN aP0 aF1 s.2 aPoint2).bind fun v8 => (bif decide (v8 > (0:Int)) then ((D5 8 s.1 ([s.2] : List Int)).bind fun z9 => (RE s.2 z9)) else (RE s.2 s.1))) else ((some s.1).map Sum.inr))
def iZ (aP0 : AQ) (aF1 : AE) (aPoint2 : Int) : Option (List Int) :=
 (AJ (Ln aP0 aF1 aPoint2) (([] : List Int), (0:Int)))
theorem Zh {aP0 : AQ} {aF1 : AE} {aPoint2 : Int} {r : (List Int)} {l1 l2 m3 l4 m5 l6 l7 l8 m9 : Nat} (hk : iZ aP0 aF1 aPoint2 = some r) (hlk : 0 < lk.length := by simp) : Al Tryz.prog hh 38 [.agg (Aj l1 0 l2 m3 l4 m5 aP0), .agg (Ai l6 0 l7 0 l8 m9 aF1), iv aPoint2] H lk = some (AN 0 0 r, H) := by
 refine AI Tryz.func38 rfl Tryz.ntmps38 Tryz.results38 rfl rfl fun hO => ?_
 unfold iZ at hk
 refine A1 (A4 (Ba (cs := [_, _, _, _, _]) hO CH (fun b1 G hO => ?_)))
 refine Ba (cs := [_, _, _, _]) hO C0 (fun b2 G hO => ?_)
 refine pA (.tl 0 []) (pE (gn (A1 (A4 ?_))))
 refine pA (.tl 0 []) (pE (gn (A1 (A1 (A4 ?_)))))
 refine Au Bk hO 1 (.lit _ _ _) Du ?_
 refine Ah I2 ?_
 refine pM (.int _ _) (pE (gn (BQ ?_)))
 refine AD (F := Ln aP0 aF1 aPoint2) (fun s S' => ∃ (o3 : V) (J : Nat → V) (G : A3), A6 H G [.Ad b2 (.cells 4 (Ai l6 0 l7 0 l8 m9 aF1)), .Ad b1 (.cells 5 (Aj l1 0 l2 m3 l4 m5 aP0)), .own o3 lk.length 1 s.1.length (A9 0 s.1)] ∧ S' = ⟨CO [(2, iv aPoint2), (3, .ptr b1 0), (4, .ptr b2 0), (7, o3), (11, iv (aP0.A5.length : Int)), (12, iv s.2)] J, G⟩) hk ⟨(.tl 0 []), _, _, (A6.pick (A6.H8 hO lk.length ([] : List Int)) [1, 2, 0] (by decide) rfl), sh⟩ ?_
 rintro ⟨x3, x5⟩ _ y1 ⟨o3, J, G, hO, rfl⟩ hk hx1
 refine A1 (A4 (AX (pE (gn (A1 (Aq hk (fun hk => ?_) (fun hk => ?_)))))))
 ·refine As (gn (CS (fun S' => ∃ (x6 : List Int) (o6 : V) (J : Nat → V) (G : A3), RE x5 x6 = some y1 ∧ A6 H G [.Ad b2 (.cells 4 (Ai l6 0 l7 0 l8 m9 aF1)), .Ad b1 (.cells 5 (Aj l1 0 l2 m3 l4 m5 aP0)), .own o6 lk.length 1 x6.length (A9 0 x6)] ∧ S' = ⟨CO [(2, iv aPoint2), (3, .ptr b1 0), (4, .ptr b2 0), (7, o6), (11, iv (aP0.A5.length : Int)), (12, iv x5)] J, G⟩) ?_ ?_))
  ·refine BQ (A1 (A4 (pM (.int _ _) ?_)))
   refine pA (.int _ _) (pE (gn (A1 (A4 ?_))))
   refine Dw hO 1 [_, _, _, _, _] FG CH ?_
   refine Dw hO 0 [_, _, _, _] Ew C0 ?_
   refine pM (.int _ _) ?_
   refine pM (.int _ _) (bk hk fun v8 hv8 hk => ?_)
   refine AR (fun _ => aB hv8) ?_
   refine AX (pE (gn (Aq hk (fun hk => ?_) (fun hk => ?_))))
   ·refine A4 (pM o3 ?_)
    refine pM (.int _ _) ?_
    refine Uh (ps := [(0, (.int _ _))]) ([x5] : List Int) C8 DS Mx (DI (DJ _ _) (Dm)) (bk hk fun z9 hz9 hk => ?_)
    refine Ta (xs := x3) hO 2 hz9 (EF ([x5] : List Int)) C8 DS Wx Mx C8 rfl (fun o9 G hno9 hO => ?_)
    refine pA o9 (pE (bn (gn ?_)))
    exact ⟨z9, o9, _, _, hk, hO, sh⟩
   ·exact As (bn (gn (⟨x3, o3, _, _, hk, hO, sh⟩)))
  ·rintro _ ⟨x6, o6, J, G, hk, hO, rfl⟩
   refine A4 (AX ?_)
   refine pM (.int _ _) (pE (gn ?_))
   cases hk; exact ⟨_, rfl, o6, _, _, hO, sh⟩
 ·refine D6 (ge (ge (be (gn (have hk := lx hx1 hk; A1 (A4 (pM o3 ?_)))))))
  refine pA o3 (pE (gn (Av ?_)))
  replace hk := Option.some.inj hk; subst hk; exact Gz hO (M8 (xs := x3) hlk 2) (MQ o3 Dt)
def RK (x10 : Int) (x11 : List Int) (x13 : Int) : Option (((List Int) × Int × Int) ⊕ (BE × Int)) :=
 some (.inl (x11, x13, BV (x10 + (1:Int))))
def OH (x32 : Int) (x33 : List Int) (x35 : List Int) (x37 : Int) : Option (((List Int) × (List Int) × Int × Int) ⊕ (BE × Int)) :=
 some (.inl (x33, x35, x37, BV (x32 + (1:Int))))
def J8 (x52 : Int) (x53 : List Int) (x55 : List Int) (x57 : List Int) (x59 : Int) : Option (((List Int) × (List Int) × (List Int) × Int × Int) ⊕ (BE × Int)) :=
 some (.inl (x53, x55, x57, x59, BV (x52 + (1:Int))))
def RL (x76 : Int) (x77 : List Int) (x79 : List Int) (x81 : List Int) (x83 : Int) : Option (((List Int) × (List Int) × (List Int) × Int × Int) ⊕ (((List Int) × (List Int) × (List Int) × Int × Int) ⊕ (((List Int) × (List Int) × (List Int) × Int × Int) ⊕ (BE × Int)))) :=
 some (.inl (x77, x79, x81, x83, BV (x76 + (1:Int))))
def Lr (x52 : Int) (x67 : Int) (c68 : List Aa) : ((List Int) × (List Int) × (List Int) × Int × Int) → Option (((List Int) × (List Int) × (List Int) × Int × Int) ⊕ (((List Int) × (List Int) × (List Int) × Int × Int) ⊕ (((List Int) × (List Int) × (List Int) × Int × Int) ⊕ (BE × Int)))) := fun s =>
 (bif decide (s.2.2.2.2 < (c68.length : Int)) then ((AL c68 s.2.2.2.2).bind fun c84 => (bif (c84.Switch == x52) then (RL s.2.2.2.2 s.1 s.2.1 s.2.2.1 c84.EZ) else (RL s.2.2.2.2 s.1 s.2.1 s.2.2.1 s.2.2.2.1))) else ((some (.inl (s.1, s.2.1, s.2.2.1, s.2.2.2.1, BV (x67 + (1:Int))))).map Sum.inr))
def Gj (aP0 : AQ) (aF1 : AE) (c5 : Bu) (x51 : Int) (x52 : Int) : ((List Int) × (List Int) × (List Int) × Int × Int) → Option (((List Int) × (List Int) × (List Int) × Int × Int) ⊕ (((List Int) × (List Int) × (List Int) × Int × Int) ⊕ (BE × Int))) := fun s =>
 (bif decide (s.2.2.2.2 < (([c5.AO, c5.AB] : List (List Aa)).length : Int)) then ((AL ([c5.AO, c5.AB] : List (List Aa)) s.2.2.2.2).bind fun c68 => (AJ (Lr x52 s.2.2.2.2 c68) (s.1, s.2.1, s.2.2.1, s.2.2.2.1, (0:Int)))) else (((bif (s.2.2.2.1 == (0:Int)) then some true else ((AL aF1.A8 x52).bind fun c87 => some (s.2.2.2.1 == c87.Want))).bind fun t86 => (bif t86 then (J8 x52 s.1 s.2.1 s.2.2.1 x51) else ((iZ aP0 aF1 x52).bind fun v88 => (bif decide ((v88.length : Int) > (0:Int)) then ((D5 8 s.2.2.1 ([x52] : List Int)).bind fun z89 => (J8 x52 s.1 s.2.1 z89 (5:Int))) else ((AL aP0.A7 x52).bind fun c91 => ((AL aF1.C9 c91).bind fun c92 => (bif c92 then ((D5 8 s.2.2.1 ([x52] : List Int)).bind fun z93 => (bif (x51 == (0:Int)) then (J8 x52 s.1 s.2.1 z93 (6:Int)) else (J8 x52 s.1 s.2.1 z93 x51))) else (J8 x52 s.1 s.2.1 s.2.2.1 x51)))))))).map Sum.inr))
def NL (x95 : List Int) (x97 : List Int) (x99 : List Int) (x101 : Int) : Option (BE × Int) :=
 some (({ A5 := x95, A0 := x97, A8 := x99 } : BE), x101)
def Lq (aP0 : AQ) (aF1 : AE) (c5 : Bu) (x31 : Int) : ((List Int) × (List Int) × (List Int) × Int × Int) → Option (((List Int) × (List Int) × (List Int) × Int × Int) ⊕ (BE × Int)) := fun s =>
 (bif decide (s.2.2.2.2 < (aP0.A7.length : Int)) then (AJ (Gj aP0 aF1 c5 s.2.2.2.1 s.2.2.2.2) (s.1, s.2.1, s.2.2.1, (0:Int), (0:Int))) else ((bif (x31 == (0:Int)) then (NL s.1 s.2.1 s.2.2.1 s.2.2.2.1) else (NL s.1 s.2.1 s.2.2.1 x31)).map Sum.inr))
def KF (aP0 : AQ) (aF1 : AE) (c5 : Bu) : ((List Int) × (List Int) × Int × Int) → Option (((List Int) × (List Int) × Int × Int) ⊕ (BE × Int)) := fun s =>
 (bif decide (s.2.2.2 < aP0.A0) then ((AL aF1.C9 s.2.2.2).bind fun c38 => ((bif c38 then ((Xr ([s.2.2.2] : List Int) c5.A0).bind fun v40 => ((bif v40 then some true else ((Xr ([s.2.2.2] : List Int) c5.BY).bind fun v42 => some v42)).bind fun t41 => some t41)) else some false).bind fun t39 => (bif t39 then ((D5 8 s.2.1 ([s.2.2.2] : List Int)).bind fun z43 => (bif (s.2.2.1 == (0:Int)) then (OH s.2.2.2 s.1 z43 (4:Int)) else (OH s.2.2.2 s.1 z43 s.2.2.1))) else (OH s.2.2.2 s.1 s.2.1 s.2.2.1)))) else ((AJ (Lq aP0 aF1 c5 s.2.2.1) (s.1, s.2.1, ([] : List Int), (0:Int), (0:Int))).map Sum.inr))
def Lp (aP0 : AQ) (aF1 : AE) (aWay2 : Int) (c5 : Bu) : ((List Int) × Int × Int) → Option (((List Int) × Int × Int) ⊕ (BE × Int)) := fun s =>
 (bif decide (s.2.2 < (aP0.A5.length : Int)) then ((bif (s.2.2 != aWay2) then ((AL aF1.A5 s.2.2).bind fun c15 => some (c15.State != (0:Int))) else some false).bind fun t14 => ((bif t14 then ((AL aP0.BX aWay2).bind fun c17 => ((AL c17 s.2.2).bind fun c18 => ((bif c18 then some true else ((AL aP0.A5 s.2.2).bind fun c20 => ((Xr c5.A0 c20.BY).bind fun v21 => some v21))).bind fun t19 => ((bif t19 then some true else ((AL aP0.A5 s.2.2).bind fun c23 => ((Xr c5.BY c23.A0).bind fun v24 => some v24))).bind fun t22 => some t22)))) else some false).bind fun t16 => (bif t16 then ((D5 8 s.1 ([s.2.2] : List Int)).bind fun z25 => (RK s.2.2 z25 (3:Int))) else (RK s.2.2 s.1 s.2.1)))) else ((AJ (KF aP0 aF1 c5) (s.1, ([] : List Int), s.2.1, (0:Int))).map Sum.inr))
def gS (aP0 : AQ) (aF1 : AE) (aWay2 : Int) : Option (BE × Int) :=
 ((AL aP0.A5 aWay2).bind fun c5 => (AJ (Lp aP0 aF1 aWay2 c5) (([] : List Int), (0:Int), (0:Int))))
theorem VK {aP0 : AQ} {aF1 : AE} {aWay2 : Int} {r : (BE × Int)} {l1 l2 m3 l4 m5 l6 l7 l8 m9 : Nat} (hk : gS aP0 aF1 aWay2 = some r) (hlk : 0 < lk.length := by simp) : Al Tryz.prog hh 58 [.agg (Aj l1 0 l2 m3 l4 m5 aP0), .agg (Ai l6 0 l7 0 l8 m9 aF1), iv aWay2] H lk = some (.FH [.agg [AN 0 0 r.1.A5, AN 0 0 r.1.A0, AN 0 0 r.1.A8], iv r.2], H) := by
 refine AI Tryz.func58 rfl Tryz.ntmps58 Tryz.results58 rfl rfl fun hO => ?_
 unfold gS at hk
 refine A1 (A4 (Ba (cs := [_, _, _, _, _]) hO CH (fun b1 G hO => ?_)))
 refine Ba (cs := [_, _, _, _]) hO C0 (fun b2 G hO => C7 hO Cy KX (fun b3 G hO => ?_))
 refine pA (.int _ _) (pE (gn (A1 (A4 (C7 hO Cy KX (fun b4 G hO => pE (gn (A1 (A4 ?_)))))))))
 refine pA (.int _ _) (pE (gn (A1 (A4 ?_))))
 refine Au Bk hO 3 (.lit _ _ _) Du ?_
 refine pM (.int _ _) (bk hk fun c5 hc5 hk => ?_)
 refine pX hc5 Ex B1 ?_
 refine By (.agg [_, _, _, _, _]) (GG (lm := m3) (off := 0) hc5 FB B1) (C7 hO B1 Ir (fun b6 G hO => ?_))
 refine Cl (xs := [_, _, _, _, _]) hO 0 B1 rfl (fun G hO => pE (gn (A1 (A1 (A4 ?_)))))
 refine Au Bk hO 4 (.lit _ _ _) Du ?_
 refine Ah I2 ?_
 refine pM (.int _ _) (pE (gn (BQ ?_)))
 refine AD (F := Lp aP0 aF1 aWay2 c5) (fun s S' => ∃ (o7 : V) (J : Nat → V) (G : A3), A6 H G [.Ad b6 (.cells 5 (Cq m3 0 m3 0 m3 0 m3 0 m3 0 c5)), .own o7 lk.length 1 s.1.length (A9 0 s.1), .Ad b4 (.cells 3 [o7, (.tl 0 []), (.tl 0 [])]), .Ad b3 (.cells 3 [(.tl 0 []), (.tl 0 []), (.tl 0 [])]), .Ad b2 (.cells 4 (Ai l6 0 l7 0 l8 m9 aF1)), .Ad b1 (.cells 5 (Aj l1 0 l2 m3 l4 m5 aP0))] ∧ S' = ⟨CO [(2, iv aWay2), (3, .ptr b1 0), (4, .ptr b2 0), (6, .ptr b3 0), (8, .ptr b4 0), (9, iv s.2.1), (10, .ptr b6 0), (27, iv (aP0.A5.length : Int)), (28, iv s.2.2)] J, G⟩) hk ⟨(.tl 0 []), _, _, (A6.pick (A6.H8 hO lk.length ([] : List Int)) [1, 0, 2, 3, 4, 5] (by decide) rfl), sh⟩ ?_
 rintro ⟨x7, x9, x10⟩ _ y1 ⟨o7, J, G, hO, rfl⟩ hk hx1
 refine A1 (A4 (AX (pE (gn (A1 (Aq hk (fun hk => ?_) (fun hk => ?_)))))))
 ·refine As (gn (CS (fun S' => ∃ (x11 : List Int) (x13 : Int) (o11 : V) (J : Nat → V) (G : A3), RK x10 x11 x13 = some y1 ∧ A6 H G [.Ad b6 (.cells 5 (Cq m3 0 m3 0 m3 0 m3 0 m3 0 c5)), .own o11 lk.length 1 x11.length (A9 0 x11), .Ad b4 (.cells 3 [o11, (.tl 0 []), (.tl 0 [])]), .Ad b3 (.cells 3 [(.tl 0 []), (.tl 0 []), (.tl 0 [])]), .Ad b2 (.cells 4 (Ai l6 0 l7 0 l8 m9 aF1)), .Ad b1 (.cells 5 (Aj l1 0 l2 m3 l4 m5 aP0))] ∧ S' = ⟨CO [(2, iv aWay2), (3, .ptr b1 0), (4, .ptr b2 0), (6, .ptr b3 0), (8, .ptr b4 0), (9, iv x13), (10, .ptr b6 0), (27, iv (aP0.A5.length : Int)), (28, iv x10)] J, G⟩) ?_ ?_))
  ·refine BQ (A1 (A4 (pM (.int _ _) ?_)))
   refine pA (.int _ _) (pE (gn (A1 ?_)))
   refine BG [(0, false), (1, false), (2, false), (3, false), (4, false), (5, true), (6, true), (7, false), (8, false), (9, true), (10, false), (11, false), (12, false), (13, false), (14, true), (15, true), (16, false), (17, true), (18, true), (19, false), (20, true), (21, false), (22, true), (23, true), (24, true), (25, true), (26, true), (27, true), (28, true), (29, true), (30, false), (31, false), (32, false), (33, true), (34, true), (35, true), (36, true), (37, true), (38, true), (39, true), (40, true), (41, false), (42, false), (43, false)] [_, _, _, _, _, _, _, _, _, _, _, _, _, _, _, _, _, _, _, _, _, _, _, _, _, _, _, _, _, _, _, _, _, _, _, _, _, _, _, _, _, _, _, _] (by decide +kernel) (by rfl) ?_
   refine pM (.int _ _) ?_
   refine pM (.int _ _) ?_
   refine AX ?_
   refine pM (.bool _) (bk hk fun t14 ht hk => ?_)
   refine AU (l1 := [_, _, _, _, _, _, _, _]) [35, 36, 37, 38, 39, 40, 41, 42] 42 (.bool t14) ?_ ?_
   ·refine bc (b := (x10 != aWay2)) (fun hg => ?_) (fun hg => ?_)
    ·replace hk := ct hg ht
     refine AF hg (pF Bl (AF hg ?_))
     refine CP hO 4 (.lit _ _ _) E6 (AF hg ?_)
     refine pM (.int _ _) (AF hg (bk hk fun c15 hc15 hk => ?_))
     refine pX hc15 EN Ay (AF hg ?_)
     refine pF B9 (AF hg ?_)
     refine By (.int _ _) (D7 (lm := m9) (off := 0) hc15 BW) (AF hg ?_)
     refine AX ?_
     refine Cv hg (.bool _) ?_
     cases hk; exact pE ek
    ·replace hk := cf hg ht
     refine AG hg (AG hg (AG hg (AG hg (AG hg (AG hg (AG hg (Cu hg (.bool _) ?_)))))))
     cases hk; exact pE ek
   ·intro J
    refine pM (.bool _) (bk hk fun t16 ht hk => ?_)
    refine AU (l1 := [_, _, _, _, _, _, _, _, _, _, _, _, _, _, _, _, _, _, _, _, _, _, _, _, _, _, _, _, _, _, _]) [44, 45, 46, 47, 48, 49, 50, 51, 52, 53, 54, 55, 56, 57, 58, 59, 60, 61, 62, 63, 64, 65, 66, 67, 68, 69, 70, 71, 72, 73, 74] 74 (.bool t16) ?_ ?_
    ·refine bc (b := t14) (fun hg => ?_) (fun hg => ?_)
     ·replace hk := ct hg ht
      refine AF hg (pF EP (AF hg ?_))
      refine CP hO 5 (.lit _ _ _) It (AF hg ?_)
      refine pM (.int _ _) (AF hg (bk hk fun c17 hc17 hk => ?_))
      refine pX hc17 Iu GI (AF hg ?_)
      refine By (.lit _ _ _) (D7 (lm := m5) (off := 0) hc17 CC) (AF hg ?_)
      refine pM (.int _ _) (AF hg (bk hk fun c18 hc18 hk => ?_))
      refine pX hc18 Cn FU (AF hg ?_)
      refine By (.bool _) (D7 (lm := 0) (off := 0) hc18 Fv) (AF hg ?_)
      refine pM (.bool _) (bk hk fun t19 ht hk => ?_)
      refine AU (l1 := [_, _, _, _, _, _, _, _, _, _]) [53, 54, 55, 56, 57, 58, 59, 60, 61, 62] 62 (.bool t19) ?_ ?_
      ·refine bc (b := c18) (fun hg2 => ?_) (fun hg2 => ?_)
       ·replace hk := ct hg2 ht
        refine AG hg2 (AG hg2 (AG hg2 (AG hg2 (AG hg2 (AG hg2 (AG hg2 (AG hg2 (AG hg2 (AF hg (Cv hg2 (.bool _) ?_))))))))))
        cases hk; exact pE ek
       ·replace hk := cf hg2 ht
        refine AF hg2 (pF BL (AF hg2 ?_))
        refine CP hO 0 (.lit _ _ _) BC (AF hg2 ?_)
        refine pF Bk (AF hg2 ?_)
        refine CP hO 5 (.lit _ _ _) Du (AF hg2 ?_)
        refine pM (.int _ _) (AF hg2 (bk hk fun c20 hc20 hk => ?_))
        refine pX hc20 Ex B1 (AF hg2 ?_)
        refine pF DY (AF hg2 ?_)
        refine By (.lit _ _ _) (D7 (lm := m3) (off := 3) hc20 BC) (AF hg2 (bk hk fun v21 hv21 hk => ?_))
        refine AR (fun _ => IF hv21) (AF hg ?_)
        refine Cu hg2 (.bool _) ?_
        cases hk; exact pE ek
      ·intro J
       refine AF hg (pM (.bool _) (bk hk fun t22 ht hk => ?_))
       refine AU (l1 := [_, _, _, _, _, _, _, _, _, _]) [64, 65, 66, 67, 68, 69, 70, 71, 72, 73] 73 (.bool t22) ?_ ?_
       ·refine bc (b := t19) (fun hg2 => ?_) (fun hg2 => ?_)
        ·replace hk := ct hg2 ht
         refine AG hg2 (AG hg2 (AG hg2 (AG hg2 (AG hg2 (AG hg2 (AG hg2 (AG hg2 (AG hg2 (AF hg (Cv hg2 (.bool _) ?_))))))))))
         cases hk; exact pE ek
        ·replace hk := cf hg2 ht
         refine AF hg2 (pF DY (AF hg2 ?_))
         refine CP hO 0 (.lit _ _ _) BC (AF hg2 ?_)
         refine pF Bk (AF hg2 ?_)
         refine CP hO 5 (.lit _ _ _) Du (AF hg2 ?_)
         refine pM (.int _ _) (AF hg2 (bk hk fun c23 hc23 hk => ?_))
         refine pX hc23 Ex B1 (AF hg2 ?_)
         refine pF BL (AF hg2 ?_)
         refine By (.lit _ _ _) (D7 (lm := m3) (off := 0) hc23 BC) (AF hg2 (bk hk fun v24 hv24 hk => ?_))
         refine AR (fun _ => IF hv24) (AF hg ?_)
         refine Cu hg2 (.bool _) ?_
         cases hk; exact pE ek
       ·intro J
        refine Cv hg (.bool _) ?_
        cases hk; exact pE ek
     ·replace hk := cf hg ht
      refine AG hg (AG hg (AG hg (AG hg (AG hg (AG hg (AG hg (AG hg (AG hg (CY (CY (CY (CY (CY (CY (CY (CY (CY (AG hg (AG hg (CY (CY (CY (CY (CY (CY (CY (CY (CY (AG hg (Cu hg (.bool _) ?_))))))))))))))))))))))))))))))
      cases hk; exact pE ek
    ·intro J
     refine pE (gn (Aq hk (fun hk => ?_) (fun hk => ?_)))
     ·refine A1 (A4 (Au Ic hO 2 o7 BC ?_))
      refine pM (.int _ _) ?_
      refine Uh (ps := [(0, (.int _ _))]) ([x10] : List Int) C8 DS Mx (DI (DJ _ _) (Dm)) (bk hk fun z25 hz25 hk => ?_)
      refine Ta (xs := x7) hO 1 hz25 (EF ([x10] : List Int)) C8 DS Wx Mx C8 rfl (fun o25 G hno25 hO => ?_)
      refine pF Ic ?_
      have hc26 := C4 hO (j := 1) rfl
      refine Cl (xs := [_]) hO 2 LU rfl (fun G hO => ?_) (h3 := hc26.1) (h6 := Bo hc26.2)
      refine pE (gn (A4 (pA (.int _ _) (pE (bn (gn ?_))))))
      exact ⟨z25, (3:Int), o25, _, _, hk, hO, sh⟩
     ·exact As (bn (gn (⟨x7, x9, o7, _, _, hk, hO, sh⟩)))
  ·rintro _ ⟨x11, x13, o11, J, G, hk, hO, rfl⟩
   refine A4 (AX ?_)
   refine pM (.int _ _) (pE (gn ?_))
   cases hk; exact ⟨_, rfl, o11, _, _, hO, sh⟩
 ·refine D6 (ge (ge (be (gn (have hk := lx hx1 hk; A1 (A1 (A4 (pA (.int _ _) (pE (gn (BQ ?_)))))))))))
  refine AD (F := KF aP0 aF1 c5) (fun s S' => ∃ (o27 : V) (o29 : V) (J : Nat → V) (G : A3), A6 H G [.Ad b6 (.cells 5 (Cq m3 0 m3 0 m3 0 m3 0 m3 0 c5)), .own o27 lk.length 1 s.1.length (A9 0 s.1), .own o29 lk.length 1 s.2.1.length (A9 0 s.2.1), .Ad b4 (.cells 3 [o27, o29, (.tl 0 [])]), .Ad b3 (.cells 3 [(.tl 0 []), (.tl 0 []), (.tl 0 [])]), .Ad b2 (.cells 4 (Ai l6 0 l7 0 l8 m9 aF1)), .Ad b1 (.cells 5 (Aj l1 0 l2 m3 l4 m5 aP0))] ∧ S' = ⟨CO [(3, .ptr b1 0), (4, .ptr b2 0), (6, .ptr b3 0), (8, .ptr b4 0), (9, iv s.2.2.1), (10, .ptr b6 0), (12, iv s.2.2.2)] J, G⟩) hk ⟨o7, (.tl 0 []), _, _, (A6.pick (A6.H8 hO lk.length ([] : List Int)) [1, 2, 0, 3, 4, 5, 6] (by decide) rfl), sh⟩ ?_
  rintro ⟨x27, x29, x31, x32⟩ _ y1 ⟨o27, o29, J, G, hO, rfl⟩ hk hx1
  refine A1 (A1 (A4 (pM (.int _ _) ?_)))
  refine Au EO hO 6 (.int _ _) BW ?_
  refine AX (pE (gn (Aq hk (fun hk => ?_) (fun hk => ?_))))
  ·refine As (gn (CS (fun S' => ∃ (x33 : List Int) (x35 : List Int) (x37 : Int) (o33 : V) (o35 : V) (J : Nat → V) (G : A3), OH x32 x33 x35 x37 = some y1 ∧ A6 H G [.Ad b6 (.cells 5 (Cq m3 0 m3 0 m3 0 m3 0 m3 0 c5)), .own o33 lk.length 1 x33.length (A9 0 x33), .own o35 lk.length 1 x35.length (A9 0 x35), .Ad b4 (.cells 3 [o33, o35, (.tl 0 [])]), .Ad b3 (.cells 3 [(.tl 0 []), (.tl 0 []), (.tl 0 [])]), .Ad b2 (.cells 4 (Ai l6 0 l7 0 l8 m9 aF1)), .Ad b1 (.cells 5 (Aj l1 0 l2 m3 l4 m5 aP0))] ∧ S' = ⟨CO [(3, .ptr b1 0), (4, .ptr b2 0), (6, .ptr b3 0), (8, .ptr b4 0), (9, iv x37), (10, .ptr b6 0), (12, iv x32)] J, G⟩) ?_ ?_))
   ·refine BQ (A1 (A4 (Au Co hO 5 (.lit _ _ _) CC ?_)))
    refine pM (.int _ _) (bk hk fun c38 hc38 hk => ?_)
    refine pX hc38 Cn FU ?_
    refine By (.bool _) (D7 (lm := 0) (off := 0) hc38 Fv) ?_
    refine pM (.bool _) (bk hk fun t39 ht hk => ?_)
    refine AU (l1 := [_, _, _, _, _, _, _, _, _, _, _, _, _]) [94, 95, 96, 97, 98, 99, 100, 101, 102, 103, 104, 105, 106] 106 (.bool t39) ?_ ?_
    ·refine bc (b := c38) (fun hg => ?_) (fun hg => ?_)
     ·replace hk := ct hg ht
      refine AF hg (pM (.int _ _) (AF hg ?_))
      refine Uh (ps := [(0, (.int _ _))]) ([x32] : List Int) C8 DS Mx (DI (DJ _ _) (Dm)) (AF hg ?_)
      refine pF BL (AF hg ?_)
      refine CP hO 0 (.lit _ _ _) BC (AF hg (bk hk fun v40 hv40 hk => ?_))
      refine AR (vs := [(.tl 1 (A9 0 ([x32] : List Int))), (.lit _ _ _)]) (caps := []) (fun _ => IF hv40) ?_ (h3 := (BK (Y9 ([x32] : List Int) 6) (BK rfl EJ)))
      refine AF hg (pM (.bool _) (bk hk fun t41 ht hk => ?_))
      refine AU (l1 := [_, _, _, _, _, _]) [100, 101, 102, 103, 104, 105] 105 (.bool t41) ?_ ?_
      ·refine bc (b := v40) (fun hg2 => ?_) (fun hg2 => ?_)
       ·replace hk := ct hg2 ht
        refine AG hg2 (AG hg2 (AG hg2 (AG hg2 (AG hg2 (AF hg (Cv hg2 (.bool _) ?_))))))
        cases hk; exact pE ek
       ·replace hk := cf hg2 ht
        refine AF hg2 (pM (.int _ _) (AF hg2 ?_))
        refine Uh (ps := [(0, (.int _ _))]) ([x32] : List Int) C8 DS Mx (DI (DJ _ _) (Dm)) (AF hg2 ?_)
        refine pF DY (AF hg2 ?_)
        refine CP hO 0 (.lit _ _ _) BC (AF hg2 (bk hk fun v42 hv42 hk => ?_))
        refine AR (vs := [(.tl 1 (A9 0 ([x32] : List Int))), (.lit _ _ _)]) (caps := []) (fun _ => IF hv42) ?_ (h3 := (BK (Y9 ([x32] : List Int) 6) (BK rfl EJ)))
        refine AF hg (Cu hg2 (.bool _) ?_)
        cases hk; exact pE ek
      ·intro J
       refine Cv hg (.bool _) ?_
       cases hk; exact pE ek
     ·replace hk := cf hg ht
      refine AG hg (AG hg (AG hg (AG hg (AG hg (AG hg (CY (CY (CY (CY (CY (AG hg (Cu hg (.bool _) ?_))))))))))))
      cases hk; exact pE ek
    ·intro J
     refine pE (gn (Aq hk (fun hk => ?_) (fun hk => ?_)))
     ·refine A1 (A4 (Au Ie hO 3 o29 BC ?_))
      refine pM (.int _ _) ?_
      refine Uh (ps := [(0, (.int _ _))]) ([x32] : List Int) C8 DS Mx (DI (DJ _ _) (Dm)) (bk hk fun z43 hz43 hk => ?_)
      refine Ta (xs := x29) hO 2 hz43 (EF ([x32] : List Int)) C8 DS Wx Mx C8 rfl (fun o43 G hno43 hO => ?_)
      refine pF Ie ?_
      have hc44 := C4 hO (j := 2) rfl
      refine Cl (xs := [_]) hO 3 LU rfl (fun G hO => ?_) (h3 := hc44.1) (h6 := Bo hc44.2)
      refine pE (gn (A1 (A4 (pM (.int _ _) ?_))))
      refine AX (pE (gn (Aq hk (fun hk => ?_) (fun hk => ?_))))
      ·refine A4 (pA (.int _ _) (pE (bn (gn ?_))))
       exact ⟨x27, z43, (4:Int), o27, o43, _, _, hk, hO, sh⟩
      ·exact As (bn (gn (⟨x27, z43, x31, o27, o43, _, _, hk, hO, sh⟩)))
     ·exact As (bn (gn (⟨x27, x29, x31, o27, o29, _, _, hk, hO, sh⟩)))
   ·rintro _ ⟨x33, x35, x37, o33, o35, J, G, hk, hO, rfl⟩
    refine A4 (pM (.int _ _) ?_)
    refine AX ?_
    refine pA (.int _ _) (pE (gn ?_))
    cases hk; exact ⟨_, rfl, o33, o35, _, _, hO, sh⟩
  ·refine D6 (ge (ge (be (gn (have hk := lx hx1 hk; A1 (A4 (pA (.int _ _) (pE (gn (A1 (A1 (A4 ?_))))))))))))
   refine Au Dg hO 6 (.lit _ _ _) BC ?_
   refine Ah DE ?_
   refine pM (.int _ _) (pE (gn (BQ ?_)))
   refine AD (F := Lq aP0 aF1 c5 x31) (fun s S' => ∃ (o45 : V) (o47 : V) (o49 : V) (J : Nat → V) (G : A3), A6 H G [.Ad b6 (.cells 5 (Cq m3 0 m3 0 m3 0 m3 0 m3 0 c5)), .own o45 lk.length 1 s.1.length (A9 0 s.1), .own o47 lk.length 1 s.2.1.length (A9 0 s.2.1), .own o49 lk.length 1 s.2.2.1.length (A9 0 s.2.2.1), .Ad b4 (.cells 3 [o45, o47, o49]), .Ad b3 (.cells 3 [(.tl 0 []), (.tl 0 []), (.tl 0 [])]), .Ad b2 (.cells 4 (Ai l6 0 l7 0 l8 m9 aF1)), .Ad b1 (.cells 5 (Aj l1 0 l2 m3 l4 m5 aP0))] ∧ S' = ⟨CO [(3, .ptr b1 0), (4, .ptr b2 0), (6, .ptr b3 0), (8, .ptr b4 0), (9, iv x31), (10, .ptr b6 0), (13, iv s.2.2.2.1), (117, iv (aP0.A7.length : Int)), (118, iv s.2.2.2.2)] J, G⟩) hk ⟨o27, o29, (.tl 0 []), _, _, (A6.pick (A6.H8 hO lk.length ([] : List Int)) [1, 2, 3, 0, 4, 5, 6, 7] (by decide) rfl), sh⟩ ?_
   rintro ⟨x45, x47, x49, x51, x52⟩ _ y1 ⟨o45, o47, o49, J, G, hO, rfl⟩ hk hx1
   refine A1 (A4 (AX (pE (gn (A1 (Aq hk (fun hk => ?_) (fun hk => ?_)))))))
   ·refine As (gn (CS (fun S' => ∃ (x53 : List Int) (x55 : List Int) (x57 : List Int) (x59 : Int) (o53 : V) (o55 : V) (o57 : V) (J : Nat → V) (G : A3), J8 x52 x53 x55 x57 x59 = some y1 ∧ A6 H G [.Ad b6 (.cells 5 (Cq m3 0 m3 0 m3 0 m3 0 m3 0 c5)), .own o53 lk.length 1 x53.length (A9 0 x53), .own o55 lk.length 1 x55.length (A9 0 x55), .own o57 lk.length 1 x57.length (A9 0 x57), .Ad b4 (.cells 3 [o53, o55, o57]), .Ad b3 (.cells 3 [(.tl 0 []), (.tl 0 []), (.tl 0 [])]), .Ad b2 (.cells 4 (Ai l6 0 l7 0 l8 m9 aF1)), .Ad b1 (.cells 5 (Aj l1 0 l2 m3 l4 m5 aP0))] ∧ S' = ⟨CO [(3, .ptr b1 0), (4, .ptr b2 0), (6, .ptr b3 0), (8, .ptr b4 0), (9, iv x31), (10, .ptr b6 0), (13, iv x59), (117, iv (aP0.A7.length : Int)), (118, iv x52)] J, G⟩) ?_ ?_))
    ·refine BQ (A1 (A4 (pM (.int _ _) ?_)))
     refine pA (.int _ _) (pE (gn (A1 (A4 ?_))))
     refine pA (.int _ _) (pE (gn (A1 (A1 (A4 ?_)))))
     refine Au EB hO 0 (.lit _ _ _) Df ?_
     refine Au EX hO 0 (.lit _ _ _) Df ?_
     refine fP (ps := [(0, (.lit _ _ _)), (1, (.lit _ _ _))]) m3 ([c5.AO, c5.AB] : List (List Aa)) Vj Qh cZ ?_
     refine Ah dI ?_
     refine pM (.int _ _) (pE (gn (BQ ?_)))
     refine AD (F := Gj aP0 aF1 c5 x51 x52) (fun s S' => ∃ (o60 : V) (o62 : V) (o64 : V) (J : Nat → V) (G : A3), A6 H G [.Ad b6 (.cells 5 (Cq m3 0 m3 0 m3 0 m3 0 m3 0 c5)), .own o60 lk.length 1 s.1.length (A9 0 s.1), .own o62 lk.length 1 s.2.1.length (A9 0 s.2.1), .own o64 lk.length 1 s.2.2.1.length (A9 0 s.2.2.1), .Ad b4 (.cells 3 [o60, o62, o64]), .Ad b3 (.cells 3 [(.tl 0 []), (.tl 0 []), (.tl 0 [])]), .Ad b2 (.cells 4 (Ai l6 0 l7 0 l8 m9 aF1)), .Ad b1 (.cells 5 (Aj l1 0 l2 m3 l4 m5 aP0))] ∧ S' = ⟨CO [(3, .ptr b1 0), (4, .ptr b2 0), (6, .ptr b3 0), (8, .ptr b4 0), (9, iv x31), (10, .ptr b6 0), (13, iv x51), (14, iv x52), (15, iv s.2.2.2.1), (117, iv (aP0.A7.length : Int)), (118, iv x52), (125, (.tl 2 (A9 m3 ([c5.AO, c5.AB] : List (List Aa))))), (126, iv (([c5.AO, c5.AB] : List (List Aa)).length : Int)), (127, iv s.2.2.2.2)] J, G⟩) hk ⟨o45, o47, o49, _, _, hO, sh⟩ ?_
     rintro ⟨x60, x62, x64, x66, x67⟩ _ y2 ⟨o60, o62, o64, J, G, hO, rfl⟩ hk hx2
     refine A1 (A4 (AX (pE (gn (A1 (Aq hk (fun hk => ?_) (fun hk => ?_)))))))
     ·refine As (gn (A1 (BQ (A1 (A4 (bk hk fun c68 hc68 hk => fU (lm := m3) hc68 Vj Qh ?_))))))
      refine By (.lit _ _ _) (D7 (lm := m3) (off := 0) hc68 Df) ?_
      refine pA (.lit _ _ _) (pE (gn (A1 (A4 ?_))))
      refine pM (.lit _ _ _) ?_
      refine Ah FC ?_
      refine pM (.int _ _) (pE (gn (BQ ?_)))
      refine AD (F := Lr x52 x67 c68) (fun s S' => ∃ (o69 : V) (o71 : V) (o73 : V) (J : Nat → V) (G : A3), A6 H G [.Ad b6 (.cells 5 (Cq m3 0 m3 0 m3 0 m3 0 m3 0 c5)), .own o69 lk.length 1 s.1.length (A9 0 s.1), .own o71 lk.length 1 s.2.1.length (A9 0 s.2.1), .own o73 lk.length 1 s.2.2.1.length (A9 0 s.2.2.1), .Ad b4 (.cells 3 [o69, o71, o73]), .Ad b3 (.cells 3 [(.tl 0 []), (.tl 0 []), (.tl 0 [])]), .Ad b2 (.cells 4 (Ai l6 0 l7 0 l8 m9 aF1)), .Ad b1 (.cells 5 (Aj l1 0 l2 m3 l4 m5 aP0))] ∧ S' = ⟨CO [(3, .ptr b1 0), (4, .ptr b2 0), (6, .ptr b3 0), (8, .ptr b4 0), (9, iv x31), (10, .ptr b6 0), (13, iv x51), (14, iv x52), (15, iv s.2.2.2.1), (117, iv (aP0.A7.length : Int)), (118, iv x52), (125, (.tl 2 (A9 m3 ([c5.AO, c5.AB] : List (List Aa))))), (126, iv (([c5.AO, c5.AB] : List (List Aa)).length : Int)), (127, iv x67), (131, AN m3 0 c68), (132, iv (c68.length : Int)), (133, iv s.2.2.2.2)] J, G⟩) hk ⟨o60, o62, o64, _, _, hO, sh⟩ ?_
      rintro ⟨x69, x71, x73, x75, x76⟩ _ y3 ⟨o69, o71, o73, J, G, hO, rfl⟩ hk hx3
      refine A1 (A4 (AX (pE (gn (A1 (Aq hk (fun hk => ?_) (fun hk => ?_)))))))
      ·refine As (gn (CS (fun S' => ∃ (x77 : List Int) (x79 : List Int) (x81 : List Int) (x83 : Int) (o77 : V) (o79 : V) (o81 : V) (J : Nat → V) (G : A3), RL x76 x77 x79 x81 x83 = some y3 ∧ A6 H G [.Ad b6 (.cells 5 (Cq m3 0 m3 0 m3 0 m3 0 m3 0 c5)), .own o77 lk.length 1 x77.length (A9 0 x77), .own o79 lk.length 1 x79.length (A9 0 x79), .own o81 lk.length 1 x81.length (A9 0 x81), .Ad b4 (.cells 3 [o77, o79, o81]), .Ad b3 (.cells 3 [(.tl 0 []), (.tl 0 []), (.tl 0 [])]), .Ad b2 (.cells 4 (Ai l6 0 l7 0 l8 m9 aF1)), .Ad b1 (.cells 5 (Aj l1 0 l2 m3 l4 m5 aP0))] ∧ S' = ⟨CO [(3, .ptr b1 0), (4, .ptr b2 0), (6, .ptr b3 0), (8, .ptr b4 0), (9, iv x31), (10, .ptr b6 0), (13, iv x51), (14, iv x52), (15, iv x83), (117, iv (aP0.A7.length : Int)), (118, iv x52), (125, (.tl 2 (A9 m3 ([c5.AO, c5.AB] : List (List Aa))))), (126, iv (([c5.AO, c5.AB] : List (List Aa)).length : Int)), (127, iv x67), (131, AN m3 0 c68), (132, iv (c68.length : Int)), (133, iv x76)] J, G⟩) ?_ ?_))
       ·refine BQ (A1 (A4 (bk hk fun c84 hc84 hk => pX hc84 Dl BD ?_)))
        refine By (.agg [_, _]) (GG (lm := 0) (off := 0) hc84 GA BD) (C7 hO BD FZ (fun b85 G hO => ?_))
        refine Cl (xs := [_, _]) hO 0 BD rfl (fun G hO => pE (gn (A1 (A4 ?_))))
        refine Au CR hO 0 (.int _ _) BW ?_
        refine pM (.int _ _) ?_
        refine AX (pE (gn (Aq hk (fun hk => ?_) (fun hk => ?_))))
        ·refine A4 (Au EC hO 0 (.int _ _) BW ?_)
         refine pA (.int _ _) (pE (bn (gn ?_)))
         exact ⟨x69, x71, x73, c84.EZ, o69, o71, o73, _, _, hk, (pk hO [1, 2, 3, 4, 5, 6, 7, 8]), sh⟩
        ·exact As (bn (gn (⟨x69, x71, x73, x75, o69, o71, o73, _, _, hk, (pk hO [1, 2, 3, 4, 5, 6, 7, 8]), sh⟩)))
       ·rintro _ ⟨x77, x79, x81, x83, o77, o79, o81, J, G, hk, hO, rfl⟩
        refine A4 (AX ?_)
        refine pM (.int _ _) (pE (gn ?_))
        cases hk; exact ⟨_, rfl, o77, o79, o81, _, _, hO, sh⟩
      ·refine D6 (ge (ge (be (bn (gn (have hk := lx hx3 hk; A4 (AX ?_)))))))
       refine pM (.int _ _) (pE (gn ?_))
       cases hk; exact ⟨_, rfl, o69, o71, o73, _, _, hO, sh⟩
     ·refine D6 (ge (ge (be (gn (have hk := lx hx2 hk; A1 (A1 (A4 (pM (.int _ _) ?_))))))))
      refine AX ?_
      refine pM (.bool _) (bk hk fun t86 ht hk => ?_)
      refine AU (l1 := [_, _, _, _, _, _, _, _, _]) [148, 149, 150, 151, 152, 153, 154, 155, 156] 156 (.bool t86) ?_ ?_
      ·refine bc (b := (x66 == (0:Int))) (fun hg => ?_) (fun hg => ?_)
       ·replace hk := ct hg ht
        refine AG hg (AG hg (AG hg (AG hg (AG hg (AG hg (AG hg (AG hg (Cv hg (.bool _) ?_))))))))
        cases hk; exact pE ek
       ·replace hk := cf hg ht
        refine AF hg (pM (.int _ _) (AF hg ?_))
        refine pF Dh (AF hg ?_)
        refine CP hO 6 (.lit _ _ _) JX (AF hg ?_)
        refine pM (.int _ _) (AF hg (bk hk fun c87 hc87 hk => ?_))
        refine pX hc87 Iv EE (AF hg ?_)
        refine pF Ig (AF hg ?_)
        refine By (.int _ _) (D7 (lm := 0) (off := 0) hc87 BW) (AF hg ?_)
        refine AX ?_
        refine Cu hg (.bool _) ?_
        cases hk; exact pE ek
      ·intro J
       refine pE (gn (Aq hk (fun hk => ?_) (fun hk => ?_)))
       ·exact D6 (ge (be (gn (⟨x60, x62, x64, x51, o60, o62, o64, _, _, hk, hO, sh⟩))))
       ·refine As (gn (A1 (A4 (Dw hO 7 [_, _, _, _, _] FG CH ?_))))
        refine Dw hO 6 [_, _, _, _] Ew C0 ?_
        refine pM (.int _ _) (bk hk fun v88 hv88 hk => ?_)
        refine AR (fun _ => Zh hv88) ?_
        refine Ah DE ?_
        refine AX (pE (gn (Aq hk (fun hk => ?_) (fun hk => ?_))))
        ·refine A1 (A4 (Au HZ hO 4 o64 BC ?_))
         refine pM (.int _ _) ?_
         refine Uh (ps := [(0, (.int _ _))]) ([x52] : List Int) C8 DS Mx (DI (DJ _ _) (Dm)) (bk hk fun z89 hz89 hk => ?_)
         refine Ta (xs := x64) hO 3 hz89 (EF ([x52] : List Int)) C8 DS Wx Mx C8 rfl (fun o89 G hno89 hO => ?_)
         refine pF HZ ?_
         have hc90 := C4 hO (j := 3) rfl
         refine Cl (xs := [_]) hO 4 LU rfl (fun G hO => ?_) (h3 := hc90.1) (h6 := Bo hc90.2)
         refine pE (gn (A4 (pA (.int _ _) (pE (bn (gn ?_))))))
         exact ⟨x60, x62, z89, (5:Int), o60, o62, o89, _, _, hk, hO, sh⟩
        ·refine A1 (BG [(0, true), (1, true), (2, true), (3, true), (4, true), (5, true), (6, true), (7, false), (8, true)] [_, _, _, _, _, _, _, _, _] (by decide +kernel) (by rfl) ?_)
         refine Au Co hO 6 (.lit _ _ _) CC ?_
         refine Au Dg hO 7 (.lit _ _ _) BC ?_
         refine pM (.int _ _) (bk hk fun c91 hc91 hk => ?_)
         refine pX hc91 C8 DS ?_
         refine By (.int _ _) (D7 (lm := 0) (off := 0) hc91 BW) (bk hk fun c92 hc92 hk => ?_)
         refine pX hc92 Cn FU ?_
         refine By (.bool _) (D7 (lm := 0) (off := 0) hc92 Fv) (pE (gn (Aq hk (fun hk => ?_) (fun hk => ?_))))
         ·refine A1 (A4 (Au HZ hO 4 o64 BC ?_))
          refine pM (.int _ _) ?_
          refine Uh (ps := [(0, (.int _ _))]) ([x52] : List Int) C8 DS Mx (DI (DJ _ _) (Dm)) (bk hk fun z93 hz93 hk => ?_)
          refine Ta (xs := x64) hO 3 hz93 (EF ([x52] : List Int)) C8 DS Wx Mx C8 rfl (fun o93 G hno93 hO => ?_)
          refine pF HZ ?_
          have hc94 := C4 hO (j := 3) rfl
          refine Cl (xs := [_]) hO 4 LU rfl (fun G hO => ?_) (h3 := hc94.1) (h6 := Bo hc94.2)
          refine pE (gn (A1 (A4 (pM (.int _ _) ?_))))
          refine AX (pE (gn (Aq hk (fun hk => ?_) (fun hk => ?_))))
          ·refine A4 (pA (.int _ _) (pE (bn (gn ?_))))
           exact ⟨x60, x62, z93, (6:Int), o60, o62, o93, _, _, hk, hO, sh⟩
          ·exact As (bn (gn (⟨x60, x62, z93, x51, o60, o62, o93, _, _, hk, hO, sh⟩)))
         ·exact As (bn (gn (⟨x60, x62, x64, x51, o60, o62, o64, _, _, hk, hO, sh⟩)))
    ·rintro _ ⟨x53, x55, x57, x59, o53, o55, o57, J, G, hk, hO, rfl⟩
     refine A4 (AX ?_)
     refine pM (.int _ _) (pE (gn ?_))
     cases hk; exact ⟨_, rfl, o53, o55, o57, _, _, hO, sh⟩
   ·refine D6 (ge (ge (be (gn (have hk := lx hx1 hk; CS (fun S' => ∃ (x95 : List Int) (x97 : List Int) (x99 : List Int) (x101 : Int) (o95 : V) (o97 : V) (o99 : V) (J : Nat → V) (G : A3), NL x95 x97 x99 x101 = some r ∧ A6 H G [.own o95 lk.length 1 x95.length (A9 0 x95), .own o97 lk.length 1 x97.length (A9 0 x97), .own o99 lk.length 1 x99.length (A9 0 x99), .Ad b4 (.cells 3 [o95, o97, o99]), .Ad b3 (.cells 3 [(.tl 0 []), (.tl 0 []), (.tl 0 [])])] ∧ S' = ⟨CO [(6, .ptr b3 0), (8, .ptr b4 0), (9, iv x101)] J, G⟩) ?_ ?_)))))
    ·refine A1 (A4 (pM (.int _ _) ?_))
     refine AX (pE (gn (Aq hk (fun hk => ?_) (fun hk => ?_))))
     ·refine A4 (pM (.int _ _) ?_)
      refine pA (.int _ _) (pE (gn ?_))
      exact ⟨x45, x47, x49, x51, o45, o47, o49, _, _, hk, (pk hO [1, 2, 3, 4, 5]), sh⟩
     ·exact As (gn (⟨x45, x47, x49, x31, o45, o47, o49, _, _, hk, (pk hO [1, 2, 3, 4, 5]), sh⟩))
    ·rintro _ ⟨x95, x97, x99, x101, o95, o97, o99, J, G, hk, hO, rfl⟩
     refine A1 (A4 (Dw hO 3 [_, _, _] Ib Cy ?_))
     refine pM (.int _ _) ?_
     have hc102 := C4 hO (j := 0) rfl
     have hc103 := C4 hO (j := 1) rfl
     have hc104 := C4 hO (j := 2) rfl
     refine Cl (xs := [_, _, _]) hO 4 Cy rfl (fun G hO => ?_) (h6 := (Bq hc102.2 (Bq hc103.2 (Bq hc104.2 Ik))))
     refine pA (.int _ _) (pE (gn (Av ?_)))
     replace hk := Option.some.inj hk; subst hk; exact Gz hO (fD (n := 3) (DN (Dr (n := 2) (DN (M8 (xs := x95) hlk 0) (DN (M8 (xs := x97) hlk 0) (DN (M8 (xs := x99) hlk 0) (Ho))))) (DN (CB _ _) (Ho)))) (FW hO 4 [_, _, _] Ib Cy (MQ (.int _ _) Dt))
def iS (aP0 : AQ) (aF1 : AE) (aWay2 : Int) : Option BE :=
 ((iY aP0 aF1).bind fun v4 => ((bif !v4 then some true else ((U1 aWay2 (0:Int) (BV ((aP0.A5.length : Int) - (1:Int)))).bind fun v6 => some (!v6))).bind fun t5 => (bif t5 then some ({ A5 := ([] : List Int), A0 := ([] : List Int), A8 := ([] : List Int) } : BE) else ((gS aP0 aF1 aWay2).bind fun v7 => some v7.1))))
theorem Za {aP0 : AQ} {aF1 : AE} {aWay2 : Int} {r : BE} {l1 l2 m3 l4 m5 l6 l7 l8 m9 : Nat} (hk : iS aP0 aF1 aWay2 = some r) (hlk : 0 < lk.length := by simp) (hlo : Di lk H.length := by simp [Di]) : Al Tryz.prog hh 19 [.agg (Aj l1 0 l2 m3 l4 m5 aP0), .agg (Ai l6 0 l7 0 l8 m9 aF1), iv aWay2] H lk = some (.agg [AN 0 0 r.A5, AN 0 0 r.A0, AN 0 0 r.A8], H) := by
 refine AI Tryz.func19 rfl Tryz.ntmps19 Tryz.results19 rfl rfl fun hO => ?_
 unfold iS at hk
 refine A1 (A4 (Ba (cs := [_, _, _, _, _]) hO CH (fun b1 G hO => ?_)))
 refine Ba (cs := [_, _, _, _]) hO C0 (fun b2 G hO => C7 hO Cy KX (fun b3 G hO => pE (gn (A1 (A1 (A4 ?_))))))
 refine Dw hO 2 [_, _, _, _, _] FG CH ?_
 refine Dw hO 1 [_, _, _, _] Ew C0 (bk hk fun v4 hv4 hk => ?_)
 refine Rv hO hlo rfl (fun _ hl => Zg hv4 (hlo := hl)) ?_
 refine pU ?_
 refine pM (.bool _) (bk hk fun t5 ht hk => ?_)
 refine AU (l1 := [_, _, _, _, _, _, _, _]) [14, 15, 16, 17, 18, 19, 20, 21] 21 (.bool t5) ?_ ?_
 ·refine bc (b := !v4) (fun hg => ?_) (fun hg => ?_)
  ·replace hk := ct hg ht
   refine AG hg (AG hg (AG hg (AG hg (AG hg (AG hg (AG hg (Cv hg (.bool _) ?_)))))))
   cases hk; exact pE ek
  ·replace hk := cf hg ht
   refine AF hg (pM (.int _ _) (AF hg ?_))
   refine pF Bk (AF hg ?_)
   refine CP hO 2 (.lit _ _ _) Du (AF hg ?_)
   refine Ah I2 (AF hg ?_)
   refine AX (AF hg (bk hk fun v6 hv6 hk => ?_))
   refine AR (fun _ => Ei hv6) (AF hg ?_)
   refine pU ?_
   refine Cu hg (.bool _) ?_
   cases hk; exact pE ek
 ·intro J
  refine pE (gn (Aq hk (fun hk => ?_) (fun hk => ?_)))
  ·refine A1 (A4 (Q2 [_, _, _] KX lK ?_))
   refine Cl (xs := [_, _, _]) hO 0 Cy rfl (fun G hO => pE (gn (Av (gr ?_))))
   replace hk := Option.some.inj hk; subst hk; exact Gz hO (Dr (n := 2) (DN (UD (k := 0) Int) (DN (UD (k := 0) Int) (DN (UD (k := 0) Int) (Ho))))) (FW hO 0 [_, _, _] Ib Cy Dt)
  ·refine As (gn (A1 (A4 (Dw hO 2 [_, _, _, _, _] FG CH ?_))))
   refine Dw hO 1 [_, _, _, _] Ew C0 ?_
   refine pM (.int _ _) (bk hk fun v7 hv7 hk => ?_)
   refine AR (fun _ => VK hv7) ?_
   refine pM (.FH [_, _]) ?_
   refine ZG (.agg [_, _, _]) ?_
   refine ZG (.int _ _) (C7 hO Cy KX (fun b8 G hO => ?_))
   refine Cl (xs := [_, _, _]) hO 0 Cy rfl (fun G hO => ?_)
   refine pA (.int _ _) (pE (gn (A1 (A4 ?_))))
   refine Dw hO 0 [_, _, _] Ib Cy ?_
   refine Cl (xs := [_, _, _]) hO 1 Cy rfl (fun G hO => pE (gn (Av ?_)))
   replace hk := Option.some.inj hk; subst hk; exact Gz hO (Dr (n := 2) (DN (UC hlk v7.1.A5) (DN (UC hlk v7.1.A0) (DN (UC hlk v7.1.A8) (Ho))))) (FW hO 1 [_, _, _] Ib Cy Dt)
def U3 (aX0 : Int) (aLo1 : Int) (aHi2 : Int) : Option Bool :=
 some (decide (aX0 ≥ aLo1) && decide (aX0 ≤ aHi2))
theorem Ej {aX0 : Int} {aLo1 : Int} {aHi2 : Int} {r : Bool} (hk : U3 aX0 aLo1 aHi2 = some r) (hlk : 0 < lk.length := by simp) : Al Tryz.prog hh 46 [iv aX0, iv aLo1, iv aHi2] H lk = some (.bool r, H) := by
 refine AI Tryz.func46 rfl Tryz.ntmps46 Tryz.results46 rfl rfl fun hO => ?_
 unfold U3 at hk
 refine A1 (A4 (pA (.bool _) (pE (gn (A1 (A4 ?_))))))
 refine pM (.int _ _) ?_
 refine pM (.int _ _) ?_
 refine AX ?_
 refine pM (.bool _) ?_
 refine AU (l1 := [_, _, _, _]) [11, 12, 13, 14] 14 (.bool (decide (aX0 ≥ aLo1) && decide (aX0 ≤ aHi2))) ?_ ?_
 ·refine bc (b := decide (aX0 ≥ aLo1)) (fun hg => ?_) (fun hg => ?_)
  ·refine AF hg (pM (.int _ _) (AF hg ?_))
   refine pM (.int _ _) (AF hg ?_)
   refine AX ?_
   refine Cv hg (.bool _) ?_
   exact pE (ek (by rw [hg]; rfl))
  ·refine AG hg (AG hg (AG hg (Cu hg (.bool _) ?_)))
   exact pE (ek (by rw [hg]; rfl))
 ·intro J
  refine pA (.bool _) (pE (gn (Av ?_)))
  cases hk; exact AT hO
def RR (aS0 : List Int) (aV1 : Int) : Int → Option (Int ⊕ Int) := fun s =>
 (bif decide (s < (aS0.length : Int)) then ((AL aS0 s).bind fun c2 => (bif (aV1 == c2) then ((some s).map Sum.inr) else some (.inl (BV (s + (1:Int)))))) else ((some (-1:Int)).map Sum.inr))
def eV (aS0 : List Int) (aV1 : Int) : Option Int :=
 (AJ (RR aS0 aV1) ((0:Int)))
theorem VM {aS0 : List Int} {aV1 : Int} {r : Int} {l1 : Nat} (hk : eV aS0 aV1 = some r) (hlk : 0 < lk.length := by simp) : Al Tryz.prog hh 84 [AN l1 0 aS0, iv aV1] H lk = some (iv r, H) := by
 refine AI Tryz.func84 rfl Tryz.ntmps84 Tryz.results84 rfl rfl fun hO => ?_
 unfold eV at hk
 refine A1 (A4 (pA (.int _ _) (pE (gn (A1 (A1 (A4 ?_)))))))
 refine pM (.lit _ _ _) ?_
 refine Ah DE ?_
 refine pM (.int _ _) (pE (gn (BQ ?_)))
 refine AD (F := RR aS0 aV1) (fun s S' => ∃ (J : Nat → V) (G : A3), A6 H G [] ∧ S' = ⟨CO [(0, AN l1 0 aS0), (1, iv aV1), (7, iv (aS0.length : Int)), (8, iv s)] J, G⟩) hk ⟨_, _, hO, sh⟩ ?_
 rintro x1 _ y1 ⟨J, G, hO, rfl⟩ hk hx1
 refine A1 (A4 (AX (pE (gn (A1 (Aq hk (fun hk => ?_) (fun hk => ?_)))))))
 ·refine As (gn (A1 (BQ (A1 (A4 (pM (.int _ _) ?_))))))
  refine pA (.int _ _) (pE (gn (A1 (A4 ?_))))
  refine pM (.int _ _) ?_
  refine pM (.lit _ _ _) ?_
  refine pM (.int _ _) (bk hk fun c2 hc2 hk => ?_)
  refine pX hc2 C8 DS ?_
  refine By (.int _ _) (D7 (lm := 0) (off := 0) hc2 BW) ?_
  refine AX (pE (gn (Aq hk (fun hk => ?_) (fun hk => ?_))))
  ·refine A1 (A4 (pM (.int _ _) ?_))
   refine pA (.int _ _) (pE (gn (Av (br (gr (gr (br (gr (have hk := lx hx1 hk; ?_)))))))))
   cases hk; exact AT hO
  ·refine As (bn (gn (A4 (AX ?_))))
   refine pM (.int _ _) (pE (gn ?_))
   cases hk; exact ⟨_, rfl, _, _, hO, sh⟩
 ·refine D6 (ge (ge (be (gn (have hk := lx hx1 hk; A1 (A4 (pA (.int _ _) (pE (gn (Av ?_))))))))))
  cases hk; exact AT hO
def aM (aS0 : List Int) (aV1 : Int) : Option Bool :=
 ((eV aS0 aV1).bind fun v1 => some (decide (v1 ≥ (0:Int))))
theorem Ku {aS0 : List Int} {aV1 : Int} {r : Bool} {l1 : Nat} (hk : aM aS0 aV1 = some r) (hlk : 0 < lk.length := by simp) : Al Tryz.prog hh 91 [AN l1 0 aS0, iv aV1] H lk = some (.bool r, H) := by
 refine AI Tryz.func91 rfl Tryz.ntmps91 Tryz.results91 rfl rfl fun hO => ?_
 unfold aM at hk
 refine A1 (A4 (pA (.bool _) (pE (gn (A1 (A4 ?_))))))
 refine pM (.lit _ _ _) ?_
 refine pM (.int _ _) (bk hk fun v1 hv1 hk => ?_)
 refine AR (fun _ => VM hv1) ?_
 refine AX ?_
 refine pA (.bool _) (pE (gn (Av ?_)))
 cases hk; exact AT hO
def NH (aL0 : List Int) (aN1 : Int) : Int → Option (Int ⊕ Bool) := fun s =>
 (bif decide (s < (aL0.length : Int)) then ((AL aL0 s).bind fun c2 => ((U3 c2 (0:Int) (BV (aN1 - (1:Int)))).bind fun v3 => ((bif !v3 then some true else ((SA aL0 (0:Int) s).bind fun y5 => ((aM y5 c2).bind fun v6 => some v6))).bind fun t4 => (bif t4 then ((some false).map Sum.inr) else some (.inl (BV (s + (1:Int)))))))) else ((some (decide ((aL0.length : Int) ≤ (30:Int)))).map Sum.inr))
def Tz (aL0 : List Int) (aN1 : Int) : Option Bool :=
 (AJ (NH aL0 aN1) ((0:Int)))
theorem Nt {aL0 : List Int} {aN1 : Int} {r : Bool} {l1 : Nat} (hk : Tz aL0 aN1 = some r) (hlk : 0 < lk.length := by simp) : Al Tryz.prog hh 130 [AN l1 0 aL0, iv aN1] H lk = some (.bool r, H) := by
 refine AI Tryz.func130 rfl Tryz.ntmps130 Tryz.results130 rfl rfl fun hO => ?_
 unfold Tz at hk
 refine A1 (A4 (pA (.bool _) (pE (gn (A1 (A1 (A4 ?_)))))))
 refine pM (.lit _ _ _) ?_
 refine Ah DE ?_
 refine pM (.int _ _) (pE (gn (BQ ?_)))
 refine AD (F := NH aL0 aN1) (fun s S' => ∃ (J : Nat → V) (G : A3), A6 H G [] ∧ S' = ⟨CO [(0, AN l1 0 aL0), (1, iv aN1), (7, AN l1 0 aL0), (8, iv (aL0.length : Int)), (9, iv s)] J, G⟩) hk ⟨_, _, hO, sh⟩ ?_
 rintro x1 _ y1 ⟨J, G, hO, rfl⟩ hk hx1
 refine A1 (A4 (AX (pE (gn (A1 (Aq hk (fun hk => ?_) (fun hk => ?_)))))))
 ·refine As (gn (A1 (BQ (A1 (A4 (pM (.int _ _) (bk hk fun c2 hc2 hk => ?_)))))))
  refine pX hc2 C8 DS ?_
  refine By (.int _ _) (D7 (lm := 0) (off := 0) hc2 BW) ?_
  refine pA (.int _ _) ?_
  refine pA (.int _ _) (pE (gn (A1 (A4 ?_))))
  refine pM (.int _ _) ?_
  refine pM (.int _ _) ?_
  refine AX (bk hk fun v3 hv3 hk => ?_)
  refine AR (fun _ => Ej hv3) ?_
  refine pU ?_
  refine pM (.bool _) (bk hk fun t4 ht hk => ?_)
  refine AU (l1 := [_, _, _, _, _, _]) [20, 21, 22, 23, 24, 25] 25 (.bool t4) ?_ ?_
  ·refine bc (b := !v3) (fun hg => ?_) (fun hg => ?_)
   ·replace hk := ct hg ht
    refine AG hg (AG hg (AG hg (AG hg (AG hg (Cv hg (.bool _) ?_)))))
    cases hk; exact pE ek
   ·replace hk := cf hg ht
    refine AF hg (pM (.lit _ _ _) (AF hg ?_))
    refine pM (.int _ _) (AF hg (bk hk fun y5 hy5 hk => ?_))
    refine kN hy5 C8 DS (AF hg ?_)
    refine pM (.int _ _) (AF hg (bk hk fun v6 hv6 hk => ?_))
    refine AR (fun _ => Ku hv6) ?_
    refine Cu hg (.bool _) ?_
    cases hk; exact pE ek
  ·intro J
   refine pE (gn (Aq hk (fun hk => ?_) (fun hk => ?_)))
   ·refine A1 (A4 (pA (.bool _) (pE (gn (Av (br (gr (gr (br (gr (have hk := lx hx1 hk; ?_)))))))))))
    cases hk; exact AT hO
   ·refine As (bn (gn (A4 (AX ?_))))
    refine pM (.int _ _) (pE (gn ?_))
    cases hk; exact ⟨_, rfl, _, _, hO, sh⟩
 ·refine D6 (ge (ge (be (gn (have hk := lx hx1 hk; A1 (A4 (pM (.lit _ _ _) ?_)))))))
  refine Ah DE ?_
  refine AX ?_
  refine pA (.bool _) (pE (gn (Av ?_)))
  cases hk; exact AT hO
def ZS (aX0 : Int) (aA1 : List Int) : Option Bool :=
 ((aM aA1 aX0).bind fun v1 => some v1)
theorem XR {aX0 : Int} {aA1 : List Int} {r : Bool} {l1 : Nat} {q0 : Nat} (hk : ZS aX0 aA1 = some r) (hq0 : H[q0]? = some (.cells 1 [AN l1 0 aA1])) (hlk : 0 < lk.length := by simp) : Al Tryz.prog hh 113 [iv aX0, .ptr q0 0] H lk = some (.bool r, H) := by
 refine AI Tryz.func113 rfl Tryz.ntmps113 Tryz.results113 rfl rfl fun hO => ?_
 unfold ZS at hk
 refine A1 (A4 (pA (.bool _) (pE (gn (A1 (A4 ?_))))))
 refine mA (.lit _ _ _) hO hq0 BC ?_
 refine pM (.int _ _) (bk hk fun v1 hv1 hk => ?_)
 refine AR (fun _ => Ku hv1) ?_
 refine pA (.bool _) (pE (gn (Av ?_)))
 cases hk; exact AT hO
def HD (aS0 : List Int) (aC1_0 : List Int) : Int → Option (Int ⊕ Int) := fun s =>
 (bif decide (s < (aS0.length : Int)) then ((AL aS0 s).bind fun c2 => ((ZS c2 aC1_0).bind fun v3 => (bif v3 then ((some s).map Sum.inr) else some (.inl (BV (s + (1:Int))))))) else ((some (-1:Int)).map Sum.inr))
def J6 (aS0 : List Int) (aC1_0 : List Int) : Option Int :=
 (AJ (HD aS0 aC1_0) ((0:Int)))
theorem R4 {aS0 : List Int} {aC1_0 : List Int} {r : Int} {l1 l2 : Nat} {q0 : Nat} (hk : J6 aS0 aC1_0 = some r) (hq0 : H[q0]? = some (.cells 1 [AN l2 0 aC1_0])) (hlk : 0 < lk.length := by simp) : Al Tryz.prog hh 127 [AN l1 0 aS0, .fn 113 [.ptr q0 0]] H lk = some (iv r, H) := by
 refine AI Tryz.func127 rfl Tryz.ntmps127 Tryz.results127 rfl rfl fun hO => ?_
 unfold J6 at hk
 refine A1 (A4 (pA (.int _ _) (pE (gn (A1 (A1 (A4 ?_)))))))
 refine pM (.lit _ _ _) ?_
 refine Ah DE ?_
 refine pM (.int _ _) (pE (gn (BQ ?_)))
 refine AD (F := HD aS0 aC1_0) (fun s S' => ∃ (J : Nat → V) (G : A3), A6 H G [] ∧ S' = ⟨CO [(0, AN l1 0 aS0), (1, .fn 113 [.ptr q0 0]), (7, iv (aS0.length : Int)), (8, iv s)] J, G⟩) hk ⟨_, _, hO, sh⟩ ?_
 rintro x1 _ y1 ⟨J, G, hO, rfl⟩ hk hx1
 refine A1 (A4 (AX (pE (gn (A1 (Aq hk (fun hk => ?_) (fun hk => ?_)))))))
 ·refine As (gn (A1 (BQ (A1 (A4 (pM (.int _ _) ?_))))))
  refine pA (.int _ _) (pE (gn (A1 (A4 ?_))))
  refine pM (.fn _ _) ?_
  refine pM (.lit _ _ _) ?_
  refine pM (.int _ _) (bk hk fun c2 hc2 hk => ?_)
  refine pX hc2 C8 DS ?_
  refine By (.int _ _) (D7 (lm := 0) (off := 0) hc2 BW) (bk hk fun v3 hv3 hk => ?_)
  refine AR (fun _ => XR hv3 (HM hO hq0)) (pE (gn (Aq hk (fun hk => ?_) (fun hk => ?_))))
  ·refine A1 (A4 (pM (.int _ _) ?_))
   refine pA (.int _ _) (pE (gn (Av (br (gr (gr (br (gr (have hk := lx hx1 hk; ?_)))))))))
   cases hk; exact AT hO
  ·refine As (bn (gn (A4 (AX ?_))))
   refine pM (.int _ _) (pE (gn ?_))
   cases hk; exact ⟨_, rfl, _, _, hO, sh⟩
 ·refine D6 (ge (ge (be (gn (have hk := lx hx1 hk; A1 (A4 (pA (.int _ _) (pE (gn (Av ?_))))))))))
  cases hk; exact AT hO
def Kp (aS0 : List Int) (aC1_0 : List Int) : Option Bool :=
 ((J6 aS0 aC1_0).bind fun v1 => some (decide (v1 ≥ (0:Int))))
theorem R2 {aS0 : List Int} {aC1_0 : List Int} {r : Bool} {l1 l2 : Nat} {q0 : Nat} (hk : Kp aS0 aC1_0 = some r) (hq0 : H[q0]? = some (.cells 1 [AN l2 0 aC1_0])) (hlk : 0 < lk.length := by simp) : Al Tryz.prog hh 112 [AN l1 0 aS0, .fn 113 [.ptr q0 0]] H lk = some (.bool r, H) := by
 refine AI Tryz.func112 rfl Tryz.ntmps112 Tryz.results112 rfl rfl fun hO => ?_
 unfold Kp at hk
 refine A1 (A4 (pA (.bool _) (pE (gn (A1 (A4 ?_))))))
 refine pM (.lit _ _ _) ?_
 refine pM (.fn _ _) (bk hk fun v1 hv1 hk => ?_)
 refine AR (fun _ => R4 hv1 (HM hO hq0)) ?_
 refine AX ?_
 refine pA (.bool _) (pE (gn (Av ?_)))
 cases hk; exact AT hO
def cN (aA0 : List Int) (aB1 : List Int) : Option Bool :=
 ((Kp aA0 aB1).bind fun v2 => some v2)
theorem NM {aA0 : List Int} {aB1 : List Int} {r : Bool} {l1 l2 : Nat} (hk : cN aA0 aB1 = some r) (hlk : 0 < lk.length := by simp) : Al Tryz.prog hh 90 [AN l1 0 aA0, AN l2 0 aB1] H lk = some (.bool r, H) := by
 refine AI Tryz.func90 rfl Tryz.ntmps90 Tryz.results90 rfl rfl fun hO => ?_
 unfold cN at hk
 refine A1 (A4 (Ba (cs := [_]) hO LU (fun b1 G hO => ?_)))
 refine pA (.bool _) (pE (gn (A1 (A4 ?_))))
 refine pM (.lit _ _ _) ?_
 refine m7 (vs := [_]) (bk hk fun v2 hv2 hk => ?_)
 refine AR (fun _ => R2 hv2 (hO.get (k := 0) rfl).1) ?_
 refine pA (.bool _) (pE (gn (Av ?_)))
 cases hk; exact AT hO
def Kt (aP0 : AQ) (aW1 : Bu) : Int → Option (Int ⊕ Bool) := fun s =>
 (bif decide (s < (aW1.AO.length : Int)) then ((AL aW1.AO s).bind fun c24 => ((AL aP0.A7 c24.Switch).bind fun c26 => ((aM aW1.A0 c26).bind fun v27 => (bif !v27 then ((some false).map Sum.inr) else some (.inl (BV (s + (1:Int)))))))) else (((cN aW1.A0 aW1.BY).bind fun v28 => some (!v28)).map Sum.inr))
def IB (aP0 : AQ) (aW1 : Bu) (z12 : List Aa) : ((List (Int × Bool)) × (List Aa) × Int) → Option (((List (Int × Bool)) × (List Aa) × Int) ⊕ Bool) := fun s =>
 (bif decide (s.2.2 < (z12.length : Int)) then ((AL s.2.1 s.2.2).bind fun c17 => ((U3 c17.Switch (0:Int) (BV ((aP0.A7.length : Int) - (1:Int)))).bind fun v20 => ((bif !v20 then some true else ((U3 c17.EZ (1:Int) (2:Int)).bind fun v22 => some (!v22))).bind fun t21 => (bif (t21 || (JM c17.Switch s.1 false)) then ((some false).map Sum.inr) else some (.inl (Py c17.Switch true s.1, s.2.1, BV (s.2.2 + (1:Int)))))))) else ((AJ (Kt aP0 aW1) ((0:Int))).map Sum.inr))
def Xa (aP0 : AQ) (aW1 : Bu) : Option Bool :=
 ((bif ((aW1.A0.length : Int) == (0:Int)) then some true else ((Tz aW1.A0 aP0.A0).bind fun v4 => some (!v4))).bind fun t3 => ((bif t3 then some true else ((Tz aW1.BY aP0.A0).bind fun v6 => some (!v6))).bind fun t5 => ((bif t5 then some true else ((Tz aW1.DF aP0.A0).bind fun v8 => some (!v8))).bind fun t7 => (bif ((t7 || decide ((aW1.AO.length : Int) > (30:Int))) || decide ((aW1.AB.length : Int) > (30:Int))) then some false else ((D5 16 ([] : List Aa) aW1.AO).bind fun z10 => ((D5 16 z10 aW1.AB).bind fun z12 => (AJ (IB aP0 aW1 z12) (([] : List (Int × Bool)), z12, (0:Int)))))))))
theorem Xb {aP0 : AQ} {aW1 : Bu} {r : Bool} {l1 l2 m3 l4 m5 l6 l7 l8 l9 l10 : Nat} (hk : Xa aP0 aW1 = some r) (hlk : 0 < lk.length := by simp) : Al Tryz.prog hh 122 [.agg (Aj l1 0 l2 m3 l4 m5 aP0), .agg (Cq l6 0 l7 0 l8 0 l9 0 l10 0 aW1)] H lk = some (.bool r, H) := by
 refine AI Tryz.func122 rfl Tryz.ntmps122 Tryz.results122 rfl rfl fun hO => ?_
 unfold Xa at hk
 refine A1 (A4 (Ba (cs := [_, _, _, _, _]) hO CH (fun b1 G hO => ?_)))
 refine Ba (cs := [_, _, _, _, _]) hO B1 (fun b2 G hO => ?_)
 refine pA (.bool _) (pE (gn (A1 (A1 (A4 ?_)))))
 refine Au BL hO 0 (.lit _ _ _) BC ?_
 refine Ah DE ?_
 refine AX ?_
 refine pM (.bool _) (bk hk fun t3 ht hk => ?_)
 refine AU (l1 := [_, _, _, _, _, _, _]) [15, 16, 17, 18, 19, 20, 21] 21 (.bool t3) ?_ ?_
 ·refine bc (b := ((aW1.A0.length : Int) == (0:Int))) (fun hg => ?_) (fun hg => ?_)
  ·replace hk := ct hg ht
   refine AG hg (AG hg (AG hg (AG hg (AG hg (AG hg (Cv hg (.bool _) ?_))))))
   cases hk; exact pE ek
  ·replace hk := cf hg ht
   refine AF hg (pF BL (AF hg ?_))
   refine CP hO 0 (.lit _ _ _) BC (AF hg ?_)
   refine pF EO (AF hg ?_)
   refine CP hO 1 (.int _ _) BW (AF hg (bk hk fun v4 hv4 hk => ?_))
   refine AR (fun _ => Nt hv4) (AF hg ?_)
   refine pU ?_
   refine Cu hg (.bool _) ?_
   cases hk; exact pE ek
 ·intro J
  refine pM (.bool _) (bk hk fun t5 ht hk => ?_)
  refine AU (l1 := [_, _, _, _, _, _, _]) [23, 24, 25, 26, 27, 28, 29] 29 (.bool t5) ?_ ?_
  ·refine bc (b := t3) (fun hg => ?_) (fun hg => ?_)
   ·replace hk := ct hg ht
    refine AG hg (AG hg (AG hg (AG hg (AG hg (AG hg (Cv hg (.bool _) ?_))))))
    cases hk; exact pE ek
   ·replace hk := cf hg ht
    refine AF hg (pF DY (AF hg ?_))
    refine CP hO 0 (.lit _ _ _) BC (AF hg ?_)
    refine pF EO (AF hg ?_)
    refine CP hO 1 (.int _ _) BW (AF hg (bk hk fun v6 hv6 hk => ?_))
    refine AR (fun _ => Nt hv6) (AF hg ?_)
    refine pU ?_
    refine Cu hg (.bool _) ?_
    cases hk; exact pE ek
  ·intro J
   refine pM (.bool _) (bk hk fun t7 ht hk => ?_)
   refine AU (l1 := [_, _, _, _, _, _, _]) [31, 32, 33, 34, 35, 36, 37] 37 (.bool t7) ?_ ?_
   ·refine bc (b := t5) (fun hg => ?_) (fun hg => ?_)
    ·replace hk := ct hg ht
     refine AG hg (AG hg (AG hg (AG hg (AG hg (AG hg (Cv hg (.bool _) ?_))))))
     cases hk; exact pE ek
    ·replace hk := cf hg ht
     refine AF hg (pF Jt (AF hg ?_))
     refine CP hO 0 (.lit _ _ _) BC (AF hg ?_)
     refine pF EO (AF hg ?_)
     refine CP hO 1 (.int _ _) BW (AF hg (bk hk fun v8 hv8 hk => ?_))
     refine AR (fun _ => Nt hv8) (AF hg ?_)
     refine pU ?_
     refine Cu hg (.bool _) ?_
     cases hk; exact pE ek
   ·intro J
    refine pM (.bool _) ?_
    refine AU (l1 := [_, _, _, _, _]) [39, 40, 41, 42, 43] 43 (.bool (t7 || decide ((aW1.AO.length : Int) > (30:Int)))) ?_ ?_
    ·refine bc (b := t7) (fun hg => ?_) (fun hg => ?_)
     ·refine AG hg (AG hg (AG hg (AG hg (Cv hg (.bool _) ?_))))
      exact pE (ek (by rw [hg]; rfl))
     ·refine AF hg (pF EB (AF hg ?_))
      refine CP hO 0 (.lit _ _ _) Df (AF hg ?_)
      refine Ah FC (AF hg ?_)
      refine AX ?_
      refine Cu hg (.bool _) ?_
      exact pE (ek (by rw [hg]; rfl))
    ·intro J
     refine pM (.bool _) ?_
     refine AU (l1 := [_, _, _, _, _]) [45, 46, 47, 48, 49] 49 (.bool ((t7 || decide ((aW1.AO.length : Int) > (30:Int))) || decide ((aW1.AB.length : Int) > (30:Int)))) ?_ ?_
     ·refine bc (b := (t7 || decide ((aW1.AO.length : Int) > (30:Int)))) (fun hg => ?_) (fun hg => ?_)
      ·refine AG hg (AG hg (AG hg (AG hg (Cv hg (.bool _) ?_))))
       exact pE (ek (by rw [hg]; rfl))
      ·refine AF hg (pF EX (AF hg ?_))
       refine CP hO 0 (.lit _ _ _) Df (AF hg ?_)
       refine Ah FC (AF hg ?_)
       refine AX ?_
       refine Cu hg (.bool _) ?_
       exact pE (ek (by rw [hg]; rfl))
     ·intro J
      refine pE (gn (Aq hk (fun hk => ?_) (fun hk => ?_)))
      ·refine A1 (A4 (pA (.bool _) (pE (gn (Av (gr ?_))))))
       cases hk; exact AT hO
      ·refine As (gn (A1 (A4 (oF Int Bool hO (fun b9 G hO => ?_)))))
       refine pA (.FF _) (pE (gn (A1 (A1 ?_))))
       refine BG [(0, true), (1, true), (3, true), (4, true), (7, true), (2, true), (5, false), (6, false)] [_, _, _, _, _, _, _, _] (by decide +kernel) (by rfl) ?_
       refine Au EB hO 1 (.lit _ _ _) Df ?_
       refine Au EX hO 1 (.lit _ _ _) Df ?_
       refine pM (.int _ _) (bk hk fun z10 hz10 hk => ?_)
       refine YW (xs := aW1.AO) hO hz10 Tryz.func114 dD Dl BD TO FZ (fun o10 G hno10 hO => bk hk fun z12 hz12 hk => ?_)
       refine Ta (xs := z10) hO 0 hz12 (Hh _ aW1.AB) Dl BD TO FZ Dl rfl (fun o12 G hno12 hO => ?_)
       refine kK (W1 hO (j := 0) rfl) FC (pE (gn (BQ ?_)))
       refine AD (F := IB aP0 aW1 z12) (fun s S' => ∃ (o14 : V) (J : Nat → V) (G : A3), A6 H G [.Ad b9 (.mp (BJ s.1)), .Ad b2 (.cells 5 (Cq l6 0 l7 0 l8 0 l9 0 l10 0 aW1)), .Ad b1 (.cells 5 (Aj l1 0 l2 m3 l4 m5 aP0)), .own o14 lk.length 2 s.2.1.length (A9 0 s.2.1)] ∧ S' = ⟨CO [(2, .ptr b1 0), (3, .ptr b2 0), (5, .FF b9), (56, o14), (57, iv (z12.length : Int)), (58, iv s.2.2)] J, G⟩) hk ⟨o12, _, _, (pk hO [1, 2, 3, 0]), sh⟩ ?_
       rintro ⟨x13, x14, x16⟩ _ y1 ⟨o14, J, G, hO, rfl⟩ hk hx1
       refine A1 (A4 (AX (pE (gn (A1 (Aq hk (fun hk => ?_) (fun hk => ?_)))))))
       ·refine As (gn (A1 (BQ (A1 (A4 (bk hk fun c17 hc17 hk => oI hO 3 hc17 Dl BD (fun lv18 => ?_)))))))
        refine By (.agg [_, _]) (GG (lm := 0) (off := 0) hc17 GA BD) (C7 hO BD FZ (fun b19 G hO => ?_))
        refine Cl (xs := [_, _]) hO 0 BD rfl (fun G hO => pE (gn (A1 (A1 (A4 ?_)))))
        refine Au CR hO 0 (.int _ _) BW ?_
        refine Au Dg hO 3 (.lit _ _ _) BC ?_
        refine Ah DE ?_
        refine AX (bk hk fun v20 hv20 hk => ?_)
        refine AR (fun _ => Ej hv20) ?_
        refine pU ?_
        refine pM (.bool _) (bk hk fun t21 ht hk => ?_)
        refine AU (l1 := [_, _, _, _, _]) [71, 72, 73, 74, 75] 75 (.bool t21) ?_ ?_
        ·refine bc (b := !v20) (fun hg => ?_) (fun hg => ?_)
         ·replace hk := ct hg ht
          refine AG hg (AG hg (AG hg (AG hg (Cv hg (.bool _) ?_))))
          cases hk; exact pE ek
         ·replace hk := cf hg ht
          refine AF hg (pF EC (AF hg ?_))
          refine CP hO 0 (.int _ _) BW (AF hg (bk hk fun v22 hv22 hk => ?_))
          refine AR (fun _ => Ej hv22) (AF hg ?_)
          refine pU ?_
          refine Cu hg (.bool _) ?_
          cases hk; exact pE ek
        ·intro J
         refine pM (.bool _) ?_
         refine AU (l1 := [_, _, _, _, _]) [77, 78, 79, 80, 81] 81 (.bool (t21 || (JM c17.Switch x13 false))) ?_ ?_
         ·refine bc (b := t21) (fun hg => ?_) (fun hg => ?_)
          ·refine AG hg (AG hg (AG hg (AG hg (Cv hg (.bool _) ?_))))
           exact pE (ek (by rw [hg]; rfl))
          ·refine AF hg (pM (.FF _) (AF hg ?_))
           refine pF CR (AF hg ?_)
           refine CP hO 0 (.int _ _) BW (AF hg ?_)
           refine oE c17.Switch (false : Bool) (hO.get (k := 1) rfl).1 dG VQ oJ ?_
           refine Cu hg (.bool _) ?_
           exact pE (ek (by rw [hg]; rfl))
         ·intro J
          refine pE (gn (Aq hk (fun hk => ?_) (fun hk => ?_)))
          ·refine A1 (A4 (pA (.bool _) (pE (gn (Av (gr (br (gr (gr (br (gr (have hk := lx hx1 hk; ?_))))))))))))
           cases hk; exact AT hO
          ·refine As (gn (A4 (pM (.FF _) ?_)))
           refine Au CR hO 0 (.int _ _) BW ?_
           refine oH hO 1 c17.Switch true dG VQ rfl (fun G hO => pE (bn (gn (A4 ?_))))
           refine AX ?_
           refine pM (.int _ _) (pE (gn ?_))
           cases hk; exact ⟨_, rfl, o14, _, _, (pk hO [1, 2, 3, 4]), sh⟩
       ·refine D6 (ge (ge (be (gn (have hk := lx hx1 hk; A1 (A1 (A4 (Au EB hO 1 (.lit _ _ _) Df ?_))))))))
        refine Ah FC ?_
        refine pM (.int _ _) (pE (gn (BQ ?_)))
        refine AD (F := Kt aP0 aW1) (fun s S' => ∃ (J : Nat → V) (G : A3), A6 H G [.Ad b2 (.cells 5 (Cq l6 0 l7 0 l8 0 l9 0 l10 0 aW1)), .Ad b1 (.cells 5 (Aj l1 0 l2 m3 l4 m5 aP0))] ∧ S' = ⟨CO [(2, .ptr b1 0), (3, .ptr b2 0), (87, AN l7 0 aW1.AO), (88, iv (aW1.AO.length : Int)), (89, iv s)] J, G⟩) hk ⟨_, _, (pk hO [1, 2]), sh⟩ ?_
        rintro x23 _ y1 ⟨J, G, hO, rfl⟩ hk hx1
        refine A1 (A4 (AX (pE (gn (A1 (Aq hk (fun hk => ?_) (fun hk => ?_)))))))
        ·refine As (gn (A1 (BQ (A1 (A4 (bk hk fun c24 hc24 hk => pX hc24 Dl BD ?_))))))
         refine By (.agg [_, _]) (GG (lm := 0) (off := 0) hc24 GA BD) (C7 hO BD FZ (fun b25 G hO => ?_))
         refine Cl (xs := [_, _]) hO 0 BD rfl (fun G hO => pE (gn (A1 ?_)))
         refine BG [(0, true), (1, true), (2, true), (3, true), (4, true), (5, true), (6, true), (7, true), (8, false), (9, false)] [_, _, _, _, _, _, _, _, _, _] (by decide +kernel) (by rfl) ?_
         refine Au BL hO 1 (.lit _ _ _) BC ?_
         refine Au Dg hO 2 (.lit _ _ _) BC ?_
         refine Au CR hO 0 (.int _ _) BW (bk hk fun c26 hc26 hk => ?_)
         refine pX hc26 C8 DS ?_
         refine By (.int _ _) (D7 (lm := 0) (off := 0) hc26 BW) (bk hk fun v27 hv27 hk => ?_)
         refine AR (fun _ => Ku hv27) ?_
         refine pU (pE (gn (Aq hk (fun hk => ?_) (fun hk => ?_))))
         ·refine A1 (A4 (pA (.bool _) (pE (gn (Av (br (gr (gr (br (gr (have hk := lx hx1 hk; ?_)))))))))))
          cases hk; exact AT hO
         ·refine As (bn (gn (A4 (AX ?_))))
          refine pM (.int _ _) (pE (gn ?_))
          cases hk; exact ⟨_, rfl, _, _, (pk hO [1, 2]), sh⟩
        ·refine D6 (ge (ge (be (gn (have hk := lx hx1 hk; A1 (A4 (Au BL hO 0 (.lit _ _ _) BC ?_)))))))
         refine Au DY hO 0 (.lit _ _ _) BC (bk hk fun v28 hv28 hk => ?_)
         refine AR (fun _ => NM hv28) ?_
         refine pU ?_
         refine pA (.bool _) (pE (gn (Av ?_)))
         cases hk; exact AT hO
def N7 (aP0 : AQ) (x15 : Int) : Int → Option (Int ⊕ (Int ⊕ Be)) := fun s =>
 (bif decide (s < (aP0.A5.length : Int)) then ((AL aP0.BX x15).bind fun c17 => ((AL c17 s).bind fun c18 => ((AL aP0.BX s).bind fun c19 => ((AL c19 x15).bind fun c20 => ((bif !(c18 == c20) then some true else ((bif (x15 != s) then ((AL aP0.BX x15).bind fun c23 => ((AL c23 s).bind fun c24 => some (!c24))) else some false).bind fun t22 => ((bif t22 then ((AL aP0.A5 x15).bind fun c26 => ((AL aP0.A5 s).bind fun c27 => ((cN c26.A0 c27.A0).bind fun v28 => some v28))) else some false).bind fun t25 => some t25))).bind fun t21 => (bif t21 then (((some ({ Code := (5:Int), At := x15 } : Be)).map Sum.inr).map Sum.inr) else some (.inl (BV (s + (1:Int)))))))))) else ((some (.inl (BV (x15 + (1:Int))))).map Sum.inr))
def HC (aP0 : AQ) : Int → Option (Int ⊕ Be) := fun s =>
 (bif decide (s < (aP0.A5.length : Int)) then (AJ (N7 aP0 s) ((0:Int))) else ((some ({ Code := 0, At := 0 } : Be)).map Sum.inr))
def Jh (aP0 : AQ) : Int → Option (Int ⊕ Be) := fun s =>
 (bif decide (s < (aP0.BX.length : Int)) then ((AL aP0.BX s).bind fun c14 => (bif ((c14.length : Int) != (aP0.A5.length : Int)) then ((some ({ Code := (4:Int), At := s } : Be)).map Sum.inr) else some (.inl (BV (s + (1:Int)))))) else ((AJ (HC aP0) ((0:Int))).map Sum.inr))
def Jg (aP0 : AQ) : Int → Option (Int ⊕ Be) := fun s =>
 (bif decide (s < (aP0.A5.length : Int)) then ((AL aP0.A5 s).bind fun c10 => ((Xa aP0 c10).bind fun v12 => (bif !v12 then ((some ({ Code := (3:Int), At := s } : Be)).map Sum.inr) else some (.inl (BV (s + (1:Int))))))) else ((bif ((aP0.BX.length : Int) != (aP0.A5.length : Int)) then some ({ Code := (4:Int), At := (0:Int) } : Be) else (AJ (Jh aP0) ((0:Int)))).map Sum.inr))
def I8 (aP0 : AQ) : Int → Option (Int ⊕ Be) := fun s =>
 (bif decide (s < (aP0.A7.length : Int)) then ((AL aP0.A7 s).bind fun c7 => ((U3 c7 (0:Int) (BV (aP0.A0 - (1:Int)))).bind fun v8 => (bif !v8 then ((some ({ Code := (2:Int), At := s } : Be)).map Sum.inr) else some (.inl (BV (s + (1:Int))))))) else ((AJ (Jg aP0) ((0:Int))).map Sum.inr))
def XM (aP0 : AQ) : Option Be :=
 ((U3 aP0.A0 (1:Int) (60:Int)).bind fun v3 => ((bif !v3 then some true else ((U3 aP0.ED (1:Int) (300:Int)).bind fun v5 => some (!v5))).bind fun t4 => (bif ((t4 || decide ((aP0.A7.length : Int) > (40:Int))) || decide ((aP0.A5.length : Int) > (100:Int))) then some ({ Code := (1:Int), At := (0:Int) } : Be) else (AJ (I8 aP0) ((0:Int))))))
theorem XN {aP0 : AQ} {r : Be} {l1 l2 m3 l4 m5 : Nat} (hk : XM aP0 = some r) (hlk : 0 < lk.length := by simp) : Al Tryz.prog hh 107 [.agg (Aj l1 0 l2 m3 l4 m5 aP0)] H lk = some (.agg [iv r.Code, iv r.At], H) := by
 refine AI Tryz.func107 rfl Tryz.ntmps107 Tryz.results107 rfl rfl fun hO => ?_
 unfold XM at hk
 refine A1 (A4 (Ba (cs := [_, _, _, _, _]) hO CH (fun b1 G hO => C7 hO D2 Fa (fun b2 G hO => pE (gn (A1 (A1 (A4 ?_))))))))
 refine Au EO hO 1 (.int _ _) BW (bk hk fun v3 hv3 hk => ?_)
 refine AR (fun _ => Ej hv3) ?_
 refine pU ?_
 refine pM (.bool _) (bk hk fun t4 ht hk => ?_)
 refine AU (l1 := [_, _, _, _, _]) [16, 17, 18, 19, 20] 20 (.bool t4) ?_ ?_
 ·refine bc (b := !v3) (fun hg => ?_) (fun hg => ?_)
  ·replace hk := ct hg ht
   refine AG hg (AG hg (AG hg (AG hg (Cv hg (.bool _) ?_))))
   cases hk; exact pE ek
  ·replace hk := cf hg ht
   refine AF hg (pF KY (AF hg ?_))
   refine CP hO 1 (.int _ _) BW (AF hg (bk hk fun v5 hv5 hk => ?_))
   refine AR (fun _ => Ej hv5) (AF hg ?_)
   refine pU ?_
   refine Cu hg (.bool _) ?_
   cases hk; exact pE ek
 ·intro J
  refine pM (.bool _) ?_
  refine AU (l1 := [_, _, _, _, _]) [22, 23, 24, 25, 26] 26 (.bool (t4 || decide ((aP0.A7.length : Int) > (40:Int)))) ?_ ?_
  ·refine bc (b := t4) (fun hg => ?_) (fun hg => ?_)
   ·refine AG hg (AG hg (AG hg (AG hg (Cv hg (.bool _) ?_))))
    exact pE (ek (by rw [hg]; rfl))
   ·refine AF hg (pF Dg (AF hg ?_))
    refine CP hO 1 (.lit _ _ _) BC (AF hg ?_)
    refine Ah DE (AF hg ?_)
    refine AX ?_
    refine Cu hg (.bool _) ?_
    exact pE (ek (by rw [hg]; rfl))
  ·intro J
   refine pM (.bool _) ?_
   refine AU (l1 := [_, _, _, _, _]) [28, 29, 30, 31, 32] 32 (.bool ((t4 || decide ((aP0.A7.length : Int) > (40:Int))) || decide ((aP0.A5.length : Int) > (100:Int)))) ?_ ?_
   ·refine bc (b := (t4 || decide ((aP0.A7.length : Int) > (40:Int)))) (fun hg => ?_) (fun hg => ?_)
    ·refine AG hg (AG hg (AG hg (AG hg (Cv hg (.bool _) ?_))))
     exact pE (ek (by rw [hg]; rfl))
    ·refine AF hg (pF Bk (AF hg ?_))
     refine CP hO 1 (.lit _ _ _) Du (AF hg ?_)
     refine Ah I2 (AF hg ?_)
     refine AX ?_
     refine Cu hg (.bool _) ?_
     exact pE (ek (by rw [hg]; rfl))
   ·intro J
    refine pE (gn (Aq hk (fun hk => ?_) (fun hk => ?_)))
    ·refine A1 (A4 (Q2 [_, _] Fa Gx ?_))
     refine Cl (xs := [_, _]) hO 0 D2 rfl (fun G hO => pE (gn (Av (gr ?_))))
     replace hk := Option.some.inj hk; subst hk; exact Gz hO (Dr (n := 2) (DN (CB _ _) (DN (CB _ _) (Ho)))) (FW hO 0 [_, _] HQ D2 Dt)
    ·refine As (gn (A1 (A1 (A4 (Au Dg hO 1 (.lit _ _ _) BC ?_)))))
     refine Ah DE ?_
     refine pM (.int _ _) (pE (gn (BQ ?_)))
     refine AD (F := I8 aP0) (fun s S' => ∃ (J : Nat → V) (G : A3), A6 H G [.Ad b2 (.cells 2 [iv 0, iv 0]), .Ad b1 (.cells 5 (Aj l1 0 l2 m3 l4 m5 aP0))] ∧ S' = ⟨CO [(1, .ptr b1 0), (2, .ptr b2 0), (35, AN l1 0 aP0.A7), (36, iv (aP0.A7.length : Int)), (37, iv s)] J, G⟩) hk ⟨_, _, hO, sh⟩ ?_
     rintro x6 _ y1 ⟨J, G, hO, rfl⟩ hk hx1
     refine A1 (A4 (AX (pE (gn (A1 (Aq hk (fun hk => ?_) (fun hk => ?_)))))))
     ·refine As (gn (A1 (BQ (A1 (A4 (pM (.int _ _) (bk hk fun c7 hc7 hk => ?_)))))))
      refine pX hc7 C8 DS ?_
      refine By (.int _ _) (D7 (lm := 0) (off := 0) hc7 BW) ?_
      refine pA (.int _ _) ?_
      refine pA (.int _ _) (pE (gn (A1 (A4 ?_))))
      refine pM (.int _ _) ?_
      refine Au EO hO 1 (.int _ _) BW ?_
      refine AX (bk hk fun v8 hv8 hk => ?_)
      refine AR (fun _ => Ej hv8) ?_
      refine pU (pE (gn (Aq hk (fun hk => ?_) (fun hk => ?_))))
      ·refine A1 (A4 (pM (.int _ _) ?_))
       refine Q2 [_, _] Fa Gx ?_
       refine Cl (xs := [_, _]) hO 0 D2 rfl (fun G hO => pE (gn (Av (br (gr (gr (br (gr (have hk := lx hx1 hk; ?_)))))))))
       replace hk := Option.some.inj hk; subst hk; exact Gz hO (Dr (n := 2) (DN (CB _ _) (DN (CB _ _) (Ho)))) (FW hO 0 [_, _] HQ D2 Dt)
      ·refine As (bn (gn (A4 (AX ?_))))
       refine pM (.int _ _) (pE (gn ?_))
       cases hk; exact ⟨_, rfl, _, _, hO, sh⟩
     ·refine D6 (ge (ge (be (gn (have hk := lx hx1 hk; A1 (A1 (A4 (Au Bk hO 1 (.lit _ _ _) Du ?_))))))))
      refine Ah I2 ?_
      refine pM (.int _ _) (pE (gn (BQ ?_)))
      refine AD (F := Jg aP0) (fun s S' => ∃ (J : Nat → V) (G : A3), A6 H G [.Ad b2 (.cells 2 [iv 0, iv 0]), .Ad b1 (.cells 5 (Aj l1 0 l2 m3 l4 m5 aP0))] ∧ S' = ⟨CO [(1, .ptr b1 0), (2, .ptr b2 0), (52, AN l2 m3 aP0.A5), (53, iv (aP0.A5.length : Int)), (54, iv s)] J, G⟩) hk ⟨_, _, hO, sh⟩ ?_
      rintro x9 _ y1 ⟨J, G, hO, rfl⟩ hk hx1
      refine A1 (A4 (AX (pE (gn (A1 (Aq hk (fun hk => ?_) (fun hk => ?_)))))))
      ·refine As (gn (A1 (BQ (A1 (A4 (pM (.int _ _) (bk hk fun c10 hc10 hk => ?_)))))))
       refine pX hc10 Ex B1 ?_
       refine By (.agg [_, _, _, _, _]) (GG (lm := m3) (off := 0) hc10 FB B1) (C7 hO B1 Ir (fun b11 G hO => ?_))
       refine pA (.int _ _) ?_
       refine Cl (xs := [_, _, _, _, _]) hO 0 B1 rfl (fun G hO => pE (gn (A1 (A4 ?_))))
       refine Dw hO 2 [_, _, _, _, _] FG CH ?_
       refine Dw hO 0 [_, _, _, _, _] FB B1 (bk hk fun v12 hv12 hk => ?_)
       refine AR (fun _ => Xb hv12) ?_
       refine pU (pE (gn (Aq hk (fun hk => ?_) (fun hk => ?_))))
       ·refine A1 (A4 (pM (.int _ _) ?_))
        refine Q2 [_, _] Fa Gx ?_
        refine Cl (xs := [_, _]) hO 1 D2 rfl (fun G hO => pE (gn (Av (br (gr (gr (br (gr (have hk := lx hx1 hk; ?_)))))))))
        replace hk := Option.some.inj hk; subst hk; exact Gz hO (Dr (n := 2) (DN (CB _ _) (DN (CB _ _) (Ho)))) (FW hO 1 [_, _] HQ D2 Dt)
       ·refine As (bn (gn (A4 (AX ?_))))
        refine pM (.int _ _) (pE (gn ?_))
        cases hk; exact ⟨_, rfl, _, _, (pk hO [1, 2]), sh⟩
      ·refine D6 (ge (ge (be (gn (have hk := lx hx1 hk; A1 (A1 (A4 (Au EP hO 1 (.lit _ _ _) It ?_))))))))
       refine Ah MX ?_
       refine Au Bk hO 1 (.lit _ _ _) Du ?_
       refine Ah I2 ?_
       refine AX (pE (gn (Aq hk (fun hk => ?_) (fun hk => ?_))))
       ·refine A1 (A4 (Q2 [_, _] Fa Gx ?_))
        refine Cl (xs := [_, _]) hO 0 D2 rfl (fun G hO => pE (gn (Av (gr ?_))))
        replace hk := Option.some.inj hk; subst hk; exact Gz hO (Dr (n := 2) (DN (CB _ _) (DN (CB _ _) (Ho)))) (FW hO 0 [_, _] HQ D2 Dt)
       ·refine As (gn (A1 (A1 (A4 (Au EP hO 1 (.lit _ _ _) It ?_)))))
        refine Ah MX ?_
        refine pM (.int _ _) (pE (gn (BQ ?_)))
        refine AD (F := Jh aP0) (fun s S' => ∃ (J : Nat → V) (G : A3), A6 H G [.Ad b2 (.cells 2 [iv 0, iv 0]), .Ad b1 (.cells 5 (Aj l1 0 l2 m3 l4 m5 aP0))] ∧ S' = ⟨CO [(1, .ptr b1 0), (2, .ptr b2 0), (75, AN l4 m5 aP0.BX), (76, iv (aP0.BX.length : Int)), (77, iv s)] J, G⟩) hk ⟨_, _, hO, sh⟩ ?_
        rintro x13 _ y1 ⟨J, G, hO, rfl⟩ hk hx1
        refine A1 (A4 (AX (pE (gn (A1 (Aq hk (fun hk => ?_) (fun hk => ?_)))))))
        ·refine As (gn (A1 (BQ (A1 (A4 (pM (.int _ _) (bk hk fun c14 hc14 hk => ?_)))))))
         refine pX hc14 Iu GI ?_
         refine By (.lit _ _ _) (D7 (lm := m5) (off := 0) hc14 CC) ?_
         refine pA (.int _ _) ?_
         refine pA (.lit _ _ _) (pE (gn (A1 (A4 ?_))))
         refine pM (.lit _ _ _) ?_
         refine Ah Hd ?_
         refine Au Bk hO 1 (.lit _ _ _) Du ?_
         refine Ah I2 ?_
         refine AX (pE (gn (Aq hk (fun hk => ?_) (fun hk => ?_))))
         ·refine A1 (A4 (pM (.int _ _) ?_))
          refine Q2 [_, _] Fa Gx ?_
          refine Cl (xs := [_, _]) hO 0 D2 rfl (fun G hO => pE (gn (Av (br (gr (gr (br (gr (have hk := lx hx1 hk; ?_)))))))))
          replace hk := Option.some.inj hk; subst hk; exact Gz hO (Dr (n := 2) (DN (CB _ _) (DN (CB _ _) (Ho)))) (FW hO 0 [_, _] HQ D2 Dt)
         ·refine As (bn (gn (A4 (AX ?_))))
          refine pM (.int _ _) (pE (gn ?_))
          cases hk; exact ⟨_, rfl, _, _, hO, sh⟩
        ·refine D6 (ge (ge (be (gn (have hk := lx hx1 hk; A1 (A1 (A4 (Au Bk hO 1 (.lit _ _ _) Du ?_))))))))
         refine Ah I2 ?_
         refine pM (.int _ _) (pE (gn (BQ ?_)))
         refine AD (F := HC aP0) (fun s S' => ∃ (J : Nat → V) (G : A3), A6 H G [.Ad b2 (.cells 2 [iv 0, iv 0]), .Ad b1 (.cells 5 (Aj l1 0 l2 m3 l4 m5 aP0))] ∧ S' = ⟨CO [(1, .ptr b1 0), (2, .ptr b2 0), (93, iv (aP0.A5.length : Int)), (94, iv s)] J, G⟩) hk ⟨_, _, hO, sh⟩ ?_
         rintro x15 _ y1 ⟨J, G, hO, rfl⟩ hk hx1
         refine A1 (A4 (AX (pE (gn (A1 (Aq hk (fun hk => ?_) (fun hk => ?_)))))))
         ·refine As (gn (A1 (BQ (A1 (A4 (pM (.int _ _) ?_))))))
          refine pA (.int _ _) (pE (gn (A1 (A4 ?_))))
          refine Au Bk hO 1 (.lit _ _ _) Du ?_
          refine Ah I2 ?_
          refine pM (.int _ _) (pE (gn (BQ ?_)))
          refine AD (F := N7 aP0 x15) (fun s S' => ∃ (J : Nat → V) (G : A3), A6 H G [.Ad b2 (.cells 2 [iv 0, iv 0]), .Ad b1 (.cells 5 (Aj l1 0 l2 m3 l4 m5 aP0))] ∧ S' = ⟨CO [(1, .ptr b1 0), (2, .ptr b2 0), (9, iv x15), (93, iv (aP0.A5.length : Int)), (94, iv x15), (99, iv (aP0.A5.length : Int)), (100, iv s)] J, G⟩) hk ⟨_, _, hO, sh⟩ ?_
          rintro x16 _ y2 ⟨J, G, hO, rfl⟩ hk hx2
          refine A1 (A4 (AX (pE (gn (A1 (Aq hk (fun hk => ?_) (fun hk => ?_)))))))
          ·refine As (gn (A1 (BQ (A1 (A4 (pM (.int _ _) ?_))))))
           refine pA (.int _ _) (pE (gn (A1 ?_)))
           refine BG [(0, true), (1, true), (2, true), (3, true), (4, true), (5, true), (6, true), (7, true), (8, true), (9, true), (10, true), (11, true), (12, true), (13, true), (14, true), (15, true), (16, false), (17, false), (18, false), (19, false), (20, false), (21, false), (22, false), (23, true), (24, true), (25, false), (26, true), (27, true), (28, false), (29, true), (30, false), (31, false), (32, false), (33, true), (34, true), (35, true), (36, true), (37, true), (38, true), (39, true), (40, true), (41, true), (42, true), (43, true), (44, true), (45, false), (46, false), (47, false)] [_, _, _, _, _, _, _, _, _, _, _, _, _, _, _, _, _, _, _, _, _, _, _, _, _, _, _, _, _, _, _, _, _, _, _, _, _, _, _, _, _, _, _, _, _, _, _, _] (by decide +kernel) (by rfl) ?_
           refine Au EP hO 1 (.lit _ _ _) It ?_
           refine pM (.int _ _) (bk hk fun c17 hc17 hk => ?_)
           refine pX hc17 Iu GI ?_
           refine By (.lit _ _ _) (D7 (lm := m5) (off := 0) hc17 CC) ?_
           refine pM (.int _ _) (bk hk fun c18 hc18 hk => ?_)
           refine pX hc18 Cn FU ?_
           refine By (.bool _) (D7 (lm := 0) (off := 0) hc18 Fv) ?_
           refine Au EP hO 1 (.lit _ _ _) It ?_
           refine pM (.int _ _) (bk hk fun c19 hc19 hk => ?_)
           refine pX hc19 Iu GI ?_
           refine By (.lit _ _ _) (D7 (lm := m5) (off := 0) hc19 CC) ?_
           refine pM (.int _ _) (bk hk fun c20 hc20 hk => ?_)
           refine pX hc20 Cn FU ?_
           refine By (.bool _) (D7 (lm := 0) (off := 0) hc20 Fv) ?_
           refine bG Tryz.underlying4 ?_
           refine pM (.bool _) (bk hk fun t21 ht hk => ?_)
           refine AU (l1 := [_, _, _, _, _, _, _, _, _, _, _, _, _, _, _, _, _, _, _, _, _, _, _, _, _, _, _, _, _, _]) [121, 122, 123, 124, 125, 126, 127, 128, 129, 130, 131, 132, 133, 134, 135, 136, 137, 138, 139, 140, 141, 142, 143, 144, 145, 146, 147, 148, 149, 150] 150 (.bool t21) ?_ ?_
           ·refine bc (b := !(c18 == c20)) (fun hg => ?_) (fun hg => ?_)
            ·replace hk := ct hg ht
             refine AG hg (AG hg (AG hg (AG hg (CY (CY (CY (CY (CY (CY (CY (CY (CY (AG hg (AG hg (CY (CY (CY (CY (CY (CY (CY (CY (CY (CY (CY (CY (CY (AG hg (Cv hg (.bool _) ?_)))))))))))))))))))))))))))))
             cases hk; exact pE ek
            ·replace hk := cf hg ht
             refine AF hg (pM (.int _ _) (AF hg ?_))
             refine pM (.int _ _) (AF hg ?_)
             refine AX (AF hg ?_)
             refine pM (.bool _) (bk hk fun t22 ht hk => ?_)
             refine AU (l1 := [_, _, _, _, _, _, _, _, _, _]) [125, 126, 127, 128, 129, 130, 131, 132, 133, 134] 134 (.bool t22) ?_ ?_
             ·refine bc (b := (x15 != x16)) (fun hg2 => ?_) (fun hg2 => ?_)
              ·replace hk := ct hg2 ht
               refine AF hg2 (pF EP (AF hg2 ?_))
               refine CP hO 1 (.lit _ _ _) It (AF hg2 ?_)
               refine pM (.int _ _) (AF hg2 (bk hk fun c23 hc23 hk => ?_))
               refine pX hc23 Iu GI (AF hg2 ?_)
               refine By (.lit _ _ _) (D7 (lm := m5) (off := 0) hc23 CC) (AF hg2 ?_)
               refine pM (.int _ _) (AF hg2 (bk hk fun c24 hc24 hk => ?_))
               refine pX hc24 Cn FU (AF hg2 ?_)
               refine By (.bool _) (D7 (lm := 0) (off := 0) hc24 Fv) (AF hg2 ?_)
               refine pU (AF hg ?_)
               refine Cv hg2 (.bool _) ?_
               cases hk; exact pE ek
              ·replace hk := cf hg2 ht
               refine AG hg2 (AG hg2 (AG hg2 (AG hg2 (AG hg2 (AG hg2 (AG hg2 (AG hg2 (AG hg2 (AF hg (Cu hg2 (.bool _) ?_))))))))))
               cases hk; exact pE ek
             ·intro J
              refine AF hg (pM (.bool _) (bk hk fun t25 ht hk => ?_))
              refine AU (l1 := [_, _, _, _, _, _, _, _, _, _, _, _, _, _]) [136, 137, 138, 139, 140, 141, 142, 143, 144, 145, 146, 147, 148, 149] 149 (.bool t25) ?_ ?_
              ·refine bc (b := t22) (fun hg2 => ?_) (fun hg2 => ?_)
               ·replace hk := ct hg2 ht
                refine AF hg2 (pF Bk (AF hg2 ?_))
                refine CP hO 1 (.lit _ _ _) Du (AF hg2 ?_)
                refine pM (.int _ _) (AF hg2 (bk hk fun c26 hc26 hk => ?_))
                refine pX hc26 Ex B1 (AF hg2 ?_)
                refine pF BL (AF hg2 ?_)
                refine By (.lit _ _ _) (D7 (lm := m3) (off := 0) hc26 BC) (AF hg2 ?_)
                refine pF Bk (AF hg2 ?_)
                refine CP hO 1 (.lit _ _ _) Du (AF hg2 ?_)
                refine pM (.int _ _) (AF hg2 (bk hk fun c27 hc27 hk => ?_))
                refine pX hc27 Ex B1 (AF hg2 ?_)
                refine pF BL (AF hg2 ?_)
                refine By (.lit _ _ _) (D7 (lm := m3) (off := 0) hc27 BC) (AF hg2 (bk hk fun v28 hv28 hk => ?_))
                refine AR (fun _ => NM hv28) (AF hg ?_)
                refine Cv hg2 (.bool _) ?_
                cases hk; exact pE ek
               ·replace hk := cf hg2 ht
                refine AG hg2 (AG hg2 (AG hg2 (AG hg2 (AG hg2 (AG hg2 (AG hg2 (AG hg2 (AG hg2 (AG hg2 (AG hg2 (AG hg2 (AG hg2 (AF hg (Cu hg2 (.bool _) ?_))))))))))))))
                cases hk; exact pE ek
              ·intro J
               refine Cu hg (.bool _) ?_
               cases hk; exact pE ek
           ·intro J
            refine pE (gn (Aq hk (fun hk => ?_) (fun hk => ?_)))
            ·refine A1 (A4 (pM (.int _ _) ?_))
             refine Q2 [_, _] Fa Gx ?_
             refine Cl (xs := [_, _]) hO 0 D2 rfl (fun G hO => pE (gn (Av (br (gr (gr (br (br (gr (gr (br (gr (have hk := lx hx2 hk; have hk := lx hx1 hk; ?_)))))))))))))
             replace hk := Option.some.inj hk; subst hk; exact Gz hO (Dr (n := 2) (DN (CB _ _) (DN (CB _ _) (Ho)))) (FW hO 0 [_, _] HQ D2 Dt)
            ·refine As (bn (gn (A4 (AX ?_))))
             refine pM (.int _ _) (pE (gn ?_))
             cases hk; exact ⟨_, rfl, _, _, hO, sh⟩
          ·refine D6 (ge (ge (be (bn (gn (have hk := lx hx2 hk; A4 (AX ?_)))))))
           refine pM (.int _ _) (pE (gn ?_))
           cases hk; exact ⟨_, rfl, _, _, hO, sh⟩
         ·refine D6 (ge (ge (be (gn (have hk := lx hx1 hk; A1 (A4 (Q2 [_, _] Fa Gx ?_)))))))
          refine Cl (xs := [_, _]) hO 0 D2 rfl (fun G hO => pE (gn (Av ?_)))
          replace hk := Option.some.inj hk; subst hk; exact Gz hO (Dr (n := 2) (DN (CB _ _) (DN (CB _ _) (Ho)))) (FW hO 0 [_, _] HQ D2 Dt)
def jR (aP0 : AQ) : Option Bool :=
 ((XM aP0).bind fun v2 => some ((v2.Code == 0) && ((v2.At == 0) && true)))
theorem aF {aP0 : AQ} {r : Bool} {l1 l2 m3 l4 m5 : Nat} (hk : jR aP0 = some r) (hlk : 0 < lk.length := by simp) : Al Tryz.prog hh 79 [.agg (Aj l1 0 l2 m3 l4 m5 aP0)] H lk = some (.bool r, H) := by
 refine AI Tryz.func79 rfl Tryz.ntmps79 Tryz.results79 rfl rfl fun hO => ?_
 unfold jR at hk
 refine A1 (A4 (Ba (cs := [_, _, _, _, _]) hO CH (fun b1 G hO => ?_)))
 refine pA (.bool _) (pE (gn (A1 (A4 ?_))))
 refine Dw hO 0 [_, _, _, _, _] FG CH (bk hk fun v2 hv2 hk => ?_)
 refine AR (fun _ => XN hv2) ?_
 refine Q2 [_, _] Fa Gx ?_
 refine oC lI (gO (gP _ _ _) (gO (gP _ _ _) (rfl))) ?_
 refine pA (.bool _) (pE (gn (Av ?_)))
 cases hk; exact AT hO
def NI (aS0 : List Bool) (aV1 : Bool) : Int → Option (Int ⊕ Int) := fun s =>
 (bif decide (s < (aS0.length : Int)) then ((AL aS0 s).bind fun c2 => (bif (aV1 == c2) then ((some s).map Sum.inr) else some (.inl (BV (s + (1:Int)))))) else ((some (-1:Int)).map Sum.inr))
def Xg (aS0 : List Bool) (aV1 : Bool) : Option Int :=
 (AJ (NI aS0 aV1) ((0:Int)))
theorem Xh {aS0 : List Bool} {aV1 : Bool} {r : Int} {l1 : Nat} (hk : Xg aS0 aV1 = some r) (hlk : 0 < lk.length := by simp) : Al Tryz.prog hh 131 [AN l1 0 aS0, .bool aV1] H lk = some (iv r, H) := by
 refine AI Tryz.func131 rfl Tryz.ntmps131 Tryz.results131 rfl rfl fun hO => ?_
 unfold Xg at hk
 refine A1 (A4 (pA (.int _ _) (pE (gn (A1 (A1 (A4 ?_)))))))
 refine pM (.lit _ _ _) ?_
 refine Ah Hd ?_
 refine pM (.int _ _) (pE (gn (BQ ?_)))
 refine AD (F := NI aS0 aV1) (fun s S' => ∃ (J : Nat → V) (G : A3), A6 H G [] ∧ S' = ⟨CO [(0, AN l1 0 aS0), (1, .bool aV1), (7, iv (aS0.length : Int)), (8, iv s)] J, G⟩) hk ⟨_, _, hO, sh⟩ ?_
 rintro x1 _ y1 ⟨J, G, hO, rfl⟩ hk hx1
 refine A1 (A4 (AX (pE (gn (A1 (Aq hk (fun hk => ?_) (fun hk => ?_)))))))
 ·refine As (gn (A1 (BQ (A1 (A4 (pM (.int _ _) ?_))))))
  refine pA (.int _ _) (pE (gn (A1 (A4 ?_))))
  refine pM (.bool _) ?_
  refine pM (.lit _ _ _) ?_
  refine pM (.int _ _) (bk hk fun c2 hc2 hk => ?_)
  refine pX hc2 Cn FU ?_
  refine By (.bool _) (D7 (lm := 0) (off := 0) hc2 Fv) ?_
  refine oB Tryz.underlying4 (pE (gn (Aq hk (fun hk => ?_) (fun hk => ?_))))
  ·refine A1 (A4 (pM (.int _ _) ?_))
   refine pA (.int _ _) (pE (gn (Av (br (gr (gr (br (gr (have hk := lx hx1 hk; ?_)))))))))
   cases hk; exact AT hO
  ·refine As (bn (gn (A4 (AX ?_))))
   refine pM (.int _ _) (pE (gn ?_))
   cases hk; exact ⟨_, rfl, _, _, hO, sh⟩
 ·refine D6 (ge (ge (be (gn (have hk := lx hx1 hk; A1 (A4 (pA (.int _ _) (pE (gn (Av ?_))))))))))
  cases hk; exact AT hO
def WI (aS0 : List Bool) (aV1 : Bool) : Option Bool :=
 ((Xg aS0 aV1).bind fun v1 => some (decide (v1 ≥ (0:Int))))
theorem Sa {aS0 : List Bool} {aV1 : Bool} {r : Bool} {l1 : Nat} (hk : WI aS0 aV1 = some r) (hlk : 0 < lk.length := by simp) : Al Tryz.prog hh 123 [AN l1 0 aS0, .bool aV1] H lk = some (.bool r, H) := by
 refine AI Tryz.func123 rfl Tryz.ntmps123 Tryz.results123 rfl rfl fun hO => ?_
 unfold WI at hk
 refine A1 (A4 (pA (.bool _) (pE (gn (A1 (A4 ?_))))))
 refine pM (.lit _ _ _) ?_
 refine pM (.bool _) (bk hk fun v1 hv1 hk => ?_)
 refine AR (fun _ => Xh hv1) ?_
 refine AX ?_
 refine pA (.bool _) (pE (gn (Av ?_)))
 cases hk; exact AT hO
def N8 (aH1 : AH) : Option Bool :=
 some (!((aH1.State == (0:Int)) && aH1.Shown) && !(((aH1.State == (2:Int)) || (aH1.State == (3:Int))) && !aH1.Shown))
def Kk (aP0 : AQ) (aH1 : AH) : Option Bool :=
 (bif (aH1.State == (3:Int)) then ((U3 aH1.Timer (1:Int) aP0.ED).bind fun v7 => (bif !v7 then some false else (N8 aH1))) else (bif (aH1.Timer != (0:Int)) then some false else (N8 aH1)))
def XO (aP0 : AQ) (aH1 : AH) (aW2 : Bu) : Option Bool :=
 ((U3 aH1.State (0:Int) (4:Int)).bind fun v4 => ((bif (!v4 || ((aH1.Ab.length : Int) != (aW2.A0.length : Int))) then some true else ((U3 aH1.Ac (0:Int) (BV ((aW2.A0.length : Int) - (1:Int)))).bind fun v6 => some (!v6))).bind fun t5 => (bif t5 then some false else (bif (aH1.State != (4:Int)) then ((bif (aH1.Ac != (0:Int)) then some true else ((WI aH1.Ab true).bind fun v9 => some v9)).bind fun t8 => (bif t8 then some false else (Kk aP0 aH1))) else ((SA aH1.Ab (0:Int) aH1.Ac).bind fun y10 => ((WI y10 false).bind fun v11 => (bif v11 then some false else (Kk aP0 aH1))))))))
theorem XP {aP0 : AQ} {aH1 : AH} {aW2 : Bu} {r : Bool} {l1 l2 m3 l4 m5 l6 l7 l8 l9 l10 l11 : Nat} (hk : XO aP0 aH1 aW2 = some r) (hlk : 0 < lk.length := by simp) : Al Tryz.prog hh 108 [.agg (Aj l1 0 l2 m3 l4 m5 aP0), .agg [iv aH1.State, iv aH1.Ac, AN l6 0 aH1.Ab, .bool aH1.Shown, iv aH1.Timer], .agg (Cq l7 0 l8 0 l9 0 l10 0 l11 0 aW2)] H lk = some (.bool r, H) := by
 refine AI Tryz.func108 rfl Tryz.ntmps108 Tryz.results108 rfl rfl fun hO => ?_
 unfold XO at hk
 refine A1 (A4 (Ba (cs := [_, _, _, _, _]) hO CH (fun b1 G hO => ?_)))
 refine Ba (cs := [_, _, _, _, _]) hO Ay (fun b2 G hO => ?_)
 refine Ba (cs := [_, _, _, _, _]) hO B1 (fun b3 G hO => ?_)
 refine pA (.bool _) (pE (gn (A1 (A4 ?_))))
 refine Au BL hO 0 (.lit _ _ _) BC ?_
 refine Ah DE ?_
 refine pA (.int _ _) (pE (gn (A1 (A1 (A4 ?_)))))
 refine Au B9 hO 1 (.int _ _) BW (bk hk fun v4 hv4 hk => ?_)
 refine AR (fun _ => Ej hv4) ?_
 refine pU ?_
 refine pM (.bool _) ?_
 refine AU (l1 := [_, _, _, _, _, _]) [16, 17, 18, 19, 20, 21] 21 (.bool (!v4 || ((aH1.Ab.length : Int) != (aW2.A0.length : Int)))) ?_ ?_
 ·refine bc (b := !v4) (fun hg => ?_) (fun hg => ?_)
  ·refine AG hg (AG hg (AG hg (AG hg (AG hg (Cv hg (.bool _) ?_)))))
   exact pE (ek (by rw [hg]; rfl))
  ·refine AF hg (pF C6 (AF hg ?_))
   refine CP hO 1 (.lit _ _ _) CC (AF hg ?_)
   refine Ah Hd (AF hg ?_)
   refine pM (.int _ _) (AF hg ?_)
   refine AX ?_
   refine Cu hg (.bool _) ?_
   exact pE (ek (by rw [hg]; rfl))
 ·intro J
  refine pM (.bool _) (bk hk fun t5 ht hk => ?_)
  refine AU (l1 := [_, _, _, _, _, _, _]) [23, 24, 25, 26, 27, 28, 29] 29 (.bool t5) ?_ ?_
  ·refine bc (b := (!v4 || ((aH1.Ab.length : Int) != (aW2.A0.length : Int)))) (fun hg => ?_) (fun hg => ?_)
   ·replace hk := ct hg ht
    refine AG hg (AG hg (AG hg (AG hg (AG hg (AG hg (Cv hg (.bool _) ?_))))))
    cases hk; exact pE ek
   ·replace hk := cf hg ht
    refine AF hg (pF C1 (AF hg ?_))
    refine CP hO 1 (.int _ _) BW (AF hg ?_)
    refine pM (.int _ _) (AF hg ?_)
    refine AX (AF hg (bk hk fun v6 hv6 hk => ?_))
    refine AR (fun _ => Ej hv6) (AF hg ?_)
    refine pU ?_
    refine Cu hg (.bool _) ?_
    cases hk; exact pE ek
  ·intro J
   refine pE (gn (Aq hk (fun hk => ?_) (fun hk => ?_)))
   ·refine A1 (A4 (pA (.bool _) (pE (gn (Av (gr ?_))))))
    cases hk; exact AT hO
   ·refine As (gn (CS (fun S' => ∃  (J : Nat → V) (G : A3), Kk aP0 aH1 = some r ∧ A6 H G [.Ad b2 (.cells 5 [iv aH1.State, iv aH1.Ac, AN l6 0 aH1.Ab, .bool aH1.Shown, iv aH1.Timer]), .Ad b1 (.cells 5 (Aj l1 0 l2 m3 l4 m5 aP0))] ∧ S' = ⟨CO [(3, .ptr b1 0), (4, .ptr b2 0)] J, G⟩) ?_ ?_))
    ·refine A1 (A4 (Au B9 hO 1 (.int _ _) BW ?_))
     refine AX (pE (gn (Aq hk (fun hk => ?_) (fun hk => ?_))))
     ·refine A1 (A4 (Au C1 hO 1 (.int _ _) BW ?_))
      refine AX ?_
      refine pM (.bool _) (bk hk fun t8 ht hk => ?_)
      refine AU (l1 := [_, _, _, _]) [37, 38, 39, 40] 40 (.bool t8) ?_ ?_
      ·refine bc (b := (aH1.Ac != (0:Int))) (fun hg => ?_) (fun hg => ?_)
       ·replace hk := ct hg ht
        refine AG hg (AG hg (AG hg (Cv hg (.bool _) ?_)))
        cases hk; exact pE ek
       ·replace hk := cf hg ht
        refine AF hg (pF C6 (AF hg ?_))
        refine CP hO 1 (.lit _ _ _) CC (AF hg (bk hk fun v9 hv9 hk => ?_))
        refine AR (fun _ => Sa hv9) ?_
        refine Cu hg (.bool _) ?_
        cases hk; exact pE ek
      ·intro J
       refine pE (gn (Aq hk (fun hk => ?_) (fun hk => ?_)))
       ·refine A1 (A4 (pA (.bool _) (pE (gn (Av (gr ?_))))))
        cases hk; exact AT hO
       ·exact As (gn (⟨_, _, hk, (pk hO [1, 2]), sh⟩))
     ·refine A1 (A4 (Au C6 hO 1 (.lit _ _ _) CC ?_))
      refine Au C1 hO 1 (.int _ _) BW (bk hk fun y10 hy10 hk => ?_)
      refine kN hy10 Cn FU (bk hk fun v11 hv11 hk => ?_)
      refine AR (fun _ => Sa hv11) (pE (gn (Aq hk (fun hk => ?_) (fun hk => ?_))))
      ·refine A1 (A4 (pA (.bool _) (pE (gn (Av (gr ?_))))))
       cases hk; exact AT hO
      ·exact As (gn (⟨_, _, hk, (pk hO [1, 2]), sh⟩))
    ·rintro _ ⟨J, G, hk, hO, rfl⟩
     refine CS (fun S' => ∃  (J : Nat → V) (G : A3), N8 aH1 = some r ∧ A6 H G [.Ad b2 (.cells 5 [iv aH1.State, iv aH1.Ac, AN l6 0 aH1.Ab, .bool aH1.Shown, iv aH1.Timer])] ∧ S' = ⟨CO [(4, .ptr b2 0)] J, G⟩) ?_ ?_
     ·refine A1 (A4 (Au B9 hO 0 (.int _ _) BW ?_))
      refine AX (pE (gn (Aq hk (fun hk => ?_) (fun hk => ?_))))
      ·refine A1 (A4 (Au EA hO 0 (.int _ _) BW ?_))
       refine Au KY hO 1 (.int _ _) BW (bk hk fun v7 hv7 hk => ?_)
       refine AR (fun _ => Ej hv7) ?_
       refine pU (pE (gn (Aq hk (fun hk => ?_) (fun hk => ?_))))
       ·refine A1 (A4 (pA (.bool _) (pE (gn (Av (gr ?_))))))
        cases hk; exact AT hO
       ·exact As (gn (⟨_, _, hk, (pk hO [0]), sh⟩))
      ·refine A1 (A4 (Au EA hO 0 (.int _ _) BW ?_))
       refine AX (pE (gn (Aq hk (fun hk => ?_) (fun hk => ?_))))
       ·refine A1 (A4 (pA (.bool _) (pE (gn (Av (gr ?_))))))
        cases hk; exact AT hO
       ·exact As (gn (⟨_, _, hk, (pk hO [0]), sh⟩))
     ·rintro _ ⟨J, G, hk, hO, rfl⟩
      refine A1 (A4 (Au B9 hO 0 (.int _ _) BW ?_))
      refine AX ?_
      refine pM (.bool _) ?_
      refine AU (l1 := [_, _, _]) [63, 64, 65] 65 (.bool ((aH1.State == (0:Int)) && aH1.Shown)) ?_ ?_
      ·refine bc (b := (aH1.State == (0:Int))) (fun hg => ?_) (fun hg => ?_)
       ·refine AF hg (pF Dv (AF hg ?_))
        refine CP hO 0 (.bool _) Fv ?_
        refine Cv hg (.bool _) ?_
        exact pE (ek (by rw [hg]; rfl))
       ·refine AG hg (AG hg (Cu hg (.bool _) ?_))
        exact pE (ek (by rw [hg]; rfl))
      ·intro J
       refine pU ?_
       refine pM (.bool _) ?_
       refine AU (l1 := [_, _, _, _, _, _, _, _, _, _, _, _, _, _, _]) [68, 69, 70, 71, 72, 73, 74, 75, 76, 77, 78, 79, 80, 81, 82] 82 (.bool (!((aH1.State == (0:Int)) && aH1.Shown) && !(((aH1.State == (2:Int)) || (aH1.State == (3:Int))) && !aH1.Shown))) ?_ ?_
       ·refine bc (b := !((aH1.State == (0:Int)) && aH1.Shown)) (fun hg => ?_) (fun hg => ?_)
        ·refine AF hg (pF B9 (AF hg ?_))
         refine CP hO 0 (.int _ _) BW (AF hg ?_)
         refine AX (AF hg ?_)
         refine pM (.bool _) ?_
         refine AU (l1 := [_, _, _, _]) [72, 73, 74, 75] 75 (.bool ((aH1.State == (2:Int)) || (aH1.State == (3:Int)))) ?_ ?_
         ·refine bc (b := (aH1.State == (2:Int))) (fun hg2 => ?_) (fun hg2 => ?_)
          ·refine AG hg2 (AG hg2 (AG hg2 (AF hg (Cv hg2 (.bool _) ?_))))
           exact pE (ek (by rw [hg2]; rfl))
          ·refine AF hg2 (pF B9 (AF hg2 ?_))
           refine CP hO 0 (.int _ _) BW (AF hg2 ?_)
           refine AX (AF hg ?_)
           refine Cu hg2 (.bool _) ?_
           exact pE (ek (by rw [hg2]; rfl))
         ·intro J
          refine AF hg (pM (.bool _) ?_)
          refine AU (l1 := [_, _, _, _]) [77, 78, 79, 80] 80 (.bool (((aH1.State == (2:Int)) || (aH1.State == (3:Int))) && !aH1.Shown)) ?_ ?_
          ·refine bc (b := ((aH1.State == (2:Int)) || (aH1.State == (3:Int)))) (fun hg2 => ?_) (fun hg2 => ?_)
           ·refine AF hg2 (pF Dv (AF hg2 ?_))
            refine CP hO 0 (.bool _) Fv (AF hg2 ?_)
            refine pU (AF hg ?_)
            refine Cv hg2 (.bool _) ?_
            exact pE (ek (by rw [hg2]; rfl))
           ·refine AG hg2 (AG hg2 (AG hg2 (AF hg (Cu hg2 (.bool _) ?_))))
            exact pE (ek (by rw [hg2]; rfl))
          ·intro J
           refine AF hg (pU ?_)
           refine Cv hg (.bool _) ?_
           exact pE (ek (by rw [hg]; rfl))
        ·refine AG hg (AG hg (AG hg (AG hg (CY (CY (CY (AG hg (AG hg (CY (CY (CY (AG hg (AG hg (Cu hg (.bool _) ?_))))))))))))))
         exact pE (ek (by rw [hg]; rfl))
       ·intro J
        refine pA (.bool _) (pE (gn (Av ?_)))
        cases hk; exact AT hO
def OZ (aF0 : AE) (z3 : List Bool) (z5 : List Am) : Int → Option (Int ⊕ AE) := fun s =>
 (bif decide (s < (aF0.A5.length : Int)) then ((AL aF0.A5 s).bind fun c14 => ((D5 1 ([] : List Bool) c14.Ab).bind fun z16 => ((AL aF0.A5 s).bind fun c18 => some (.inl (BV (s + (1:Int))))))) else ((some ({ Ok := aF0.Ok, C9 := z3, A8 := z5, A5 := aF0.A5 } : AE)).map Sum.inr))
def fA (aF0 : AE) : Option AE :=
 ((D5 1 ([] : List Bool) aF0.C9).bind fun z3 => ((D5 16 ([] : List Am) aF0.A8).bind fun z5 => ((D5 56 ([] : List AH) aF0.A5).bind fun z7 => (AJ (OZ aF0 z3 z5) ((0:Int))))))
theorem aP {aF0 : AE} {r : AE} {l1 l2 l3 m4 : Nat} (hk : fA aF0 = some r) (hlk : 0 < lk.length := by simp) (hvm4 : m4 ≤ lk.length := by simp only [List.length_append, List.length_singleton]; omega) : ∃ v H1, Al Tryz.prog hh 95 [.agg (Ai l1 0 l2 0 l3 m4 aF0)] H lk = some (v, H1) ∧ Gb H r v H1 := by
 refine B0 Tryz.func95 rfl Tryz.ntmps95 Tryz.results95 rfl rfl ?_
 have hO := A6.nil H
 unfold fA at hk
 refine A1 (A4 (Ba (cs := [_, _, _, _]) hO C0 (fun b1 G hO => C7 hO C0 SC (fun b2 G hO => pE (gn (A1 ?_))))))
 refine BG [(0, true), (1, true), (3, true), (4, true), (6, true), (7, true), (2, true), (9, false), (5, true), (8, false), (10, false), (11, false), (12, false), (13, false), (14, false)] [_, _, _, _, _, _, _, _, _, _, _, _, _, _, _] (by decide +kernel) (by rfl) ?_
 refine Au Co hO 1 (.lit _ _ _) CC ?_
 refine Au Dh hO 1 (.lit _ _ _) JX ?_
 refine Au Bl hO 1 (.lit _ _ _) E6 (bk hk fun z3 hz3 hk => ?_)
 refine Rw (xs := aF0.C9) hO hz3 Tryz.func115 dE Cn FU gA dA (fun u4 F4 G hO => ?_)
 refine pF Co (bk hk fun z5 hz5 hk => ?_)
 refine Rw (xs := aF0.A8) hO hz5 Tryz.func116 lD Iv EE gB TN (fun u6 F6 G hO => bk hk fun z7 hz7 hk => ?_)
 refine bH (xs := aF0.A5) hO hz7 Tryz.func117 lE EN Ay Yo FT (fun u8 F8 G hO => ?_)
 have hc9 := B7 hO (j := 2) rfl
 refine Cl (xs := [_]) hO 4 GI rfl (fun G hO => ?_) (h3 := hc9.1) (h6 := Bo hc9.2)
 refine pF Dh ?_
 have hc10 := B7 hO (j := 1) rfl
 refine Cl (xs := [_]) hO 4 gG rfl (fun G hO => ?_) (h3 := hc10.1) (h6 := Bo hc10.2)
 refine pF Bl ?_
 have hc11 := WZ hO (j := 0) rfl
 refine Cl (xs := [_]) hO 4 gH rfl (fun G hO => ?_) (h3 := hc11.1) (h6 := Bo hc11.2)
 refine pE (gn (A1 (A1 (A4 (Au Bl hO 4 u8 E6 ?_)))))
 refine kJ hO 0 Ih ?_
 refine pM (.int _ _) (pE (gn (BQ ?_)))
 refine AD (F := OZ aF0 z3 z5) (fun s S' => ∃ (F12 : List Nat) (J : Nat → V) (G : A3), A6 H G [VB m4 F12 aF0.A5 u8 s.toNat, AY [] F6 z5 [u6], AY [] F4 z3 [u4], .Ad b2 (.cells 4 [.bool false, (.tl 0 []), (.tl 0 []), (.tl 0 [])]), .Ad b1 (.cells 4 [.bool aF0.Ok, u4, u6, u8])] ∧ S' = ⟨CO [(1, .ptr b1 0), (2, .ptr b2 0), (18, iv (aF0.A5.length : Int)), (19, iv s)] J, G⟩) hk ⟨F8, _, _, hO, sh⟩ ?_
 rintro x13 _ y1 ⟨F12, J, G, hO, rfl⟩ hk hx1
 refine A1 (A4 (AX (pE (gn (A1 ?_)))))
 refine nW (b := decide (x13 < (aF0.A5.length : Int))) (fun hb => ?_) (fun hb => ?_)
 ·replace hk := ct hb hk
  refine As (gn (A1 (BQ (A1 (A4 (pM (.int _ _) ?_))))))
  refine pA (.int _ _) (pE (gn ?_))
  refine BG [(0, true), (1, true), (2, true), (3, true), (4, true), (5, true), (6, true), (7, true), (8, true), (9, true), (10, false), (11, false), (12, false)] [_, _, _, _, _, _, _, _, _, _, _, _, _] (by decide +kernel) (by rfl) ?_
  refine Au Bl hO 4 u8 E6 ?_
  refine pM (.int _ _) ?_
  refine Au Bl hO 4 u8 E6 ?_
  refine pM (.int _ _) (bk hk fun c14 hc14 hk => ?_)
  refine nY hO 0 hc14 EN Ay (fun b15 hb15 => ?_)
  refine pF C6 ?_
  refine oD (off := 2) hO 0 hb15 hc14 CC ?_ (w := AN m4 0 c14.Ab)
  refine bk hk fun z16 hz16 hk => Rw (xs := c14.Ab) hO hz16 Tryz.func115 dE Cn FU gA dA (fun u17 F17 G hO => bk hk fun c18 hc18 hk => ?_)
  refine nY hO 1 hc18 EN Ay (fun b19 hb19 => ?_)
  refine pF C6 ?_
  have hqc : z16 = c18.Ab := (X6 hz16).trans (congrArg AH.Ab (Option.some.inj (hc14.symm.trans hc18)))
  rw [hqc] at hO
  replace hO : A6 H G (AY [] F17 c18.Ab [u17] :: [VB m4 F12 aF0.A5 u8 x13.toNat, AY [] F6 z5 [u6], AY [] F4 z3 [u4], .Ad b2 (.cells 4 [.bool false, (.tl 0 []), (.tl 0 []), (.tl 0 [])]), .Ad b1 (.cells 4 [.bool aF0.Ok, u4, u6, u8])]) := hO
  refine oG hO 0 hb19 hc18 GI rfl (fun G F h => TrE.Mp (c18.State : Int) (TrE.Mp (c18.Ac : Int) (TrE.T8 ((c18.Shown, c18.Timer) : Bool × Int) h))) rfl (fun G hO => pE (bn (gn (A4 ?_))))
  refine AX ?_
  refine pM (.int _ _) (pE (gn ?_))
  replace hO := hO.kB (j := 0) rfl (Z1 hz7 hc18)
  cases hk; exact ⟨_, rfl, (F12 ++ F17), _, _, hO, sh⟩
 ·replace hk := cf hb hk
  refine D6 (ge (ge (be (gn (have hk := lx hx1 hk; A1 (A4 ?_))))))
  replace hO := hO.aW (j := 0) rfl (fM hb)
  refine Dw hO 4 [_, _, _, _] Ew C0 ?_
  have hc20 := B7 hO (j := 2) rfl
  have hc21 := B7 hO (j := 1) rfl
  have hc22 := B7 hO (j := 0) rfl
  refine Cl (xs := [_, _, _, _]) hO 3 C0 rfl (fun G hO => ?_) (h6 := (Bq rfl (Bq hc20.2 (Bq hc21.2 (Bq hc22.2 Ik)))))
  refine pE (gn (Av ?_))
  replace hk := Option.some.inj hk; subst hk; exact IG hO (Pb (x := ({ Ok := aF0.Ok, C9 := z3, A8 := z5, A5 := aF0.A5 } : AE)) (Bx (c1 := [_]) (LV aF0.Ok) (Bx (c1 := [_]) (Cz (x := z3) 2) (Bx (c1 := [_]) (Cz (x := z5) 1) (Cz (x := aF0.A5) 0))))) (FW hO 3 [_, _, _, _] Ew C0 Dt)
def eZ (aW0 : Bu) : Option (List Aa) :=
 ((D5 16 ([] : List Aa) aW0.AO).bind fun z2 => ((D5 16 z2 aW0.AB).bind fun z4 => some z4))
theorem VO {aW0 : Bu} {r : (List Aa)} {l1 l2 l3 l4 l5 : Nat} (hk : eZ aW0 = some r) (hlk : 0 < lk.length := by simp) : Al Tryz.prog hh 92 [.agg (Cq l1 0 l2 0 l3 0 l4 0 l5 0 aW0)] H lk = some (AN 0 0 r, H) := by
 refine AI Tryz.func92 rfl Tryz.ntmps92 Tryz.results92 rfl rfl fun hO => ?_
 unfold eZ at hk
 refine A1 (A4 (Ba (cs := [_, _, _, _, _]) hO B1 (fun b1 G hO => ?_)))
 refine pA (.tl 0 []) (pE (gn (A1 ?_)))
 refine BG [(0, true), (1, true), (3, true), (4, true), (2, true), (5, false), (6, false)] [_, _, _, _, _, _, _] (by decide +kernel) (by rfl) ?_
 refine Au EB hO 0 (.lit _ _ _) Df ?_
 refine Au EX hO 0 (.lit _ _ _) Df (bk hk fun z2 hz2 hk => ?_)
 refine YW (xs := aW0.AO) hO hz2 Tryz.func114 dD Dl BD TO FZ (fun o2 G hno2 hO => bk hk fun z4 hz4 hk => ?_)
 refine Ta (xs := z2) hO 0 hz4 (Hh _ aW0.AB) Dl BD TO FZ Dl rfl (fun o4 G hno4 hO => ?_)
 refine pA o4 (pE (gn (Av ?_)))
 replace hk := Option.some.inj hk; subst hk; exact Gz hO (M8 (xs := z4) hlk 0) (MQ o4 Dt)
def ZT (aS0 : Int) (aA1 : AE) : Option Bool :=
 ((AL aA1.C9 aS0).bind fun c1 => some c1)
theorem XS {aS0 : Int} {aA1 : AE} {r : Bool} {l1 l2 l3 m4 : Nat} {q0 : Nat} (hk : ZT aS0 aA1 = some r) (hq0 : H[q0]? = some (.cells 4 (Ai l1 0 l2 0 l3 m4 aA1))) (hlk : 0 < lk.length := by simp) : Al Tryz.prog hh 118 [iv aS0, .ptr q0 0] H lk = some (.bool r, H) := by
 refine AI Tryz.func118 rfl Tryz.ntmps118 Tryz.results118 rfl rfl fun hO => ?_
 unfold ZT at hk
 refine A1 (A4 (pA (.bool _) (pE (gn (A1 (A4 ?_))))))
 refine pF Co ?_
 refine mA (.lit _ _ _) hO hq0 CC ?_
 refine pM (.int _ _) (bk hk fun c1 hc1 hk => ?_)
 refine pX hc1 Cn FU ?_
 refine By (.bool _) (D7 (lm := 0) (off := 0) hc1 Fv) ?_
 refine pA (.bool _) (pE (gn (Av ?_)))
 cases hk; exact AT hO
def HE (aS0 : List Int) (aC1_0 : AE) : Int → Option (Int ⊕ Int) := fun s =>
 (bif decide (s < (aS0.length : Int)) then ((AL aS0 s).bind fun c2 => ((ZT c2 aC1_0).bind fun v3 => (bif v3 then ((some s).map Sum.inr) else some (.inl (BV (s + (1:Int))))))) else ((some (-1:Int)).map Sum.inr))
def J7 (aS0 : List Int) (aC1_0 : AE) : Option Int :=
 (AJ (HE aS0 aC1_0) ((0:Int)))
theorem R5 {aS0 : List Int} {aC1_0 : AE} {r : Int} {l1 l2 l3 l4 m5 : Nat} {q0 : Nat} (hk : J7 aS0 aC1_0 = some r) (hq0 : H[q0]? = some (.cells 4 (Ai l2 0 l3 0 l4 m5 aC1_0))) (hlk : 0 < lk.length := by simp) : Al Tryz.prog hh 127 [AN l1 0 aS0, .fn 118 [.ptr q0 0]] H lk = some (iv r, H) := by
 refine AI Tryz.func127 rfl Tryz.ntmps127 Tryz.results127 rfl rfl fun hO => ?_
 unfold J7 at hk
 refine A1 (A4 (pA (.int _ _) (pE (gn (A1 (A1 (A4 ?_)))))))
 refine pM (.lit _ _ _) ?_
 refine Ah DE ?_
 refine pM (.int _ _) (pE (gn (BQ ?_)))
 refine AD (F := HE aS0 aC1_0) (fun s S' => ∃ (J : Nat → V) (G : A3), A6 H G [] ∧ S' = ⟨CO [(0, AN l1 0 aS0), (1, .fn 118 [.ptr q0 0]), (7, iv (aS0.length : Int)), (8, iv s)] J, G⟩) hk ⟨_, _, hO, sh⟩ ?_
 rintro x1 _ y1 ⟨J, G, hO, rfl⟩ hk hx1
 refine A1 (A4 (AX (pE (gn (A1 (Aq hk (fun hk => ?_) (fun hk => ?_)))))))
 ·refine As (gn (A1 (BQ (A1 (A4 (pM (.int _ _) ?_))))))
  refine pA (.int _ _) (pE (gn (A1 (A4 ?_))))
  refine pM (.fn _ _) ?_
  refine pM (.lit _ _ _) ?_
  refine pM (.int _ _) (bk hk fun c2 hc2 hk => ?_)
  refine pX hc2 C8 DS ?_
  refine By (.int _ _) (D7 (lm := 0) (off := 0) hc2 BW) (bk hk fun v3 hv3 hk => ?_)
  refine AR (fun _ => XS hv3 (HM hO hq0)) (pE (gn (Aq hk (fun hk => ?_) (fun hk => ?_))))
  ·refine A1 (A4 (pM (.int _ _) ?_))
   refine pA (.int _ _) (pE (gn (Av (br (gr (gr (br (gr (have hk := lx hx1 hk; ?_)))))))))
   cases hk; exact AT hO
  ·refine As (bn (gn (A4 (AX ?_))))
   refine pM (.int _ _) (pE (gn ?_))
   cases hk; exact ⟨_, rfl, _, _, hO, sh⟩
 ·refine D6 (ge (ge (be (gn (have hk := lx hx1 hk; A1 (A4 (pA (.int _ _) (pE (gn (Av ?_))))))))))
  cases hk; exact AT hO
def Kq (aS0 : List Int) (aC1_0 : AE) : Option Bool :=
 ((J7 aS0 aC1_0).bind fun v1 => some (decide (v1 ≥ (0:Int))))
theorem R3 {aS0 : List Int} {aC1_0 : AE} {r : Bool} {l1 l2 l3 l4 m5 : Nat} {q0 : Nat} (hk : Kq aS0 aC1_0 = some r) (hq0 : H[q0]? = some (.cells 4 (Ai l2 0 l3 0 l4 m5 aC1_0))) (hlk : 0 < lk.length := by simp) : Al Tryz.prog hh 112 [AN l1 0 aS0, .fn 118 [.ptr q0 0]] H lk = some (.bool r, H) := by
 refine AI Tryz.func112 rfl Tryz.ntmps112 Tryz.results112 rfl rfl fun hO => ?_
 unfold Kq at hk
 refine A1 (A4 (pA (.bool _) (pE (gn (A1 (A4 ?_))))))
 refine pM (.lit _ _ _) ?_
 refine pM (.fn _ _) (bk hk fun v1 hv1 hk => ?_)
 refine AR (fun _ => R5 hv1 (HM hO hq0)) ?_
 refine AX ?_
 refine pA (.bool _) (pE (gn (Av ?_)))
 cases hk; exact AT hO
def gY (aF0 : AE) (aL1 : List Int) : Option Bool :=
 ((Kq aL1 aF0).bind fun v2 => some v2)
theorem VP {aF0 : AE} {aL1 : List Int} {r : Bool} {l1 l2 l3 m4 l5 : Nat} (hk : gY aF0 aL1 = some r) (hlk : 0 < lk.length := by simp) : Al Tryz.prog hh 97 [.agg (Ai l1 0 l2 0 l3 m4 aF0), AN l5 0 aL1] H lk = some (.bool r, H) := by
 refine AI Tryz.func97 rfl Tryz.ntmps97 Tryz.results97 rfl rfl fun hO => ?_
 unfold gY at hk
 refine A1 (A4 (Ba (cs := [_, _, _, _]) hO C0 (fun b1 G hO => ?_)))
 refine pA (.bool _) (pE (gn (A1 (A4 ?_))))
 refine pM (.lit _ _ _) ?_
 refine m7 (vs := [_]) (bk hk fun v2 hv2 hk => ?_)
 refine AR (fun _ => R3 hv2 (hO.get (k := 0) rfl).1) ?_
 refine pA (.bool _) (pE (gn (Av ?_)))
 cases hk; exact AT hO
def Kr (aF1 : AE) (c3 : Bu) (v5 : (List Aa)) : Int → Option (Int ⊕ Bool) := fun s =>
 (bif decide (s < (v5.length : Int)) then ((AL v5 s).bind fun c7 => ((AL aF1.A8 c7.Switch).bind fun c9 => (bif !((c9.Want == c7.EZ) && ((c9.AO == c7.EZ) && true)) then ((some false).map Sum.inr) else some (.inl (BV (s + (1:Int))))))) else (((gY aF1 c3.A0).bind fun v10 => ((bif !v10 then ((gY aF1 c3.BY).bind fun v12 => some (!v12)) else some false).bind fun t11 => some t11)).map Sum.inr))
def XT (aP0 : AQ) (aF1 : AE) (aWay2 : Int) : Option Bool :=
 ((AL aP0.A5 aWay2).bind fun c3 => ((eZ c3).bind fun v5 => (AJ (Kr aF1 c3 v5) ((0:Int)))))
theorem XU {aP0 : AQ} {aF1 : AE} {aWay2 : Int} {r : Bool} {l1 l2 m3 l4 m5 l6 l7 l8 m9 : Nat} (hk : XT aP0 aF1 aWay2 = some r) (hlk : 0 < lk.length := by simp) : Al Tryz.prog hh 119 [.agg (Aj l1 0 l2 m3 l4 m5 aP0), .agg (Ai l6 0 l7 0 l8 m9 aF1), iv aWay2] H lk = some (.bool r, H) := by
 refine AI Tryz.func119 rfl Tryz.ntmps119 Tryz.results119 rfl rfl fun hO => ?_
 unfold XT at hk
 refine A1 (A4 (Ba (cs := [_, _, _, _, _]) hO CH (fun b1 G hO => ?_)))
 refine Ba (cs := [_, _, _, _]) hO C0 (fun b2 G hO => ?_)
 refine pA (.bool _) (pE (gn (A1 (A4 ?_))))
 refine Au Bk hO 1 (.lit _ _ _) Du ?_
 refine pM (.int _ _) (bk hk fun c3 hc3 hk => ?_)
 refine pX hc3 Ex B1 ?_
 refine By (.agg [_, _, _, _, _]) (GG (lm := m3) (off := 0) hc3 FB B1) (C7 hO B1 Ir (fun b4 G hO => ?_))
 refine Cl (xs := [_, _, _, _, _]) hO 0 B1 rfl (fun G hO => pE (gn (A1 (A1 (A4 ?_)))))
 refine Dw hO 0 [_, _, _, _, _] FB B1 (bk hk fun v5 hv5 hk => ?_)
 refine AR (fun _ => VO hv5) ?_
 refine Ah FC ?_
 refine pM (.int _ _) (pE (gn (BQ ?_)))
 refine AD (F := Kr aF1 c3 v5) (fun s S' => ∃ (J : Nat → V) (G : A3), A6 H G [.Ad b4 (.cells 5 (Cq m3 0 m3 0 m3 0 m3 0 m3 0 c3)), .Ad b2 (.cells 4 (Ai l6 0 l7 0 l8 m9 aF1))] ∧ S' = ⟨CO [(4, .ptr b2 0), (7, .ptr b4 0), (16, AN 0 0 v5), (17, iv (v5.length : Int)), (18, iv s)] J, G⟩) hk ⟨_, _, (pk hO [0, 1]), sh⟩ ?_
 rintro x6 _ y1 ⟨J, G, hO, rfl⟩ hk hx1
 refine A1 (A4 (AX (pE (gn (A1 (Aq hk (fun hk => ?_) (fun hk => ?_)))))))
 ·refine As (gn (A1 (BQ (A1 (A4 (bk hk fun c7 hc7 hk => pX hc7 Dl BD ?_))))))
  refine By (.agg [_, _]) (GG (lm := 0) (off := 0) hc7 GA BD) (C7 hO BD FZ (fun b8 G hO => ?_))
  refine Cl (xs := [_, _]) hO 0 BD rfl (fun G hO => pE (gn (A1 ?_)))
  refine BG [(0, true), (1, true), (2, true), (3, true), (4, true), (5, true), (6, true), (7, true), (8, true), (9, true), (10, true), (11, false)] [_, _, _, _, _, _, _, _, _, _, _, _] (by decide +kernel) (by rfl) ?_
  refine Au Dh hO 2 (.lit _ _ _) JX ?_
  refine Au CR hO 0 (.int _ _) BW (bk hk fun c9 hc9 hk => ?_)
  refine pX hc9 Iv EE ?_
  refine By (.agg [_, _]) (GG (lm := 0) (off := 0) hc9 SD EE) ?_
  refine Au EC hO 0 (.int _ _) BW ?_
  refine Au EC hO 0 (.int _ _) BW ?_
  refine Q2 [_, _] TN nL ?_
  refine kI lJ (gO (gP _ _ _) (gO (gP _ _ _) (rfl))) (pE (gn (Aq hk (fun hk => ?_) (fun hk => ?_))))
  ·refine A1 (A4 (pA (.bool _) (pE (gn (Av (br (gr (gr (br (gr (have hk := lx hx1 hk; ?_)))))))))))
   cases hk; exact AT hO
  ·refine As (bn (gn (A4 (AX ?_))))
   refine pM (.int _ _) (pE (gn ?_))
   cases hk; exact ⟨_, rfl, _, _, (pk hO [1, 2]), sh⟩
 ·refine D6 (ge (ge (be (gn (have hk := lx hx1 hk; A1 (A4 (Dw hO 1 [_, _, _, _] Ew C0 ?_)))))))
  refine Au BL hO 0 (.lit _ _ _) BC (bk hk fun v10 hv10 hk => ?_)
  refine AR (fun _ => VP hv10) ?_
  refine pU ?_
  refine pM (.bool _) (bk hk fun t11 ht hk => ?_)
  refine AU (l1 := [_, _, _, _, _, _]) [41, 42, 43, 44, 45, 46] 46 (.bool t11) ?_ ?_
  ·refine bc (b := !v10) (fun hg => ?_) (fun hg => ?_)
   ·replace hk := ct hg ht
    refine AF hg (Dw hO 1 [_, _, _, _] Ew C0 (AF hg ?_))
    refine pF DY (AF hg ?_)
    refine CP hO 0 (.lit _ _ _) BC (AF hg (bk hk fun v12 hv12 hk => ?_))
    refine AR (fun _ => VP hv12) (AF hg ?_)
    refine pU ?_
    refine Cv hg (.bool _) ?_
    cases hk; exact pE ek
   ·replace hk := cf hg ht
    refine AG hg (AG hg (AG hg (AG hg (AG hg (Cu hg (.bool _) ?_)))))
    cases hk; exact pE ek
  ·intro J
   refine pA (.bool _) (pE (gn (Av ?_)))
   cases hk; exact AT hO
def lX (aW0 : Bu) : Option AH :=
 ((GK 1 (aW0.A0.length : Int)).bind fun m3 => some ({ State := 0, Ac := 0, Ab := List.replicate m3 (false : Bool), Shown := false, Timer := 0 } : AH))
theorem aQ {aW0 : Bu} {r : AH} {l1 l2 l3 l4 l5 : Nat} (hk : lX aW0 = some r) (hlk : 0 < lk.length := by simp) : ∃ v H1, Al Tryz.prog hh 98 [.agg (Cq l1 0 l2 0 l3 0 l4 0 l5 0 aW0)] H lk = some (v, H1) ∧ Gb H r v H1 := by
 refine B0 Tryz.func98 rfl Tryz.ntmps98 Tryz.results98 rfl rfl ?_
 have hO := A6.nil H
 unfold lX at hk
 refine A1 (A4 (Ba (cs := [_, _, _, _, _]) hO B1 (fun b1 G hO => C7 hO Ay FT (fun b2 G hO => pE (gn (A1 (A4 ?_)))))))
 refine Au BL hO 1 (.lit _ _ _) BC ?_
 refine Ah DE (bk hk fun m3 hm3 hk => ?_)
 refine hQ hO hm3 (false : Bool) Cn FU gA dA (fun b4 G hO => ?_)
 refine Q2 [_, _, _, _, _] FT dH ?_
 refine Cl (xs := [_, _, _, _, _]) hO 1 Ay rfl (fun G hO => pE (gn (Av ?_)))
 replace hk := Option.some.inj hk; subst hk; exact IG hO (Vq (x := ({ State := 0, Ac := 0, Ab := List.replicate m3 (false : Bool), Shown := false, Timer := 0 } : AH)) (Bx (c1 := [_]) (JY 0) (Bx (c1 := [_]) (JY 0) (Bx (c1 := [_]) (LW (xs := (List.replicate m3 (false : Bool))) List.length_replicate hlk 0) (Bx (c1 := [_]) (LV false) (JY 0)))))) (FW hO 1 [_, _, _, _, _] G9 Ay Dt)
end
end Go.Proofs.YtphpkphklegfeaaGreat.K
