/-
 The functions that FnExactBlocked reaches, as typed Lean functions, and that the interpreter computes them. Part 3 of 4. No conditions.
-/
import Derived.Test.YtphpkphklegfeaaGreatDBdb
set_option linter.unusedVariables false
set_option linter.unusedSimpArgs false
set_option maxRecDepth 100000
namespace Go.Proofs.YtphpkphklegfeaaGreat.K
noncomputable section
variable {H : A3} {lk : Lk}
def Gk (x4 : Int) (x5 : List AH) : Option (((List AH) × Int) ⊕ AE) :=
 some (.inl (x5, BV (x4 + (1:Int))))
def KK (aF1 : AE) (x4 : Int) (c9 : Bu) : ((List AH) × AH) → Option (((List AH) × AH) ⊕ (((List AH) × Int) ⊕ AE)) := fun s =>
 ((bif decide (s.2.Ac < (c9.A0.length : Int)) then ((AL s.2.Ab s.2.Ac).bind fun c46 => some c46) else some false).bind fun t44 => ((bif t44 then ((AL c9.A0 s.2.Ac).bind fun c49 => ((AL aF1.C9 c49).bind fun c50 => some (!c50))) else some false).bind fun t48 => ((bif t48 then ((bif (s.2.Ac == (BV ((c9.A0.length : Int) - (1:Int)))) then some true else ((AL s.2.Ab (BV (s.2.Ac + (1:Int)))).bind fun c55 => some c55)).bind fun t53 => some t53) else some false).bind fun t52 => (bif t52 then some (.inl (s.1.set x4.toNat ({ s.2 with Ac := BV (s.2.Ac + (1:Int)) }), ({ s.2 with Ac := BV (s.2.Ac + (1:Int)) } : AH))) else ((bif (s.2.Ac == (c9.A0.length : Int)) then ((lX c9).bind fun v58 => (Gk x4 (s.1.set x4.toNat v58))) else (Gk x4 s.1)).map Sum.inr)))))
def Ly (aF1 : AE) (x4 : Int) (c9 : Bu) : ((List AH) × AH × Int) → Option (((List AH) × AH × Int) ⊕ (((List AH) × Int) ⊕ AE)) := fun s =>
 (bif decide (s.2.2 < (c9.A0.length : Int)) then ((AL c9.A0 s.2.2).bind fun c29 => ((AL s.2.1.Ab s.2.2).bind fun c32 => ((bif c32 then some true else ((AL aF1.C9 c29).bind fun c35 => some c35)).bind fun t34 => ((AL s.2.1.Ab s.2.2).bind fun c37 => some (.inl (s.1.set x4.toNat ({ s.2.1 with Ab := s.2.1.Ab.set s.2.2.toNat t34 }), ({ s.2.1 with Ab := s.2.1.Ab.set s.2.2.toNat t34 } : AH), BV (s.2.2 + (1:Int)))))))) else ((AJ (KK aF1 x4 c9) (s.1, s.2.1)).map Sum.inr))
def Ob (aP0 : AQ) (aF1 : AE) (x4 : Int) (c9 : Bu) (x11 : List AH) (c13 : AH) (x16 : Bool) : Option (((List AH) × Int) ⊕ AE) :=
 (bif x16 then ((XT aP0 ({ Ok := aF1.Ok, C9 := aF1.C9, A8 := aF1.A8, A5 := x11.set x4.toNat ({ c13 with State := (1:Int) }) } : AE) x4).bind fun v18 => (bif v18 then (Gk x4 (((x11.set x4.toNat ({ c13 with State := (1:Int) })).set x4.toNat ({ ({ c13 with State := (1:Int) } : AH) with State := (2:Int) })).set x4.toNat ({ ({ ({ c13 with State := (1:Int) } : AH) with State := (2:Int) } : AH) with Shown := true }))) else (Gk x4 (x11.set x4.toNat ({ c13 with State := (1:Int) }))))) else (bif (c13.State == (4:Int)) then (AJ (Ly aF1 x4 c9) (x11, c13, (0:Int))) else (Gk x4 x11)))
def Lz (aP0 : AQ) (aF1 : AE) (x4 : Int) (c9 : Bu) (x11 : List AH) (c13 : AH) : Option (((List AH) × Int) ⊕ AE) :=
 (bif (c13.State == (1:Int)) then (Ob aP0 aF1 x4 c9 x11 c13 (c13.State == (1:Int))) else (Ob aP0 aF1 x4 c9 x11 c13 (c13.State == (2:Int))))
def Oa (aP0 : AQ) (aF1 : AE) : ((List AH) × Int) → Option (((List AH) × Int) ⊕ AE) := fun s =>
 (bif decide (s.2 < (aF1.A5.length : Int)) then ((AL s.1 s.2).bind fun c7 => ((AL aP0.A5 s.2).bind fun c9 => (bif (c7.State == (0:Int)) then (Gk s.2 s.1) else ((bif (c7.State != (4:Int)) then ((AL c9.A0 (0:Int)).bind fun c61 => ((AL aF1.C9 c61).bind fun c62 => some c62)) else some false).bind fun t60 => (bif t60 then (Lz aP0 aF1 s.2 c9 ((s.1.set s.2.toNat ({ c7 with State := (4:Int) })).set s.2.toNat ({ ({ c7 with State := (4:Int) } : AH) with Timer := (0:Int) })) ({ ({ c7 with State := (4:Int) } : AH) with Timer := (0:Int) } : AH)) else (Lz aP0 aF1 s.2 c9 s.1 c7)))))) else ((some ({ Ok := aF1.Ok, C9 := aF1.C9, A8 := aF1.A8, A5 := s.1 } : AE)).map Sum.inr))
def cO (aP0 : AQ) (aF1 : AE) : Option AE :=
 (AJ (Oa aP0 aF1) (aF1.A5, (0:Int)))
theorem aR {aP0 : AQ} {aF1 : AE} {r : AE} {l1 l2 m3 l4 m5 : Nat} {q0 : Nat} {vp1 vp2 vp3 : V} {S0 Fp1 Fp2 Fp3 : List Nat} (hk : cO aP0 aF1 = some r) (hO : A6 H H [.DD S0 q0 (.cells 4 [.bool aF1.Ok, vp1, vp2, vp3]), AY S0 Fp1 aF1.C9 [vp1], AY S0 Fp2 aF1.A8 [vp2], AY S0 Fp3 aF1.A5 [vp3]]) (hS : ∀ b ∈ S0, AV lk b = true) (hlt : ∀ b ∈ S0, b < H.length) (hlo : Di lk H.length) (hlk : 0 < lk.length := by simp) : ∃ v H1, Al Tryz.prog hh 99 [.agg (Aj l1 0 l2 m3 l4 m5 aP0), .ptr q0 0] H lk = some (v, H1) ∧ v = .FH [] ∧ ∃ (Fs : List Nat × List Nat × List Nat) (Hm : A3), Bz H Hm (S0) ∧ A6 Hm H1 [.DD S0 q0 (.cells 4 [.bool r.Ok, vp1, vp2, vp3]), AY S0 Fs.1 r.C9 [vp1], AY S0 Fs.2.1 r.A8 [vp2], AY S0 Fs.2.2 r.A5 [vp3]] := by
 refine B0 Tryz.func99 rfl Tryz.ntmps99 Tryz.results99 rfl rfl ?_
 have hFr := Bz.refl H (S0)
 unfold cO at hk
 have hq := (List.getElem?_eq_some_iff.1 (hO.Xy (k := 0) rfl).1).1
 refine A1 (A4 (Ba (cs := [_, _, _, _, _]) hO CH (fun b1 G hO => pE (gn (A1 (A4 ?_))))))
 refine pM (.ptr _ _) ?_
 refine Ci ?_
 refine pF Bl ?_
 refine ZH hO 1 vp3 E6 ?_
 refine JT hO 4 Ih ?_
 refine pM (.int _ _) (pE (gn (BQ ?_)))
 refine AD (F := Oa aP0 aF1) (fun s S' => ∃ (F3 : List Nat) (J : Nat → V) (G : A3) (H1 : A3), Bz H H1 S0 ∧ A6 H1 G [.Ad b1 (.cells 5 (Aj l1 0 l2 m3 l4 m5 aP0)), .DD S0 q0 (.cells 4 [.bool aF1.Ok, vp1, vp2, vp3]), AY S0 Fp1 aF1.C9 [vp1], AY S0 Fp2 aF1.A8 [vp2], AY S0 F3 s.1 [vp3]] ∧ S' = ⟨CO [(1, .ptr q0 0), (2, .ptr b1 0), (13, iv (aF1.A5.length : Int)), (14, iv s.2)] J, G⟩) hk ⟨Fp3, _, _, _, hFr, hO, sh⟩ ?_
 rintro ⟨x2, x4⟩ _ y1 ⟨F3, J, G, H1, hFr, hO, rfl⟩ hk hx1
 refine A1 (A4 (AX (pE (gn (A1 (Aq hk (fun hk => ?_) (fun hk => ?_)))))))
 ·refine As (gn (CS (fun S' => ∃ (x5 : List AH) (F6 : List Nat) (J : Nat → V) (G : A3) (H1 : A3), Gk x4 x5 = some y1 ∧ Bz H H1 S0 ∧ A6 H1 G [.Ad b1 (.cells 5 (Aj l1 0 l2 m3 l4 m5 aP0)), .DD S0 q0 (.cells 4 [.bool aF1.Ok, vp1, vp2, vp3]), AY S0 Fp1 aF1.C9 [vp1], AY S0 Fp2 aF1.A8 [vp2], AY S0 F6 x5 [vp3]] ∧ S' = ⟨CO [(1, .ptr q0 0), (2, .ptr b1 0), (13, iv (aF1.A5.length : Int)), (14, iv x4)] J, G⟩) ?_ ?_))
  ·refine BQ (A1 (A4 (pM (.int _ _) ?_)))
   refine pA (.int _ _) (pE (gn (A1 (A4 ?_))))
   refine pM (.ptr _ _) ?_
   refine Ci ?_
   refine pF Bl ?_
   refine ZH hO 1 vp3 E6 ?_
   refine pM (.int _ _) (bk hk fun c7 hc7 hk => ?_)
   refine Lb hO 4 hc7 EN Ay (fun b8 hb8 => ?_)
   refine pA (.ptr _ _) (pE (gn (A1 (A4 ?_))))
   refine Au Bk hO 0 (.lit _ _ _) Du ?_
   refine pM (.int _ _) (bk hk fun c9 hc9 hk => ?_)
   refine pX hc9 Ex B1 ?_
   refine By (.agg [_, _, _, _, _]) (GG (lm := m3) (off := 0) hc9 FB B1) (C7 hO B1 Ir (fun b10 G hO => ?_))
   refine Cl (xs := [_, _, _, _, _]) hO 0 B1 hFr.1.symm (fun G hO => pE (gn (A1 (A1 (A4 ?_)))))
   refine pM (.ptr _ _) ?_
   refine Ci ?_
   refine pF B9 ?_
   refine GR BN (.int _ _) hO 5 hb8 hc7 BW ?_
   refine AX (pE (gn (Aq hk (fun hk => ?_) (fun hk => ?_))))
   ·exact D6 (ge (be (gn (⟨x2, F3, _, _, _, hk, hFr, (pk hO [1, 2, 3, 4, 5]), sh⟩))))
   ·refine As (gn (CS (fun S' => ∃ (x11 : List AH) (c13 : AH) (F12 : List Nat) (J : Nat → V) (G : A3) (H1 : A3), Lz aP0 aF1 x4 c9 x11 c13 = some y1 ∧ AL x11 x4 = some c13 ∧ vp3 = .sl b8 0 x11.length ∧ Bz H H1 S0 ∧ A6 H1 G [.Ad b10 (.cells 5 (Cq m3 0 m3 0 m3 0 m3 0 m3 0 c9)), .Ad b1 (.cells 5 (Aj l1 0 l2 m3 l4 m5 aP0)), .DD S0 q0 (.cells 4 [.bool aF1.Ok, vp1, vp2, vp3]), AY S0 Fp1 aF1.C9 [vp1], AY S0 Fp2 aF1.A8 [vp2], AY S0 F12 x11 [vp3]] ∧ S' = ⟨CO [(1, .ptr q0 0), (2, .ptr b1 0), (4, iv x4), (5, .ptr b8 (x4.toNat * 5)), (6, .ptr b10 0), (13, iv (aF1.A5.length : Int)), (14, iv x4)] J, G⟩) ?_ ?_))
    ·refine A1 (BG [(0, false), (1, false), (2, false), (3, true), (4, false), (5, false), (6, true), (7, true), (8, true), (9, true), (10, true), (11, true), (12, true), (13, true), (14, false), (15, true), (16, false)] [_, _, _, _, _, _, _, _, _, _, _, _, _, _, _, _, _] (by decide +kernel) (by rfl) ?_)
     refine pM (.ptr _ _) ?_
     refine Ci ?_
     refine pF B9 ?_
     refine GR BN (.int _ _) hO 5 hb8 hc7 BW ?_
     refine AX ?_
     refine pM (.bool _) (bk hk fun t60 ht hk => ?_)
     refine AU (l1 := [_, _, _, _, _, _, _, _, _, _, _]) [39, 40, 41, 42, 43, 44, 45, 46, 47, 48, 49] 49 (.bool t60) ?_ ?_
     ·refine bc (b := (c7.State != (4:Int))) (fun hg => ?_) (fun hg => ?_)
      ·replace hk := ct hg ht
       refine AF hg (pM (.ptr _ _) (AF hg ?_))
       refine Ci (AF hg ?_)
       refine pF Co (AF hg ?_)
       refine ZH hO 2 vp1 CC (AF hg ?_)
       refine pF BL (AF hg ?_)
       refine CP hO 0 (.lit _ _ _) BC (AF hg (bk hk fun c61 hc61 hk => ?_))
       refine pX hc61 C8 DS (AF hg ?_)
       refine By (.int _ _) (D7 (lm := 0) (off := 0) hc61 BW) (AF hg (bk hk fun c62 hc62 hk => ?_))
       refine Lb hO 3 hc62 Cn FU (fun b63 hb63 => AF hg ?_)
       refine GR (Bf.all (α := Bool)) (.bool _) hO 3 hb63 hc62 Fv ?_
       refine Cv hg (.bool _) ?_
       cases hk; exact pE ek
      ·replace hk := cf hg ht
       refine AG hg (AG hg (AG hg (AG hg (AG hg (AG hg (AG hg (AG hg (AG hg (AG hg (Cu hg (.bool _) ?_))))))))))
       cases hk; exact pE ek
     ·intro J
      refine pE (gn (Aq hk (fun hk => ?_) (fun hk => ?_)))
      ·refine A4 (pM (.ptr _ _) ?_)
       refine pM (.ptr _ _) ?_
       refine Ci ?_
       refine pF B9 ?_
       refine N1 BN (y' := (4:Int)) hO 5 hb8 hc7 DS (fun _ => ⟨rfl, rfl⟩) hFr hS rfl (fun H1 G hFr hO => ?_)
       have hc_64 := Bv hc7 ({ c7 with State := (4:Int) } : AH)
       have hv_64 := Cw (j := x4.toNat) (y := ({ c7 with State := (4:Int) } : AH)) hb8
       refine Ci ?_
       refine pF EA ?_
       refine N1 Gm (y' := (0:Int)) hO 5 hv_64 hc_64 DS (fun _ => ⟨rfl, rfl⟩) hFr hS rfl (fun H1 G hFr hO => ?_)
       have hc_65 := Bv hc_64 ({ ({ c7 with State := (4:Int) } : AH) with Timer := (0:Int) } : AH)
       have hv_65 := Cw (j := x4.toNat) (y := ({ ({ c7 with State := (4:Int) } : AH) with Timer := (0:Int) } : AH)) hv_64
       exact pE (gn (⟨(x2.set x4.toNat ({ c7 with State := (4:Int) })).set x4.toNat ({ ({ c7 with State := (4:Int) } : AH) with Timer := (0:Int) }), ({ ({ c7 with State := (4:Int) } : AH) with Timer := (0:Int) } : AH), F3, _, _, _, hk, hc_65, hv_65, hFr, hO, sh⟩))
      ·exact As (gn (⟨x2, c7, F3, _, _, _, hk, hc7, hb8, hFr, hO, sh⟩))
    ·rintro _ ⟨x11, c13, F12, J, G, H1, hk, hc13, hv14, hFr, hO, rfl⟩
     refine A1 (A4 (pM (.ptr _ _) ?_))
     refine Ci ?_
     refine pF B9 ?_
     refine GR BN (.int _ _) hO 5 hv14 hc13 BW (pE (gn (BQ ?_)))
     refine CS (fun S' => ∃ (x16 : Bool) (F15 : List Nat) (J : Nat → V) (G : A3) (H1 : A3), Ob aP0 aF1 x4 c9 x11 c13 x16 = some y1 ∧ AL x11 x4 = some c13 ∧ vp3 = .sl b8 0 x11.length ∧ Bz H H1 S0 ∧ A6 H1 G [.Ad b10 (.cells 5 (Cq m3 0 m3 0 m3 0 m3 0 m3 0 c9)), .Ad b1 (.cells 5 (Aj l1 0 l2 m3 l4 m5 aP0)), .DD S0 q0 (.cells 4 [.bool aF1.Ok, vp1, vp2, vp3]), AY S0 Fp1 aF1.C9 [vp1], AY S0 Fp2 aF1.A8 [vp2], AY S0 F15 x11 [vp3]] ∧ S' = ⟨CO [(1, .ptr q0 0), (2, .ptr b1 0), (4, iv x4), (5, .ptr b8 (x4.toNat * 5)), (6, .ptr b10 0), (13, iv (aF1.A5.length : Int)), (14, iv x4), (59, iv c13.State), (60, .bool x16)] J, G⟩) ?_ ?_
     ·refine A1 (A4 (AX ?_))
      refine pA (.bool _) (pE (gn (Aq hk (fun hk => ?_) (fun hk => ?_))))
      ·exact As (gn (⟨(c13.State == (1:Int)), F12, _, _, _, hk, hc13, hv14, hFr, hO, sh⟩))
      ·refine A4 (AX ?_)
       refine pA (.bool _) (pE (gn ?_))
       exact ⟨(c13.State == (2:Int)), F12, _, _, _, hk, hc13, hv14, hFr, hO, sh⟩
     ·rintro _ ⟨x16, F15, J, G, H1, hk, hc13, hv14, hFr, hO, rfl⟩
      refine Aq hk (fun hk => ?_) (fun hk => ?_)
      ·refine A1 (A4 (pM (.ptr _ _) ?_))
       refine Ci ?_
       refine pF B9 ?_
       refine N1 BN (y' := (1:Int)) hO 5 hv14 hc13 DS (fun _ => ⟨rfl, rfl⟩) hFr hS rfl (fun H1 G hFr hO => ?_)
       have hc_17 := Bv hc13 ({ c13 with State := (1:Int) } : AH)
       have hv_17 := Cw (j := x4.toNat) (y := ({ c13 with State := (1:Int) } : AH)) hv14
       refine pE (gn (A1 (BG [(0, true), (1, true), (2, true), (3, true), (4, true), (5, false)] [_, _, _, _, _, _] (by decide +kernel) (by rfl) ?_)))
       refine Dw hO 1 [_, _, _, _, _] FG CH ?_
       refine pM (.ptr _ _) ?_
       refine Ci ?_
       refine kL hO 2 Ew C0 ?_
       refine pM (.int _ _) (bk hk fun v18 hv18 hk => ?_)
       obtain ⟨_, hm19⟩ := Sx hO (j := 5) rfl (lk.length + 1) 7
       obtain ⟨_, hm20⟩ := JG hO (j := 4) rfl (lk.length + 1) 7
       obtain ⟨_, hm21⟩ := JG hO (j := 3) rfl (lk.length + 1) 7
       refine AR (vs := [(.agg [_, _, _, _, _]), (.agg [_, _, _, _]), (.int _ _)]) (caps := []) (fun _ => XU hv18) ?_ (h3 := (BK rfl (BK (Rh (DW rfl (DW hm21 (DW hm20 (DW hm19 Rk))))) (BK rfl EJ))))
       refine pE (gn (Aq hk (fun hk => ?_) (fun hk => ?_)))
       ·refine A4 (pM (.ptr _ _) ?_)
        refine pM (.ptr _ _) ?_
        refine Ci ?_
        refine pF B9 ?_
        refine N1 BN (y' := (2:Int)) hO 5 hv_17 hc_17 DS (fun _ => ⟨rfl, rfl⟩) hFr hS rfl (fun H1 G hFr hO => ?_)
        have hc_22 := Bv hc_17 ({ ({ c13 with State := (1:Int) } : AH) with State := (2:Int) } : AH)
        have hv_22 := Cw (j := x4.toNat) (y := ({ ({ c13 with State := (1:Int) } : AH) with State := (2:Int) } : AH)) hv_17
        refine Ci ?_
        refine pF Dv ?_
        refine N1 Gl (y' := true) hO 5 hv_22 hc_22 FU (fun _ => ⟨rfl, rfl⟩) hFr hS rfl (fun H1 G hFr hO => ?_)
        have hc_23 := Bv hc_22 ({ ({ ({ c13 with State := (1:Int) } : AH) with State := (2:Int) } : AH) with Shown := true } : AH)
        have hv_23 := Cw (j := x4.toNat) (y := ({ ({ ({ c13 with State := (1:Int) } : AH) with State := (2:Int) } : AH) with Shown := true } : AH)) hv_22
        exact pE (bn (bn (gn (⟨((x11.set x4.toNat ({ c13 with State := (1:Int) })).set x4.toNat ({ ({ c13 with State := (1:Int) } : AH) with State := (2:Int) })).set x4.toNat ({ ({ ({ c13 with State := (1:Int) } : AH) with State := (2:Int) } : AH) with Shown := true }), F15, _, _, _, hk, hFr, (pk hO [1, 2, 3, 4, 5]), sh⟩))))
       ·exact As (bn (bn (gn (⟨x11.set x4.toNat ({ c13 with State := (1:Int) }), F15, _, _, _, hk, hFr, (pk hO [1, 2, 3, 4, 5]), sh⟩))))
      ·refine A1 (A4 (AX ?_))
       refine pA (.bool _) (pE (gn (Aq hk (fun hk => ?_) (fun hk => ?_))))
       ·refine A1 (A1 (A4 (Au BL hO 0 (.lit _ _ _) BC ?_)))
        refine Ah DE ?_
        refine pM (.int _ _) (pE (gn (BQ ?_)))
        refine AD (F := Ly aF1 x4 c9) (fun s S' => ∃ (F25 : List Nat) (J : Nat → V) (G : A3) (H1 : A3), AL s.1 x4 = some s.2.1 ∧ vp3 = .sl b8 0 s.1.length ∧ Bz H H1 S0 ∧ A6 H1 G [.Ad b10 (.cells 5 (Cq m3 0 m3 0 m3 0 m3 0 m3 0 c9)), .Ad b1 (.cells 5 (Aj l1 0 l2 m3 l4 m5 aP0)), .DD S0 q0 (.cells 4 [.bool aF1.Ok, vp1, vp2, vp3]), AY S0 Fp1 aF1.C9 [vp1], AY S0 Fp2 aF1.A8 [vp2], AY S0 F25 s.1 [vp3]] ∧ S' = ⟨CO [(1, .ptr q0 0), (2, .ptr b1 0), (5, .ptr b8 (x4.toNat * 5)), (6, .ptr b10 0), (13, iv (aF1.A5.length : Int)), (14, iv x4), (81, AN m3 0 c9.A0), (82, iv (c9.A0.length : Int)), (83, iv s.2.2)] J, G⟩) hk ⟨F15, _, _, _, hc13, hv14, hFr, hO, sh⟩ ?_
        rintro ⟨x24, c26, x28⟩ _ y2 ⟨F25, J, G, H1, hc26, hv27, hFr, hO, rfl⟩ hk hx2
        refine A1 (A4 (AX (pE (gn (A1 (Aq hk (fun hk => ?_) (fun hk => ?_)))))))
        ·refine As (gn (A1 (BQ (A1 (A4 (pM (.int _ _) (bk hk fun c29 hc29 hk => ?_)))))))
         refine pX hc29 C8 DS ?_
         refine By (.int _ _) (D7 (lm := 0) (off := 0) hc29 BW) ?_
         refine pA (.int _ _) ?_
         refine pA (.int _ _) (pE (gn ?_))
         refine BG [(0, true), (1, true), (2, true), (3, true), (4, true), (5, true), (6, true), (7, true), (8, true), (9, true), (10, true), (11, true), (12, true), (13, true), (14, true), (15, true), (16, true), (17, true), (18, true), (19, true), (20, true), (21, false), (22, false)] [_, _, _, _, _, _, _, _, _, _, _, _, _, _, _, _, _, _, _, _, _, _, _] (by decide +kernel) (by rfl) ?_
         refine pM (.ptr _ _) ?_
         refine Ci ?_
         refine pF C6 ?_
         refine Ui Cd hO 5 hv27 hc26 CC (fun u30 fs30 hs30 => ?_)
         refine pM (.int _ _) ?_
         refine pM (.ptr _ _) ?_
         refine Ci ?_
         refine pF C6 ?_
         refine Ui Cd hO 5 hv27 hc26 CC (fun u31 fs31 hs31 => ?_)
         refine pM (.int _ _) (bk hk fun c32 hc32 hk => ?_)
         refine fT hs31 hc32 Cn FU (fun b33 hb33 => ?_)
         refine YX (.bool _) hs31 hb33 hc32 Fv ?_
         refine pM (.bool _) (bk hk fun t34 ht hk => ?_)
         refine AU (l1 := [_, _, _, _, _, _, _, _]) [101, 102, 103, 104, 105, 106, 107, 108] 108 (.bool t34) ?_ ?_
         ·refine bc (b := c32) (fun hg => ?_) (fun hg => ?_)
          ·replace hk := ct hg ht
           refine AG hg (AG hg (AG hg (AG hg (AG hg (AG hg (AG hg (Cv hg (.bool _) ?_)))))))
           cases hk; exact pE ek
          ·replace hk := cf hg ht
           refine AF hg (pM (.ptr _ _) (AF hg ?_))
           refine Ci (AF hg ?_)
           refine pF Co (AF hg ?_)
           refine ZH hO 2 vp1 CC (AF hg ?_)
           refine pM (.int _ _) (AF hg (bk hk fun c35 hc35 hk => ?_))
           refine Lb hO 3 hc35 Cn FU (fun b36 hb36 => AF hg ?_)
           refine GR (Bf.all (α := Bool)) (.bool _) hO 3 hb36 hc35 Fv ?_
           refine Cu hg (.bool _) ?_
           cases hk; exact pE ek
         ·intro J
          refine bk hk fun c37 hc37 hk => fT hs30 hc37 Cn FU (fun b38 hb38 => ?_)
          refine kM (y' := t34) hO 5 hs30 hb38 hc37 FU (fun _ => ⟨rfl, rfl⟩) hFr hS rfl (fun H1 G hFr hO => ?_)
          replace hO : A6 H1 G [.Ad b10 (.cells 5 (Cq m3 0 m3 0 m3 0 m3 0 m3 0 c9)), .Ad b1 (.cells 5 (Aj l1 0 l2 m3 l4 m5 aP0)), .DD S0 q0 (.cells 4 [.bool aF1.Ok, vp1, vp2, vp3]), AY S0 Fp1 aF1.C9 [vp1], AY S0 Fp2 aF1.A8 [vp2], AY S0 F25 (x24.set x4.toNat ({ c26 with Ab := c26.Ab.set x28.toNat t34 })) [vp3]] := hO
          have hc_39 := Bv hc26 ({ c26 with Ab := c26.Ab.set x28.toNat t34 } : AH)
          have hv_39 := Cw (j := x4.toNat) (y := ({ c26 with Ab := c26.Ab.set x28.toNat t34 } : AH)) hv27
          refine pE (bn (gn (A4 (AX ?_))))
          refine pM (.int _ _) (pE (gn ?_))
          cases hk; exact ⟨_, rfl, F25, _, _, _, hc_39, hv_39, hFr, hO, sh⟩
        ·refine D6 (ge (ge (be (gn (have hk := lx hx2 hk; A1 (BQ (AD (F := KK aF1 x4 c9) (fun s S' => ∃ (F41 : List Nat) (J : Nat → V) (G : A3) (H1 : A3), AL s.1 x4 = some s.2 ∧ vp3 = .sl b8 0 s.1.length ∧ Bz H H1 S0 ∧ A6 H1 G [.Ad b10 (.cells 5 (Cq m3 0 m3 0 m3 0 m3 0 m3 0 c9)), .Ad b1 (.cells 5 (Aj l1 0 l2 m3 l4 m5 aP0)), .DD S0 q0 (.cells 4 [.bool aF1.Ok, vp1, vp2, vp3]), AY S0 Fp1 aF1.C9 [vp1], AY S0 Fp2 aF1.A8 [vp2], AY S0 F41 s.1 [vp3]] ∧ S' = ⟨CO [(1, .ptr q0 0), (2, .ptr b1 0), (5, .ptr b8 (x4.toNat * 5)), (6, .ptr b10 0), (13, iv (aF1.A5.length : Int)), (14, iv x4)] J, G⟩) hk ⟨F25, _, _, _, hc26, hv27, hFr, hO, sh⟩ ?_)))))))
         rintro ⟨x40, c42⟩ _ y2 ⟨F41, J, G, H1, hc42, hv43, hFr, hO, rfl⟩ hk hx2
         refine A1 (A1 (BG [(0, true), (1, true), (2, true), (3, true), (4, true), (5, true), (6, true), (7, false), (8, false), (9, true), (10, true), (11, true), (12, true), (13, true), (14, true), (15, true), (16, true), (17, false), (18, true), (19, false), (20, false), (21, true), (22, true), (23, true), (24, true), (25, true), (26, true), (27, true), (28, true), (29, true), (30, true), (31, true), (32, true), (33, false), (34, true), (35, false), (36, false), (37, false), (38, true), (39, true), (40, true), (41, true), (42, true), (43, true), (44, true), (45, true), (46, false), (47, false), (48, true), (49, true), (50, true), (51, true), (52, true), (53, true), (54, true), (55, true), (56, true), (57, false), (58, true), (59, false), (60, false)] [_, _, _, _, _, _, _, _, _, _, _, _, _, _, _, _, _, _, _, _, _, _, _, _, _, _, _, _, _, _, _, _, _, _, _, _, _, _, _, _, _, _, _, _, _, _, _, _, _, _, _, _, _, _, _, _, _, _, _, _, _] (by decide +kernel) (by rfl) ?_))
         refine pM (.ptr _ _) ?_
         refine Ci ?_
         refine pF C1 ?_
         refine GR Bt (.int _ _) hO 5 hv43 hc42 BW ?_
         refine Au BL hO 0 (.lit _ _ _) BC ?_
         refine Ah DE ?_
         refine AX ?_
         refine pM (.bool _) (bk hk fun t44 ht hk => ?_)
         refine AU (l1 := [_, _, _, _, _, _, _, _, _, _, _]) [120, 121, 122, 123, 124, 125, 126, 127, 128, 129, 130] 130 (.bool t44) ?_ ?_
         ·refine bc (b := decide (c42.Ac < (c9.A0.length : Int))) (fun hg => ?_) (fun hg => ?_)
          ·replace hk := ct hg ht
           refine AF hg (pM (.ptr _ _) (AF hg ?_))
           refine Ci (AF hg ?_)
           refine pF C6 (AF hg ?_)
           refine Ui Cd hO 5 hv43 hc42 CC (fun u45 fs45 hs45 => AF hg ?_)
           refine pM (.ptr _ _) (AF hg ?_)
           refine Ci (AF hg ?_)
           refine pF C1 (AF hg ?_)
           refine GR Bt (.int _ _) hO 5 hv43 hc42 BW (AF hg (bk hk fun c46 hc46 hk => ?_))
           refine fT hs45 hc46 Cn FU (fun b47 hb47 => AF hg ?_)
           refine YX (.bool _) hs45 hb47 hc46 Fv ?_
           refine Cv hg (.bool _) ?_
           cases hk; exact pE ek
          ·replace hk := cf hg ht
           refine AG hg (AG hg (AG hg (AG hg (AG hg (AG hg (AG hg (AG hg (AG hg (AG hg (Cu hg (.bool _) ?_))))))))))
           cases hk; exact pE ek
         ·intro J
          refine pM (.bool _) (bk hk fun t48 ht hk => ?_)
          refine AU (l1 := [_, _, _, _, _, _, _, _, _, _, _, _, _, _, _, _]) [132, 133, 134, 135, 136, 137, 138, 139, 140, 141, 142, 143, 144, 145, 146, 147] 147 (.bool t48) ?_ ?_
          ·refine bc (b := t44) (fun hg => ?_) (fun hg => ?_)
           ·replace hk := ct hg ht
            refine AF hg (pM (.ptr _ _) (AF hg ?_))
            refine Ci (AF hg ?_)
            refine pF Co (AF hg ?_)
            refine ZH hO 2 vp1 CC (AF hg ?_)
            refine pF BL (AF hg ?_)
            refine CP hO 0 (.lit _ _ _) BC (AF hg ?_)
            refine pM (.ptr _ _) (AF hg ?_)
            refine Ci (AF hg ?_)
            refine pF C1 (AF hg ?_)
            refine GR Bt (.int _ _) hO 5 hv43 hc42 BW (AF hg (bk hk fun c49 hc49 hk => ?_))
            refine pX hc49 C8 DS (AF hg ?_)
            refine By (.int _ _) (D7 (lm := 0) (off := 0) hc49 BW) (AF hg (bk hk fun c50 hc50 hk => ?_))
            refine Lb hO 3 hc50 Cn FU (fun b51 hb51 => AF hg ?_)
            refine GR (Bf.all (α := Bool)) (.bool _) hO 3 hb51 hc50 Fv (AF hg ?_)
            refine pU ?_
            refine Cv hg (.bool _) ?_
            cases hk; exact pE ek
           ·replace hk := cf hg ht
            refine AG hg (AG hg (AG hg (AG hg (AG hg (AG hg (AG hg (AG hg (AG hg (AG hg (AG hg (AG hg (AG hg (AG hg (AG hg (Cu hg (.bool _) ?_)))))))))))))))
            cases hk; exact pE ek
          ·intro J
           refine pM (.bool _) (bk hk fun t52 ht hk => ?_)
           refine AU (l1 := [_, _, _, _, _, _, _, _, _, _, _, _, _, _, _, _, _, _, _, _, _, _, _]) [149, 150, 151, 152, 153, 154, 155, 156, 157, 158, 159, 160, 161, 162, 163, 164, 165, 166, 167, 168, 169, 170, 171] 171 (.bool t52) ?_ ?_
           ·refine bc (b := t48) (fun hg => ?_) (fun hg => ?_)
            ·replace hk := ct hg ht
             refine AF hg (pM (.ptr _ _) (AF hg ?_))
             refine Ci (AF hg ?_)
             refine pF C1 (AF hg ?_)
             refine GR Bt (.int _ _) hO 5 hv43 hc42 BW (AF hg ?_)
             refine pF BL (AF hg ?_)
             refine CP hO 0 (.lit _ _ _) BC (AF hg ?_)
             refine Ah DE (AF hg ?_)
             refine AX (AF hg ?_)
             refine AX (AF hg ?_)
             refine pM (.bool _) (bk hk fun t53 ht hk => ?_)
             refine AU (l1 := [_, _, _, _, _, _, _, _, _, _, _, _]) [159, 160, 161, 162, 163, 164, 165, 166, 167, 168, 169, 170] 170 (.bool t53) ?_ ?_
             ·refine bc (b := (c42.Ac == (BV ((c9.A0.length : Int) - (1:Int))))) (fun hg2 => ?_) (fun hg2 => ?_)
              ·replace hk := ct hg2 ht
               refine AG hg2 (AG hg2 (AG hg2 (AG hg2 (AG hg2 (AG hg2 (AG hg2 (AG hg2 (AG hg2 (AG hg2 (AG hg2 (AF hg (Cv hg2 (.bool _) ?_))))))))))))
               cases hk; exact pE ek
              ·replace hk := cf hg2 ht
               refine AF hg2 (pM (.ptr _ _) (AF hg2 ?_))
               refine Ci (AF hg2 ?_)
               refine pF C6 (AF hg2 ?_)
               refine Ui Cd hO 5 hv43 hc42 CC (fun u54 fs54 hs54 => AF hg2 ?_)
               refine pM (.ptr _ _) (AF hg2 ?_)
               refine Ci (AF hg2 ?_)
               refine pF C1 (AF hg2 ?_)
               refine GR Bt (.int _ _) hO 5 hv43 hc42 BW (AF hg2 ?_)
               refine AX (AF hg2 (bk hk fun c55 hc55 hk => ?_))
               refine fT hs54 hc55 Cn FU (fun b56 hb56 => AF hg2 ?_)
               refine YX (.bool _) hs54 hb56 hc55 Fv (AF hg ?_)
               refine Cu hg2 (.bool _) ?_
               cases hk; exact pE ek
             ·intro J
              refine Cv hg (.bool _) ?_
              cases hk; exact pE ek
            ·replace hk := cf hg ht
             refine AG hg (AG hg (AG hg (AG hg (AG hg (AG hg (AG hg (AG hg (AG hg (AG hg (CY (CY (CY (CY (CY (CY (CY (CY (CY (CY (CY (AG hg (Cu hg (.bool _) ?_))))))))))))))))))))))
             cases hk; exact pE ek
           ·intro J
            refine pE (gn (Aq hk (fun hk => ?_) (fun hk => ?_)))
            ·refine As (gn (BQ (A4 (pM (.ptr _ _) ?_))))
             refine Ci ?_
             refine pF C1 ?_
             refine GR Bt (.int _ _) hO 5 hv43 hc42 BW ?_
             refine AX ?_
             refine Ci ?_
             refine pF C1 ?_
             refine N1 Bt (y' := (BV (c42.Ac + (1:Int)))) hO 5 hv43 hc42 DS (fun _ => ⟨rfl, rfl⟩) hFr hS rfl (fun H1 G hFr hO => ?_)
             have hc_57 := Bv hc42 ({ c42 with Ac := BV (c42.Ac + (1:Int)) } : AH)
             have hv_57 := Cw (j := x4.toNat) (y := ({ c42 with Ac := BV (c42.Ac + (1:Int)) } : AH)) hv43
             refine pE (bn (gn ?_))
             cases hk; exact ⟨_, rfl, F41, _, _, _, hc_57, hv_57, hFr, hO, sh⟩
            ·refine D6 (ge (ge (be (gn (have hk := lx hx2 hk; A1 (BG [(0, true), (1, true), (2, true), (3, true), (4, true), (5, true), (6, true), (7, false)] [_, _, _, _, _, _, _, _] (by decide +kernel) (by rfl) ?_))))))
             refine pM (.ptr _ _) ?_
             refine Ci ?_
             refine pF C1 ?_
             refine GR Bt (.int _ _) hO 5 hv43 hc42 BW ?_
             refine Au BL hO 0 (.lit _ _ _) BC ?_
             refine Ah DE ?_
             refine AX (pE (gn (Aq hk (fun hk => ?_) (fun hk => ?_))))
             ·refine A4 (pM (.ptr _ _) ?_)
              refine Dw hO 0 [_, _, _, _, _] FB B1 (bk hk fun v58 hv58 hk => ?_)
              refine ML hO (fun _ => aQ hv58) (fun u59 F59 G hO => ?_)
              refine Ci ?_
              refine cX hO 5 hv43 hc42 Ay hFr hS rfl (fun H1 G hFr hO => pE (bn (bn (gn ?_))))
              exact ⟨x40.set x4.toNat v58, (F41 ++ F59), _, _, _, hk, hFr, (pk hO [1, 2, 3, 4, 5]), sh⟩
             ·exact As (bn (bn (gn (⟨x40, F41, _, _, _, hk, hFr, (pk hO [1, 2, 3, 4, 5]), sh⟩))))
       ·exact As (bn (bn (gn (⟨x11, F15, _, _, _, hk, hFr, (pk hO [1, 2, 3, 4, 5]), sh⟩))))
  ·rintro _ ⟨x5, F6, J, G, H1, hk, hFr, hO, rfl⟩
   refine A4 (AX ?_)
   refine pM (.int _ _) (pE (gn ?_))
   cases hk; exact ⟨_, rfl, F6, _, _, _, hFr, hO, sh⟩
 ·refine D6 (ge (ge (be (have hk := lx hx1 hk; ?_))))
  replace hk := Option.some.inj hk; subst hk; exact Xs (Fp1, Fp2, F3) (pk hO [1, 2, 3, 4]) hFr (JV (bJ hq) (JV MO (JV MO (JV MO Yd)))) rfl rfl rfl rfl (by first | exact Or.inl rfl | exact Or.inr rfl)
def NA (aS10 : List Bool) (aS21 : List Bool) : Int → Option (Int ⊕ Bool) := fun s =>
 (bif decide (s < (aS10.length : Int)) then ((AL aS10 s).bind fun c2 => ((AL aS21 s).bind fun c3 => (bif !(c2 == c3) then ((some false).map Sum.inr) else some (.inl (BV (s + (1:Int))))))) else ((some true).map Sum.inr))
def WJ (aS10 : List Bool) (aS21 : List Bool) : Option Bool :=
 (bif ((aS10.length : Int) != (aS21.length : Int)) then some false else (AJ (NA aS10 aS21) ((0:Int))))
theorem Sb {aS10 : List Bool} {aS21 : List Bool} {r : Bool} {l1 l2 : Nat} (hk : WJ aS10 aS21 = some r) (hlk : 0 < lk.length := by simp) : Al Tryz.prog hh 124 [AN l1 0 aS10, AN l2 0 aS21] H lk = some (.bool r, H) := by
 refine AI Tryz.func124 rfl Tryz.ntmps124 Tryz.results124 rfl rfl fun hO => ?_
 unfold WJ at hk
 refine A1 (A4 (pA (.bool _) (pE (gn (A1 (A1 (A4 ?_)))))))
 refine pM (.lit _ _ _) ?_
 refine Ah Hd ?_
 refine pM (.lit _ _ _) ?_
 refine Ah Hd ?_
 refine AX (pE (gn (Aq hk (fun hk => ?_) (fun hk => ?_))))
 ·refine A1 (A4 (pA (.bool _) (pE (gn (Av (gr ?_))))))
  cases hk; exact AT hO
 ·refine As (gn (A1 (A1 (A4 (pM (.lit _ _ _) ?_)))))
  refine Ah Hd ?_
  refine pM (.int _ _) (pE (gn (BQ ?_)))
  refine AD (F := NA aS10 aS21) (fun s S' => ∃ (J : Nat → V) (G : A3), A6 H G [] ∧ S' = ⟨CO [(0, AN l1 0 aS10), (1, AN l2 0 aS21), (12, iv (aS10.length : Int)), (13, iv s)] J, G⟩) hk ⟨_, _, hO, sh⟩ ?_
  rintro x1 _ y1 ⟨J, G, hO, rfl⟩ hk hx1
  refine A1 (A4 (AX (pE (gn (A1 (Aq hk (fun hk => ?_) (fun hk => ?_)))))))
  ·refine As (gn (A1 (BQ (A1 (A4 (pM (.int _ _) ?_))))))
   refine pA (.int _ _) (pE (gn (A1 ?_)))
   refine BG [(0, true), (1, true), (2, true), (3, true), (4, true), (5, true), (6, true), (7, true), (8, false)] [_, _, _, _, _, _, _, _, _] (by decide +kernel) (by rfl) ?_
   refine pM (.lit _ _ _) ?_
   refine pM (.int _ _) (bk hk fun c2 hc2 hk => ?_)
   refine pX hc2 Cn FU ?_
   refine By (.bool _) (D7 (lm := 0) (off := 0) hc2 Fv) ?_
   refine pM (.lit _ _ _) ?_
   refine pM (.int _ _) (bk hk fun c3 hc3 hk => ?_)
   refine pX hc3 Cn FU ?_
   refine By (.bool _) (D7 (lm := 0) (off := 0) hc3 Fv) ?_
   refine bG Tryz.underlying4 (pE (gn (Aq hk (fun hk => ?_) (fun hk => ?_))))
   ·refine A1 (A4 (pA (.bool _) (pE (gn (Av (br (gr (gr (br (gr (have hk := lx hx1 hk; ?_)))))))))))
    cases hk; exact AT hO
   ·refine As (bn (gn (A4 (AX ?_))))
    refine pM (.int _ _) (pE (gn ?_))
    cases hk; exact ⟨_, rfl, _, _, hO, sh⟩
  ·refine D6 (ge (ge (be (gn (have hk := lx hx1 hk; A1 (A4 (pA (.bool _) (pE (gn (Av ?_))))))))))
   cases hk; exact AT hO
def NB (aS10 : List Am) (aS21 : List Am) : Int → Option (Int ⊕ Bool) := fun s =>
 (bif decide (s < (aS10.length : Int)) then ((AL aS10 s).bind fun c2 => ((AL aS21 s).bind fun c3 => (bif !((c2.Want == c3.Want) && ((c2.AO == c3.AO) && true)) then ((some false).map Sum.inr) else some (.inl (BV (s + (1:Int))))))) else ((some true).map Sum.inr))
def Xc (aS10 : List Am) (aS21 : List Am) : Option Bool :=
 (bif ((aS10.length : Int) != (aS21.length : Int)) then some false else (AJ (NB aS10 aS21) ((0:Int))))
theorem Xd {aS10 : List Am} {aS21 : List Am} {r : Bool} {l1 l2 : Nat} (hk : Xc aS10 aS21 = some r) (hlk : 0 < lk.length := by simp) : Al Tryz.prog hh 125 [AN l1 0 aS10, AN l2 0 aS21] H lk = some (.bool r, H) := by
 refine AI Tryz.func125 rfl Tryz.ntmps125 Tryz.results125 rfl rfl fun hO => ?_
 unfold Xc at hk
 refine A1 (A4 (pA (.bool _) (pE (gn (A1 (A1 (A4 ?_)))))))
 refine pM (.lit _ _ _) ?_
 refine Ah Pa ?_
 refine pM (.lit _ _ _) ?_
 refine Ah Pa ?_
 refine AX (pE (gn (Aq hk (fun hk => ?_) (fun hk => ?_))))
 ·refine A1 (A4 (pA (.bool _) (pE (gn (Av (gr ?_))))))
  cases hk; exact AT hO
 ·refine As (gn (A1 (A1 (A4 (pM (.lit _ _ _) ?_)))))
  refine Ah Pa ?_
  refine pM (.int _ _) (pE (gn (BQ ?_)))
  refine AD (F := NB aS10 aS21) (fun s S' => ∃ (J : Nat → V) (G : A3), A6 H G [] ∧ S' = ⟨CO [(0, AN l1 0 aS10), (1, AN l2 0 aS21), (12, iv (aS10.length : Int)), (13, iv s)] J, G⟩) hk ⟨_, _, hO, sh⟩ ?_
  rintro x1 _ y1 ⟨J, G, hO, rfl⟩ hk hx1
  refine A1 (A4 (AX (pE (gn (A1 (Aq hk (fun hk => ?_) (fun hk => ?_)))))))
  ·refine As (gn (A1 (BQ (A1 (A4 (pM (.int _ _) ?_))))))
   refine pA (.int _ _) (pE (gn (A1 ?_)))
   refine BG [(0, true), (1, true), (2, true), (3, true), (4, true), (5, true), (6, true), (7, true), (8, false)] [_, _, _, _, _, _, _, _, _] (by decide +kernel) (by rfl) ?_
   refine pM (.lit _ _ _) ?_
   refine pM (.int _ _) (bk hk fun c2 hc2 hk => ?_)
   refine pX hc2 Iv EE ?_
   refine By (.agg [_, _]) (GG (lm := 0) (off := 0) hc2 SD EE) ?_
   refine pM (.lit _ _ _) ?_
   refine pM (.int _ _) (bk hk fun c3 hc3 hk => ?_)
   refine pX hc3 Iv EE ?_
   refine By (.agg [_, _]) (GG (lm := 0) (off := 0) hc3 SD EE) ?_
   refine kI lJ (gO (gP _ _ _) (gO (gP _ _ _) (rfl))) (pE (gn (Aq hk (fun hk => ?_) (fun hk => ?_))))
   ·refine A1 (A4 (pA (.bool _) (pE (gn (Av (br (gr (gr (br (gr (have hk := lx hx1 hk; ?_)))))))))))
    cases hk; exact AT hO
   ·refine As (bn (gn (A4 (AX ?_))))
    refine pM (.int _ _) (pE (gn ?_))
    cases hk; exact ⟨_, rfl, _, _, hO, sh⟩
  ·refine D6 (ge (ge (be (gn (have hk := lx hx1 hk; A1 (A4 (pA (.bool _) (pE (gn (Av ?_))))))))))
   cases hk; exact AT hO
def Kl (aA0 : AE) (aB1 : AE) : Int → Option (Int ⊕ Bool) := fun s =>
 (bif decide (s < (aA0.A5.length : Int)) then ((AL aA0.A5 s).bind fun c7 => ((AL aB1.A5 s).bind fun c9 => ((bif ((((c7.State != c9.State) || (c7.Ac != c9.Ac)) || !(c7.Shown == c9.Shown)) || (c7.Timer != c9.Timer)) then some true else ((WJ c7.Ab c9.Ab).bind fun v12 => some (!v12))).bind fun t11 => (bif t11 then ((some false).map Sum.inr) else some (.inl (BV (s + (1:Int)))))))) else ((some true).map Sum.inr))
def Tx (aA0 : AE) (aB1 : AE) : Option Bool :=
 ((WJ aA0.C9 aB1.C9).bind fun v3 => ((bif !v3 then some true else ((Xc aA0.A8 aB1.A8).bind fun v5 => some (!v5))).bind fun t4 => (bif (t4 || ((aA0.A5.length : Int) != (aB1.A5.length : Int))) then some false else (AJ (Kl aA0 aB1) ((0:Int))))))
theorem XQ {aA0 : AE} {aB1 : AE} {r : Bool} {l1 l2 l3 m4 l5 l6 l7 m8 : Nat} (hk : Tx aA0 aB1 = some r) (hlk : 0 < lk.length := by simp) : Al Tryz.prog hh 109 [.agg (Ai l1 0 l2 0 l3 m4 aA0), .agg (Ai l5 0 l6 0 l7 m8 aB1)] H lk = some (.bool r, H) := by
 refine AI Tryz.func109 rfl Tryz.ntmps109 Tryz.results109 rfl rfl fun hO => ?_
 unfold Tx at hk
 refine A1 (A4 (Ba (cs := [_, _, _, _]) hO C0 (fun b1 G hO => ?_)))
 refine Ba (cs := [_, _, _, _]) hO C0 (fun b2 G hO => ?_)
 refine pA (.bool _) (pE (gn (A1 (A1 (A4 ?_)))))
 refine Au Co hO 1 (.lit _ _ _) CC ?_
 refine Au Co hO 0 (.lit _ _ _) CC (bk hk fun v3 hv3 hk => ?_)
 refine AR (fun _ => Sb hv3) ?_
 refine pU ?_
 refine pM (.bool _) (bk hk fun t4 ht hk => ?_)
 refine AU (l1 := [_, _, _, _, _, _, _]) [15, 16, 17, 18, 19, 20, 21] 21 (.bool t4) ?_ ?_
 ·refine bc (b := !v3) (fun hg => ?_) (fun hg => ?_)
  ·replace hk := ct hg ht
   refine AG hg (AG hg (AG hg (AG hg (AG hg (AG hg (Cv hg (.bool _) ?_))))))
   cases hk; exact pE ek
  ·replace hk := cf hg ht
   refine AF hg (pF Dh (AF hg ?_))
   refine CP hO 1 (.lit _ _ _) JX (AF hg ?_)
   refine pF Dh (AF hg ?_)
   refine CP hO 0 (.lit _ _ _) JX (AF hg (bk hk fun v5 hv5 hk => ?_))
   refine AR (fun _ => Xd hv5) (AF hg ?_)
   refine pU ?_
   refine Cu hg (.bool _) ?_
   cases hk; exact pE ek
 ·intro J
  refine pM (.bool _) ?_
  refine AU (l1 := [_, _, _, _, _, _, _, _]) [23, 24, 25, 26, 27, 28, 29, 30] 30 (.bool (t4 || ((aA0.A5.length : Int) != (aB1.A5.length : Int)))) ?_ ?_
  ·refine bc (b := t4) (fun hg => ?_) (fun hg => ?_)
   ·refine AG hg (AG hg (AG hg (AG hg (AG hg (AG hg (AG hg (Cv hg (.bool _) ?_)))))))
    exact pE (ek (by rw [hg]; rfl))
   ·refine AF hg (pF Bl (AF hg ?_))
    refine CP hO 1 (.lit _ _ _) E6 (AF hg ?_)
    refine Ah Ih (AF hg ?_)
    refine pF Bl (AF hg ?_)
    refine CP hO 0 (.lit _ _ _) E6 (AF hg ?_)
    refine Ah Ih (AF hg ?_)
    refine AX ?_
    refine Cu hg (.bool _) ?_
    exact pE (ek (by rw [hg]; rfl))
  ·intro J
   refine pE (gn (Aq hk (fun hk => ?_) (fun hk => ?_)))
   ·refine A1 (A4 (pA (.bool _) (pE (gn (Av (gr ?_))))))
    cases hk; exact AT hO
   ·refine As (gn (A1 (A1 (A4 (Au Bl hO 1 (.lit _ _ _) E6 ?_)))))
    refine Ah Ih ?_
    refine pM (.int _ _) (pE (gn (BQ ?_)))
    refine AD (F := Kl aA0 aB1) (fun s S' => ∃ (J : Nat → V) (G : A3), A6 H G [.Ad b2 (.cells 4 (Ai l5 0 l6 0 l7 m8 aB1))] ∧ S' = ⟨CO [(3, .ptr b2 0), (32, AN l3 m4 aA0.A5), (33, iv (aA0.A5.length : Int)), (34, iv s)] J, G⟩) hk ⟨_, _, (pk hO [0]), sh⟩ ?_
    rintro x6 _ y1 ⟨J, G, hO, rfl⟩ hk hx1
    refine A1 (A4 (AX (pE (gn (A1 (Aq hk (fun hk => ?_) (fun hk => ?_)))))))
    ·refine As (gn (A1 (BQ (A1 (A4 (pM (.int _ _) (bk hk fun c7 hc7 hk => ?_)))))))
     refine pX hc7 EN Ay ?_
     refine By (.agg [_, _, _, _, _]) (GG (lm := m4) (off := 0) hc7 G9 Ay) (C7 hO Ay FT (fun b8 G hO => ?_))
     refine pA (.int _ _) ?_
     refine Cl (xs := [_, _, _, _, _]) hO 0 Ay rfl (fun G hO => pE (gn (A1 (A4 ?_))))
     refine Au Bl hO 1 (.lit _ _ _) E6 ?_
     refine pM (.int _ _) (bk hk fun c9 hc9 hk => ?_)
     refine pX hc9 EN Ay ?_
     refine By (.agg [_, _, _, _, _]) (GG (lm := m8) (off := 0) hc9 G9 Ay) (C7 hO Ay FT (fun b10 G hO => ?_))
     refine Cl (xs := [_, _, _, _, _]) hO 0 Ay rfl (fun G hO => pE (gn (A1 (A4 ?_))))
     refine Au B9 hO 1 (.int _ _) BW ?_
     refine Au B9 hO 0 (.int _ _) BW ?_
     refine AX ?_
     refine pM (.bool _) ?_
     refine AU (l1 := [_, _, _, _, _, _]) [50, 51, 52, 53, 54, 55] 55 (.bool ((c7.State != c9.State) || (c7.Ac != c9.Ac))) ?_ ?_
     ·refine bc (b := (c7.State != c9.State)) (fun hg => ?_) (fun hg => ?_)
      ·refine AG hg (AG hg (AG hg (AG hg (AG hg (Cv hg (.bool _) ?_)))))
       exact pE (ek (by rw [hg]; rfl))
      ·refine AF hg (pF C1 (AF hg ?_))
       refine CP hO 1 (.int _ _) BW (AF hg ?_)
       refine pF C1 (AF hg ?_)
       refine CP hO 0 (.int _ _) BW (AF hg ?_)
       refine AX ?_
       refine Cu hg (.bool _) ?_
       exact pE (ek (by rw [hg]; rfl))
     ·intro J
      refine pM (.bool _) ?_
      refine AU (l1 := [_, _, _, _, _, _]) [57, 58, 59, 60, 61, 62] 62 (.bool (((c7.State != c9.State) || (c7.Ac != c9.Ac)) || !(c7.Shown == c9.Shown))) ?_ ?_
      ·refine bc (b := ((c7.State != c9.State) || (c7.Ac != c9.Ac))) (fun hg => ?_) (fun hg => ?_)
       ·refine AG hg (AG hg (AG hg (AG hg (AG hg (Cv hg (.bool _) ?_)))))
        exact pE (ek (by rw [hg]; rfl))
       ·refine AF hg (pF Dv (AF hg ?_))
        refine CP hO 1 (.bool _) Fv (AF hg ?_)
        refine pF Dv (AF hg ?_)
        refine CP hO 0 (.bool _) Fv (AF hg ?_)
        refine bG Tryz.underlying4 ?_
        refine Cu hg (.bool _) ?_
        exact pE (ek (by rw [hg]; rfl))
      ·intro J
       refine pM (.bool _) ?_
       refine AU (l1 := [_, _, _, _, _, _]) [64, 65, 66, 67, 68, 69] 69 (.bool ((((c7.State != c9.State) || (c7.Ac != c9.Ac)) || !(c7.Shown == c9.Shown)) || (c7.Timer != c9.Timer))) ?_ ?_
       ·refine bc (b := (((c7.State != c9.State) || (c7.Ac != c9.Ac)) || !(c7.Shown == c9.Shown))) (fun hg => ?_) (fun hg => ?_)
        ·refine AG hg (AG hg (AG hg (AG hg (AG hg (Cv hg (.bool _) ?_)))))
         exact pE (ek (by rw [hg]; rfl))
        ·refine AF hg (pF EA (AF hg ?_))
         refine CP hO 1 (.int _ _) BW (AF hg ?_)
         refine pF EA (AF hg ?_)
         refine CP hO 0 (.int _ _) BW (AF hg ?_)
         refine AX ?_
         refine Cu hg (.bool _) ?_
         exact pE (ek (by rw [hg]; rfl))
       ·intro J
        refine pM (.bool _) (bk hk fun t11 ht hk => ?_)
        refine AU (l1 := [_, _, _, _, _, _, _]) [71, 72, 73, 74, 75, 76, 77] 77 (.bool t11) ?_ ?_
        ·refine bc (b := ((((c7.State != c9.State) || (c7.Ac != c9.Ac)) || !(c7.Shown == c9.Shown)) || (c7.Timer != c9.Timer))) (fun hg => ?_) (fun hg => ?_)
         ·replace hk := ct hg ht
          refine AG hg (AG hg (AG hg (AG hg (AG hg (AG hg (Cv hg (.bool _) ?_))))))
          cases hk; exact pE ek
         ·replace hk := cf hg ht
          refine AF hg (pF C6 (AF hg ?_))
          refine CP hO 1 (.lit _ _ _) CC (AF hg ?_)
          refine pF C6 (AF hg ?_)
          refine CP hO 0 (.lit _ _ _) CC (AF hg (bk hk fun v12 hv12 hk => ?_))
          refine AR (fun _ => Sb hv12) (AF hg ?_)
          refine pU ?_
          refine Cu hg (.bool _) ?_
          cases hk; exact pE ek
        ·intro J
         refine pE (gn (Aq hk (fun hk => ?_) (fun hk => ?_)))
         ·refine A1 (A4 (pA (.bool _) (pE (gn (Av (br (gr (gr (br (gr (have hk := lx hx1 hk; ?_)))))))))))
          cases hk; exact AT hO
         ·refine As (bn (gn (A4 (AX ?_))))
          refine pM (.int _ _) (pE (gn ?_))
          cases hk; exact ⟨_, rfl, _, _, (pk hO [2]), sh⟩
    ·refine D6 (ge (ge (be (gn (have hk := lx hx1 hk; A1 (A4 (pA (.bool _) (pE (gn (Av ?_))))))))))
     cases hk; exact AT hO
def RQ (aP0 : AQ) (aF1 : AE) (x9 : Int) (c10 : AH) : Int → Option (Int ⊕ (Int ⊕ Bool)) := fun s =>
 (bif decide (s < x9) then ((bif (c10.State != (0:Int)) then ((AL aF1.A5 s).bind fun c16 => some (c16.State != (0:Int))) else some false).bind fun t15 => ((bif t15 then ((AL aP0.BX x9).bind fun c18 => ((AL c18 s).bind fun c19 => some c19)) else some false).bind fun t17 => (bif t17 then (((some false).map Sum.inr).map Sum.inr) else some (.inl (BV (s + (1:Int))))))) else ((some (.inl (BV (x9 + (1:Int))))).map Sum.inr))
def KI (aP0 : AQ) (aF1 : AE) : Int → Option (Int ⊕ Bool) := fun s =>
 (bif decide (s < (aF1.A5.length : Int)) then ((AL aF1.A5 s).bind fun c10 => ((AL aP0.A5 s).bind fun c12 => ((XO aP0 c10 c12).bind fun v13 => (bif !v13 then ((some false).map Sum.inr) else (AJ (RQ aP0 aF1 s c10) ((0:Int))))))) else (((fA aF1).bind fun v20 => ((cO aP0 v20).bind fun z33 => ((Tx aF1 z33).bind fun v35 => some v35))).map Sum.inr))
def OQ (aP0 : AQ) (aF1 : AE) : Int → Option (Int ⊕ Bool) := fun s =>
 (bif decide (s < (aF1.A8.length : Int)) then ((AL aF1.A8 s).bind fun c4 => ((U3 c4.Want (1:Int) (2:Int)).bind fun v6 => ((bif !v6 then some true else ((U3 c4.AO (0:Int) (2:Int)).bind fun v8 => some (!v8))).bind fun t7 => (bif t7 then ((some false).map Sum.inr) else some (.inl (BV (s + (1:Int)))))))) else ((AJ (KI aP0 aF1) ((0:Int))).map Sum.inr))
def lT (aP0 : AQ) (aF1 : AE) : Option Bool :=
 (bif (((!aF1.Ok || ((aF1.C9.length : Int) != aP0.A0)) || ((aF1.A8.length : Int) != (aP0.A7.length : Int))) || ((aF1.A5.length : Int) != (aP0.A5.length : Int))) then some false else (AJ (OQ aP0 aF1) ((0:Int))))
theorem aG {aP0 : AQ} {aF1 : AE} {r : Bool} {l1 l2 m3 l4 m5 l6 l7 l8 m9 : Nat} (hk : lT aP0 aF1 = some r) (hlk : 0 < lk.length := by simp) (hlo : Di lk H.length := by simp [Di]) (hvm9 : m9 ≤ lk.length := by simp only [List.length_append, List.length_singleton]; omega) : Al Tryz.prog hh 80 [.agg (Aj l1 0 l2 m3 l4 m5 aP0), .agg (Ai l6 0 l7 0 l8 m9 aF1)] H lk = some (.bool r, H) := by
 refine AI Tryz.func80 rfl Tryz.ntmps80 Tryz.results80 rfl rfl fun hO => ?_
 unfold lT at hk
 refine A1 (A4 (Ba (cs := [_, _, _, _, _]) hO CH (fun b1 G hO => ?_)))
 refine Ba (cs := [_, _, _, _]) hO C0 (fun b2 G hO => ?_)
 refine pA (.bool _) (pE (gn (A1 (A1 (A4 ?_)))))
 refine Au MW hO 0 (.bool _) Fv ?_
 refine pU ?_
 refine pM (.bool _) ?_
 refine AU (l1 := [_, _, _, _, _, _, _]) [15, 16, 17, 18, 19, 20, 21] 21 (.bool (!aF1.Ok || ((aF1.C9.length : Int) != aP0.A0))) ?_ ?_
 ·refine bc (b := !aF1.Ok) (fun hg => ?_) (fun hg => ?_)
  ·refine AG hg (AG hg (AG hg (AG hg (AG hg (AG hg (Cv hg (.bool _) ?_))))))
   exact pE (ek (by rw [hg]; rfl))
  ·refine AF hg (pF Co (AF hg ?_))
   refine CP hO 0 (.lit _ _ _) CC (AF hg ?_)
   refine Ah Hd (AF hg ?_)
   refine pF EO (AF hg ?_)
   refine CP hO 1 (.int _ _) BW (AF hg ?_)
   refine AX ?_
   refine Cu hg (.bool _) ?_
   exact pE (ek (by rw [hg]; rfl))
 ·intro J
  refine pM (.bool _) ?_
  refine AU (l1 := [_, _, _, _, _, _, _, _]) [23, 24, 25, 26, 27, 28, 29, 30] 30 (.bool ((!aF1.Ok || ((aF1.C9.length : Int) != aP0.A0)) || ((aF1.A8.length : Int) != (aP0.A7.length : Int)))) ?_ ?_
  ·refine bc (b := (!aF1.Ok || ((aF1.C9.length : Int) != aP0.A0))) (fun hg => ?_) (fun hg => ?_)
   ·refine AG hg (AG hg (AG hg (AG hg (AG hg (AG hg (AG hg (Cv hg (.bool _) ?_)))))))
    exact pE (ek (by rw [hg]; rfl))
   ·refine AF hg (pF Dh (AF hg ?_))
    refine CP hO 0 (.lit _ _ _) JX (AF hg ?_)
    refine Ah Pa (AF hg ?_)
    refine pF Dg (AF hg ?_)
    refine CP hO 1 (.lit _ _ _) BC (AF hg ?_)
    refine Ah DE (AF hg ?_)
    refine AX ?_
    refine Cu hg (.bool _) ?_
    exact pE (ek (by rw [hg]; rfl))
  ·intro J
   refine pM (.bool _) ?_
   refine AU (l1 := [_, _, _, _, _, _, _, _]) [32, 33, 34, 35, 36, 37, 38, 39] 39 (.bool (((!aF1.Ok || ((aF1.C9.length : Int) != aP0.A0)) || ((aF1.A8.length : Int) != (aP0.A7.length : Int))) || ((aF1.A5.length : Int) != (aP0.A5.length : Int)))) ?_ ?_
   ·refine bc (b := ((!aF1.Ok || ((aF1.C9.length : Int) != aP0.A0)) || ((aF1.A8.length : Int) != (aP0.A7.length : Int)))) (fun hg => ?_) (fun hg => ?_)
    ·refine AG hg (AG hg (AG hg (AG hg (AG hg (AG hg (AG hg (Cv hg (.bool _) ?_)))))))
     exact pE (ek (by rw [hg]; rfl))
    ·refine AF hg (pF Bl (AF hg ?_))
     refine CP hO 0 (.lit _ _ _) E6 (AF hg ?_)
     refine Ah Ih (AF hg ?_)
     refine pF Bk (AF hg ?_)
     refine CP hO 1 (.lit _ _ _) Du (AF hg ?_)
     refine Ah I2 (AF hg ?_)
     refine AX ?_
     refine Cu hg (.bool _) ?_
     exact pE (ek (by rw [hg]; rfl))
   ·intro J
    refine pE (gn (Aq hk (fun hk => ?_) (fun hk => ?_)))
    ·refine A1 (A4 (pA (.bool _) (pE (gn (Av (gr ?_))))))
     cases hk; exact AT hO
    ·refine As (gn (A1 (A1 (A4 (Au Dh hO 0 (.lit _ _ _) JX ?_)))))
     refine Ah Pa ?_
     refine pM (.int _ _) (pE (gn (BQ ?_)))
     refine AD (F := OQ aP0 aF1) (fun s S' => ∃ (J : Nat → V) (G : A3), A6 H G [.Ad b2 (.cells 4 (Ai l6 0 l7 0 l8 m9 aF1)), .Ad b1 (.cells 5 (Aj l1 0 l2 m3 l4 m5 aP0))] ∧ S' = ⟨CO [(2, .ptr b1 0), (3, .ptr b2 0), (41, AN l7 0 aF1.A8), (42, iv (aF1.A8.length : Int)), (43, iv s)] J, G⟩) hk ⟨_, _, hO, sh⟩ ?_
     rintro x3 _ y1 ⟨J, G, hO, rfl⟩ hk hx1
     refine A1 (A4 (AX (pE (gn (A1 (Aq hk (fun hk => ?_) (fun hk => ?_)))))))
     ·refine As (gn (A1 (BQ (A1 (A4 (bk hk fun c4 hc4 hk => pX hc4 Iv EE ?_))))))
      refine By (.agg [_, _]) (GG (lm := 0) (off := 0) hc4 SD EE) (C7 hO EE TN (fun b5 G hO => ?_))
      refine Cl (xs := [_, _]) hO 0 EE rfl (fun G hO => pE (gn (A1 (A4 ?_))))
      refine Au Ig hO 0 (.int _ _) BW (bk hk fun v6 hv6 hk => ?_)
      refine AR (fun _ => Ej hv6) ?_
      refine pU ?_
      refine pM (.bool _) (bk hk fun t7 ht hk => ?_)
      refine AU (l1 := [_, _, _, _, _]) [52, 53, 54, 55, 56] 56 (.bool t7) ?_ ?_
      ·refine bc (b := !v6) (fun hg => ?_) (fun hg => ?_)
       ·replace hk := ct hg ht
        refine AG hg (AG hg (AG hg (AG hg (Cv hg (.bool _) ?_))))
        cases hk; exact pE ek
       ·replace hk := cf hg ht
        refine AF hg (pF KZ (AF hg ?_))
        refine CP hO 0 (.int _ _) BW (AF hg (bk hk fun v8 hv8 hk => ?_))
        refine AR (fun _ => Ej hv8) (AF hg ?_)
        refine pU ?_
        refine Cu hg (.bool _) ?_
        cases hk; exact pE ek
      ·intro J
       refine pE (gn (Aq hk (fun hk => ?_) (fun hk => ?_)))
       ·refine A1 (A4 (pA (.bool _) (pE (gn (Av (br (gr (gr (br (gr (have hk := lx hx1 hk; ?_)))))))))))
        cases hk; exact AT hO
       ·refine As (bn (gn (A4 (AX ?_))))
        refine pM (.int _ _) (pE (gn ?_))
        cases hk; exact ⟨_, rfl, _, _, (pk hO [1, 2]), sh⟩
     ·refine D6 (ge (ge (be (gn (have hk := lx hx1 hk; A1 (A1 (A4 (Au Bl hO 0 (.lit _ _ _) E6 ?_))))))))
      refine Ah Ih ?_
      refine pM (.int _ _) (pE (gn (BQ ?_)))
      refine AD (F := KI aP0 aF1) (fun s S' => ∃ (J : Nat → V) (G : A3), A6 H G [.Ad b2 (.cells 4 (Ai l6 0 l7 0 l8 m9 aF1)), .Ad b1 (.cells 5 (Aj l1 0 l2 m3 l4 m5 aP0))] ∧ S' = ⟨CO [(2, .ptr b1 0), (3, .ptr b2 0), (59, AN l8 m9 aF1.A5), (60, iv (aF1.A5.length : Int)), (61, iv s)] J, G⟩) hk ⟨_, _, hO, sh⟩ ?_
      rintro x9 _ y1 ⟨J, G, hO, rfl⟩ hk hx1
      refine A1 (A4 (AX (pE (gn (A1 (Aq hk (fun hk => ?_) (fun hk => ?_)))))))
      ·refine As (gn (A1 (BQ (A1 (A4 (pM (.int _ _) (bk hk fun c10 hc10 hk => ?_)))))))
       refine pX hc10 EN Ay ?_
       refine By (.agg [_, _, _, _, _]) (GG (lm := m9) (off := 0) hc10 G9 Ay) (C7 hO Ay FT (fun b11 G hO => ?_))
       refine pA (.int _ _) ?_
       refine Cl (xs := [_, _, _, _, _]) hO 0 Ay rfl (fun G hO => pE (gn (A1 (A1 ?_))))
       refine BG [(0, true), (1, true), (2, true), (3, true), (4, true), (5, true), (6, true), (7, false), (8, false)] [_, _, _, _, _, _, _, _, _] (by decide +kernel) (by rfl) ?_
       refine Dw hO 2 [_, _, _, _, _] FG CH ?_
       refine Dw hO 0 [_, _, _, _, _] G9 Ay ?_
       refine Au Bk hO 2 (.lit _ _ _) Du ?_
       refine pM (.int _ _) (bk hk fun c12 hc12 hk => ?_)
       refine pX hc12 Ex B1 ?_
       refine By (.agg [_, _, _, _, _]) (GG (lm := m3) (off := 0) hc12 FB B1) (bk hk fun v13 hv13 hk => ?_)
       refine AR (fun _ => XP hv13) ?_
       refine pU (pE (gn (Aq hk (fun hk => ?_) (fun hk => ?_))))
       ·refine A1 (A4 (pA (.bool _) (pE (gn (Av (gr (br (gr (gr (br (gr (have hk := lx hx1 hk; ?_))))))))))))
        cases hk; exact AT hO
       ·refine As (gn (A1 (A4 (pM (.int _ _) ?_))))
        refine pM (.int _ _) (pE (gn (BQ ?_)))
        refine AD (F := RQ aP0 aF1 x9 c10) (fun s S' => ∃ (J : Nat → V) (G : A3), A6 H G [.Ad b11 (.cells 5 [iv c10.State, iv c10.Ac, AN m9 0 c10.Ab, .bool c10.Shown, iv c10.Timer]), .Ad b2 (.cells 4 (Ai l6 0 l7 0 l8 m9 aF1)), .Ad b1 (.cells 5 (Aj l1 0 l2 m3 l4 m5 aP0))] ∧ S' = ⟨CO [(2, .ptr b1 0), (3, .ptr b2 0), (7, iv x9), (8, .ptr b11 0), (59, AN l8 m9 aF1.A5), (60, iv (aF1.A5.length : Int)), (61, iv x9), (75, iv x9), (76, iv s)] J, G⟩) hk ⟨_, _, hO, sh⟩ ?_
        rintro x14 _ y2 ⟨J, G, hO, rfl⟩ hk hx2
        refine A1 (A4 (AX (pE (gn (A1 (Aq hk (fun hk => ?_) (fun hk => ?_)))))))
        ·refine As (gn (A1 (BQ (A1 (A4 (pM (.int _ _) ?_))))))
         refine pA (.int _ _) (pE (gn (A1 (A4 ?_))))
         refine Au B9 hO 0 (.int _ _) BW ?_
         refine AX ?_
         refine pM (.bool _) (bk hk fun t15 ht hk => ?_)
         refine AU (l1 := [_, _, _, _, _, _, _, _]) [83, 84, 85, 86, 87, 88, 89, 90] 90 (.bool t15) ?_ ?_
         ·refine bc (b := (c10.State != (0:Int))) (fun hg => ?_) (fun hg => ?_)
          ·replace hk := ct hg ht
           refine AF hg (pF Bl (AF hg ?_))
           refine CP hO 1 (.lit _ _ _) E6 (AF hg ?_)
           refine pM (.int _ _) (AF hg (bk hk fun c16 hc16 hk => ?_))
           refine pX hc16 EN Ay (AF hg ?_)
           refine pF B9 (AF hg ?_)
           refine By (.int _ _) (D7 (lm := m9) (off := 0) hc16 BW) (AF hg ?_)
           refine AX ?_
           refine Cv hg (.bool _) ?_
           cases hk; exact pE ek
          ·replace hk := cf hg ht
           refine AG hg (AG hg (AG hg (AG hg (AG hg (AG hg (AG hg (Cu hg (.bool _) ?_)))))))
           cases hk; exact pE ek
         ·intro J
          refine pM (.bool _) (bk hk fun t17 ht hk => ?_)
          refine AU (l1 := [_, _, _, _, _, _, _, _, _]) [92, 93, 94, 95, 96, 97, 98, 99, 100] 100 (.bool t17) ?_ ?_
          ·refine bc (b := t15) (fun hg => ?_) (fun hg => ?_)
           ·replace hk := ct hg ht
            refine AF hg (pF EP (AF hg ?_))
            refine CP hO 2 (.lit _ _ _) It (AF hg ?_)
            refine pM (.int _ _) (AF hg (bk hk fun c18 hc18 hk => ?_))
            refine pX hc18 Iu GI (AF hg ?_)
            refine By (.lit _ _ _) (D7 (lm := m5) (off := 0) hc18 CC) (AF hg ?_)
            refine pM (.int _ _) (AF hg (bk hk fun c19 hc19 hk => ?_))
            refine pX hc19 Cn FU (AF hg ?_)
            refine By (.bool _) (D7 (lm := 0) (off := 0) hc19 Fv) ?_
            refine Cv hg (.bool _) ?_
            cases hk; exact pE ek
           ·replace hk := cf hg ht
            refine AG hg (AG hg (AG hg (AG hg (AG hg (AG hg (AG hg (AG hg (Cu hg (.bool _) ?_))))))))
            cases hk; exact pE ek
          ·intro J
           refine pE (gn (Aq hk (fun hk => ?_) (fun hk => ?_)))
           ·refine A1 (A4 (pA (.bool _) (pE (gn (Av (br (gr (gr (br (br (gr (gr (br (gr (have hk := lx hx2 hk; have hk := lx hx1 hk; ?_)))))))))))))))
            cases hk; exact AT hO
           ·refine As (bn (gn (A4 (AX ?_))))
            refine pM (.int _ _) (pE (gn ?_))
            cases hk; exact ⟨_, rfl, _, _, hO, sh⟩
        ·refine D6 (ge (ge (be (bn (gn (have hk := lx hx2 hk; A4 (AX ?_)))))))
         refine pM (.int _ _) (pE (gn ?_))
         cases hk; exact ⟨_, rfl, _, _, (pk hO [1, 2]), sh⟩
      ·refine D6 (ge (ge (be (gn (have hk := lx hx1 hk; A1 (A4 (Dw hO 0 [_, _, _, _] Ew C0 (bk hk fun v20 hv20 hk => ?_))))))))
       refine ML hO (fun _ => aP (m4 := m9) hv20) (fun u21 F21 G hO => ?_)
       replace hO : A6 H G (AY [] _ ((v20.Ok, v20.C9, v20.A8, v20.A5) : Bool × (List Bool) × (List Am) × (List AH)) _ :: [.Ad b2 (.cells 4 (Ai l6 0 l7 0 l8 m9 aF1)), .Ad b1 (.cells 5 (Aj l1 0 l2 m3 l4 m5 aP0))]) := hO
       obtain ⟨cs22, Fb22, he, hP⟩ := A6.Yi hO
       clear hO; subst he; have hO := hP; clear hP
       obtain ⟨u23, cs23, F23, Fb23, he, hP⟩ := A6.S8 hO
       clear hO; subst he; have hO := hP; clear hP
       obtain ⟨u25, cs25, F25, Fb25, he, hP⟩ := A6.S8 hO
       clear hO; subst he; have hO := hP; clear hP
       obtain ⟨u27, rfl⟩ := A6.cQ hO
       refine C7 hO C0 SC (fun b29 G hO => ?_)
       have hc30 := B7 hO (j := 3) rfl
       have hc31 := B7 hO (j := 2) rfl
       have hc32 := B7 hO (j := 1) rfl
       refine Cl (xs := [_, _, _, _]) hO 0 C0 rfl (fun G hO => ?_) (h6 := (Bq rfl (Bq hc30.2 (Bq hc31.2 (Bq hc32.2 Ik)))))
       refine pE (gn (A1 (A4 (Dw hO 5 [_, _, _, _, _] FG CH ?_))))
       replace hO := (A6.pick hO [0, 3, 2, 1, 4, 5] (by decide) rfl : A6 H G ([.Ad b29 (.cells 4 [.bool v20.Ok, u23, u25, u27]), AY [] F23 v20.C9 [u23], AY [] F25 v20.A8 [u25], AY [] Fb25 v20.A5 [u27]] ++ [.Ad b2 (.cells 4 (Ai l6 0 l7 0 l8 m9 aF1)), .Ad b1 (.cells 5 (Aj l1 0 l2 m3 l4 m5 aP0))]))
       refine bk hk fun z33 hz33 hk => kG (rs0 := [.Ad b29 (.cells 4 [.bool v20.Ok, u23, u25, u27]), AY [] F23 v20.C9 [u23], AY [] F25 v20.A8 [u25], AY [] Fb25 v20.A5 [u27]]) (rs1 := fun (Fs34 : List Nat × List Nat × List Nat) => [.Ad b29 (.cells 4 [.bool z33.Ok, u23, u25, u27]), AY [] Fs34.1 z33.C9 [u23], AY [] Fs34.2.1 z33.A8 [u25], AY [] Fs34.2.2 z33.A5 [u27]]) (rest := [.Ad b2 (.cells 4 (Ai l6 0 l7 0 l8 m9 aF1)), .Ad b1 (.cells 5 (Aj l1 0 l2 m3 l4 m5 aP0))]) (S := (b29 :: (F23 ++ (F25 ++ (Fb25 ++ []))))) hO hlo rfl (Rq rfl) (NT rfl) (A6.lo hO) (fun _ hl1 hlt1 hun1 ho1 => aR hz33 ho1 hun1 hlt1 hl1) (fun _ => (SF rfl (SF rfl (SF rfl (SF rfl gZ))))) (fun Fs34 G hO => pE (gn (A1 (A4 ?_))))
       refine Dw hO 4 [_, _, _, _] Ew C0 ?_
       refine Dw hO 0 [_, _, _, _] Ew C0 (bk hk fun v35 hv35 hk => ?_)
       obtain ⟨_, hm36⟩ := Sx hO (j := 3) rfl (lk.length + 1) 7
       obtain ⟨_, hm37⟩ := JG hO (j := 2) rfl (lk.length + 1) 7
       obtain ⟨_, hm38⟩ := JG hO (j := 1) rfl (lk.length + 1) 7
       refine AR (vs := [(.agg [_, _, _, _]), (.agg [_, _, _, _])]) (caps := []) (fun _ => XQ hv35) ?_ (h3 := (BK rfl (BK (Rh (DW rfl (DW hm38 (DW hm37 (DW hm36 Rk))))) EJ)))
       refine pA (.bool _) (pE (gn (Av ?_)))
       cases hk; exact AT hO
def jB (aP0 : AQ) (aF1 : AE) : Option Bool :=
 ((jR aP0).bind fun v3 => ((bif v3 then ((lT aP0 aF1).bind fun v5 => some v5) else some false).bind fun t4 => some t4))
theorem Zm {aP0 : AQ} {aF1 : AE} {r : Bool} {l1 l2 m3 l4 m5 l6 l7 l8 m9 : Nat} (hk : jB aP0 aF1 = some r) (hlk : 0 < lk.length := by simp) (hlo : Di lk H.length := by simp [Di]) (hvm9 : m9 ≤ lk.length := by simp only [List.length_append, List.length_singleton]; omega) : Al Tryz.prog hh 45 [.agg (Aj l1 0 l2 m3 l4 m5 aP0), .agg (Ai l6 0 l7 0 l8 m9 aF1)] H lk = some (.bool r, H) := by
 refine AI Tryz.func45 rfl Tryz.ntmps45 Tryz.results45 rfl rfl fun hO => ?_
 unfold jB at hk
 refine A1 (A4 (Ba (cs := [_, _, _, _, _]) hO CH (fun b1 G hO => ?_)))
 refine Ba (cs := [_, _, _, _]) hO C0 (fun b2 G hO => ?_)
 refine pA (.bool _) (pE (gn (A1 (A4 ?_))))
 refine Dw hO 1 [_, _, _, _, _] FG CH (bk hk fun v3 hv3 hk => ?_)
 refine AR (fun _ => aF hv3) ?_
 refine pM (.bool _) (bk hk fun t4 ht hk => ?_)
 refine AU (l1 := [_, _, _, _]) [8, 9, 10, 11] 11 (.bool t4) ?_ ?_
 ·refine bc (b := v3) (fun hg => ?_) (fun hg => ?_)
  ·replace hk := ct hg ht
   refine AF hg (Dw hO 1 [_, _, _, _, _] FG CH (AF hg ?_))
   refine Dw hO 0 [_, _, _, _] Ew C0 (AF hg (bk hk fun v5 hv5 hk => ?_))
   refine Rv hO hlo rfl (fun _ hl => aG (m9 := m9) hv5 (hlo := hl)) ?_
   refine Cv hg (.bool _) ?_
   cases hk; exact pE ek
  ·replace hk := cf hg ht
   refine AG hg (AG hg (AG hg (Cu hg (.bool _) ?_)))
   cases hk; exact pE ek
 ·intro J
  refine pA (.bool _) (pE (gn (Av ?_)))
  cases hk; exact AT hO
def lU (aT0 : Aa) (aA1 : Int) : Option Bool :=
 some (aT0.Switch == aA1)
theorem aH {aT0 : Aa} {aA1 : Int} {r : Bool} {q0 : Nat} (hk : lU aT0 aA1 = some r) (hq0 : H[q0]? = some (.cells 1 [iv aA1])) (hlk : 0 < lk.length := by simp) : Al Tryz.prog hh 82 [.agg [iv aT0.Switch, iv aT0.EZ], .ptr q0 0] H lk = some (.bool r, H) := by
 refine AI Tryz.func82 rfl Tryz.ntmps82 Tryz.results82 rfl rfl fun hO => ?_
 unfold lU at hk
 refine A1 (A4 (Ba (cs := [_, _]) hO BD (fun b1 G hO => ?_)))
 refine pA (.bool _) (pE (gn (A1 (A4 ?_))))
 refine Au CR hO 0 (.int _ _) BW ?_
 refine mA (.int _ _) hO hq0 BW ?_
 refine AX ?_
 refine pA (.bool _) (pE (gn (Av ?_)))
 cases hk; exact AT hO
def I9 (aS0 : List Aa) (aC1_0 : Int) : Int → Option (Int ⊕ Int) := fun s =>
 (bif decide (s < (aS0.length : Int)) then ((AL aS0 s).bind fun c2 => ((lU c2 aC1_0).bind fun v3 => (bif v3 then ((some s).map Sum.inr) else some (.inl (BV (s + (1:Int))))))) else ((some (-1:Int)).map Sum.inr))
def Km (aS0 : List Aa) (aC1_0 : Int) : Option Int :=
 (AJ (I9 aS0 aC1_0) ((0:Int)))
theorem SX {aS0 : List Aa} {aC1_0 : Int} {r : Int} {l1 : Nat} {q0 : Nat} (hk : Km aS0 aC1_0 = some r) (hq0 : H[q0]? = some (.cells 1 [iv aC1_0])) (hlk : 0 < lk.length := by simp) : Al Tryz.prog hh 110 [AN l1 0 aS0, .fn 82 [.ptr q0 0]] H lk = some (iv r, H) := by
 refine AI Tryz.func110 rfl Tryz.ntmps110 Tryz.results110 rfl rfl fun hO => ?_
 unfold Km at hk
 refine A1 (A4 (pA (.int _ _) (pE (gn (A1 (A1 (A4 ?_)))))))
 refine pM (.lit _ _ _) ?_
 refine Ah FC ?_
 refine pM (.int _ _) (pE (gn (BQ ?_)))
 refine AD (F := I9 aS0 aC1_0) (fun s S' => ∃ (J : Nat → V) (G : A3), A6 H G [] ∧ S' = ⟨CO [(0, AN l1 0 aS0), (1, .fn 82 [.ptr q0 0]), (7, iv (aS0.length : Int)), (8, iv s)] J, G⟩) hk ⟨_, _, hO, sh⟩ ?_
 rintro x1 _ y1 ⟨J, G, hO, rfl⟩ hk hx1
 refine A1 (A4 (AX (pE (gn (A1 (Aq hk (fun hk => ?_) (fun hk => ?_)))))))
 ·refine As (gn (A1 (BQ (A1 (A4 (pM (.int _ _) ?_))))))
  refine pA (.int _ _) (pE (gn (A1 (A4 ?_))))
  refine pM (.fn _ _) ?_
  refine pM (.lit _ _ _) ?_
  refine pM (.int _ _) (bk hk fun c2 hc2 hk => ?_)
  refine pX hc2 Dl BD ?_
  refine By (.agg [_, _]) (GG (lm := 0) (off := 0) hc2 GA BD) (bk hk fun v3 hv3 hk => ?_)
  refine AR (fun _ => aH hv3 (HM hO hq0)) (pE (gn (Aq hk (fun hk => ?_) (fun hk => ?_))))
  ·refine A1 (A4 (pM (.int _ _) ?_))
   refine pA (.int _ _) (pE (gn (Av (br (gr (gr (br (gr (have hk := lx hx1 hk; ?_)))))))))
   cases hk; exact AT hO
  ·refine As (bn (gn (A4 (AX ?_))))
   refine pM (.int _ _) (pE (gn ?_))
   cases hk; exact ⟨_, rfl, _, _, hO, sh⟩
 ·refine D6 (ge (ge (be (gn (have hk := lx hx1 hk; A1 (A4 (pA (.int _ _) (pE (gn (Av ?_))))))))))
  cases hk; exact AT hO
def OR (aS0 : List Aa) (aC1_0 : Int) : Option Bool :=
 ((Km aS0 aC1_0).bind fun v1 => some (decide (v1 ≥ (0:Int))))
theorem U5 {aS0 : List Aa} {aC1_0 : Int} {r : Bool} {l1 : Nat} {q0 : Nat} (hk : OR aS0 aC1_0 = some r) (hq0 : H[q0]? = some (.cells 1 [iv aC1_0])) (hlk : 0 < lk.length := by simp) : Al Tryz.prog hh 81 [AN l1 0 aS0, .fn 82 [.ptr q0 0]] H lk = some (.bool r, H) := by
 refine AI Tryz.func81 rfl Tryz.ntmps81 Tryz.results81 rfl rfl fun hO => ?_
 unfold OR at hk
 refine A1 (A4 (pA (.bool _) (pE (gn (A1 (A4 ?_))))))
 refine pM (.lit _ _ _) ?_
 refine pM (.fn _ _) (bk hk fun v1 hv1 hk => ?_)
 refine AR (fun _ => SX hv1 (HM hO hq0)) ?_
 refine AX ?_
 refine pA (.bool _) (pE (gn (Av ?_)))
 cases hk; exact AT hO
def lV (aT0 : Aa) (aA1 : Int) : Option Bool :=
 some (aT0.Switch == aA1)
theorem aI {aT0 : Aa} {aA1 : Int} {r : Bool} {q0 : Nat} (hk : lV aT0 aA1 = some r) (hq0 : H[q0]? = some (.cells 1 [iv aA1])) (hlk : 0 < lk.length := by simp) : Al Tryz.prog hh 83 [.agg [iv aT0.Switch, iv aT0.EZ], .ptr q0 0] H lk = some (.bool r, H) := by
 refine AI Tryz.func83 rfl Tryz.ntmps83 Tryz.results83 rfl rfl fun hO => ?_
 unfold lV at hk
 refine A1 (A4 (Ba (cs := [_, _]) hO BD (fun b1 G hO => ?_)))
 refine pA (.bool _) (pE (gn (A1 (A4 ?_))))
 refine Au CR hO 0 (.int _ _) BW ?_
 refine mA (.int _ _) hO hq0 BW ?_
 refine AX ?_
 refine pA (.bool _) (pE (gn (Av ?_)))
 cases hk; exact AT hO
def IA (aS0 : List Aa) (aC1_0 : Int) : Int → Option (Int ⊕ Int) := fun s =>
 (bif decide (s < (aS0.length : Int)) then ((AL aS0 s).bind fun c2 => ((lV c2 aC1_0).bind fun v3 => (bif v3 then ((some s).map Sum.inr) else some (.inl (BV (s + (1:Int))))))) else ((some (-1:Int)).map Sum.inr))
def Kn (aS0 : List Aa) (aC1_0 : Int) : Option Int :=
 (AJ (IA aS0 aC1_0) ((0:Int)))
theorem SY {aS0 : List Aa} {aC1_0 : Int} {r : Int} {l1 : Nat} {q0 : Nat} (hk : Kn aS0 aC1_0 = some r) (hq0 : H[q0]? = some (.cells 1 [iv aC1_0])) (hlk : 0 < lk.length := by simp) : Al Tryz.prog hh 110 [AN l1 0 aS0, .fn 83 [.ptr q0 0]] H lk = some (iv r, H) := by
 refine AI Tryz.func110 rfl Tryz.ntmps110 Tryz.results110 rfl rfl fun hO => ?_
 unfold Kn at hk
 refine A1 (A4 (pA (.int _ _) (pE (gn (A1 (A1 (A4 ?_)))))))
 refine pM (.lit _ _ _) ?_
 refine Ah FC ?_
 refine pM (.int _ _) (pE (gn (BQ ?_)))
 refine AD (F := IA aS0 aC1_0) (fun s S' => ∃ (J : Nat → V) (G : A3), A6 H G [] ∧ S' = ⟨CO [(0, AN l1 0 aS0), (1, .fn 83 [.ptr q0 0]), (7, iv (aS0.length : Int)), (8, iv s)] J, G⟩) hk ⟨_, _, hO, sh⟩ ?_
 rintro x1 _ y1 ⟨J, G, hO, rfl⟩ hk hx1
 refine A1 (A4 (AX (pE (gn (A1 (Aq hk (fun hk => ?_) (fun hk => ?_)))))))
 ·refine As (gn (A1 (BQ (A1 (A4 (pM (.int _ _) ?_))))))
  refine pA (.int _ _) (pE (gn (A1 (A4 ?_))))
  refine pM (.fn _ _) ?_
  refine pM (.lit _ _ _) ?_
  refine pM (.int _ _) (bk hk fun c2 hc2 hk => ?_)
  refine pX hc2 Dl BD ?_
  refine By (.agg [_, _]) (GG (lm := 0) (off := 0) hc2 GA BD) (bk hk fun v3 hv3 hk => ?_)
  refine AR (fun _ => aI hv3 (HM hO hq0)) (pE (gn (Aq hk (fun hk => ?_) (fun hk => ?_))))
  ·refine A1 (A4 (pM (.int _ _) ?_))
   refine pA (.int _ _) (pE (gn (Av (br (gr (gr (br (gr (have hk := lx hx1 hk; ?_)))))))))
   cases hk; exact AT hO
  ·refine As (bn (gn (A4 (AX ?_))))
   refine pM (.int _ _) (pE (gn ?_))
   cases hk; exact ⟨_, rfl, _, _, hO, sh⟩
 ·refine D6 (ge (ge (be (gn (have hk := lx hx1 hk; A1 (A4 (pA (.int _ _) (pE (gn (Av ?_))))))))))
  cases hk; exact AT hO
def OS (aS0 : List Aa) (aC1_0 : Int) : Option Bool :=
 ((Kn aS0 aC1_0).bind fun v1 => some (decide (v1 ≥ (0:Int))))
theorem U6 {aS0 : List Aa} {aC1_0 : Int} {r : Bool} {l1 : Nat} {q0 : Nat} (hk : OS aS0 aC1_0 = some r) (hq0 : H[q0]? = some (.cells 1 [iv aC1_0])) (hlk : 0 < lk.length := by simp) : Al Tryz.prog hh 81 [AN l1 0 aS0, .fn 83 [.ptr q0 0]] H lk = some (.bool r, H) := by
 refine AI Tryz.func81 rfl Tryz.ntmps81 Tryz.results81 rfl rfl fun hO => ?_
 unfold OS at hk
 refine A1 (A4 (pA (.bool _) (pE (gn (A1 (A4 ?_))))))
 refine pM (.lit _ _ _) ?_
 refine pM (.fn _ _) (bk hk fun v1 hv1 hk => ?_)
 refine AR (fun _ => SY hv1 (HM hO hq0)) ?_
 refine AX ?_
 refine pA (.bool _) (pE (gn (Av ?_)))
 cases hk; exact AT hO
def O5 (x6 : Int) (x7 : List Int) : Option (((List Int) × Int) ⊕ (List Int)) :=
 some (.inl (x7, BV (x6 + (1:Int))))
def RH (x6 : Int) (x14 : List Int) (x16 : Bool) : Option (((List Int) × Int) ⊕ (List Int)) :=
 (bif x16 then ((D5 8 x14 ([x6] : List Int)).bind fun z17 => (O5 x6 z17)) else (O5 x6 x14))
def Lo (aP0 : AQ) (aF1 : AE) (aPoint2 : Int) : ((List Int) × Int) → Option (((List Int) × Int) ⊕ (List Int)) := fun s =>
 (bif decide (s.2 < (aF1.A5.length : Int)) then ((AL aF1.A5 s.2).bind fun c9 => (bif (c9.State == (0:Int)) then (O5 s.2 s.1) else ((AL aP0.A5 s.2).bind fun c11 => ((OR c11.AB aPoint2).bind fun v13 => ((OS c11.AO aPoint2).bind fun v18 => (bif v18 then ((bif v13 then some true else ((AL aP0.A7 aPoint2).bind fun c20 => ((eV c11.A0 c20).bind fun v21 => some (decide (v21 ≥ c9.Ac))))).bind fun t19 => (RH s.2 s.1 t19)) else (RH s.2 s.1 v13))))))) else ((some s.1).map Sum.inr))
def jC (aP0 : AQ) (aF1 : AE) (aPoint2 : Int) : Option (List Int) :=
 (AJ (Lo aP0 aF1 aPoint2) (([] : List Int), (0:Int)))
theorem Zn {aP0 : AQ} {aF1 : AE} {aPoint2 : Int} {r : (List Int)} {l1 l2 m3 l4 m5 l6 l7 l8 m9 : Nat} (hk : jC aP0 aF1 aPoint2 = some r) (hlk : 0 < lk.length := by simp) : Al Tryz.prog hh 47 [.agg (Aj l1 0 l2 m3 l4 m5 aP0), .agg (Ai l6 0 l7 0 l8 m9 aF1), iv aPoint2] H lk = some (AN 0 0 r, H) := by
 refine AI Tryz.func47 rfl Tryz.ntmps47 Tryz.results47 rfl rfl fun hO => ?_
 unfold jC at hk
 refine A1 (A4 (Ba (cs := [_, _, _, _, _]) hO CH (fun b1 G hO => ?_)))
 refine Ba (cs := [_, _, _, _]) hO C0 (fun b2 G hO => ?_)
 refine Ba (cs := [_]) hO DS (fun b3 G hO => ?_)
 refine pA (.tl 0 []) (pE (gn (A1 (A4 ?_))))
 refine pA (.tl 0 []) (pE (gn (A1 (A1 (A4 ?_)))))
 refine Au Bl hO 1 (.lit _ _ _) E6 ?_
 refine Ah Ih ?_
 refine pM (.int _ _) (pE (gn (BQ ?_)))
 refine AD (F := Lo aP0 aF1 aPoint2) (fun s S' => ∃ (o4 : V) (J : Nat → V) (G : A3), A6 H G [.Ad b3 (.cells 1 [iv aPoint2]), .Ad b1 (.cells 5 (Aj l1 0 l2 m3 l4 m5 aP0)), .own o4 lk.length 1 s.1.length (A9 0 s.1)] ∧ S' = ⟨CO [(3, .ptr b1 0), (5, .ptr b3 0), (7, o4), (13, AN l8 m9 aF1.A5), (14, iv (aF1.A5.length : Int)), (15, iv s.2)] J, G⟩) hk ⟨(.tl 0 []), _, _, (A6.pick (A6.H8 hO lk.length ([] : List Int)) [1, 3, 0] (by decide) rfl), sh⟩ ?_
 rintro ⟨x4, x6⟩ _ y1 ⟨o4, J, G, hO, rfl⟩ hk hx1
 refine A1 (A4 (AX (pE (gn (A1 (Aq hk (fun hk => ?_) (fun hk => ?_)))))))
 ·refine As (gn (CS (fun S' => ∃ (x7 : List Int) (o7 : V) (J : Nat → V) (G : A3), O5 x6 x7 = some y1 ∧ A6 H G [.Ad b3 (.cells 1 [iv aPoint2]), .Ad b1 (.cells 5 (Aj l1 0 l2 m3 l4 m5 aP0)), .own o7 lk.length 1 x7.length (A9 0 x7)] ∧ S' = ⟨CO [(3, .ptr b1 0), (5, .ptr b3 0), (7, o7), (13, AN l8 m9 aF1.A5), (14, iv (aF1.A5.length : Int)), (15, iv x6)] J, G⟩) ?_ ?_))
  ·refine BQ (A1 (A4 (pM (.int _ _) (bk hk fun c9 hc9 hk => ?_))))
   refine pX hc9 EN Ay ?_
   refine By (.agg [_, _, _, _, _]) (GG (lm := m9) (off := 0) hc9 G9 Ay) (C7 hO Ay FT (fun b10 G hO => ?_))
   refine pA (.int _ _) ?_
   refine Cl (xs := [_, _, _, _, _]) hO 0 Ay rfl (fun G hO => pE (gn (A1 (A1 (A4 ?_)))))
   refine Au B9 hO 0 (.int _ _) BW ?_
   refine AX (pE (gn (Aq hk (fun hk => ?_) (fun hk => ?_))))
   ·exact D6 (ge (be (gn (⟨x4, o4, _, _, hk, (pk hO [1, 2, 3]), sh⟩))))
   ·refine As (gn (A1 (A4 (Au Bk hO 2 (.lit _ _ _) Du ?_))))
    refine pM (.int _ _) (bk hk fun c11 hc11 hk => ?_)
    refine pX hc11 Ex B1 ?_
    refine By (.agg [_, _, _, _, _]) (GG (lm := m3) (off := 0) hc11 FB B1) (C7 hO B1 Ir (fun b12 G hO => ?_))
    refine Cl (xs := [_, _, _, _, _]) hO 0 B1 rfl (fun G hO => pE (gn (A1 (A4 ?_))))
    refine Au EX hO 0 (.lit _ _ _) Df ?_
    refine m7 (vs := [_]) (bk hk fun v13 hv13 hk => ?_)
    refine AR (fun _ => U5 hv13 (hO.get (k := 2) rfl).1) ?_
    refine pA (.bool _) (pE (gn ?_))
    refine CS (fun S' => ∃ (x14 : List Int) (x16 : Bool) (o14 : V) (J : Nat → V) (G : A3), RH x6 x14 x16 = some y1 ∧ A6 H G [.Ad b3 (.cells 1 [iv aPoint2]), .Ad b1 (.cells 5 (Aj l1 0 l2 m3 l4 m5 aP0)), .own o14 lk.length 1 x14.length (A9 0 x14)] ∧ S' = ⟨CO [(3, .ptr b1 0), (5, .ptr b3 0), (7, o14), (8, iv x6), (11, .bool x16), (13, AN l8 m9 aF1.A5), (14, iv (aF1.A5.length : Int)), (15, iv x6)] J, G⟩) ?_ ?_
    ·refine A1 (A4 (Au EB hO 0 (.lit _ _ _) Df ?_))
     refine m7 (vs := [_]) (bk hk fun v18 hv18 hk => ?_)
     refine AR (fun _ => U6 hv18 (hO.get (k := 2) rfl).1) (pE (gn (Aq hk (fun hk => ?_) (fun hk => ?_))))
     ·refine BG [(0, false), (1, false), (2, true), (3, true), (4, true), (5, true), (6, true), (7, true), (8, true), (10, true), (11, true), (9, true), (12, false), (13, false), (14, false)] [_, _, _, _, _, _, _, _, _, _, _, _, _, _, _] (by decide +kernel) (by rfl) ?_
      refine pM (.bool _) ?_
      refine pM (.bool _) (bk hk fun t19 ht hk => ?_)
      refine AU (l1 := [_, _, _, _, _, _, _, _, _, _, _, _]) [38, 39, 40, 41, 42, 43, 44, 45, 46, 47, 48, 49] 49 (.bool t19) ?_ ?_
      ·refine bc (b := v13) (fun hg => ?_) (fun hg => ?_)
       ·replace hk := ct hg ht
        refine AG hg (AG hg (AG hg (AG hg (AG hg (AG hg (AG hg (AG hg (AG hg (AG hg (AG hg (Cv hg (.bool _) ?_)))))))))))
        cases hk; exact pE ek
       ·replace hk := cf hg ht
        refine AF hg (pF BL (AF hg ?_))
        refine CP hO 0 (.lit _ _ _) BC (AF hg ?_)
        refine pF Dg (AF hg ?_)
        refine CP hO 3 (.lit _ _ _) BC (AF hg ?_)
        refine CP hO 2 (.int _ _) BW (AF hg (bk hk fun c20 hc20 hk => ?_))
        refine pX hc20 C8 DS (AF hg ?_)
        refine By (.int _ _) (D7 (lm := 0) (off := 0) hc20 BW) (AF hg ?_)
        refine pF C1 (AF hg ?_)
        refine CP hO 1 (.int _ _) BW (AF hg (bk hk fun v21 hv21 hk => ?_))
        refine AR (fun _ => VM hv21) (AF hg ?_)
        refine AX ?_
        refine Cu hg (.bool _) ?_
        cases hk; exact pE ek
      ·intro J
       refine pA (.bool _) (pE (gn ?_))
       exact ⟨x4, t19, o4, _, _, hk, (pk hO [2, 3, 4]), sh⟩
     ·exact As (gn (⟨x4, v13, o4, _, _, hk, (pk hO [2, 3, 4]), sh⟩))
    ·rintro _ ⟨x14, x16, o14, J, G, hk, hO, rfl⟩
     refine A1 (A4 (pM (.bool _) (pE (gn (Aq hk (fun hk => ?_) (fun hk => ?_))))))
     ·refine A4 (pM o14 ?_)
      refine pM (.int _ _) ?_
      refine Uh (ps := [(0, (.int _ _))]) ([x6] : List Int) C8 DS Mx (DI (DJ _ _) (Dm)) (bk hk fun z17 hz17 hk => ?_)
      refine Ta (xs := x14) hO 2 hz17 (EF ([x6] : List Int)) C8 DS Wx Mx C8 rfl (fun o17 G hno17 hO => ?_)
      refine pA o17 (pE (bn (gn ?_)))
      exact ⟨z17, o17, _, _, hk, hO, sh⟩
     ·exact As (bn (gn (⟨x14, o14, _, _, hk, hO, sh⟩)))
  ·rintro _ ⟨x7, o7, J, G, hk, hO, rfl⟩
   refine A4 (AX ?_)
   refine pM (.int _ _) (pE (gn ?_))
   cases hk; exact ⟨_, rfl, o7, _, _, hO, sh⟩
 ·refine D6 (ge (ge (be (gn (have hk := lx hx1 hk; A1 (A4 (pM o4 ?_)))))))
  refine pA o4 (pE (gn (Av ?_)))
  replace hk := Option.some.inj hk; subst hk; exact Gz hO (M8 (xs := x4) hlk 2) (MQ o4 Dt)
def RM (x9 : Int) (x10 : List Int) : Option (((List Int) × Int) ⊕ (BE × (List Int) × (List Int))) :=
 some (.inl (x10, BV (x9 + (1:Int))))
def RN (x29 : Int) (x30 : List Int) (x32 : List Int) : Option (((List Int) × (List Int) × Int) ⊕ (BE × (List Int) × (List Int))) :=
 some (.inl (x30, x32, BV (x29 + (1:Int))))
def J9 (x63 : Int) (x64 : List Int) (x66 : List Int) (x68 : List Int) (x70 : List Int) (x72 : List Int) : Option (((List Int) × (List Int) × (List Int) × (List Int) × (List Int) × Int) ⊕ (((List Int) × (List Int) × (List Int) × (List Int) × (List Int) × Int) ⊕ (BE × (List Int) × (List Int)))) :=
 some (.inl (x64, x66, x68, x70, x72, BV (x63 + (1:Int))))
def RP (x51 : Int) (x63 : Int) (v78 : (List Int)) (c80 : Bool) (x91 : List Int) (x93 : List Int) (x95 : List Int) (x97 : List Int) (x99 : List Int) : Option (((List Int) × (List Int) × (List Int) × (List Int) × (List Int) × Int) ⊕ (((List Int) × (List Int) × (List Int) × (List Int) × (List Int) × Int) ⊕ (BE × (List Int) × (List Int)))) :=
 (bif (decide ((v78.length : Int) > (0:Int)) || c80) then ((D5 8 x95 ([x51] : List Int)).bind fun z101 => (J9 x63 x91 x93 z101 x97 x99)) else (J9 x63 x91 x93 x95 x97 x99))
def RO (x51 : Int) (x63 : Int) (v78 : (List Int)) (c80 : Bool) (x81 : List Int) (x83 : List Int) (x85 : List Int) (x87 : List Int) (x89 : List Int) : Option (((List Int) × (List Int) × (List Int) × (List Int) × (List Int) × Int) ⊕ (((List Int) × (List Int) × (List Int) × (List Int) × (List Int) × Int) ⊕ (BE × (List Int) × (List Int)))) :=
 (bif c80 then ((D5 8 x89 ([x51] : List Int)).bind fun z103 => (RP x51 x63 v78 c80 x81 x83 x85 x87 z103)) else (RP x51 x63 v78 c80 x81 x83 x85 x87 x89))
def IE (aP0 : AQ) (aF1 : AE) (x51 : Int) (v52 : (List Aa)) : ((List Int) × (List Int) × (List Int) × (List Int) × (List Int) × Int) → Option (((List Int) × (List Int) × (List Int) × (List Int) × (List Int) × Int) ⊕ (((List Int) × (List Int) × (List Int) × (List Int) × (List Int) × Int) ⊕ (BE × (List Int) × (List Int)))) := fun s =>
 (bif decide (s.2.2.2.2.2 < (v52.length : Int)) then ((AL v52 s.2.2.2.2.2).bind fun c74 => ((bif (c74.Switch != x51) then some true else ((AL aF1.A8 x51).bind fun c77 => some (c77.Want == c74.EZ))).bind fun t76 => (bif t76 then (J9 s.2.2.2.2.2 s.1 s.2.1 s.2.2.1 s.2.2.2.1 s.2.2.2.2.1) else ((jC aP0 aF1 x51).bind fun v78 => ((AL aP0.A7 x51).bind fun c79 => ((AL aF1.C9 c79).bind fun c80 => (bif decide ((v78.length : Int) > (0:Int)) then ((D5 8 s.2.2.2.1 ([x51] : List Int)).bind fun z104 => (RO x51 s.2.2.2.2.2 v78 c80 s.1 s.2.1 s.2.2.1 z104 s.2.2.2.2.1)) else (RO x51 s.2.2.2.2.2 v78 c80 s.1 s.2.1 s.2.2.1 s.2.2.2.1 s.2.2.2.2.1)))))))) else ((some (.inl (s.1, s.2.1, s.2.2.1, s.2.2.2.1, s.2.2.2.2.1, BV (x51 + (1:Int))))).map Sum.inr))
def Lt (aP0 : AQ) (aF1 : AE) (c4 : Bu) : ((List Int) × (List Int) × (List Int) × (List Int) × (List Int) × Int) → Option (((List Int) × (List Int) × (List Int) × (List Int) × (List Int) × Int) ⊕ (BE × (List Int) × (List Int))) := fun s =>
 (bif decide (s.2.2.2.2.2 < (aP0.A7.length : Int)) then ((eZ c4).bind fun v52 => (AJ (IE aP0 aF1 s.2.2.2.2.2 v52) (s.1, s.2.1, s.2.2.1, s.2.2.2.1, s.2.2.2.2.1, (0:Int)))) else ((some (({ A5 := s.1, A0 := s.2.1, A8 := s.2.2.1 } : BE), s.2.2.2.1, s.2.2.2.2.1)).map Sum.inr))
def KG (aP0 : AQ) (aF1 : AE) (c4 : Bu) : ((List Int) × (List Int) × Int) → Option (((List Int) × (List Int) × Int) ⊕ (BE × (List Int) × (List Int))) := fun s =>
 (bif decide (s.2.2 < aP0.A0) then ((AL aF1.C9 s.2.2).bind fun c34 => ((bif c34 then ((aM c4.A0 s.2.2).bind fun v36 => ((bif v36 then some true else ((aM c4.BY s.2.2).bind fun v38 => some v38)).bind fun t37 => some t37)) else some false).bind fun t35 => (bif t35 then ((D5 8 s.2.1 ([s.2.2] : List Int)).bind fun z39 => (RN s.2.2 s.1 z39)) else (RN s.2.2 s.1 s.2.1)))) else ((AJ (Lt aP0 aF1 c4) (s.1, s.2.1, ([] : List Int), ([] : List Int), ([] : List Int), (0:Int))).map Sum.inr))
def Ls (aP0 : AQ) (aF1 : AE) (aWay2 : Int) (c4 : Bu) : ((List Int) × Int) → Option (((List Int) × Int) ⊕ (BE × (List Int) × (List Int))) := fun s =>
 (bif decide (s.2 < (aF1.A5.length : Int)) then ((AL aF1.A5 s.2).bind fun c12 => ((bif ((s.2 != aWay2) && (c12.State != (0:Int))) then ((AL aP0.BX aWay2).bind fun c15 => ((AL c15 s.2).bind fun c16 => ((bif c16 then some true else ((AL aP0.A5 s.2).bind fun c18 => ((cN c4.A0 c18.BY).bind fun v19 => some v19))).bind fun t17 => ((bif t17 then some true else ((AL aP0.A5 s.2).bind fun c21 => ((cN c4.BY c21.A0).bind fun v22 => some v22))).bind fun t20 => some t20)))) else some false).bind fun t14 => (bif t14 then ((D5 8 s.1 ([s.2] : List Int)).bind fun z23 => (RM s.2 z23)) else (RM s.2 s.1)))) else ((AJ (KG aP0 aF1 c4) (s.1, ([] : List Int), (0:Int))).map Sum.inr))
def gT (aP0 : AQ) (aF1 : AE) (aWay2 : Int) : Option (BE × (List Int) × (List Int)) :=
 ((AL aP0.A5 aWay2).bind fun c4 => (AJ (Ls aP0 aF1 aWay2 c4) (([] : List Int), (0:Int))))
theorem VL {aP0 : AQ} {aF1 : AE} {aWay2 : Int} {r : (BE × (List Int) × (List Int))} {l1 l2 m3 l4 m5 l6 l7 l8 m9 : Nat} (hk : gT aP0 aF1 aWay2 = some r) (hlk : 0 < lk.length := by simp) : ∃ v H1, Al Tryz.prog hh 59 [.agg (Aj l1 0 l2 m3 l4 m5 aP0), .agg (Ai l6 0 l7 0 l8 m9 aF1), iv aWay2] H lk = some (v, H1) ∧ Te H r v H1 := by
 refine B0 Tryz.func59 rfl Tryz.ntmps59 Tryz.results59 rfl rfl ?_
 have hO := A6.nil H
 unfold gT at hk
 refine A1 (A4 (Ba (cs := [_, _, _, _, _]) hO CH (fun b1 G hO => ?_)))
 refine Ba (cs := [_, _, _, _]) hO C0 (fun b2 G hO => C7 hO Cy KX (fun b3 G hO => ?_))
 refine pA (.tl 0 []) ?_
 refine pA (.tl 0 []) (pE (gn (A1 (A4 ?_))))
 refine Au Bk hO 2 (.lit _ _ _) Du ?_
 refine pM (.int _ _) (bk hk fun c4 hc4 hk => ?_)
 refine pX hc4 Ex B1 ?_
 refine By (.agg [_, _, _, _, _]) (GG (lm := m3) (off := 0) hc4 FB B1) (C7 hO B1 Ir (fun b5 G hO => ?_))
 refine Cl (xs := [_, _, _, _, _]) hO 0 B1 rfl (fun G hO => pE (gn (A1 (A4 (C7 hO Cy KX (fun b6 G hO => pE (gn (A1 (A1 (A4 ?_))))))))))
 refine Au Bl hO 3 (.lit _ _ _) E6 ?_
 refine Ah Ih ?_
 refine pM (.int _ _) (pE (gn (BQ ?_)))
 refine AD (F := Ls aP0 aF1 aWay2 c4) (fun s S' => ∃ (o7 : V) (J : Nat → V) (G : A3), Nz o7 ∧ A6 H G [.own o7 lk.length 1 s.1.length (A9 0 s.1), .Ad b6 (.cells 3 [o7, (.tl 0 []), (.tl 0 [])]), .Ad b5 (.cells 5 (Cq m3 0 m3 0 m3 0 m3 0 m3 0 c4)), .Ad b3 (.cells 3 [(.tl 0 []), (.tl 0 []), (.tl 0 [])]), .Ad b2 (.cells 4 (Ai l6 0 l7 0 l8 m9 aF1)), .Ad b1 (.cells 5 (Aj l1 0 l2 m3 l4 m5 aP0))] ∧ S' = ⟨CO [(2, iv aWay2), (3, .ptr b1 0), (4, .ptr b2 0), (6, .ptr b3 0), (9, .ptr b5 0), (10, .ptr b6 0), (27, AN l8 m9 aF1.A5), (28, iv (aF1.A5.length : Int)), (29, iv s.2)] J, G⟩) hk ⟨(.tl 0 []), _, _, Nz.nil, (A6.H8 hO lk.length ([] : List Int)), sh⟩ ?_
 rintro ⟨x7, x9⟩ _ y1 ⟨o7, J, G, hno7, hO, rfl⟩ hk hx1
 refine A1 (A4 (AX (pE (gn (A1 (Aq hk (fun hk => ?_) (fun hk => ?_)))))))
 ·refine As (gn (CS (fun S' => ∃ (x10 : List Int) (o10 : V) (J : Nat → V) (G : A3), RM x9 x10 = some y1 ∧ Nz o10 ∧ A6 H G [.own o10 lk.length 1 x10.length (A9 0 x10), .Ad b6 (.cells 3 [o10, (.tl 0 []), (.tl 0 [])]), .Ad b5 (.cells 5 (Cq m3 0 m3 0 m3 0 m3 0 m3 0 c4)), .Ad b3 (.cells 3 [(.tl 0 []), (.tl 0 []), (.tl 0 [])]), .Ad b2 (.cells 4 (Ai l6 0 l7 0 l8 m9 aF1)), .Ad b1 (.cells 5 (Aj l1 0 l2 m3 l4 m5 aP0))] ∧ S' = ⟨CO [(2, iv aWay2), (3, .ptr b1 0), (4, .ptr b2 0), (6, .ptr b3 0), (9, .ptr b5 0), (10, .ptr b6 0), (27, AN l8 m9 aF1.A5), (28, iv (aF1.A5.length : Int)), (29, iv x9)] J, G⟩) ?_ ?_))
  ·refine BQ (A1 (A4 (pM (.int _ _) (bk hk fun c12 hc12 hk => ?_))))
   refine pX hc12 EN Ay ?_
   refine By (.agg [_, _, _, _, _]) (GG (lm := m9) (off := 0) hc12 G9 Ay) (C7 hO Ay FT (fun b13 G hO => ?_))
   refine pA (.int _ _) ?_
   refine Cl (xs := [_, _, _, _, _]) hO 0 Ay rfl (fun G hO => pE (gn (A1 ?_)))
   refine BG [(0, false), (1, false), (2, false), (3, false), (4, false), (5, true), (6, false), (7, false), (8, false), (9, false), (10, true), (11, true), (12, false), (13, true), (14, true), (15, false), (16, true), (17, false), (18, true), (19, true), (20, true), (21, true), (22, true), (23, true), (24, true), (25, true), (26, false), (27, false), (28, false), (29, true), (30, true), (31, true), (32, true), (33, true), (34, true), (35, true), (36, true), (37, false), (38, false), (39, false)] [_, _, _, _, _, _, _, _, _, _, _, _, _, _, _, _, _, _, _, _, _, _, _, _, _, _, _, _, _, _, _, _, _, _, _, _, _, _, _, _] (by decide +kernel) (by rfl) ?_
   refine pM (.int _ _) ?_
   refine pM (.int _ _) ?_
   refine AX ?_
   refine pM (.bool _) ?_
   refine AU (l1 := [_, _, _, _]) [38, 39, 40, 41] 41 (.bool ((x9 != aWay2) && (c12.State != (0:Int)))) ?_ ?_
   ·refine bc (b := (x9 != aWay2)) (fun hg => ?_) (fun hg => ?_)
    ·refine AF hg (pF B9 (AF hg ?_))
     refine CP hO 0 (.int _ _) BW (AF hg ?_)
     refine AX ?_
     refine Cv hg (.bool _) ?_
     exact pE (ek (by rw [hg]; rfl))
    ·refine AG hg (AG hg (AG hg (Cu hg (.bool _) ?_)))
     exact pE (ek (by rw [hg]; rfl))
   ·intro J
    refine pM (.bool _) (bk hk fun t14 ht hk => ?_)
    refine AU (l1 := [_, _, _, _, _, _, _, _, _, _, _, _, _, _, _, _, _, _, _, _, _, _, _, _, _, _, _, _, _, _, _]) [43, 44, 45, 46, 47, 48, 49, 50, 51, 52, 53, 54, 55, 56, 57, 58, 59, 60, 61, 62, 63, 64, 65, 66, 67, 68, 69, 70, 71, 72, 73] 73 (.bool t14) ?_ ?_
    ·refine bc (b := ((x9 != aWay2) && (c12.State != (0:Int)))) (fun hg => ?_) (fun hg => ?_)
     ·replace hk := ct hg ht
      refine AF hg (pF EP (AF hg ?_))
      refine CP hO 6 (.lit _ _ _) It (AF hg ?_)
      refine pM (.int _ _) (AF hg (bk hk fun c15 hc15 hk => ?_))
      refine pX hc15 Iu GI (AF hg ?_)
      refine By (.lit _ _ _) (D7 (lm := m5) (off := 0) hc15 CC) (AF hg ?_)
      refine pM (.int _ _) (AF hg (bk hk fun c16 hc16 hk => ?_))
      refine pX hc16 Cn FU (AF hg ?_)
      refine By (.bool _) (D7 (lm := 0) (off := 0) hc16 Fv) (AF hg ?_)
      refine pM (.bool _) (bk hk fun t17 ht hk => ?_)
      refine AU (l1 := [_, _, _, _, _, _, _, _, _, _]) [52, 53, 54, 55, 56, 57, 58, 59, 60, 61] 61 (.bool t17) ?_ ?_
      ·refine bc (b := c16) (fun hg2 => ?_) (fun hg2 => ?_)
       ·replace hk := ct hg2 ht
        refine AG hg2 (AG hg2 (AG hg2 (AG hg2 (AG hg2 (AG hg2 (AG hg2 (AG hg2 (AG hg2 (AF hg (Cv hg2 (.bool _) ?_))))))))))
        cases hk; exact pE ek
       ·replace hk := cf hg2 ht
        refine AF hg2 (pF BL (AF hg2 ?_))
        refine CP hO 3 (.lit _ _ _) BC (AF hg2 ?_)
        refine pF Bk (AF hg2 ?_)
        refine CP hO 6 (.lit _ _ _) Du (AF hg2 ?_)
        refine pM (.int _ _) (AF hg2 (bk hk fun c18 hc18 hk => ?_))
        refine pX hc18 Ex B1 (AF hg2 ?_)
        refine pF DY (AF hg2 ?_)
        refine By (.lit _ _ _) (D7 (lm := m3) (off := 3) hc18 BC) (AF hg2 (bk hk fun v19 hv19 hk => ?_))
        refine AR (fun _ => NM hv19) (AF hg ?_)
        refine Cu hg2 (.bool _) ?_
        cases hk; exact pE ek
      ·intro J
       refine AF hg (pM (.bool _) (bk hk fun t20 ht hk => ?_))
       refine AU (l1 := [_, _, _, _, _, _, _, _, _, _]) [63, 64, 65, 66, 67, 68, 69, 70, 71, 72] 72 (.bool t20) ?_ ?_
       ·refine bc (b := t17) (fun hg2 => ?_) (fun hg2 => ?_)
        ·replace hk := ct hg2 ht
         refine AG hg2 (AG hg2 (AG hg2 (AG hg2 (AG hg2 (AG hg2 (AG hg2 (AG hg2 (AG hg2 (AF hg (Cv hg2 (.bool _) ?_))))))))))
         cases hk; exact pE ek
        ·replace hk := cf hg2 ht
         refine AF hg2 (pF DY (AF hg2 ?_))
         refine CP hO 3 (.lit _ _ _) BC (AF hg2 ?_)
         refine pF Bk (AF hg2 ?_)
         refine CP hO 6 (.lit _ _ _) Du (AF hg2 ?_)
         refine pM (.int _ _) (AF hg2 (bk hk fun c21 hc21 hk => ?_))
         refine pX hc21 Ex B1 (AF hg2 ?_)
         refine pF BL (AF hg2 ?_)
         refine By (.lit _ _ _) (D7 (lm := m3) (off := 0) hc21 BC) (AF hg2 (bk hk fun v22 hv22 hk => ?_))
         refine AR (fun _ => NM hv22) (AF hg ?_)
         refine Cu hg2 (.bool _) ?_
         cases hk; exact pE ek
       ·intro J
        refine Cv hg (.bool _) ?_
        cases hk; exact pE ek
     ·replace hk := cf hg ht
      refine AG hg (AG hg (AG hg (AG hg (AG hg (AG hg (AG hg (AG hg (AG hg (CY (CY (CY (CY (CY (CY (CY (CY (CY (AG hg (AG hg (CY (CY (CY (CY (CY (CY (CY (CY (CY (AG hg (Cu hg (.bool _) ?_))))))))))))))))))))))))))))))
      cases hk; exact pE ek
    ·intro J
     refine pE (gn (Aq hk (fun hk => ?_) (fun hk => ?_)))
     ·refine A4 (Au Ic hO 2 o7 BC ?_)
      refine pM (.int _ _) ?_
      refine Uh (ps := [(0, (.int _ _))]) ([x9] : List Int) C8 DS Mx (DI (DJ _ _) (Dm)) (bk hk fun z23 hz23 hk => ?_)
      refine Ta (xs := x7) hO 1 hz23 (EF ([x9] : List Int)) C8 DS Wx Mx C8 rfl (fun o23 G hno23 hO => ?_)
      replace hno23 := hno23 hno7
      refine pF Ic ?_
      have hc24 := C4 hO (j := 1) rfl
      refine Cl (xs := [_]) hO 2 LU rfl (fun G hO => ?_) (h3 := hc24.1) (h6 := Bo hc24.2)
      exact pE (bn (gn (⟨z23, o23, _, _, hk, hno23, (pk hO [1, 2, 3, 4, 5, 6]), sh⟩)))
     ·exact As (bn (gn (⟨x7, o7, _, _, hk, hno7, (pk hO [1, 2, 3, 4, 5, 6]), sh⟩)))
  ·rintro _ ⟨x10, o10, J, G, hk, hno10, hO, rfl⟩
   refine A4 (AX ?_)
   refine pM (.int _ _) (pE (gn ?_))
   cases hk; exact ⟨_, rfl, o10, _, _, hno10, hO, sh⟩
 ·refine D6 (ge (ge (be (gn (have hk := lx hx1 hk; A1 (A1 (A4 (Au EO hO 5 (.int _ _) BW ?_))))))))
  refine pM (.int _ _) (pE (gn (BQ ?_)))
  refine AD (F := KG aP0 aF1 c4) (fun s S' => ∃ (o25 : V) (o27 : V) (J : Nat → V) (G : A3), Nz o25 ∧ Nz o27 ∧ A6 H G [.own o25 lk.length 1 s.1.length (A9 0 s.1), .own o27 lk.length 1 s.2.1.length (A9 0 s.2.1), .Ad b6 (.cells 3 [o25, o27, (.tl 0 [])]), .Ad b5 (.cells 5 (Cq m3 0 m3 0 m3 0 m3 0 m3 0 c4)), .Ad b3 (.cells 3 [(.tl 0 []), (.tl 0 []), (.tl 0 [])]), .Ad b2 (.cells 4 (Ai l6 0 l7 0 l8 m9 aF1)), .Ad b1 (.cells 5 (Aj l1 0 l2 m3 l4 m5 aP0))] ∧ S' = ⟨CO [(3, .ptr b1 0), (4, .ptr b2 0), (6, .ptr b3 0), (9, .ptr b5 0), (10, .ptr b6 0), (82, iv aP0.A0), (83, iv s.2.2)] J, G⟩) hk ⟨o7, (.tl 0 []), _, _, hno7, Nz.nil, (A6.pick (A6.H8 hO lk.length ([] : List Int)) [1, 0, 2, 3, 4, 5, 6] (by decide) rfl), sh⟩ ?_
  rintro ⟨x25, x27, x29⟩ _ y1 ⟨o25, o27, J, G, hno25, hno27, hO, rfl⟩ hk hx1
  refine A1 (A4 (AX (pE (gn (A1 (Aq hk (fun hk => ?_) (fun hk => ?_)))))))
  ·refine As (gn (CS (fun S' => ∃ (x30 : List Int) (x32 : List Int) (o30 : V) (o32 : V) (J : Nat → V) (G : A3), RN x29 x30 x32 = some y1 ∧ Nz o30 ∧ Nz o32 ∧ A6 H G [.own o30 lk.length 1 x30.length (A9 0 x30), .own o32 lk.length 1 x32.length (A9 0 x32), .Ad b6 (.cells 3 [o30, o32, (.tl 0 [])]), .Ad b5 (.cells 5 (Cq m3 0 m3 0 m3 0 m3 0 m3 0 c4)), .Ad b3 (.cells 3 [(.tl 0 []), (.tl 0 []), (.tl 0 [])]), .Ad b2 (.cells 4 (Ai l6 0 l7 0 l8 m9 aF1)), .Ad b1 (.cells 5 (Aj l1 0 l2 m3 l4 m5 aP0))] ∧ S' = ⟨CO [(3, .ptr b1 0), (4, .ptr b2 0), (6, .ptr b3 0), (9, .ptr b5 0), (10, .ptr b6 0), (82, iv aP0.A0), (83, iv x29)] J, G⟩) ?_ ?_))
   ·refine BQ (A1 (A4 (pM (.int _ _) ?_)))
    refine pA (.int _ _) (pE (gn (A1 (A4 ?_))))
    refine Au Co hO 5 (.lit _ _ _) CC ?_
    refine pM (.int _ _) (bk hk fun c34 hc34 hk => ?_)
    refine pX hc34 Cn FU ?_
    refine By (.bool _) (D7 (lm := 0) (off := 0) hc34 Fv) ?_
    refine pM (.bool _) (bk hk fun t35 ht hk => ?_)
    refine AU (l1 := [_, _, _, _, _, _, _, _, _, _, _]) [92, 93, 94, 95, 96, 97, 98, 99, 100, 101, 102] 102 (.bool t35) ?_ ?_
    ·refine bc (b := c34) (fun hg => ?_) (fun hg => ?_)
     ·replace hk := ct hg ht
      refine AF hg (pF BL (AF hg ?_))
      refine CP hO 3 (.lit _ _ _) BC (AF hg ?_)
      refine pM (.int _ _) (AF hg (bk hk fun v36 hv36 hk => ?_))
      refine AR (fun _ => Ku hv36) (AF hg ?_)
      refine pM (.bool _) (bk hk fun t37 ht hk => ?_)
      refine AU (l1 := [_, _, _, _, _]) [97, 98, 99, 100, 101] 101 (.bool t37) ?_ ?_
      ·refine bc (b := v36) (fun hg2 => ?_) (fun hg2 => ?_)
       ·replace hk := ct hg2 ht
        refine AG hg2 (AG hg2 (AG hg2 (AG hg2 (AF hg (Cv hg2 (.bool _) ?_)))))
        cases hk; exact pE ek
       ·replace hk := cf hg2 ht
        refine AF hg2 (pF DY (AF hg2 ?_))
        refine CP hO 3 (.lit _ _ _) BC (AF hg2 ?_)
        refine pM (.int _ _) (AF hg2 (bk hk fun v38 hv38 hk => ?_))
        refine AR (fun _ => Ku hv38) (AF hg ?_)
        refine Cu hg2 (.bool _) ?_
        cases hk; exact pE ek
      ·intro J
       refine Cv hg (.bool _) ?_
       cases hk; exact pE ek
     ·replace hk := cf hg ht
      refine AG hg (AG hg (AG hg (AG hg (AG hg (CY (CY (CY (CY (AG hg (Cu hg (.bool _) ?_))))))))))
      cases hk; exact pE ek
    ·intro J
     refine pE (gn (Aq hk (fun hk => ?_) (fun hk => ?_)))
     ·refine A4 (Au Ie hO 2 o27 BC ?_)
      refine pM (.int _ _) ?_
      refine Uh (ps := [(0, (.int _ _))]) ([x29] : List Int) C8 DS Mx (DI (DJ _ _) (Dm)) (bk hk fun z39 hz39 hk => ?_)
      refine Ta (xs := x27) hO 1 hz39 (EF ([x29] : List Int)) C8 DS Wx Mx C8 rfl (fun o39 G hno39 hO => ?_)
      replace hno39 := hno39 hno27
      refine pF Ie ?_
      have hc40 := C4 hO (j := 1) rfl
      refine Cl (xs := [_]) hO 2 LU rfl (fun G hO => ?_) (h3 := hc40.1) (h6 := Bo hc40.2)
      exact pE (bn (gn (⟨x25, z39, o25, o39, _, _, hk, hno25, hno39, hO, sh⟩)))
     ·exact As (bn (gn (⟨x25, x27, o25, o27, _, _, hk, hno25, hno27, hO, sh⟩)))
   ·rintro _ ⟨x30, x32, o30, o32, J, G, hk, hno30, hno32, hO, rfl⟩
    refine A4 (AX ?_)
    refine pM (.int _ _) (pE (gn ?_))
    cases hk; exact ⟨_, rfl, o30, o32, _, _, hno30, hno32, hO, sh⟩
  ·refine D6 (ge (ge (be (gn (have hk := lx hx1 hk; A1 (A4 (pA (.tl 0 []) ?_)))))))
   refine pA (.tl 0 []) (pE (gn (A1 (A1 (A4 ?_)))))
   refine Au Dg hO 6 (.lit _ _ _) BC ?_
   refine Ah DE ?_
   refine pM (.int _ _) (pE (gn (BQ ?_)))
   refine AD (F := Lt aP0 aF1 c4) (fun s S' => ∃ (o41 : V) (o43 : V) (o45 : V) (o47 : V) (o49 : V) (J : Nat → V) (G : A3), Nz o41 ∧ Nz o43 ∧ Nz o45 ∧ Nz o47 ∧ Nz o49 ∧ A6 H G [.own o41 lk.length 1 s.1.length (A9 0 s.1), .own o43 lk.length 1 s.2.1.length (A9 0 s.2.1), .own o45 lk.length 1 s.2.2.1.length (A9 0 s.2.2.1), .Ad b6 (.cells 3 [o41, o43, o45]), .Ad b5 (.cells 5 (Cq m3 0 m3 0 m3 0 m3 0 m3 0 c4)), .Ad b3 (.cells 3 [(.tl 0 []), (.tl 0 []), (.tl 0 [])]), .Ad b2 (.cells 4 (Ai l6 0 l7 0 l8 m9 aF1)), .Ad b1 (.cells 5 (Aj l1 0 l2 m3 l4 m5 aP0)), .own o47 lk.length 1 s.2.2.2.1.length (A9 0 s.2.2.2.1), .own o49 lk.length 1 s.2.2.2.2.1.length (A9 0 s.2.2.2.2.1)] ∧ S' = ⟨CO [(3, .ptr b1 0), (4, .ptr b2 0), (6, .ptr b3 0), (9, .ptr b5 0), (10, .ptr b6 0), (14, o47), (15, o49), (112, iv (aP0.A7.length : Int)), (113, iv s.2.2.2.2.2)] J, G⟩) hk ⟨o25, o27, (.tl 0 []), (.tl 0 []), (.tl 0 []), _, _, hno25, hno27, Nz.nil, Nz.nil, Nz.nil, (A6.pick (A6.H8 (A6.H8 (A6.H8 hO lk.length ([] : List Int)) lk.length ([] : List Int)) lk.length ([] : List Int)) [3, 4, 2, 5, 6, 7, 8, 9, 1, 0] (by decide) rfl), sh⟩ ?_
   rintro ⟨x41, x43, x45, x47, x49, x51⟩ _ y1 ⟨o41, o43, o45, o47, o49, J, G, hno41, hno43, hno45, hno47, hno49, hO, rfl⟩ hk hx1
   refine A1 (A4 (AX (pE (gn (A1 (Aq hk (fun hk => ?_) (fun hk => ?_)))))))
   ·refine As (gn (A1 (BQ (A1 (A4 (pM (.int _ _) ?_))))))
    refine pA (.int _ _) (pE (gn (A1 (A4 ?_))))
    refine Dw hO 4 [_, _, _, _, _] FB B1 (bk hk fun v52 hv52 hk => ?_)
    refine AR (fun _ => VO hv52) ?_
    refine Ah FC ?_
    refine pM (.int _ _) (pE (gn (BQ ?_)))
    refine AD (F := IE aP0 aF1 x51 v52) (fun s S' => ∃ (o53 : V) (o55 : V) (o57 : V) (o59 : V) (o61 : V) (J : Nat → V) (G : A3), Nz o53 ∧ Nz o55 ∧ Nz o57 ∧ Nz o59 ∧ Nz o61 ∧ A6 H G [.own o53 lk.length 1 s.1.length (A9 0 s.1), .own o55 lk.length 1 s.2.1.length (A9 0 s.2.1), .own o57 lk.length 1 s.2.2.1.length (A9 0 s.2.2.1), .Ad b6 (.cells 3 [o53, o55, o57]), .Ad b5 (.cells 5 (Cq m3 0 m3 0 m3 0 m3 0 m3 0 c4)), .Ad b3 (.cells 3 [(.tl 0 []), (.tl 0 []), (.tl 0 [])]), .Ad b2 (.cells 4 (Ai l6 0 l7 0 l8 m9 aF1)), .Ad b1 (.cells 5 (Aj l1 0 l2 m3 l4 m5 aP0)), .own o59 lk.length 1 s.2.2.2.1.length (A9 0 s.2.2.2.1), .own o61 lk.length 1 s.2.2.2.2.1.length (A9 0 s.2.2.2.2.1)] ∧ S' = ⟨CO [(3, .ptr b1 0), (4, .ptr b2 0), (6, .ptr b3 0), (9, .ptr b5 0), (10, .ptr b6 0), (14, o59), (15, o61), (16, iv x51), (112, iv (aP0.A7.length : Int)), (113, iv x51), (117, AN 0 0 v52), (118, iv (v52.length : Int)), (119, iv s.2.2.2.2.2)] J, G⟩) hk ⟨o41, o43, o45, o47, o49, _, _, hno41, hno43, hno45, hno47, hno49, hO, sh⟩ ?_
    rintro ⟨x53, x55, x57, x59, x61, x63⟩ _ y2 ⟨o53, o55, o57, o59, o61, J, G, hno53, hno55, hno57, hno59, hno61, hO, rfl⟩ hk hx2
    refine A1 (A4 (AX (pE (gn (A1 (Aq hk (fun hk => ?_) (fun hk => ?_)))))))
    ·refine As (gn (CS (fun S' => ∃ (x64 : List Int) (x66 : List Int) (x68 : List Int) (x70 : List Int) (x72 : List Int) (o64 : V) (o66 : V) (o68 : V) (o70 : V) (o72 : V) (J : Nat → V) (G : A3), J9 x63 x64 x66 x68 x70 x72 = some y2 ∧ Nz o64 ∧ Nz o66 ∧ Nz o68 ∧ Nz o70 ∧ Nz o72 ∧ A6 H G [.own o64 lk.length 1 x64.length (A9 0 x64), .own o66 lk.length 1 x66.length (A9 0 x66), .own o68 lk.length 1 x68.length (A9 0 x68), .Ad b6 (.cells 3 [o64, o66, o68]), .Ad b5 (.cells 5 (Cq m3 0 m3 0 m3 0 m3 0 m3 0 c4)), .Ad b3 (.cells 3 [(.tl 0 []), (.tl 0 []), (.tl 0 [])]), .Ad b2 (.cells 4 (Ai l6 0 l7 0 l8 m9 aF1)), .Ad b1 (.cells 5 (Aj l1 0 l2 m3 l4 m5 aP0)), .own o70 lk.length 1 x70.length (A9 0 x70), .own o72 lk.length 1 x72.length (A9 0 x72)] ∧ S' = ⟨CO [(3, .ptr b1 0), (4, .ptr b2 0), (6, .ptr b3 0), (9, .ptr b5 0), (10, .ptr b6 0), (14, o70), (15, o72), (16, iv x51), (112, iv (aP0.A7.length : Int)), (113, iv x51), (117, AN 0 0 v52), (118, iv (v52.length : Int)), (119, iv x63)] J, G⟩) ?_ ?_))
     ·refine BQ (A1 (A4 (bk hk fun c74 hc74 hk => pX hc74 Dl BD ?_)))
      refine By (.agg [_, _]) (GG (lm := 0) (off := 0) hc74 GA BD) (C7 hO BD FZ (fun b75 G hO => ?_))
      refine Cl (xs := [_, _]) hO 0 BD rfl (fun G hO => pE (gn (A1 (A1 ?_))))
      refine BG [(0, false), (1, true), (2, true), (3, false), (4, false), (5, true), (6, true), (7, true), (8, true), (9, true), (10, true), (11, true), (12, true), (13, false), (14, false)] [_, _, _, _, _, _, _, _, _, _, _, _, _, _, _] (by decide +kernel) (by rfl) ?_
      refine Au CR hO 0 (.int _ _) BW ?_
      refine pM (.int _ _) ?_
      refine AX ?_
      refine pM (.bool _) (bk hk fun t76 ht hk => ?_)
      refine AU (l1 := [_, _, _, _, _, _, _, _, _, _]) [128, 129, 130, 131, 132, 133, 134, 135, 136, 137] 137 (.bool t76) ?_ ?_
      ·refine bc (b := (c74.Switch != x51)) (fun hg => ?_) (fun hg => ?_)
       ·replace hk := ct hg ht
        refine AG hg (AG hg (AG hg (AG hg (AG hg (AG hg (AG hg (AG hg (AG hg (Cv hg (.bool _) ?_)))))))))
        cases hk; exact pE ek
       ·replace hk := cf hg ht
        refine AF hg (pF Dh (AF hg ?_))
        refine CP hO 7 (.lit _ _ _) JX (AF hg ?_)
        refine pM (.int _ _) (AF hg (bk hk fun c77 hc77 hk => ?_))
        refine pX hc77 Iv EE (AF hg ?_)
        refine pF Ig (AF hg ?_)
        refine By (.int _ _) (D7 (lm := 0) (off := 0) hc77 BW) (AF hg ?_)
        refine pF EC (AF hg ?_)
        refine CP hO 0 (.int _ _) BW (AF hg ?_)
        refine AX ?_
        refine Cu hg (.bool _) ?_
        cases hk; exact pE ek
      ·intro J
       refine pE (gn (Aq hk (fun hk => ?_) (fun hk => ?_)))
       ·exact D6 (ge (be (gn (⟨x53, x55, x57, x59, x61, o53, o55, o57, o59, o61, _, _, hk, hno53, hno55, hno57, hno59, hno61, (pk hO [1, 2, 3, 4, 5, 6, 7, 8, 9, 10]), sh⟩))))
       ·refine As (gn (A1 (A4 (Dw hO 8 [_, _, _, _, _] FG CH ?_))))
        refine Dw hO 7 [_, _, _, _] Ew C0 ?_
        refine pM (.int _ _) (bk hk fun v78 hv78 hk => ?_)
        refine AR (fun _ => Zn hv78) ?_
        refine Ah DE ?_
        refine AX ?_
        refine pA (.bool _) (pE (gn (A1 ?_)))
        refine BG [(0, true), (1, true), (2, true), (3, true), (4, true), (5, true), (6, true), (7, false), (8, true), (9, false)] [_, _, _, _, _, _, _, _, _, _] (by decide +kernel) (by rfl) ?_
        refine Au Co hO 7 (.lit _ _ _) CC ?_
        refine Au Dg hO 8 (.lit _ _ _) BC ?_
        refine pM (.int _ _) (bk hk fun c79 hc79 hk => ?_)
        refine pX hc79 C8 DS ?_
        refine By (.int _ _) (D7 (lm := 0) (off := 0) hc79 BW) (bk hk fun c80 hc80 hk => ?_)
        refine pX hc80 Cn FU ?_
        refine By (.bool _) (D7 (lm := 0) (off := 0) hc80 Fv) ?_
        refine pA (.bool _) (pE (gn ?_))
        refine CS (fun S' => ∃ (x81 : List Int) (x83 : List Int) (x85 : List Int) (x87 : List Int) (x89 : List Int) (o81 : V) (o83 : V) (o85 : V) (o87 : V) (o89 : V) (J : Nat → V) (G : A3), RO x51 x63 v78 c80 x81 x83 x85 x87 x89 = some y2 ∧ Nz o81 ∧ Nz o83 ∧ Nz o85 ∧ Nz o87 ∧ Nz o89 ∧ A6 H G [.own o81 lk.length 1 x81.length (A9 0 x81), .own o83 lk.length 1 x83.length (A9 0 x83), .own o85 lk.length 1 x85.length (A9 0 x85), .Ad b6 (.cells 3 [o81, o83, o85]), .Ad b5 (.cells 5 (Cq m3 0 m3 0 m3 0 m3 0 m3 0 c4)), .Ad b3 (.cells 3 [(.tl 0 []), (.tl 0 []), (.tl 0 [])]), .Ad b2 (.cells 4 (Ai l6 0 l7 0 l8 m9 aF1)), .Ad b1 (.cells 5 (Aj l1 0 l2 m3 l4 m5 aP0)), .own o87 lk.length 1 x87.length (A9 0 x87), .own o89 lk.length 1 x89.length (A9 0 x89)] ∧ S' = ⟨CO [(3, .ptr b1 0), (4, .ptr b2 0), (6, .ptr b3 0), (9, .ptr b5 0), (10, .ptr b6 0), (14, o87), (15, o89), (16, iv x51), (19, .bool (decide ((v78.length : Int) > (0:Int)))), (20, .bool c80), (112, iv (aP0.A7.length : Int)), (113, iv x51), (117, AN 0 0 v52), (118, iv (v52.length : Int)), (119, iv x63)] J, G⟩) ?_ ?_
        ·refine A1 (A4 (pM (.bool _) (pE (gn (Aq hk (fun hk => ?_) (fun hk => ?_))))))
         ·refine A4 (pM o59 ?_)
          refine pM (.int _ _) ?_
          refine Uh (ps := [(0, (.int _ _))]) ([x51] : List Int) C8 DS Mx (DI (DJ _ _) (Dm)) (bk hk fun z104 hz104 hk => ?_)
          refine Ta (xs := x59) hO 9 hz104 (EF ([x51] : List Int)) C8 DS Wx Mx C8 rfl (fun o104 G hno104 hO => ?_)
          replace hno104 := hno104 hno59
          refine pA o104 (pE (gn ?_))
          exact ⟨x53, x55, x57, z104, x61, o53, o55, o57, o104, o61, _, _, hk, hno53, hno55, hno57, hno104, hno61, (pk hO [1, 2, 3, 4, 5, 6, 7, 8, 9, 10]), sh⟩
         ·exact As (gn (⟨x53, x55, x57, x59, x61, o53, o55, o57, o59, o61, _, _, hk, hno53, hno55, hno57, hno59, hno61, (pk hO [1, 2, 3, 4, 5, 6, 7, 8, 9, 10]), sh⟩))
        ·rintro _ ⟨x81, x83, x85, x87, x89, o81, o83, o85, o87, o89, J, G, hk, hno81, hno83, hno85, hno87, hno89, hO, rfl⟩
         refine CS (fun S' => ∃ (x91 : List Int) (x93 : List Int) (x95 : List Int) (x97 : List Int) (x99 : List Int) (o91 : V) (o93 : V) (o95 : V) (o97 : V) (o99 : V) (J : Nat → V) (G : A3), RP x51 x63 v78 c80 x91 x93 x95 x97 x99 = some y2 ∧ Nz o91 ∧ Nz o93 ∧ Nz o95 ∧ Nz o97 ∧ Nz o99 ∧ A6 H G [.own o91 lk.length 1 x91.length (A9 0 x91), .own o93 lk.length 1 x93.length (A9 0 x93), .own o95 lk.length 1 x95.length (A9 0 x95), .Ad b6 (.cells 3 [o91, o93, o95]), .Ad b5 (.cells 5 (Cq m3 0 m3 0 m3 0 m3 0 m3 0 c4)), .Ad b3 (.cells 3 [(.tl 0 []), (.tl 0 []), (.tl 0 [])]), .Ad b2 (.cells 4 (Ai l6 0 l7 0 l8 m9 aF1)), .Ad b1 (.cells 5 (Aj l1 0 l2 m3 l4 m5 aP0)), .own o97 lk.length 1 x97.length (A9 0 x97), .own o99 lk.length 1 x99.length (A9 0 x99)] ∧ S' = ⟨CO [(3, .ptr b1 0), (4, .ptr b2 0), (6, .ptr b3 0), (9, .ptr b5 0), (10, .ptr b6 0), (14, o97), (15, o99), (16, iv x51), (19, .bool (decide ((v78.length : Int) > (0:Int)))), (20, .bool c80), (112, iv (aP0.A7.length : Int)), (113, iv x51), (117, AN 0 0 v52), (118, iv (v52.length : Int)), (119, iv x63)] J, G⟩) ?_ ?_
         ·refine A1 (A4 (pM (.bool _) (pE (gn (Aq hk (fun hk => ?_) (fun hk => ?_))))))
          ·refine A4 (pM o89 ?_)
           refine pM (.int _ _) ?_
           refine Uh (ps := [(0, (.int _ _))]) ([x51] : List Int) C8 DS Mx (DI (DJ _ _) (Dm)) (bk hk fun z103 hz103 hk => ?_)
           refine Ta (xs := x89) hO 9 hz103 (EF ([x51] : List Int)) C8 DS Wx Mx C8 rfl (fun o103 G hno103 hO => ?_)
           replace hno103 := hno103 hno89
           refine pA o103 (pE (gn ?_))
           exact ⟨x81, x83, x85, x87, z103, o81, o83, o85, o87, o103, _, _, hk, hno81, hno83, hno85, hno87, hno103, hO, sh⟩
          ·exact As (gn (⟨x81, x83, x85, x87, x89, o81, o83, o85, o87, o89, _, _, hk, hno81, hno83, hno85, hno87, hno89, hO, sh⟩))
         ·rintro _ ⟨x91, x93, x95, x97, x99, o91, o93, o95, o97, o99, J, G, hk, hno91, hno93, hno95, hno97, hno99, hO, rfl⟩
          refine A1 (A4 (pM (.bool _) ?_))
          refine pM (.bool _) ?_
          refine AU (l1 := [_, _]) [165, 166] 166 (.bool (decide ((v78.length : Int) > (0:Int)) || c80)) ?_ ?_
          ·refine bc (b := decide ((v78.length : Int) > (0:Int))) (fun hg => ?_) (fun hg => ?_)
           ·refine AG hg (Cv hg (.bool _) ?_)
            exact pE (ek (by rw [hg]; rfl))
           ·refine AF hg (pM (.bool _) ?_)
            refine Cu hg (.bool _) ?_
            exact pE (ek (by rw [hg]; rfl))
          ·intro J
           refine pE (gn (Aq hk (fun hk => ?_) (fun hk => ?_)))
           ·refine A4 (Au HZ hO 3 o95 BC ?_)
            refine pM (.int _ _) ?_
            refine Uh (ps := [(0, (.int _ _))]) ([x51] : List Int) C8 DS Mx (DI (DJ _ _) (Dm)) (bk hk fun z101 hz101 hk => ?_)
            refine Ta (xs := x95) hO 2 hz101 (EF ([x51] : List Int)) C8 DS Wx Mx C8 rfl (fun o101 G hno101 hO => ?_)
            replace hno101 := hno101 hno95
            refine pF HZ ?_
            have hc102 := C4 hO (j := 2) rfl
            refine Cl (xs := [_]) hO 3 LU rfl (fun G hO => ?_) (h3 := hc102.1) (h6 := Bo hc102.2)
            exact pE (bn (gn (⟨x91, x93, z101, x97, x99, o91, o93, o101, o97, o99, _, _, hk, hno91, hno93, hno101, hno97, hno99, hO, sh⟩)))
           ·exact As (bn (gn (⟨x91, x93, x95, x97, x99, o91, o93, o95, o97, o99, _, _, hk, hno91, hno93, hno95, hno97, hno99, hO, sh⟩)))
     ·rintro _ ⟨x64, x66, x68, x70, x72, o64, o66, o68, o70, o72, J, G, hk, hno64, hno66, hno68, hno70, hno72, hO, rfl⟩
      refine A4 (AX ?_)
      refine pM (.int _ _) (pE (gn ?_))
      cases hk; exact ⟨_, rfl, o64, o66, o68, o70, o72, _, _, hno64, hno66, hno68, hno70, hno72, hO, sh⟩
    ·refine D6 (ge (ge (be (bn (gn (have hk := lx hx2 hk; A4 (AX ?_)))))))
     refine pM (.int _ _) (pE (gn ?_))
     cases hk; exact ⟨_, rfl, o53, o55, o57, o59, o61, _, _, hno53, hno55, hno57, hno59, hno61, hO, sh⟩
   ·refine D6 (ge (ge (be (gn (have hk := lx hx1 hk; A1 (A4 (Dw hO 3 [_, _, _] Ib Cy ?_)))))))
    refine pM o47 ?_
    refine pM o49 ?_
    have hc105 := C4 hO (j := 0) rfl
    have hc106 := C4 hO (j := 1) rfl
    have hc107 := C4 hO (j := 2) rfl
    refine Cl (xs := [_, _, _]) hO 5 Cy rfl (fun G hO => ?_) (h6 := (Bq hc105.2 (Bq hc106.2 (Bq hc107.2 Ik))))
    refine pA o47 ?_
    refine pA o49 (pE (gn (Av ?_)))
    replace hk := Option.some.inj hk; subst hk; exact fC hO (TU (x := ({ A5 := x41, A0 := x43, A8 := x45 } : BE)) (Bx (c1 := [_]) (Ka (xs := x41) hno41 hlk 0) (Bx (c1 := [_]) (Ka (xs := x43) hno43 hlk 0) (Ka (xs := x45) hno45 hlk 0)))) (Ka (xs := x47) hno47 hlk 5) (Ka (xs := x49) hno49 hlk 5) (FW hO 5 [_, _, _] Ib Cy (MQ o47 (MQ o49 Dt)))
def gQ (aP0 : AQ) (aF1 : AE) (aWay2 : Int) : Option BE :=
 ((jB aP0 aF1).bind fun v4 => ((bif !v4 then some true else ((U3 aWay2 (0:Int) (BV ((aP0.A5.length : Int) - (1:Int)))).bind fun v6 => some (!v6))).bind fun t5 => (bif t5 then some ({ A5 := ([] : List Int), A0 := ([] : List Int), A8 := ([] : List Int) } : BE) else ((gT aP0 aF1 aWay2).bind fun v7 => some v7.1))))
theorem VI {aP0 : AQ} {aF1 : AE} {aWay2 : Int} {r : BE} {l1 l2 m3 l4 m5 l6 l7 l8 m9 : Nat} (hk : gQ aP0 aF1 aWay2 = some r) (hlk : 0 < lk.length := by simp) (hlo : Di lk H.length := by simp [Di]) (hvm9 : m9 ≤ lk.length := by simp only [List.length_append, List.length_singleton]; omega) : ∃ v H1, Al Tryz.prog hh 20 [.agg (Aj l1 0 l2 m3 l4 m5 aP0), .agg (Ai l6 0 l7 0 l8 m9 aF1), iv aWay2] H lk = some (v, H1) ∧ Gb H r v H1 := by
 refine B0 Tryz.func20 rfl Tryz.ntmps20 Tryz.results20 rfl rfl ?_
 have hO := A6.nil H
 unfold gQ at hk
 refine A1 (A4 (Ba (cs := [_, _, _, _, _]) hO CH (fun b1 G hO => ?_)))
 refine Ba (cs := [_, _, _, _]) hO C0 (fun b2 G hO => C7 hO Cy KX (fun b3 G hO => pE (gn (A1 (A1 (A4 ?_))))))
 refine Dw hO 2 [_, _, _, _, _] FG CH ?_
 refine Dw hO 1 [_, _, _, _] Ew C0 (bk hk fun v4 hv4 hk => ?_)
 refine Rv hO hlo rfl (fun _ hl => Zm (m9 := m9) hv4 (hlo := hl)) ?_
 refine pU ?_
 refine pM (.bool _) (bk hk fun t5 ht hk => ?_)
 refine AU (l1 := [_, _, _, _, _, _, _, _]) [15, 16, 17, 18, 19, 20, 21, 22] 22 (.bool t5) ?_ ?_
 ·refine bc (b := !v4) (fun hg => ?_) (fun hg => ?_)
  ·replace hk := ct hg ht
   refine AG hg (AG hg (AG hg (AG hg (AG hg (AG hg (AG hg (Cv hg (.bool _) ?_)))))))
   cases hk; exact pE ek
  ·replace hk := cf hg ht
   refine AF hg (pM (.int _ _) (AF hg ?_))
   refine pF Bk (AF hg ?_)
   refine CP hO 2 (.lit _ _ _) Du (AF hg ?_)
   refine Ah I2 (AF hg ?_)
   refine AX (AF hg (bk hk fun v6 hv6 hk => ?_))
   refine AR (fun _ => Ej hv6) (AF hg ?_)
   refine pU ?_
   refine Cu hg (.bool _) ?_
   cases hk; exact pE ek
 ·intro J
  refine pE (gn (Aq hk (fun hk => ?_) (fun hk => ?_)))
  ·refine A1 (A4 (Q2 [_, _, _] KX lK ?_))
   refine Cl (xs := [_, _, _]) hO 0 Cy rfl (fun G hO => pE (gn (Av (gr ?_))))
   replace hk := Option.some.inj hk; subst hk; exact IG hO (TU (x := ({ A5 := ([] : List Int), A0 := ([] : List Int), A8 := ([] : List Int) } : BE)) (Bx (c1 := [_]) (V3 Int) (Bx (c1 := [_]) (V3 Int) (V3 Int)))) (FW hO 0 [_, _, _] Ib Cy Dt)
  ·refine As (gn (A1 (A4 (Dw hO 2 [_, _, _, _, _] FG CH ?_))))
   refine Dw hO 1 [_, _, _, _] Ew C0 ?_
   refine pM (.int _ _) (bk hk fun v7 hv7 hk => ?_)
   refine kH hO hlo rfl (fun _ hl => VL hv7) (fun u8 ua9 ub9 F8 Fa9 Fb9 G hO => ?_)
   refine pM (.FH [_, _, _]) ?_
   refine ZG (.agg u8) ?_
   refine ZG ua9 ?_
   refine ZG ub9 (C7 hO Cy KX (fun b10 G hO => ?_))
   refine Uj hO 0 3 Cy rfl (fun G hO => ?_)
   refine pA ua9 ?_
   refine pA ub9 (pE (gn (A1 (A4 ?_))))
   refine MM hO 0 3 Ib Cy ?_
   refine Uj hO 4 3 Cy rfl (fun G hO => pE (gn (Av ?_)))
   replace hk := Option.some.inj hk; subst hk; exact IG hO (Cz (x := v7.1) 3) (kV hO 4 3 Ib Cy Dt)
def Ns (aA0 : List Int) (aB1 : List Int) : Int → Option (Int ⊕ Bool) := fun s =>
 (bif decide (s < (aA0.length : Int)) then ((AL aA0 s).bind fun c2 => ((AL aB1 s).bind fun c3 => (bif (c2 != c3) then ((some false).map Sum.inr) else some (.inl (BV (s + (1:Int))))))) else ((some true).map Sum.inr))
def XV (aA0 : List Int) (aB1 : List Int) : Option Bool :=
 (bif ((aA0.length : Int) != (aB1.length : Int)) then some false else (AJ (Ns aA0 aB1) ((0:Int))))
theorem IC {aA0 : List Int} {aB1 : List Int} {r : Bool} {l1 l2 : Nat} (hk : XV aA0 aB1 = some r) (hlk : 0 < lk.length := by simp) : Al Tryz.prog hh 12 [AN l1 0 aA0, AN l2 0 aB1] H lk = some (.bool r, H) := by
 refine AI Tryz.func12 rfl Tryz.ntmps12 Tryz.results12 rfl rfl fun hO => ?_
 unfold XV at hk
 refine A1 (A4 (pA (.bool _) (pE (gn (A1 (A1 (A4 ?_)))))))
 refine pM (.lit _ _ _) ?_
 refine Ah DE ?_
 refine pM (.lit _ _ _) ?_
 refine Ah DE ?_
 refine AX (pE (gn (Aq hk (fun hk => ?_) (fun hk => ?_))))
 ·refine A1 (A4 (pA (.bool _) (pE (gn (Av (gr ?_))))))
  cases hk; exact AT hO
 ·refine As (gn (A1 (A1 (A4 (pA (.int _ _) (pE (gn (BQ ?_))))))))
  refine AD (F := Ns aA0 aB1) (fun s S' => ∃ (J : Nat → V) (G : A3), A6 H G [] ∧ S' = ⟨CO [(0, AN l1 0 aA0), (1, AN l2 0 aB1), (5, iv s)] J, G⟩) hk ⟨_, _, hO, sh⟩ ?_
  rintro x1 _ y1 ⟨J, G, hO, rfl⟩ hk hx1
  refine A1 (A1 (A4 (pM (.int _ _) ?_)))
  refine pM (.lit _ _ _) ?_
  refine Ah DE ?_
  refine AX (pE (gn (Aq hk (fun hk => ?_) (fun hk => ?_))))
  ·refine As (gn (A1 (BQ (A1 (BG [(0, true), (1, true), (2, true), (3, true), (4, true), (5, true), (6, true), (7, true), (8, false)] [_, _, _, _, _, _, _, _, _] (by decide +kernel) (by rfl) ?_)))))
   refine pM (.lit _ _ _) ?_
   refine pM (.int _ _) (bk hk fun c2 hc2 hk => ?_)
   refine pX hc2 C8 DS ?_
   refine By (.int _ _) (D7 (lm := 0) (off := 0) hc2 BW) ?_
   refine pM (.lit _ _ _) ?_
   refine pM (.int _ _) (bk hk fun c3 hc3 hk => ?_)
   refine pX hc3 C8 DS ?_
   refine By (.int _ _) (D7 (lm := 0) (off := 0) hc3 BW) ?_
   refine AX (pE (gn (Aq hk (fun hk => ?_) (fun hk => ?_))))
   ·refine A1 (A4 (pA (.bool _) (pE (gn (Av (br (gr (gr (br (gr (have hk := lx hx1 hk; ?_)))))))))))
    cases hk; exact AT hO
   ·refine As (bn (gn (A4 (pM (.int _ _) ?_))))
    refine AX ?_
    refine pA (.int _ _) (pE (gn ?_))
    cases hk; exact ⟨_, rfl, _, _, hO, sh⟩
  ·refine D6 (ge (ge (be (gn (have hk := lx hx1 hk; A1 (A4 (pA (.bool _) (pE (gn (Av ?_))))))))))
   cases hk; exact AT hO
def dY (aA0 : BE) (aB1 : BE) : Option Bool :=
 ((XV aA0.A5 aB1.A5).bind fun v3 => (bif !v3 then some false else ((XV aA0.A0 aB1.A0).bind fun v4 => (bif !v4 then some false else ((XV aA0.A8 aB1.A8).bind fun v5 => (bif !v5 then some false else some true))))))
theorem R7 {aA0 : BE} {aB1 : BE} {r : Bool} {l1 l2 l3 l4 l5 l6 : Nat} (hk : dY aA0 aB1 = some r) (hlk : 0 < lk.length := by simp) : Al Tryz.prog hh 21 [.agg [AN l1 0 aA0.A5, AN l2 0 aA0.A0, AN l3 0 aA0.A8], .agg [AN l4 0 aB1.A5, AN l5 0 aB1.A0, AN l6 0 aB1.A8]] H lk = some (.bool r, H) := by
 refine AI Tryz.func21 rfl Tryz.ntmps21 Tryz.results21 rfl rfl fun hO => ?_
 unfold dY at hk
 refine A1 (A4 (Ba (cs := [_, _, _]) hO Cy (fun b1 G hO => ?_)))
 refine Ba (cs := [_, _, _]) hO Cy (fun b2 G hO => ?_)
 refine pA (.bool _) (pE (gn (A1 (A1 (A4 ?_)))))
 refine Au Ic hO 1 (.lit _ _ _) BC ?_
 refine Au Ic hO 0 (.lit _ _ _) BC (bk hk fun v3 hv3 hk => ?_)
 refine AR (fun _ => IC hv3) ?_
 refine pU (pE (gn (Aq hk (fun hk => ?_) (fun hk => ?_))))
 ·refine A1 (A4 (pA (.bool _) (pE (gn (Av (gr ?_))))))
  cases hk; exact AT hO
 ·refine As (gn (A1 (A1 (A4 (Au Ie hO 1 (.lit _ _ _) BC ?_)))))
  refine Au Ie hO 0 (.lit _ _ _) BC (bk hk fun v4 hv4 hk => ?_)
  refine AR (fun _ => IC hv4) ?_
  refine pU (pE (gn (Aq hk (fun hk => ?_) (fun hk => ?_))))
  ·refine A1 (A4 (pA (.bool _) (pE (gn (Av (gr ?_))))))
   cases hk; exact AT hO
  ·refine As (gn (A1 (A1 (A4 (Au HZ hO 1 (.lit _ _ _) BC ?_)))))
   refine Au HZ hO 0 (.lit _ _ _) BC (bk hk fun v5 hv5 hk => ?_)
   refine AR (fun _ => IC hv5) ?_
   refine pU (pE (gn (Aq hk (fun hk => ?_) (fun hk => ?_))))
   ·refine A1 (A4 (pA (.bool _) (pE (gn (Av (gr ?_))))))
    cases hk; exact AT hO
   ·refine As (gn (A1 (A4 (pA (.bool _) (pE (gn (Av ?_)))))))
    cases hk; exact AT hO
def Xe (aA0 : Aa) (aB1 : Aa) : Option Bool :=
 (bif (aA0.Switch != aB1.Switch) then some false else (bif (aA0.EZ != aB1.EZ) then some false else some true))
theorem Xf {aA0 : Aa} {aB1 : Aa} {r : Bool} (hk : Xe aA0 aB1 = some r) (hlk : 0 < lk.length := by simp) : Al Tryz.prog hh 126 [.agg [iv aA0.Switch, iv aA0.EZ], .agg [iv aB1.Switch, iv aB1.EZ]] H lk = some (.bool r, H) := by
 refine AI Tryz.func126 rfl Tryz.ntmps126 Tryz.results126 rfl rfl fun hO => ?_
 unfold Xe at hk
 refine A1 (A4 (Ba (cs := [_, _]) hO BD (fun b1 G hO => ?_)))
 refine Ba (cs := [_, _]) hO BD (fun b2 G hO => ?_)
 refine pA (.bool _) (pE (gn (A1 (A1 (A4 ?_)))))
 refine Au CR hO 1 (.int _ _) BW ?_
 refine Au CR hO 0 (.int _ _) BW ?_
 refine AX (pE (gn (Aq hk (fun hk => ?_) (fun hk => ?_))))
 ·refine A1 (A4 (pA (.bool _) (pE (gn (Av (gr ?_))))))
  cases hk; exact AT hO
 ·refine As (gn (A1 (A1 (A4 (Au EC hO 1 (.int _ _) BW ?_)))))
  refine Au EC hO 0 (.int _ _) BW ?_
  refine AX (pE (gn (Aq hk (fun hk => ?_) (fun hk => ?_))))
  ·refine A1 (A4 (pA (.bool _) (pE (gn (Av (gr ?_))))))
   cases hk; exact AT hO
  ·refine As (gn (A1 (A4 (pA (.bool _) (pE (gn (Av ?_)))))))
   cases hk; exact AT hO
def Ko (aA0 : List Aa) (aB1 : List Aa) : Int → Option (Int ⊕ Bool) := fun s =>
 (bif decide (s < (aA0.length : Int)) then ((AL aA0 s).bind fun c2 => ((AL aB1 s).bind fun c3 => ((Xe c2 c3).bind fun v4 => (bif !v4 then ((some false).map Sum.inr) else some (.inl (BV (s + (1:Int)))))))) else ((some true).map Sum.inr))
def WH (aA0 : List Aa) (aB1 : List Aa) : Option Bool :=
 (bif ((aA0.length : Int) != (aB1.length : Int)) then some false else (AJ (Ko aA0 aB1) ((0:Int))))
theorem SZ {aA0 : List Aa} {aB1 : List Aa} {r : Bool} {l1 l2 : Nat} (hk : WH aA0 aB1 = some r) (hlk : 0 < lk.length := by simp) : Al Tryz.prog hh 111 [AN l1 0 aA0, AN l2 0 aB1] H lk = some (.bool r, H) := by
 refine AI Tryz.func111 rfl Tryz.ntmps111 Tryz.results111 rfl rfl fun hO => ?_
 unfold WH at hk
 refine A1 (A4 (pA (.bool _) (pE (gn (A1 (A1 (A4 ?_)))))))
 refine pM (.lit _ _ _) ?_
 refine Ah FC ?_
 refine pM (.lit _ _ _) ?_
 refine Ah FC ?_
 refine AX (pE (gn (Aq hk (fun hk => ?_) (fun hk => ?_))))
 ·refine A1 (A4 (pA (.bool _) (pE (gn (Av (gr ?_))))))
  cases hk; exact AT hO
 ·refine As (gn (A1 (A1 (A4 (pA (.int _ _) (pE (gn (BQ ?_))))))))
  refine AD (F := Ko aA0 aB1) (fun s S' => ∃ (J : Nat → V) (G : A3), A6 H G [] ∧ S' = ⟨CO [(0, AN l1 0 aA0), (1, AN l2 0 aB1), (5, iv s)] J, G⟩) hk ⟨_, _, hO, sh⟩ ?_
  rintro x1 _ y1 ⟨J, G, hO, rfl⟩ hk hx1
  refine A1 (A1 (A4 (pM (.int _ _) ?_)))
  refine pM (.lit _ _ _) ?_
  refine Ah FC ?_
  refine AX (pE (gn (Aq hk (fun hk => ?_) (fun hk => ?_))))
  ·refine As (gn (A1 (BQ (A1 (BG [(0, true), (1, true), (2, true), (3, true), (4, true), (5, true), (6, true), (7, true), (8, false), (9, false)] [_, _, _, _, _, _, _, _, _, _] (by decide +kernel) (by rfl) ?_)))))
   refine pM (.lit _ _ _) ?_
   refine pM (.int _ _) (bk hk fun c2 hc2 hk => ?_)
   refine pX hc2 Dl BD ?_
   refine By (.agg [_, _]) (GG (lm := 0) (off := 0) hc2 GA BD) ?_
   refine pM (.lit _ _ _) ?_
   refine pM (.int _ _) (bk hk fun c3 hc3 hk => ?_)
   refine pX hc3 Dl BD ?_
   refine By (.agg [_, _]) (GG (lm := 0) (off := 0) hc3 GA BD) (bk hk fun v4 hv4 hk => ?_)
   refine AR (fun _ => Xf hv4) ?_
   refine pU (pE (gn (Aq hk (fun hk => ?_) (fun hk => ?_))))
   ·refine A1 (A4 (pA (.bool _) (pE (gn (Av (br (gr (gr (br (gr (have hk := lx hx1 hk; ?_)))))))))))
    cases hk; exact AT hO
   ·refine As (bn (gn (A4 (pM (.int _ _) ?_))))
    refine AX ?_
    refine pA (.int _ _) (pE (gn ?_))
    cases hk; exact ⟨_, rfl, _, _, hO, sh⟩
  ·refine D6 (ge (ge (be (gn (have hk := lx hx1 hk; A1 (A4 (pA (.bool _) (pE (gn (Av ?_))))))))))
   cases hk; exact AT hO
def jT (aA0 : Bu) (aB1 : Bu) : Option Bool :=
 ((XV aA0.A0 aB1.A0).bind fun v3 => (bif !v3 then some false else ((WH aA0.AO aB1.AO).bind fun v4 => (bif !v4 then some false else ((WH aA0.AB aB1.AB).bind fun v5 => (bif !v5 then some false else ((XV aA0.BY aB1.BY).bind fun v6 => (bif !v6 then some false else ((XV aA0.DF aB1.DF).bind fun v7 => (bif !v7 then some false else some true))))))))))
theorem aJ {aA0 : Bu} {aB1 : Bu} {r : Bool} {l1 l2 l3 l4 l5 l6 l7 l8 l9 l10 : Nat} (hk : jT aA0 aB1 = some r) (hlk : 0 < lk.length := by simp) : Al Tryz.prog hh 85 [.agg (Cq l1 0 l2 0 l3 0 l4 0 l5 0 aA0), .agg (Cq l6 0 l7 0 l8 0 l9 0 l10 0 aB1)] H lk = some (.bool r, H) := by
 refine AI Tryz.func85 rfl Tryz.ntmps85 Tryz.results85 rfl rfl fun hO => ?_
 unfold jT at hk
 refine A1 (A4 (Ba (cs := [_, _, _, _, _]) hO B1 (fun b1 G hO => ?_)))
 refine Ba (cs := [_, _, _, _, _]) hO B1 (fun b2 G hO => ?_)
 refine pA (.bool _) (pE (gn (A1 (A1 (A4 ?_)))))
 refine Au BL hO 1 (.lit _ _ _) BC ?_
 refine Au BL hO 0 (.lit _ _ _) BC (bk hk fun v3 hv3 hk => ?_)
 refine AR (fun _ => IC hv3) ?_
 refine pU (pE (gn (Aq hk (fun hk => ?_) (fun hk => ?_))))
 ·refine A1 (A4 (pA (.bool _) (pE (gn (Av (gr ?_))))))
  cases hk; exact AT hO
 ·refine As (gn (A1 (A1 (A4 (Au EB hO 1 (.lit _ _ _) Df ?_)))))
  refine Au EB hO 0 (.lit _ _ _) Df (bk hk fun v4 hv4 hk => ?_)
  refine AR (fun _ => SZ hv4) ?_
  refine pU (pE (gn (Aq hk (fun hk => ?_) (fun hk => ?_))))
  ·refine A1 (A4 (pA (.bool _) (pE (gn (Av (gr ?_))))))
   cases hk; exact AT hO
  ·refine As (gn (A1 (A1 (A4 (Au EX hO 1 (.lit _ _ _) Df ?_)))))
   refine Au EX hO 0 (.lit _ _ _) Df (bk hk fun v5 hv5 hk => ?_)
   refine AR (fun _ => SZ hv5) ?_
   refine pU (pE (gn (Aq hk (fun hk => ?_) (fun hk => ?_))))
   ·refine A1 (A4 (pA (.bool _) (pE (gn (Av (gr ?_))))))
    cases hk; exact AT hO
   ·refine As (gn (A1 (A1 (A4 (Au DY hO 1 (.lit _ _ _) BC ?_)))))
    refine Au DY hO 0 (.lit _ _ _) BC (bk hk fun v6 hv6 hk => ?_)
    refine AR (fun _ => IC hv6) ?_
    refine pU (pE (gn (Aq hk (fun hk => ?_) (fun hk => ?_))))
    ·refine A1 (A4 (pA (.bool _) (pE (gn (Av (gr ?_))))))
     cases hk; exact AT hO
    ·refine As (gn (A1 (A1 (A4 (Au Jt hO 1 (.lit _ _ _) BC ?_)))))
     refine Au Jt hO 0 (.lit _ _ _) BC (bk hk fun v7 hv7 hk => ?_)
     refine AR (fun _ => IC hv7) ?_
     refine pU (pE (gn (Aq hk (fun hk => ?_) (fun hk => ?_))))
     ·refine A1 (A4 (pA (.bool _) (pE (gn (Av (gr ?_))))))
      cases hk; exact AT hO
     ·refine As (gn (A1 (A4 (pA (.bool _) (pE (gn (Av ?_)))))))
      cases hk; exact AT hO
def O6 (aA0 : List Bu) (aB1 : List Bu) : Int → Option (Int ⊕ Bool) := fun s =>
 (bif decide (s < (aA0.length : Int)) then ((AL aA0 s).bind fun c2 => ((AL aB1 s).bind fun c3 => ((jT c2 c3).bind fun v4 => (bif !v4 then ((some false).map Sum.inr) else some (.inl (BV (s + (1:Int)))))))) else ((some true).map Sum.inr))
def jD (aA0 : List Bu) (aB1 : List Bu) : Option Bool :=
 (bif ((aA0.length : Int) != (aB1.length : Int)) then some false else (AJ (O6 aA0 aB1) ((0:Int))))
theorem Zo {aA0 : List Bu} {aB1 : List Bu} {r : Bool} {l1 m2 l3 m4 : Nat} (hk : jD aA0 aB1 = some r) (hlk : 0 < lk.length := by simp) : Al Tryz.prog hh 48 [AN l1 m2 aA0, AN l3 m4 aB1] H lk = some (.bool r, H) := by
 refine AI Tryz.func48 rfl Tryz.ntmps48 Tryz.results48 rfl rfl fun hO => ?_
 unfold jD at hk
 refine A1 (A4 (pA (.bool _) (pE (gn (A1 (A1 (A4 ?_)))))))
 refine pM (.lit _ _ _) ?_
 refine Ah I2 ?_
 refine pM (.lit _ _ _) ?_
 refine Ah I2 ?_
 refine AX (pE (gn (Aq hk (fun hk => ?_) (fun hk => ?_))))
 ·refine A1 (A4 (pA (.bool _) (pE (gn (Av (gr ?_))))))
  cases hk; exact AT hO
 ·refine As (gn (A1 (A1 (A4 (pA (.int _ _) (pE (gn (BQ ?_))))))))
  refine AD (F := O6 aA0 aB1) (fun s S' => ∃ (J : Nat → V) (G : A3), A6 H G [] ∧ S' = ⟨CO [(0, AN l1 m2 aA0), (1, AN l3 m4 aB1), (5, iv s)] J, G⟩) hk ⟨_, _, hO, sh⟩ ?_
  rintro x1 _ y1 ⟨J, G, hO, rfl⟩ hk hx1
  refine A1 (A1 (A4 (pM (.int _ _) ?_)))
  refine pM (.lit _ _ _) ?_
  refine Ah I2 ?_
  refine AX (pE (gn (Aq hk (fun hk => ?_) (fun hk => ?_))))
  ·refine As (gn (A1 (BQ (A1 (BG [(0, true), (1, true), (2, true), (3, true), (4, true), (5, true), (6, true), (7, true), (8, false), (9, false)] [_, _, _, _, _, _, _, _, _, _] (by decide +kernel) (by rfl) ?_)))))
   refine pM (.lit _ _ _) ?_
   refine pM (.int _ _) (bk hk fun c2 hc2 hk => ?_)
   refine pX hc2 Ex B1 ?_
   refine By (.agg [_, _, _, _, _]) (GG (lm := m2) (off := 0) hc2 FB B1) ?_
   refine pM (.lit _ _ _) ?_
   refine pM (.int _ _) (bk hk fun c3 hc3 hk => ?_)
   refine pX hc3 Ex B1 ?_
   refine By (.agg [_, _, _, _, _]) (GG (lm := m4) (off := 0) hc3 FB B1) (bk hk fun v4 hv4 hk => ?_)
   refine AR (fun _ => aJ hv4) ?_
   refine pU (pE (gn (Aq hk (fun hk => ?_) (fun hk => ?_))))
   ·refine A1 (A4 (pA (.bool _) (pE (gn (Av (br (gr (gr (br (gr (have hk := lx hx1 hk; ?_)))))))))))
    cases hk; exact AT hO
   ·refine As (bn (gn (A4 (pM (.int _ _) ?_))))
    refine AX ?_
    refine pA (.int _ _) (pE (gn ?_))
    cases hk; exact ⟨_, rfl, _, _, hO, sh⟩
  ·refine D6 (ge (ge (be (gn (have hk := lx hx1 hk; A1 (A4 (pA (.bool _) (pE (gn (Av ?_))))))))))
   cases hk; exact AT hO
def O8 (aA0 : List Bool) (aB1 : List Bool) : Int → Option (Int ⊕ Bool) := fun s =>
 (bif decide (s < (aA0.length : Int)) then ((AL aA0 s).bind fun c2 => ((AL aB1 s).bind fun c3 => (bif !(c2 == c3) then ((some false).map Sum.inr) else some (.inl (BV (s + (1:Int))))))) else ((some true).map Sum.inr))
def eI (aA0 : List Bool) (aB1 : List Bool) : Option Bool :=
 (bif ((aA0.length : Int) != (aB1.length : Int)) then some false else (AJ (O8 aA0 aB1) ((0:Int))))
theorem RI {aA0 : List Bool} {aB1 : List Bool} {r : Bool} {l1 l2 : Nat} (hk : eI aA0 aB1 = some r) (hlk : 0 < lk.length := by simp) : Al Tryz.prog hh 50 [AN l1 0 aA0, AN l2 0 aB1] H lk = some (.bool r, H) := by
 refine AI Tryz.func50 rfl Tryz.ntmps50 Tryz.results50 rfl rfl fun hO => ?_
 unfold eI at hk
 refine A1 (A4 (pA (.bool _) (pE (gn (A1 (A1 (A4 ?_)))))))
 refine pM (.lit _ _ _) ?_
 refine Ah Hd ?_
 refine pM (.lit _ _ _) ?_
 refine Ah Hd ?_
 refine AX (pE (gn (Aq hk (fun hk => ?_) (fun hk => ?_))))
 ·refine A1 (A4 (pA (.bool _) (pE (gn (Av (gr ?_))))))
  cases hk; exact AT hO
 ·refine As (gn (A1 (A1 (A4 (pA (.int _ _) (pE (gn (BQ ?_))))))))
  refine AD (F := O8 aA0 aB1) (fun s S' => ∃ (J : Nat → V) (G : A3), A6 H G [] ∧ S' = ⟨CO [(0, AN l1 0 aA0), (1, AN l2 0 aB1), (5, iv s)] J, G⟩) hk ⟨_, _, hO, sh⟩ ?_
  rintro x1 _ y1 ⟨J, G, hO, rfl⟩ hk hx1
  refine A1 (A1 (A4 (pM (.int _ _) ?_)))
  refine pM (.lit _ _ _) ?_
  refine Ah Hd ?_
  refine AX (pE (gn (Aq hk (fun hk => ?_) (fun hk => ?_))))
  ·refine As (gn (A1 (BQ (A1 (BG [(0, true), (1, true), (2, true), (3, true), (4, true), (5, true), (6, true), (7, true), (8, false)] [_, _, _, _, _, _, _, _, _] (by decide +kernel) (by rfl) ?_)))))
   refine pM (.lit _ _ _) ?_
   refine pM (.int _ _) (bk hk fun c2 hc2 hk => ?_)
   refine pX hc2 Cn FU ?_
   refine By (.bool _) (D7 (lm := 0) (off := 0) hc2 Fv) ?_
   refine pM (.lit _ _ _) ?_
   refine pM (.int _ _) (bk hk fun c3 hc3 hk => ?_)
   refine pX hc3 Cn FU ?_
   refine By (.bool _) (D7 (lm := 0) (off := 0) hc3 Fv) ?_
   refine bG Tryz.underlying4 (pE (gn (Aq hk (fun hk => ?_) (fun hk => ?_))))
   ·refine A1 (A4 (pA (.bool _) (pE (gn (Av (br (gr (gr (br (gr (have hk := lx hx1 hk; ?_)))))))))))
    cases hk; exact AT hO
   ·refine As (bn (gn (A4 (pM (.int _ _) ?_))))
    refine AX ?_
    refine pA (.int _ _) (pE (gn ?_))
    cases hk; exact ⟨_, rfl, _, _, hO, sh⟩
  ·refine D6 (ge (ge (be (gn (have hk := lx hx1 hk; A1 (A4 (pA (.bool _) (pE (gn (Av ?_))))))))))
   cases hk; exact AT hO
def O7 (aA0 : List (List Bool)) (aB1 : List (List Bool)) : Int → Option (Int ⊕ Bool) := fun s =>
 (bif decide (s < (aA0.length : Int)) then ((AL aA0 s).bind fun c2 => ((AL aB1 s).bind fun c3 => ((eI c2 c3).bind fun v4 => (bif !v4 then ((some false).map Sum.inr) else some (.inl (BV (s + (1:Int)))))))) else ((some true).map Sum.inr))
def jE (aA0 : List (List Bool)) (aB1 : List (List Bool)) : Option Bool :=
 (bif ((aA0.length : Int) != (aB1.length : Int)) then some false else (AJ (O7 aA0 aB1) ((0:Int))))
theorem Zp {aA0 : List (List Bool)} {aB1 : List (List Bool)} {r : Bool} {l1 m2 l3 m4 : Nat} (hk : jE aA0 aB1 = some r) (hlk : 0 < lk.length := by simp) : Al Tryz.prog hh 49 [AN l1 m2 aA0, AN l3 m4 aB1] H lk = some (.bool r, H) := by
 refine AI Tryz.func49 rfl Tryz.ntmps49 Tryz.results49 rfl rfl fun hO => ?_
 unfold jE at hk
 refine A1 (A4 (pA (.bool _) (pE (gn (A1 (A1 (A4 ?_)))))))
 refine pM (.lit _ _ _) ?_
 refine Ah MX ?_
 refine pM (.lit _ _ _) ?_
 refine Ah MX ?_
 refine AX (pE (gn (Aq hk (fun hk => ?_) (fun hk => ?_))))
 ·refine A1 (A4 (pA (.bool _) (pE (gn (Av (gr ?_))))))
  cases hk; exact AT hO
 ·refine As (gn (A1 (A1 (A4 (pA (.int _ _) (pE (gn (BQ ?_))))))))
  refine AD (F := O7 aA0 aB1) (fun s S' => ∃ (J : Nat → V) (G : A3), A6 H G [] ∧ S' = ⟨CO [(0, AN l1 m2 aA0), (1, AN l3 m4 aB1), (5, iv s)] J, G⟩) hk ⟨_, _, hO, sh⟩ ?_
  rintro x1 _ y1 ⟨J, G, hO, rfl⟩ hk hx1
  refine A1 (A1 (A4 (pM (.int _ _) ?_)))
  refine pM (.lit _ _ _) ?_
  refine Ah MX ?_
  refine AX (pE (gn (Aq hk (fun hk => ?_) (fun hk => ?_))))
  ·refine As (gn (A1 (BQ (A1 (BG [(0, true), (1, true), (2, true), (3, true), (4, true), (5, true), (6, true), (7, true), (8, false), (9, false)] [_, _, _, _, _, _, _, _, _, _] (by decide +kernel) (by rfl) ?_)))))
   refine pM (.lit _ _ _) ?_
   refine pM (.int _ _) (bk hk fun c2 hc2 hk => ?_)
   refine pX hc2 Iu GI ?_
   refine By (.lit _ _ _) (D7 (lm := m2) (off := 0) hc2 CC) ?_
   refine pM (.lit _ _ _) ?_
   refine pM (.int _ _) (bk hk fun c3 hc3 hk => ?_)
   refine pX hc3 Iu GI ?_
   refine By (.lit _ _ _) (D7 (lm := m4) (off := 0) hc3 CC) (bk hk fun v4 hv4 hk => ?_)
   refine AR (fun _ => RI hv4) ?_
   refine pU (pE (gn (Aq hk (fun hk => ?_) (fun hk => ?_))))
   ·refine A1 (A4 (pA (.bool _) (pE (gn (Av (br (gr (gr (br (gr (have hk := lx hx1 hk; ?_)))))))))))
    cases hk; exact AT hO
   ·refine As (bn (gn (A4 (pM (.int _ _) ?_))))
    refine AX ?_
    refine pA (.int _ _) (pE (gn ?_))
    cases hk; exact ⟨_, rfl, _, _, hO, sh⟩
  ·refine D6 (ge (ge (be (gn (have hk := lx hx1 hk; A1 (A4 (pA (.bool _) (pE (gn (Av ?_))))))))))
   cases hk; exact AT hO
def iO (aA0 : AQ) (aB1 : AQ) : Option Bool :=
 (bif (aA0.A0 != aB1.A0) then some false else ((XV aA0.A7 aB1.A7).bind fun v3 => (bif !v3 then some false else ((jD aA0.A5 aB1.A5).bind fun v4 => (bif !v4 then some false else ((jE aA0.BX aB1.BX).bind fun v5 => (bif !v5 then some false else (bif (aA0.ED != aB1.ED) then some false else some true))))))))
theorem ZW {aA0 : AQ} {aB1 : AQ} {r : Bool} {l1 l2 m3 l4 m5 l6 l7 m8 l9 m10 : Nat} (hk : iO aA0 aB1 = some r) (hlk : 0 < lk.length := by simp) : Al Tryz.prog hh 13 [.agg (Aj l1 0 l2 m3 l4 m5 aA0), .agg (Aj l6 0 l7 m8 l9 m10 aB1)] H lk = some (.bool r, H) := by
 refine AI Tryz.func13 rfl Tryz.ntmps13 Tryz.results13 rfl rfl fun hO => ?_
 unfold iO at hk
 refine A1 (A4 (Ba (cs := [_, _, _, _, _]) hO CH (fun b1 G hO => ?_)))
 refine Ba (cs := [_, _, _, _, _]) hO CH (fun b2 G hO => ?_)
 refine pA (.bool _) (pE (gn (A1 (A1 (A4 ?_)))))
 refine Au EO hO 1 (.int _ _) BW ?_
 refine Au EO hO 0 (.int _ _) BW ?_
 refine AX (pE (gn (Aq hk (fun hk => ?_) (fun hk => ?_))))
 ·refine A1 (A4 (pA (.bool _) (pE (gn (Av (gr ?_))))))
  cases hk; exact AT hO
 ·refine As (gn (A1 (A1 (A4 (Au Dg hO 1 (.lit _ _ _) BC ?_)))))
  refine Au Dg hO 0 (.lit _ _ _) BC (bk hk fun v3 hv3 hk => ?_)
  refine AR (fun _ => IC hv3) ?_
  refine pU (pE (gn (Aq hk (fun hk => ?_) (fun hk => ?_))))
  ·refine A1 (A4 (pA (.bool _) (pE (gn (Av (gr ?_))))))
   cases hk; exact AT hO
  ·refine As (gn (A1 (A1 (A4 (Au Bk hO 1 (.lit _ _ _) Du ?_)))))
   refine Au Bk hO 0 (.lit _ _ _) Du (bk hk fun v4 hv4 hk => ?_)
   refine AR (fun _ => Zo hv4) ?_
   refine pU (pE (gn (Aq hk (fun hk => ?_) (fun hk => ?_))))
   ·refine A1 (A4 (pA (.bool _) (pE (gn (Av (gr ?_))))))
    cases hk; exact AT hO
   ·refine As (gn (A1 (A1 (A4 (Au EP hO 1 (.lit _ _ _) It ?_)))))
    refine Au EP hO 0 (.lit _ _ _) It (bk hk fun v5 hv5 hk => ?_)
    refine AR (fun _ => Zp hv5) ?_
    refine pU (pE (gn (Aq hk (fun hk => ?_) (fun hk => ?_))))
    ·refine A1 (A4 (pA (.bool _) (pE (gn (Av (gr ?_))))))
     cases hk; exact AT hO
    ·refine As (gn (A1 (A1 (A4 (Au KY hO 1 (.int _ _) BW ?_)))))
     refine Au KY hO 0 (.int _ _) BW ?_
     refine AX (pE (gn (Aq hk (fun hk => ?_) (fun hk => ?_))))
     ·refine A1 (A4 (pA (.bool _) (pE (gn (Av (gr ?_))))))
      cases hk; exact AT hO
     ·refine As (gn (A1 (A4 (pA (.bool _) (pE (gn (Av ?_)))))))
      cases hk; exact AT hO
def jU (aA0 : Am) (aB1 : Am) : Option Bool :=
 (bif (aA0.Want != aB1.Want) then some false else (bif (aA0.AO != aB1.AO) then some false else some true))
theorem aK {aA0 : Am} {aB1 : Am} {r : Bool} (hk : jU aA0 aB1 = some r) (hlk : 0 < lk.length := by simp) : Al Tryz.prog hh 86 [.agg [iv aA0.Want, iv aA0.AO], .agg [iv aB1.Want, iv aB1.AO]] H lk = some (.bool r, H) := by
 refine AI Tryz.func86 rfl Tryz.ntmps86 Tryz.results86 rfl rfl fun hO => ?_
 unfold jU at hk
 refine A1 (A4 (Ba (cs := [_, _]) hO EE (fun b1 G hO => ?_)))
 refine Ba (cs := [_, _]) hO EE (fun b2 G hO => ?_)
 refine pA (.bool _) (pE (gn (A1 (A1 (A4 ?_)))))
 refine Au Ig hO 1 (.int _ _) BW ?_
 refine Au Ig hO 0 (.int _ _) BW ?_
 refine AX (pE (gn (Aq hk (fun hk => ?_) (fun hk => ?_))))
 ·refine A1 (A4 (pA (.bool _) (pE (gn (Av (gr ?_))))))
  cases hk; exact AT hO
 ·refine As (gn (A1 (A1 (A4 (Au KZ hO 1 (.int _ _) BW ?_)))))
  refine Au KZ hO 0 (.int _ _) BW ?_
  refine AX (pE (gn (Aq hk (fun hk => ?_) (fun hk => ?_))))
  ·refine A1 (A4 (pA (.bool _) (pE (gn (Av (gr ?_))))))
   cases hk; exact AT hO
  ·refine As (gn (A1 (A4 (pA (.bool _) (pE (gn (Av ?_)))))))
   cases hk; exact AT hO
def O9 (aA0 : List Am) (aB1 : List Am) : Int → Option (Int ⊕ Bool) := fun s =>
 (bif decide (s < (aA0.length : Int)) then ((AL aA0 s).bind fun c2 => ((AL aB1 s).bind fun c3 => ((jU c2 c3).bind fun v4 => (bif !v4 then ((some false).map Sum.inr) else some (.inl (BV (s + (1:Int)))))))) else ((some true).map Sum.inr))
def jF (aA0 : List Am) (aB1 : List Am) : Option Bool :=
 (bif ((aA0.length : Int) != (aB1.length : Int)) then some false else (AJ (O9 aA0 aB1) ((0:Int))))
theorem Zq {aA0 : List Am} {aB1 : List Am} {r : Bool} {l1 l2 : Nat} (hk : jF aA0 aB1 = some r) (hlk : 0 < lk.length := by simp) : Al Tryz.prog hh 51 [AN l1 0 aA0, AN l2 0 aB1] H lk = some (.bool r, H) := by
 refine AI Tryz.func51 rfl Tryz.ntmps51 Tryz.results51 rfl rfl fun hO => ?_
 unfold jF at hk
 refine A1 (A4 (pA (.bool _) (pE (gn (A1 (A1 (A4 ?_)))))))
 refine pM (.lit _ _ _) ?_
 refine Ah Pa ?_
 refine pM (.lit _ _ _) ?_
 refine Ah Pa ?_
 refine AX (pE (gn (Aq hk (fun hk => ?_) (fun hk => ?_))))
 ·refine A1 (A4 (pA (.bool _) (pE (gn (Av (gr ?_))))))
  cases hk; exact AT hO
 ·refine As (gn (A1 (A1 (A4 (pA (.int _ _) (pE (gn (BQ ?_))))))))
  refine AD (F := O9 aA0 aB1) (fun s S' => ∃ (J : Nat → V) (G : A3), A6 H G [] ∧ S' = ⟨CO [(0, AN l1 0 aA0), (1, AN l2 0 aB1), (5, iv s)] J, G⟩) hk ⟨_, _, hO, sh⟩ ?_
  rintro x1 _ y1 ⟨J, G, hO, rfl⟩ hk hx1
  refine A1 (A1 (A4 (pM (.int _ _) ?_)))
  refine pM (.lit _ _ _) ?_
  refine Ah Pa ?_
  refine AX (pE (gn (Aq hk (fun hk => ?_) (fun hk => ?_))))
  ·refine As (gn (A1 (BQ (A1 (BG [(0, true), (1, true), (2, true), (3, true), (4, true), (5, true), (6, true), (7, true), (8, false), (9, false)] [_, _, _, _, _, _, _, _, _, _] (by decide +kernel) (by rfl) ?_)))))
   refine pM (.lit _ _ _) ?_
   refine pM (.int _ _) (bk hk fun c2 hc2 hk => ?_)
   refine pX hc2 Iv EE ?_
   refine By (.agg [_, _]) (GG (lm := 0) (off := 0) hc2 SD EE) ?_
   refine pM (.lit _ _ _) ?_
   refine pM (.int _ _) (bk hk fun c3 hc3 hk => ?_)
   refine pX hc3 Iv EE ?_
   refine By (.agg [_, _]) (GG (lm := 0) (off := 0) hc3 SD EE) (bk hk fun v4 hv4 hk => ?_)
   refine AR (fun _ => aK hv4) ?_
   refine pU (pE (gn (Aq hk (fun hk => ?_) (fun hk => ?_))))
   ·refine A1 (A4 (pA (.bool _) (pE (gn (Av (br (gr (gr (br (gr (have hk := lx hx1 hk; ?_)))))))))))
    cases hk; exact AT hO
   ·refine As (bn (gn (A4 (pM (.int _ _) ?_))))
    refine AX ?_
    refine pA (.int _ _) (pE (gn ?_))
    cases hk; exact ⟨_, rfl, _, _, hO, sh⟩
  ·refine D6 (ge (ge (be (gn (have hk := lx hx1 hk; A1 (A4 (pA (.bool _) (pE (gn (Av ?_))))))))))
   cases hk; exact AT hO
def jV (aA0 : AH) (aB1 : AH) : Option Bool :=
 (bif (aA0.State != aB1.State) then some false else (bif (aA0.Ac != aB1.Ac) then some false else ((eI aA0.Ab aB1.Ab).bind fun v3 => (bif !v3 then some false else (bif !(aA0.Shown == aB1.Shown) then some false else (bif (aA0.Timer != aB1.Timer) then some false else some true))))))
theorem aL {aA0 : AH} {aB1 : AH} {r : Bool} {l1 l2 : Nat} (hk : jV aA0 aB1 = some r) (hlk : 0 < lk.length := by simp) : Al Tryz.prog hh 87 [.agg [iv aA0.State, iv aA0.Ac, AN l1 0 aA0.Ab, .bool aA0.Shown, iv aA0.Timer], .agg [iv aB1.State, iv aB1.Ac, AN l2 0 aB1.Ab, .bool aB1.Shown, iv aB1.Timer]] H lk = some (.bool r, H) := by
 refine AI Tryz.func87 rfl Tryz.ntmps87 Tryz.results87 rfl rfl fun hO => ?_
 unfold jV at hk
 refine A1 (A4 (Ba (cs := [_, _, _, _, _]) hO Ay (fun b1 G hO => ?_)))
 refine Ba (cs := [_, _, _, _, _]) hO Ay (fun b2 G hO => ?_)
 refine pA (.bool _) (pE (gn (A1 (A1 (A4 ?_)))))
 refine Au B9 hO 1 (.int _ _) BW ?_
 refine Au B9 hO 0 (.int _ _) BW ?_
 refine AX (pE (gn (Aq hk (fun hk => ?_) (fun hk => ?_))))
 ·refine A1 (A4 (pA (.bool _) (pE (gn (Av (gr ?_))))))
  cases hk; exact AT hO
 ·refine As (gn (A1 (A1 (A4 (Au C1 hO 1 (.int _ _) BW ?_)))))
  refine Au C1 hO 0 (.int _ _) BW ?_
  refine AX (pE (gn (Aq hk (fun hk => ?_) (fun hk => ?_))))
  ·refine A1 (A4 (pA (.bool _) (pE (gn (Av (gr ?_))))))
   cases hk; exact AT hO
  ·refine As (gn (A1 (A1 (A4 (Au C6 hO 1 (.lit _ _ _) CC ?_)))))
   refine Au C6 hO 0 (.lit _ _ _) CC (bk hk fun v3 hv3 hk => ?_)
   refine AR (fun _ => RI hv3) ?_
   refine pU (pE (gn (Aq hk (fun hk => ?_) (fun hk => ?_))))
   ·refine A1 (A4 (pA (.bool _) (pE (gn (Av (gr ?_))))))
    cases hk; exact AT hO
   ·refine As (gn (A1 (A1 (A4 (Au Dv hO 1 (.bool _) Fv ?_)))))
    refine Au Dv hO 0 (.bool _) Fv ?_
    refine bG Tryz.underlying4 (pE (gn (Aq hk (fun hk => ?_) (fun hk => ?_))))
    ·refine A1 (A4 (pA (.bool _) (pE (gn (Av (gr ?_))))))
     cases hk; exact AT hO
    ·refine As (gn (A1 (A1 (A4 (Au EA hO 1 (.int _ _) BW ?_)))))
     refine Au EA hO 0 (.int _ _) BW ?_
     refine AX (pE (gn (Aq hk (fun hk => ?_) (fun hk => ?_))))
     ·refine A1 (A4 (pA (.bool _) (pE (gn (Av (gr ?_))))))
      cases hk; exact AT hO
     ·refine As (gn (A1 (A4 (pA (.bool _) (pE (gn (Av ?_)))))))
      cases hk; exact AT hO
def OA (aA0 : List AH) (aB1 : List AH) : Int → Option (Int ⊕ Bool) := fun s =>
 (bif decide (s < (aA0.length : Int)) then ((AL aA0 s).bind fun c2 => ((AL aB1 s).bind fun c3 => ((jV c2 c3).bind fun v4 => (bif !v4 then ((some false).map Sum.inr) else some (.inl (BV (s + (1:Int)))))))) else ((some true).map Sum.inr))
def jG (aA0 : List AH) (aB1 : List AH) : Option Bool :=
 (bif ((aA0.length : Int) != (aB1.length : Int)) then some false else (AJ (OA aA0 aB1) ((0:Int))))
theorem Zr {aA0 : List AH} {aB1 : List AH} {r : Bool} {l1 m2 l3 m4 : Nat} (hk : jG aA0 aB1 = some r) (hlk : 0 < lk.length := by simp) : Al Tryz.prog hh 52 [AN l1 m2 aA0, AN l3 m4 aB1] H lk = some (.bool r, H) := by
 refine AI Tryz.func52 rfl Tryz.ntmps52 Tryz.results52 rfl rfl fun hO => ?_
 unfold jG at hk
 refine A1 (A4 (pA (.bool _) (pE (gn (A1 (A1 (A4 ?_)))))))
 refine pM (.lit _ _ _) ?_
 refine Ah Ih ?_
 refine pM (.lit _ _ _) ?_
 refine Ah Ih ?_
 refine AX (pE (gn (Aq hk (fun hk => ?_) (fun hk => ?_))))
 ·refine A1 (A4 (pA (.bool _) (pE (gn (Av (gr ?_))))))
  cases hk; exact AT hO
 ·refine As (gn (A1 (A1 (A4 (pA (.int _ _) (pE (gn (BQ ?_))))))))
  refine AD (F := OA aA0 aB1) (fun s S' => ∃ (J : Nat → V) (G : A3), A6 H G [] ∧ S' = ⟨CO [(0, AN l1 m2 aA0), (1, AN l3 m4 aB1), (5, iv s)] J, G⟩) hk ⟨_, _, hO, sh⟩ ?_
  rintro x1 _ y1 ⟨J, G, hO, rfl⟩ hk hx1
  refine A1 (A1 (A4 (pM (.int _ _) ?_)))
  refine pM (.lit _ _ _) ?_
  refine Ah Ih ?_
  refine AX (pE (gn (Aq hk (fun hk => ?_) (fun hk => ?_))))
  ·refine As (gn (A1 (BQ (A1 (BG [(0, true), (1, true), (2, true), (3, true), (4, true), (5, true), (6, true), (7, true), (8, false), (9, false)] [_, _, _, _, _, _, _, _, _, _] (by decide +kernel) (by rfl) ?_)))))
   refine pM (.lit _ _ _) ?_
   refine pM (.int _ _) (bk hk fun c2 hc2 hk => ?_)
   refine pX hc2 EN Ay ?_
   refine By (.agg [_, _, _, _, _]) (GG (lm := m2) (off := 0) hc2 G9 Ay) ?_
   refine pM (.lit _ _ _) ?_
   refine pM (.int _ _) (bk hk fun c3 hc3 hk => ?_)
   refine pX hc3 EN Ay ?_
   refine By (.agg [_, _, _, _, _]) (GG (lm := m4) (off := 0) hc3 G9 Ay) (bk hk fun v4 hv4 hk => ?_)
   refine AR (fun _ => aL hv4) ?_
   refine pU (pE (gn (Aq hk (fun hk => ?_) (fun hk => ?_))))
   ·refine A1 (A4 (pA (.bool _) (pE (gn (Av (br (gr (gr (br (gr (have hk := lx hx1 hk; ?_)))))))))))
    cases hk; exact AT hO
   ·refine As (bn (gn (A4 (pM (.int _ _) ?_))))
    refine AX ?_
    refine pA (.int _ _) (pE (gn ?_))
    cases hk; exact ⟨_, rfl, _, _, hO, sh⟩
  ·refine D6 (ge (ge (be (gn (have hk := lx hx1 hk; A1 (A4 (pA (.bool _) (pE (gn (Av ?_))))))))))
   cases hk; exact AT hO
def iP (aA0 : AE) (aB1 : AE) : Option Bool :=
 (bif !(aA0.Ok == aB1.Ok) then some false else ((eI aA0.C9 aB1.C9).bind fun v3 => (bif !v3 then some false else ((jF aA0.A8 aB1.A8).bind fun v4 => (bif !v4 then some false else ((jG aA0.A5 aB1.A5).bind fun v5 => (bif !v5 then some false else some true)))))))
theorem ZX {aA0 : AE} {aB1 : AE} {r : Bool} {l1 l2 l3 m4 l5 l6 l7 m8 : Nat} (hk : iP aA0 aB1 = some r) (hlk : 0 < lk.length := by simp) : Al Tryz.prog hh 14 [.agg (Ai l1 0 l2 0 l3 m4 aA0), .agg (Ai l5 0 l6 0 l7 m8 aB1)] H lk = some (.bool r, H) := by
 refine AI Tryz.func14 rfl Tryz.ntmps14 Tryz.results14 rfl rfl fun hO => ?_
 unfold iP at hk
 refine A1 (A4 (Ba (cs := [_, _, _, _]) hO C0 (fun b1 G hO => ?_)))
 refine Ba (cs := [_, _, _, _]) hO C0 (fun b2 G hO => ?_)
 refine pA (.bool _) (pE (gn (A1 (A1 (A4 ?_)))))
 refine Au MW hO 1 (.bool _) Fv ?_
 refine Au MW hO 0 (.bool _) Fv ?_
 refine bG Tryz.underlying4 (pE (gn (Aq hk (fun hk => ?_) (fun hk => ?_))))
 ·refine A1 (A4 (pA (.bool _) (pE (gn (Av (gr ?_))))))
  cases hk; exact AT hO
 ·refine As (gn (A1 (A1 (A4 (Au Co hO 1 (.lit _ _ _) CC ?_)))))
  refine Au Co hO 0 (.lit _ _ _) CC (bk hk fun v3 hv3 hk => ?_)
  refine AR (fun _ => RI hv3) ?_
  refine pU (pE (gn (Aq hk (fun hk => ?_) (fun hk => ?_))))
  ·refine A1 (A4 (pA (.bool _) (pE (gn (Av (gr ?_))))))
   cases hk; exact AT hO
  ·refine As (gn (A1 (A1 (A4 (Au Dh hO 1 (.lit _ _ _) JX ?_)))))
   refine Au Dh hO 0 (.lit _ _ _) JX (bk hk fun v4 hv4 hk => ?_)
   refine AR (fun _ => Zq hv4) ?_
   refine pU (pE (gn (Aq hk (fun hk => ?_) (fun hk => ?_))))
   ·refine A1 (A4 (pA (.bool _) (pE (gn (Av (gr ?_))))))
    cases hk; exact AT hO
   ·refine As (gn (A1 (A1 (A4 (Au Bl hO 1 (.lit _ _ _) E6 ?_)))))
    refine Au Bl hO 0 (.lit _ _ _) E6 (bk hk fun v5 hv5 hk => ?_)
    refine AR (fun _ => Zr hv5) ?_
    refine pU (pE (gn (Aq hk (fun hk => ?_) (fun hk => ?_))))
    ·refine A1 (A4 (pA (.bool _) (pE (gn (Av (gr ?_))))))
     cases hk; exact AT hO
    ·refine As (gn (A1 (A4 (pA (.bool _) (pE (gn (Av ?_)))))))
     cases hk; exact AT hO
def Nu : ((List Int) × Int × Int) → Option (((List Int) × Int × Int) ⊕ (List Int × Int)) := fun s =>
 (bif decide (s.2.2 < (s.1.length : Int)) then ((AL s.1 s.2.2).bind fun c4 => some (.inl (s.1.set s.2.2.toNat s.2.1, BV (s.2.1 + (1:Int)), BV (s.2.2 + (1:Int))))) else ((some (s.1, s.2.1)).map Sum.inr))
def Xk (aA0 : List Int) (aK1 : Int) : Option (List Int × Int) :=
 (AJ (Nu) (aA0, aK1, (0:Int)))
theorem ID {aA0 : List Int} {aK1 : Int} {r : (List Int × Int)} {v0 : V} {F0 : List Nat} (hk : Xk aA0 aK1 = some r) (ha : CG H aA0 [v0] F0) (hF : ∀ b ∈ F0, b < H.length) (hS : ∀ b ∈ F0, AV lk b = true) (hlk : 0 < lk.length := by simp) : ∃ v H1, Al Tryz.prog hh 17 [v0, iv aK1] H lk = some (v, H1) ∧ v = iv r.2 ∧ CG H1 r.1 [v0] F0 ∧ H1.length = H.length ∧ ∀ b, b ∉ F0 → H1[b]? = H[b]? := by
 refine B0 Tryz.func17 rfl Tryz.ntmps17 Tryz.results17 rfl rfl ?_
 have hO := DR ha hF
 have hFr := Bz.refl H F0
 unfold Xk at hk
 refine A1 (A4 (pA (.int _ _) (pE (gn (A1 (A1 (A4 ?_)))))))
 refine pA (.int _ _) (pE (gn (BQ ?_)))
 refine AD (F := Nu) (fun s S' => ∃ (J : Nat → V) (G : A3) (H1 : A3), Bz H H1 F0 ∧ A6 H1 G [AY F0 F0 s.1 [v0]] ∧ S' = ⟨CO [(0, v0), (1, iv s.2.1), (5, iv s.2.2)] J, G⟩) hk ⟨_, _, _, hFr, hO, sh⟩ ?_
 rintro ⟨x1, x2, x3⟩ _ y1 ⟨J, G, H1, hFr, hO, rfl⟩ hk hx1
 refine A1 (A1 (A4 (pM (.int _ _) ?_)))
 refine pM v0 ?_
 refine JT hO 0 DE ?_
 refine AX (pE (gn (Aq hk (fun hk => ?_) (fun hk => ?_))))
 ·refine As (gn (A1 (BQ (A1 (A4 (pM v0 ?_))))))
  refine pM (.int _ _) ?_
  refine pM (.int _ _) (bk hk fun c4 hc4 hk => ?_)
  refine Lb hO 0 hc4 C8 DS (fun b5 hb5 => ?_)
  refine ZI (Bf.all (α := Int)) (y' := x2) hO 0 hb5 hc4 DS (fun _ => ⟨rfl, rfl⟩) hFr hS rfl (fun H1 G hFr hO => ?_)
  have hc_6 := Bv hc4 x2
  have hv_6 := Cw (j := x3.toNat) (y := x2) hb5
  refine pE (gn (A4 (pM (.int _ _) ?_)))
  refine AX ?_
  refine pA (.int _ _) (pE (bn (gn (A4 ?_))))
  refine pM (.int _ _) ?_
  refine AX ?_
  refine pA (.int _ _) (pE (gn ?_))
  cases hk; exact ⟨_, rfl, _, _, _, hFr, hO, sh⟩
 ·refine D6 (ge (ge (be (gn (have hk := lx hx1 hk; A1 (A4 (pM (.int _ _) ?_)))))))
  refine pA (.int _ _) (pE (gn (Av ?_)))
  replace hk := Option.some.inj hk; subst hk; exact Pn hO 0 hFr hF
def OT : ((List Aa) × Int × Int) → Option (((List Aa) × Int × Int) ⊕ (List Aa × Int)) := fun s =>
 (bif decide (s.2.2 < (s.1.length : Int)) then ((AL s.1 s.2.2).bind fun c4 => ((AL (s.1.set s.2.2.toNat ({ c4 with Switch := s.2.1 })) s.2.2).bind fun c7 => some (.inl ((s.1.set s.2.2.toNat ({ c4 with Switch := s.2.1 })).set s.2.2.toNat ({ c7 with EZ := BV (s.2.1 + (1:Int)) }), BV ((BV (s.2.1 + (1:Int))) + (1:Int)), BV (s.2.2 + (1:Int)))))) else ((some (s.1, s.2.1)).map Sum.inr))
def gX (aA0 : List Aa) (aK1 : Int) : Option (List Aa × Int) :=
 (AJ (OT) (aA0, aK1, (0:Int)))
theorem VN {aA0 : List Aa} {aK1 : Int} {r : (List Aa × Int)} {v0 : V} {F0 : List Nat} (hk : gX aA0 aK1 = some r) (ha : CG H aA0 [v0] F0) (hF : ∀ b ∈ F0, b < H.length) (hS : ∀ b ∈ F0, AV lk b = true) (hlk : 0 < lk.length := by simp) : ∃ v H1, Al Tryz.prog hh 88 [v0, iv aK1] H lk = some (v, H1) ∧ v = iv r.2 ∧ CG H1 r.1 [v0] F0 ∧ H1.length = H.length ∧ ∀ b, b ∉ F0 → H1[b]? = H[b]? := by
 refine B0 Tryz.func88 rfl Tryz.ntmps88 Tryz.results88 rfl rfl ?_
 have hO := DR ha hF
 have hFr := Bz.refl H F0
 unfold gX at hk
 refine A1 (A4 (pA (.int _ _) (pE (gn (A1 (A1 (A4 ?_)))))))
 refine pA (.int _ _) (pE (gn (BQ ?_)))
 refine AD (F := OT) (fun s S' => ∃ (J : Nat → V) (G : A3) (H1 : A3), Bz H H1 F0 ∧ A6 H1 G [AY F0 F0 s.1 [v0]] ∧ S' = ⟨CO [(0, v0), (1, iv s.2.1), (5, iv s.2.2)] J, G⟩) hk ⟨_, _, _, hFr, hO, sh⟩ ?_
 rintro ⟨x1, x2, x3⟩ _ y1 ⟨J, G, H1, hFr, hO, rfl⟩ hk hx1
 refine A1 (A1 (A4 (pM (.int _ _) ?_)))
 refine pM v0 ?_
 refine JT hO 0 FC ?_
 refine AX (pE (gn (Aq hk (fun hk => ?_) (fun hk => ?_))))
 ·refine As (gn (A1 (BQ (A1 (A4 (pM v0 ?_))))))
  refine pM (.int _ _) ?_
  refine pM (.int _ _) (bk hk fun c4 hc4 hk => ?_)
  refine Lb hO 0 hc4 Dl BD (fun b5 hb5 => ?_)
  refine pF CR ?_
  refine ZI Mz (y' := x2) hO 0 hb5 hc4 DS (fun _ => ⟨rfl, rfl⟩) hFr hS rfl (fun H1 G hFr hO => ?_)
  have hc_6 := Bv hc4 ({ c4 with Switch := x2 } : Aa)
  have hv_6 := Cw (j := x3.toNat) (y := ({ c4 with Switch := x2 } : Aa)) hb5
  refine pE (gn (A1 (A4 (pM (.int _ _) ?_))))
  refine AX ?_
  refine pA (.int _ _) (pE (gn (A1 (A4 ?_))))
  refine pM v0 ?_
  refine pM (.int _ _) ?_
  refine pM (.int _ _) (bk hk fun c7 hc7 hk => ?_)
  refine Lb hO 0 hc7 Dl BD (fun b8 hb8 => ?_)
  refine pF EC ?_
  refine ZI RV (y' := (BV (x2 + (1:Int)))) hO 0 hb8 hc7 DS (fun _ => ⟨rfl, rfl⟩) hFr hS rfl (fun H1 G hFr hO => ?_)
  have hc_9 := Bv hc7 ({ c7 with EZ := BV (x2 + (1:Int)) } : Aa)
  have hv_9 := Cw (j := x3.toNat) (y := ({ c7 with EZ := BV (x2 + (1:Int)) } : Aa)) hb8
  refine pE (gn (A4 (pM (.int _ _) ?_)))
  refine AX ?_
  refine pA (.int _ _) (pE (bn (gn (A4 ?_))))
  refine pM (.int _ _) ?_
  refine AX ?_
  refine pA (.int _ _) (pE (gn ?_))
  cases hk; exact ⟨_, rfl, _, _, _, hFr, hO, sh⟩
 ·refine D6 (ge (ge (be (gn (have hk := lx hx1 hk; A1 (A4 (pM (.int _ _) ?_)))))))
  refine pA (.int _ _) (pE (gn (Av ?_)))
  replace hk := Option.some.inj hk; subst hk; exact Pn hO 0 hFr hF
def OB : ((List Bu) × Int × Int) → Option (((List Bu) × Int × Int) ⊕ (List Bu × Int)) := fun s =>
 (bif decide (s.2.2 < (s.1.length : Int)) then ((AL s.1 s.2.2).bind fun c4 => ((Xk c4.A0 s.2.1).bind fun z7 => ((AL (s.1.set s.2.2.toNat ({ c4 with A0 := z7.1 })) s.2.2).bind fun c8 => ((gX c8.AO z7.2).bind fun z11 => ((AL ((s.1.set s.2.2.toNat ({ c4 with A0 := z7.1 })).set s.2.2.toNat ({ c8 with AO := z11.1 })) s.2.2).bind fun c12 => ((gX c12.AB z11.2).bind fun z15 => ((AL (((s.1.set s.2.2.toNat ({ c4 with A0 := z7.1 })).set s.2.2.toNat ({ c8 with AO := z11.1 })).set s.2.2.toNat ({ c12 with AB := z15.1 })) s.2.2).bind fun c16 => ((Xk c16.BY z15.2).bind fun z19 => ((AL ((((s.1.set s.2.2.toNat ({ c4 with A0 := z7.1 })).set s.2.2.toNat ({ c8 with AO := z11.1 })).set s.2.2.toNat ({ c12 with AB := z15.1 })).set s.2.2.toNat ({ c16 with BY := z19.1 })) s.2.2).bind fun c20 => ((Xk c20.DF z19.2).bind fun z23 => some (.inl (((((s.1.set s.2.2.toNat ({ c4 with A0 := z7.1 })).set s.2.2.toNat ({ c8 with AO := z11.1 })).set s.2.2.toNat ({ c12 with AB := z15.1 })).set s.2.2.toNat ({ c16 with BY := z19.1 })).set s.2.2.toNat ({ c20 with DF := z23.1 }), z23.2, BV (s.2.2 + (1:Int)))))))))))))) else ((some (s.1, s.2.1)).map Sum.inr))
def jH (aA0 : List Bu) (aK1 : Int) : Option (List Bu × Int) :=
 (AJ (OB) (aA0, aK1, (0:Int)))
theorem Zs {aA0 : List Bu} {aK1 : Int} {r : (List Bu × Int)} {v0 : V} {F0 : List Nat} (hk : jH aA0 aK1 = some r) (ha : CG H aA0 [v0] F0) (hF : ∀ b ∈ F0, b < H.length) (hS : ∀ b ∈ F0, AV lk b = true) (hlk : 0 < lk.length := by simp) : ∃ v H1, Al Tryz.prog hh 53 [v0, iv aK1] H lk = some (v, H1) ∧ v = iv r.2 ∧ CG H1 r.1 [v0] F0 ∧ H1.length = H.length ∧ ∀ b, b ∉ F0 → H1[b]? = H[b]? := by
 refine B0 Tryz.func53 rfl Tryz.ntmps53 Tryz.results53 rfl rfl ?_
 have hO := DR ha hF
 have hFr := Bz.refl H F0
 unfold jH at hk
 refine A1 (A4 (pA (.int _ _) (pE (gn (A1 (A1 (A4 ?_)))))))
 refine pA (.int _ _) (pE (gn (BQ ?_)))
 refine AD (F := OB) (fun s S' => ∃ (J : Nat → V) (G : A3) (H1 : A3), Bz H H1 F0 ∧ A6 H1 G [AY F0 F0 s.1 [v0]] ∧ S' = ⟨CO [(0, v0), (1, iv s.2.1), (5, iv s.2.2)] J, G⟩) hk ⟨_, _, _, hFr, hO, sh⟩ ?_
 rintro ⟨x1, x2, x3⟩ _ y1 ⟨J, G, H1, hFr, hO, rfl⟩ hk hx1
 refine A1 (A1 (A4 (pM (.int _ _) ?_)))
 refine pM v0 ?_
 refine JT hO 0 I2 ?_
 refine AX (pE (gn (Aq hk (fun hk => ?_) (fun hk => ?_))))
 ·refine As (gn (A1 (BQ (A1 (A4 (pM v0 ?_))))))
  refine pM (.int _ _) (bk hk fun c4 hc4 hk => ?_)
  refine Lb hO 0 hc4 Ex B1 (fun b5 hb5 => ?_)
  refine pF BL ?_
  refine Ui M6 hO 0 hb5 hc4 BC (fun u6 fs6 hs6 => ?_)
  refine pM (.int _ _) (bk hk fun z7 hz7 hk => ?_)
  refine Tb (y' := z7.1) (r := iv z7.2) hO 0 hs6 (fun _ h => h) hFr hS (fun hF1 hS1 ht1 => ID hz7 ht1 hF1 hS1) (fun H1 G hFr hO => ?_)
  refine pA (.int _ _) (pE (gn (A1 (A4 ?_))))
  refine pM v0 ?_
  refine pM (.int _ _) (bk hk fun c8 hc8 hk => ?_)
  refine Lb hO 0 hc8 Ex B1 (fun b9 hb9 => ?_)
  refine pF EB ?_
  refine Ui RW hO 0 hb9 hc8 Df (fun u10 fs10 hs10 => ?_)
  refine pM (.int _ _) (bk hk fun z11 hz11 hk => ?_)
  refine Tb (y' := z11.1) (r := iv z11.2) hO 0 hs10 (fun _ h => h) hFr hS (fun hF1 hS1 ht1 => VN hz11 ht1 hF1 hS1) (fun H1 G hFr hO => ?_)
  refine pA (.int _ _) (pE (gn (A1 (A4 ?_))))
  refine pM v0 ?_
  refine pM (.int _ _) (bk hk fun c12 hc12 hk => ?_)
  refine Lb hO 0 hc12 Ex B1 (fun b13 hb13 => ?_)
  refine pF EX ?_
  refine Ui Oi hO 0 hb13 hc12 Df (fun u14 fs14 hs14 => ?_)
  refine pM (.int _ _) (bk hk fun z15 hz15 hk => ?_)
  refine Tb (y' := z15.1) (r := iv z15.2) hO 0 hs14 (fun _ h => h) hFr hS (fun hF1 hS1 ht1 => VN hz15 ht1 hF1 hS1) (fun H1 G hFr hO => ?_)
  refine pA (.int _ _) (pE (gn (A1 (A4 ?_))))
  refine pM v0 ?_
  refine pM (.int _ _) (bk hk fun c16 hc16 hk => ?_)
  refine Lb hO 0 hc16 Ex B1 (fun b17 hb17 => ?_)
  refine pF DY ?_
  refine Ui RY hO 0 hb17 hc16 BC (fun u18 fs18 hs18 => ?_)
  refine pM (.int _ _) (bk hk fun z19 hz19 hk => ?_)
  refine Tb (y' := z19.1) (r := iv z19.2) hO 0 hs18 (fun _ h => h) hFr hS (fun hF1 hS1 ht1 => ID hz19 ht1 hF1 hS1) (fun H1 G hFr hO => ?_)
  refine pA (.int _ _) (pE (gn (A4 ?_)))
  refine pM v0 ?_
  refine pM (.int _ _) (bk hk fun c20 hc20 hk => ?_)
  refine Lb hO 0 hc20 Ex B1 (fun b21 hb21 => ?_)
  refine pF Jt ?_
  refine Ui RX hO 0 hb21 hc20 BC (fun u22 fs22 hs22 => ?_)
  refine pM (.int _ _) (bk hk fun z23 hz23 hk => ?_)
  refine Tb (y' := z23.1) (r := iv z23.2) hO 0 hs22 (fun _ h => h) hFr hS (fun hF1 hS1 ht1 => ID hz23 ht1 hF1 hS1) (fun H1 G hFr hO => ?_)
  refine pA (.int _ _) (pE (bn (gn (A4 ?_))))
  refine pM (.int _ _) ?_
  refine AX ?_
  refine pA (.int _ _) (pE (gn ?_))
  cases hk; exact ⟨_, rfl, _, _, _, hFr, hO, sh⟩
 ·refine D6 (ge (ge (be (gn (have hk := lx hx1 hk; A1 (A4 (pM (.int _ _) ?_)))))))
  refine pA (.int _ _) (pE (gn (Av ?_)))
  replace hk := Option.some.inj hk; subst hk; exact Pn hO 0 hFr hF
def OD : ((List Bool) × Int × Int) → Option (((List Bool) × Int × Int) ⊕ (List Bool × Int)) := fun s =>
 (bif decide (s.2.2 < (s.1.length : Int)) then ((AL s.1 s.2.2).bind fun c4 => some (.inl (s.1.set s.2.2.toNat ((Int.tmod s.2.1 (3:Int)) == (0:Int)), BV (s.2.1 + (1:Int)), BV (s.2.2 + (1:Int))))) else ((some (s.1, s.2.1)).map Sum.inr))
def eL (aA0 : List Bool) (aK1 : Int) : Option (List Bool × Int) :=
 (AJ (OD) (aA0, aK1, (0:Int)))
theorem RJ {aA0 : List Bool} {aK1 : Int} {r : (List Bool × Int)} {v0 : V} {F0 : List Nat} (hk : eL aA0 aK1 = some r) (ha : CG H aA0 [v0] F0) (hF : ∀ b ∈ F0, b < H.length) (hS : ∀ b ∈ F0, AV lk b = true) (hlk : 0 < lk.length := by simp) : ∃ v H1, Al Tryz.prog hh 55 [v0, iv aK1] H lk = some (v, H1) ∧ v = iv r.2 ∧ CG H1 r.1 [v0] F0 ∧ H1.length = H.length ∧ ∀ b, b ∉ F0 → H1[b]? = H[b]? := by
 refine B0 Tryz.func55 rfl Tryz.ntmps55 Tryz.results55 rfl rfl ?_
 have hO := DR ha hF
 have hFr := Bz.refl H F0
 unfold eL at hk
 refine A1 (A4 (pA (.int _ _) (pE (gn (A1 (A1 (A4 ?_)))))))
 refine pA (.int _ _) (pE (gn (BQ ?_)))
 refine AD (F := OD) (fun s S' => ∃ (J : Nat → V) (G : A3) (H1 : A3), Bz H H1 F0 ∧ A6 H1 G [AY F0 F0 s.1 [v0]] ∧ S' = ⟨CO [(0, v0), (1, iv s.2.1), (5, iv s.2.2)] J, G⟩) hk ⟨_, _, _, hFr, hO, sh⟩ ?_
 rintro ⟨x1, x2, x3⟩ _ y1 ⟨J, G, H1, hFr, hO, rfl⟩ hk hx1
 refine A1 (A1 (A4 (pM (.int _ _) ?_)))
 refine pM v0 ?_
 refine JT hO 0 Hd ?_
 refine AX (pE (gn (Aq hk (fun hk => ?_) (fun hk => ?_))))
 ·refine As (gn (A1 (BQ (A1 (A4 (pM v0 ?_))))))
  refine pM (.int _ _) ?_
  refine pM (.int _ _) ?_
  refine AX ?_
  refine AX (bk hk fun c4 hc4 hk => ?_)
  refine Lb hO 0 hc4 Cn FU (fun b5 hb5 => ?_)
  refine ZI (Bf.all (α := Bool)) (y' := ((Int.tmod x2 (3:Int)) == (0:Int))) hO 0 hb5 hc4 FU (fun _ => ⟨rfl, rfl⟩) hFr hS rfl (fun H1 G hFr hO => ?_)
  have hc_6 := Bv hc4 ((Int.tmod x2 (3:Int)) == (0:Int))
  have hv_6 := Cw (j := x3.toNat) (y := ((Int.tmod x2 (3:Int)) == (0:Int))) hb5
  refine pE (gn (A4 (pM (.int _ _) ?_)))
  refine AX ?_
  refine pA (.int _ _) (pE (bn (gn (A4 ?_))))
  refine pM (.int _ _) ?_
  refine AX ?_
  refine pA (.int _ _) (pE (gn ?_))
  cases hk; exact ⟨_, rfl, _, _, _, hFr, hO, sh⟩
 ·refine D6 (ge (ge (be (gn (have hk := lx hx1 hk; A1 (A4 (pM (.int _ _) ?_)))))))
  refine pA (.int _ _) (pE (gn (Av ?_)))
  replace hk := Option.some.inj hk; subst hk; exact Pn hO 0 hFr hF
def OC : ((List (List Bool)) × Int × Int) → Option (((List (List Bool)) × Int × Int) ⊕ (List (List Bool) × Int)) := fun s =>
 (bif decide (s.2.2 < (s.1.length : Int)) then ((AL s.1 s.2.2).bind fun c4 => ((eL c4 s.2.1).bind fun z7 => some (.inl (s.1.set s.2.2.toNat z7.1, z7.2, BV (s.2.2 + (1:Int)))))) else ((some (s.1, s.2.1)).map Sum.inr))
def jI (aA0 : List (List Bool)) (aK1 : Int) : Option (List (List Bool) × Int) :=
 (AJ (OC) (aA0, aK1, (0:Int)))
theorem Zt {aA0 : List (List Bool)} {aK1 : Int} {r : (List (List Bool) × Int)} {v0 : V} {F0 : List Nat} (hk : jI aA0 aK1 = some r) (ha : CG H aA0 [v0] F0) (hF : ∀ b ∈ F0, b < H.length) (hS : ∀ b ∈ F0, AV lk b = true) (hlk : 0 < lk.length := by simp) : ∃ v H1, Al Tryz.prog hh 54 [v0, iv aK1] H lk = some (v, H1) ∧ v = iv r.2 ∧ CG H1 r.1 [v0] F0 ∧ H1.length = H.length ∧ ∀ b, b ∉ F0 → H1[b]? = H[b]? := by
 refine B0 Tryz.func54 rfl Tryz.ntmps54 Tryz.results54 rfl rfl ?_
 have hO := DR ha hF
 have hFr := Bz.refl H F0
 unfold jI at hk
 refine A1 (A4 (pA (.int _ _) (pE (gn (A1 (A1 (A4 ?_)))))))
 refine pA (.int _ _) (pE (gn (BQ ?_)))
 refine AD (F := OC) (fun s S' => ∃ (J : Nat → V) (G : A3) (H1 : A3), Bz H H1 F0 ∧ A6 H1 G [AY F0 F0 s.1 [v0]] ∧ S' = ⟨CO [(0, v0), (1, iv s.2.1), (5, iv s.2.2)] J, G⟩) hk ⟨_, _, _, hFr, hO, sh⟩ ?_
 rintro ⟨x1, x2, x3⟩ _ y1 ⟨J, G, H1, hFr, hO, rfl⟩ hk hx1
 refine A1 (A1 (A4 (pM (.int _ _) ?_)))
 refine pM v0 ?_
 refine JT hO 0 MX ?_
 refine AX (pE (gn (Aq hk (fun hk => ?_) (fun hk => ?_))))
 ·refine As (gn (A1 (BQ (A4 (pM v0 ?_)))))
  refine pM (.int _ _) (bk hk fun c4 hc4 hk => ?_)
  refine Lb hO 0 hc4 Iu GI (fun b5 hb5 => ?_)
  refine Ui (Bf.all (α := List Bool)) hO 0 hb5 hc4 CC (fun u6 fs6 hs6 => ?_)
  refine pM (.int _ _) (bk hk fun z7 hz7 hk => ?_)
  refine Tb (y' := z7.1) (r := iv z7.2) hO 0 hs6 (fun _ h => h) hFr hS (fun hF1 hS1 ht1 => RJ hz7 ht1 hF1 hS1) (fun H1 G hFr hO => ?_)
  refine pA (.int _ _) (pE (bn (gn (A4 ?_))))
  refine pM (.int _ _) ?_
  refine AX ?_
  refine pA (.int _ _) (pE (gn ?_))
  cases hk; exact ⟨_, rfl, _, _, _, hFr, hO, sh⟩
 ·refine D6 (ge (ge (be (gn (have hk := lx hx1 hk; A1 (A4 (pM (.int _ _) ?_)))))))
  refine pA (.int _ _) (pE (gn (Av ?_)))
  replace hk := Option.some.inj hk; subst hk; exact Pn hO 0 hFr hF
def iQ (aA0 : AQ) (aK1 : Int) : Option (AQ × Int) :=
 ((Xk aA0.A7 aK1).bind fun z3 => ((jH (({ aA0 with A7 := z3.1 }).A5) z3.2).bind fun z5 => ((jI (({ { aA0 with A7 := z3.1 } with A5 := z5.1 }).BX) z5.2).bind fun z7 => some ({ { { aA0 with A7 := z3.1 } with A5 := z5.1 } with BX := z7.1 }, z7.2))))
theorem ZY {aA0 : AQ} {aK1 : Int} {r : (AQ × Int)} {v0 : List V} {F0 : List Nat} (hk : iQ aA0 aK1 = some r) (ha : CG H aA0 v0 F0) (hF : ∀ b ∈ F0, b < H.length) (hS : ∀ b ∈ F0, AV lk b = true) (hlk : 0 < lk.length := by simp) : ∃ v H1, Al Tryz.prog hh 15 [.agg v0, iv aK1] H lk = some (v, H1) ∧ v = iv r.2 ∧ CG H1 r.1 v0 F0 ∧ H1.length = H.length ∧ ∀ b, b ∉ F0 → H1[b]? = H[b]? := by
 refine B0 Tryz.func15 rfl Tryz.ntmps15 Tryz.results15 rfl rfl ?_
 have hO := DR ha hF
 have hFr := Bz.refl H F0
 unfold iQ at hk
 refine A1 (A4 (YV hO 0 CH (fun b1 G hO => ?_)))
 refine pA (.int _ _) (pE (gn (A1 (A4 ?_))))
 refine pF Dg ?_
 refine PR L4 hO 0 1 BC (fun u2 fs2 hs2 => ?_)
 refine pM (.int _ _) (bk hk fun z3 hz3 hk => ?_)
 refine Tb (y' := z3.1) (r := iv z3.2) hO 1 hs2 (fun _ h => h) hFr hS (fun hF1 hS1 ht1 => ID hz3 ht1 hF1 hS1) (fun H1 G hFr hO => ?_)
 refine pA (.int _ _) (pE (gn (A1 (A4 ?_))))
 refine pF Bk ?_
 refine PR Pq hO 0 1 Du (fun u4 fs4 hs4 => ?_)
 refine pM (.int _ _) (bk hk fun z5 hz5 hk => ?_)
 refine Tb (y' := z5.1) (r := iv z5.2) hO 1 hs4 (fun _ h => h) hFr hS (fun hF1 hS1 ht1 => Zs hz5 ht1 hF1 hS1) (fun H1 G hFr hO => ?_)
 refine pA (.int _ _) (pE (gn (A1 (A4 ?_))))
 refine pF EP ?_
 refine PR Pp hO 0 1 It (fun u6 fs6 hs6 => ?_)
 refine pM (.int _ _) (bk hk fun z7 hz7 hk => ?_)
 refine Tb (y' := z7.1) (r := iv z7.2) hO 1 hs6 (fun _ h => h) hFr hS (fun hF1 hS1 ht1 => Zt hz7 ht1 hF1 hS1) (fun H1 G hFr hO => ?_)
 refine pA (.int _ _) (pE (gn (A1 (A4 ?_))))
 refine pM (.int _ _) ?_
 refine pA (.int _ _) (pE (gn (Av ?_)))
 replace hk := Option.some.inj hk; subst hk; exact Pn hO 1 hFr hF
end
end Go.Proofs.YtphpkphklegfeaaGreat.K
