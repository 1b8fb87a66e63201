/-
 The functions that FnExactWhyNot reaches, as typed Lean functions, and that the interpreter computes them. Part 3 of 3. No conditions.
-/
import Derived.Test.YtphpkphklegfeaaDWnb
set_option linter.unusedVariables false
set_option linter.unusedSimpArgs false
set_option maxRecDepth 100000
namespace Go.Proofs.Ytphpkphklegfeaa.K
noncomputable section
variable {H : Heap} {lk : Lk}
def f64_k2 (x4 : Int) (x5 : List Held) : Option (((List Held) × Int) ⊕ Frame) :=
 some (.inl (x5, w64 (x4 + (1:Int))))
def f64_L6 (aF1 : Frame) (x4 : Int) (c9 : Way) : ((List Held) × Held) → Option (((List Held) × Held) ⊕ (((List Held) × Int) ⊕ Frame)) := fun s =>
 ((bif decide (s.2.Gone < (c9.Sections.length : Int)) then ((getI s.2.Been s.2.Gone).bind fun c46 => some c46) else some false).bind fun t44 => ((bif t44 then ((getI c9.Sections s.2.Gone).bind fun c49 => ((getI aF1.Occ c49).bind fun c50 => some (!c50))) else some false).bind fun t48 => ((bif t48 then ((bif (s.2.Gone == (w64 ((c9.Sections.length : Int) - (1:Int)))) then some true else ((getI s.2.Been (w64 (s.2.Gone + (1:Int)))).bind fun c55 => some c55)).bind fun t53 => some t53) else some false).bind fun t52 => (bif t52 then some (.inl (s.1.set x4.toNat ({ s.2 with Gone := w64 (s.2.Gone + (1:Int)) }), ({ s.2 with Gone := w64 (s.2.Gone + (1:Int)) } : Held))) else ((bif (s.2.Gone == (c9.Sections.length : Int)) then ((f85 c9).bind fun v58 => (f64_k2 x4 (s.1.set x4.toNat v58))) else (f64_k2 x4 s.1)).map Sum.inr)))))
def f64_L5 (aF1 : Frame) (x4 : Int) (c9 : Way) : ((List Held) × Held × Int) → Option (((List Held) × Held × Int) ⊕ (((List Held) × Int) ⊕ Frame)) := fun s =>
 (bif decide (s.2.2 < (c9.Sections.length : Int)) then ((getI c9.Sections s.2.2).bind fun c29 => ((getI s.2.1.Been s.2.2).bind fun c32 => ((bif c32 then some true else ((getI aF1.Occ c29).bind fun c35 => some c35)).bind fun t34 => ((getI s.2.1.Been s.2.2).bind fun c37 => some (.inl (s.1.set x4.toNat ({ s.2.1 with Been := s.2.1.Been.set s.2.2.toNat t34 }), ({ s.2.1 with Been := s.2.1.Been.set s.2.2.toNat t34 } : Held), w64 (s.2.2 + (1:Int)))))))) else ((loopO (f64_L6 aF1 x4 c9) (s.1, s.2.1)).map Sum.inr))
def f64_k4 (aP0 : Plan) (aF1 : Frame) (x4 : Int) (c9 : Way) (x11 : List Held) (c13 : Held) (x16 : Bool) : Option (((List Held) × Int) ⊕ Frame) :=
 (bif x16 then ((f49 aP0 ({ Ok := aF1.Ok, Occ := aF1.Occ, Points := aF1.Points, Ways := x11.set x4.toNat ({ c13 with State := (1:Int) }) } : Frame) x4).bind fun v18 => (bif v18 then (f64_k2 x4 (((x11.set x4.toNat ({ c13 with State := (1:Int) })).set x4.toNat ({ ({ c13 with State := (1:Int) } : Held) with State := (2:Int) })).set x4.toNat ({ ({ ({ c13 with State := (1:Int) } : Held) with State := (2:Int) } : Held) with Shown := true }))) else (f64_k2 x4 (x11.set x4.toNat ({ c13 with State := (1:Int) }))))) else (bif (c13.State == (4:Int)) then (loopO (f64_L5 aF1 x4 c9) (x11, c13, (0:Int))) else (f64_k2 x4 x11)))
def f64_k3 (aP0 : Plan) (aF1 : Frame) (x4 : Int) (c9 : Way) (x11 : List Held) (c13 : Held) : Option (((List Held) × Int) ⊕ Frame) :=
 (bif (c13.State == (1:Int)) then (f64_k4 aP0 aF1 x4 c9 x11 c13 (c13.State == (1:Int))) else (f64_k4 aP0 aF1 x4 c9 x11 c13 (c13.State == (2:Int))))
def f64_L1 (aP0 : Plan) (aF1 : Frame) : ((List Held) × Int) → Option (((List Held) × Int) ⊕ Frame) := fun s =>
 (bif decide (s.2 < (aF1.Ways.length : Int)) then ((getI s.1 s.2).bind fun c7 => ((getI aP0.Ways s.2).bind fun c9 => (bif (c7.State == (0:Int)) then (f64_k2 s.2 s.1) else ((bif (c7.State != (4:Int)) then ((getI c9.Sections (0:Int)).bind fun c61 => ((getI aF1.Occ c61).bind fun c62 => some c62)) else some false).bind fun t60 => (bif t60 then (f64_k3 aP0 aF1 s.2 c9 ((s.1.set s.2.toNat ({ c7 with State := (4:Int) })).set s.2.toNat ({ ({ c7 with State := (4:Int) } : Held) with Timer := (0:Int) })) ({ ({ c7 with State := (4:Int) } : Held) with Timer := (0:Int) } : Held)) else (f64_k3 aP0 aF1 s.2 c9 s.1 c7)))))) else ((some ({ Ok := aF1.Ok, Occ := aF1.Occ, Points := aF1.Points, Ways := s.1 } : Frame)).map Sum.inr))
def f64 (aP0 : Plan) (aF1 : Frame) : Option Frame :=
 (loopO (f64_L1 aP0 aF1) (aF1.Ways, (0:Int)))
theorem f64_run {aP0 : Plan} {aF1 : Frame} {r : Frame} {l1 l2 m3 l4 m5 : Nat} {q0 : Nat} {vp1 vp2 vp3 : V} {S0 Fp1 Fp2 Fp3 : List Nat} (hk : f64 aP0 aF1 = some r) (hO : Owns H H [.fblk S0 q0 (.cells 4 [.bool aF1.Ok, vp1, vp2, vp3]), Tree S0 Fp1 aF1.Occ [vp1], Tree S0 Fp2 aF1.Points [vp2], Tree S0 Fp3 aF1.Ways [vp3]]) (hS : ∀ b ∈ S0, unlocked lk b = true) (hlt : ∀ b ∈ S0, b < H.length) (hlo : LkOk lk H.length) (hlk : 0 < lk.length := by simp) : ∃ v H1, runL Try.prog hh 64 [.agg (cPlan l1 0 l2 m3 l4 m5 aP0), .ptr q0 0] H lk = some (v, H1) ∧ v = .tup [] ∧ ∃ (Fs : List Nat × List Nat × List Nat) (Hm : Heap), Sees H Hm (S0) ∧ Owns Hm H1 [.fblk S0 q0 (.cells 4 [.bool r.Ok, vp1, vp2, vp3]), Tree S0 Fs.1 r.Occ [vp1], Tree S0 Fs.2.1 r.Points [vp2], Tree S0 Fs.2.2 r.Ways [vp3]] := by
 refine run_startR Try.func64 rfl Try.ntmps64 Try.results64 rfl rfl ?_
 have hFr := Sees.refl H (S0)
 unfold f64 at hk
 have hq := (List.getElem?_eq_some_iff.1 (hO.getF (k := 0) rfl).1).1
 refine lsq (lrg (pBox (cs := [_, _, _, _, _]) hO tZ37 (fun b1 G hO => pE (gn (lsq (lrg ?_))))))
 refine pM (.ptr _ _) ?_
 refine pNil ?_
 refine pF tF42_3 ?_
 refine pLr hO 1 vp3 tA40 ?_
 refine pLenT hO 4 tS40 ?_
 refine pM (.int _ _) (pE (gn (lbl ?_)))
 refine wpL_loopO (F := f64_L1 aP0 aF1) (fun s S' => ∃ (F3 : List Nat) (J : Nat → V) (G : Heap) (H1 : Heap), Sees H H1 S0 ∧ Owns H1 G [.blk b1 (.cells 5 (cPlan l1 0 l2 m3 l4 m5 aP0)), .fblk S0 q0 (.cells 4 [.bool aF1.Ok, vp1, vp2, vp3]), Tree S0 Fp1 aF1.Occ [vp1], Tree S0 Fp2 aF1.Points [vp2], Tree S0 F3 s.1 [vp3]] ∧ S' = ⟨hav [(1, .ptr q0 0), (2, .ptr b1 0), (13, iv (aF1.Ways.length : Int)), (14, iv s.2)] J, G⟩) hk ⟨Fp3, _, _, _, hFr, hO, sh⟩ ?_
 rintro ⟨x2, x4⟩ _ y1 ⟨F3, J, G, H1, hFr, hO, rfl⟩ hk hx1
 refine lsq (lrg (pBi (pE (gn (lsq (lck hk (fun hk => ?_) (fun hk => ?_)))))))
 ·refine lsk (gn (wpL_mid (fun S' => ∃ (x5 : List Held) (F6 : List Nat) (J : Nat → V) (G : Heap) (H1 : Heap), f64_k2 x4 x5 = some y1 ∧ Sees H H1 S0 ∧ Owns H1 G [.blk b1 (.cells 5 (cPlan l1 0 l2 m3 l4 m5 aP0)), .fblk S0 q0 (.cells 4 [.bool aF1.Ok, vp1, vp2, vp3]), Tree S0 Fp1 aF1.Occ [vp1], Tree S0 Fp2 aF1.Points [vp2], Tree S0 F6 x5 [vp3]] ∧ S' = ⟨hav [(1, .ptr q0 0), (2, .ptr b1 0), (13, iv (aF1.Ways.length : Int)), (14, iv x4)] J, G⟩) ?_ ?_))
  ·refine lbl (lsq (lrg (pM (.int _ _) ?_)))
   refine pA (.int _ _) (pE (gn (lsq (lrg ?_))))
   refine pM (.ptr _ _) ?_
   refine pNil ?_
   refine pF tF42_3 ?_
   refine pLr hO 1 vp3 tA40 ?_
   refine pM (.int _ _) (bk hk fun c7 hc7 hk => ?_)
   refine pXT hO 4 hc7 tE40 tZ61 (fun b8 hb8 => ?_)
   refine pA (.ptr _ _) (pE (gn (lsq (lrg ?_))))
   refine pFL tF37_2 hO 0 (.lit _ _ _) tA35 ?_
   refine pM (.int _ _) (bk hk fun c9 hc9 hk => ?_)
   refine pX hc9 tE35 tZ89 ?_
   refine pLp (.agg [_, _, _, _, _]) (rd2 (lm := m3) (off := 0) hc9 tA89 tZ89) (pNew hO tZ89 t089 (fun b10 G hO => ?_))
   refine pSt (xs := [_, _, _, _, _]) hO 0 tZ89 hFr.1.symm (fun G hO => pE (gn (lsq (lsq (lrg ?_)))))
   refine pM (.ptr _ _) ?_
   refine pNil ?_
   refine pF tF61_0 ?_
   refine pLTv foc_Held_State (.int _ _) hO 5 hb8 hc7 tA3 ?_
   refine pBi (pE (gn (lck hk (fun hk => ?_) (fun hk => ?_))))
   ·exact lex (ge (be (gn (⟨x2, F3, _, _, _, hk, hFr, (pk hO [1, 2, 3, 4, 5]), sh⟩))))
   ·refine lsk (gn (wpL_mid (fun S' => ∃ (x11 : List Held) (c13 : Held) (F12 : List Nat) (J : Nat → V) (G : Heap) (H1 : Heap), f64_k3 aP0 aF1 x4 c9 x11 c13 = some y1 ∧ getI x11 x4 = some c13 ∧ vp3 = .sl b8 0 x11.length ∧ Sees H H1 S0 ∧ Owns H1 G [.blk b10 (.cells 5 (cWay m3 0 m3 0 m3 0 m3 0 m3 0 c9)), .blk b1 (.cells 5 (cPlan l1 0 l2 m3 l4 m5 aP0)), .fblk S0 q0 (.cells 4 [.bool aF1.Ok, vp1, vp2, vp3]), Tree S0 Fp1 aF1.Occ [vp1], Tree S0 Fp2 aF1.Points [vp2], Tree S0 F12 x11 [vp3]] ∧ S' = ⟨hav [(1, .ptr q0 0), (2, .ptr b1 0), (4, iv x4), (5, .ptr b8 (x4.toNat * 5)), (6, .ptr b10 0), (13, iv (aF1.Ways.length : Int)), (14, iv x4)] J, G⟩) ?_ ?_))
    ·refine lsq (wpL_drw [(0, false), (1, false), (2, false), (3, true), (4, false), (5, false), (6, true), (7, true), (8, true), (9, true), (10, true), (11, true), (12, true), (13, true), (14, false), (15, true), (16, false)] [_, _, _, _, _, _, _, _, _, _, _, _, _, _, _, _, _] (by decide +kernel) (by rfl) ?_)
     refine pM (.ptr _ _) ?_
     refine pNil ?_
     refine pF tF61_0 ?_
     refine pLTv foc_Held_State (.int _ _) hO 5 hb8 hc7 tA3 ?_
     refine pBi ?_
     refine pM (.bool _) (bk hk fun t60 ht hk => ?_)
     refine wpR_mid (l1 := [_, _, _, _, _, _, _, _, _, _, _]) (fun S' => ∃ J, S' = ⟨hav [(1, .ptr q0 0), (2, .ptr b1 0), (4, iv x4), (5, .ptr b8 (x4.toNat * 5)), (6, .ptr b10 0), (13, iv (aF1.Ways.length : Int)), (14, iv x4), (49, .bool t60)] J, G⟩) ?_ ?_
     ·refine bc (b := (c7.State != (4:Int))) (fun hg => ?_) (fun hg => ?_)
      ·replace hk := ct hg ht
       refine pGy hg (pM (.ptr _ _) (pGy hg ?_))
       refine pNil (pGy hg ?_)
       refine pF tF42_1 (pGy hg ?_)
       refine pLr hO 2 vp1 tA27 (pGy hg ?_)
       refine pF tF89_0 (pGy hg ?_)
       refine pLo hO 0 (.lit _ _ _) tA22 (pGy hg (bk hk fun c61 hc61 hk => ?_))
       refine pX hc61 tE22 tZ3 (pGy hg ?_)
       refine pLp (.int _ _) (rd1 (lm := 0) (off := 0) hc61 tA3) (pGy hg (bk hk fun c62 hc62 hk => ?_))
       refine pXT hO 3 hc62 tE27 tZ4 (fun b63 hb63 => pGy hg ?_)
       refine pLTv (Foc.all (α := Bool)) (.bool _) hO 3 hb63 hc62 tA4 ?_
       refine pPt hg (.bool _) ?_
       cases hk; exact pE ⟨_, sh⟩
      ·replace hk := cf hg ht
       refine pGn hg (pGn hg (pGn hg (pGn hg (pGn hg (pGn hg (pGn hg (pGn hg (pGn hg (pGn hg (pPf hg (.bool _) ?_))))))))))
       cases hk; exact pE ⟨_, sh⟩
     ·rintro _ ⟨J, rfl⟩
      refine pE (gn (lck hk (fun hk => ?_) (fun hk => ?_)))
      ·refine lrg (pM (.ptr _ _) ?_)
       refine pM (.ptr _ _) ?_
       refine pNil ?_
       refine pF tF61_0 ?_
       refine pSTr foc_Held_State (y' := (4:Int)) hO 5 hb8 hc7 tZ3 (fun _ => ⟨rfl, rfl⟩) hFr hS rfl (fun H1 G hFr hO => ?_)
       have hc_64 := getI_set hc7 ({ c7 with State := (4:Int) } : Held)
       have hv_64 := sl_set (j := x4.toNat) (y := ({ c7 with State := (4:Int) } : Held)) hb8
       refine pNil ?_
       refine pF tF61_4 ?_
       refine pSTr foc_Held_Timer (y' := (0:Int)) hO 5 hv_64 hc_64 tZ3 (fun _ => ⟨rfl, rfl⟩) hFr hS rfl (fun H1 G hFr hO => ?_)
       have hc_65 := getI_set hc_64 ({ ({ c7 with State := (4:Int) } : Held) with Timer := (0:Int) } : Held)
       have hv_65 := sl_set (j := x4.toNat) (y := ({ ({ c7 with State := (4:Int) } : Held) with Timer := (0:Int) } : Held)) hv_64
       exact pE (gn (⟨(x2.set x4.toNat ({ c7 with State := (4:Int) })).set x4.toNat ({ ({ c7 with State := (4:Int) } : Held) with Timer := (0:Int) }), ({ ({ c7 with State := (4:Int) } : Held) with Timer := (0:Int) } : Held), F3, _, _, _, hk, hc_65, hv_65, hFr, hO, sh⟩))
      ·exact lsk (gn (⟨x2, c7, F3, _, _, _, hk, hc7, hb8, hFr, hO, sh⟩))
    ·rintro _ ⟨x11, c13, F12, J, G, H1, hk, hc13, hv14, hFr, hO, rfl⟩
     refine lsq (lrg (pM (.ptr _ _) ?_))
     refine pNil ?_
     refine pF tF61_0 ?_
     refine pLTv foc_Held_State (.int _ _) hO 5 hv14 hc13 tA3 (pE (gn (lbl ?_)))
     refine wpL_mid (fun S' => ∃ (x16 : Bool) (F15 : List Nat) (J : Nat → V) (G : Heap) (H1 : Heap), f64_k4 aP0 aF1 x4 c9 x11 c13 x16 = some y1 ∧ getI x11 x4 = some c13 ∧ vp3 = .sl b8 0 x11.length ∧ Sees H H1 S0 ∧ Owns H1 G [.blk b10 (.cells 5 (cWay m3 0 m3 0 m3 0 m3 0 m3 0 c9)), .blk b1 (.cells 5 (cPlan l1 0 l2 m3 l4 m5 aP0)), .fblk S0 q0 (.cells 4 [.bool aF1.Ok, vp1, vp2, vp3]), Tree S0 Fp1 aF1.Occ [vp1], Tree S0 Fp2 aF1.Points [vp2], Tree S0 F15 x11 [vp3]] ∧ S' = ⟨hav [(1, .ptr q0 0), (2, .ptr b1 0), (4, iv x4), (5, .ptr b8 (x4.toNat * 5)), (6, .ptr b10 0), (13, iv (aF1.Ways.length : Int)), (14, iv x4), (59, iv c13.State), (60, .bool x16)] J, G⟩) ?_ ?_
     ·refine lsq (lrg (pBi ?_))
      refine pA (.bool _) (pE (gn (lck hk (fun hk => ?_) (fun hk => ?_))))
      ·exact lsk (gn (⟨(c13.State == (1:Int)), F12, _, _, _, hk, hc13, hv14, hFr, hO, sh⟩))
      ·refine lrg (pBi ?_)
       refine pA (.bool _) (pE (gn ?_))
       exact ⟨(c13.State == (2:Int)), F12, _, _, _, hk, hc13, hv14, hFr, hO, sh⟩
     ·rintro _ ⟨x16, F15, J, G, H1, hk, hc13, hv14, hFr, hO, rfl⟩
      refine lck hk (fun hk => ?_) (fun hk => ?_)
      ·refine lsq (lrg (pM (.ptr _ _) ?_))
       refine pNil ?_
       refine pF tF61_0 ?_
       refine pSTr foc_Held_State (y' := (1:Int)) hO 5 hv14 hc13 tZ3 (fun _ => ⟨rfl, rfl⟩) hFr hS rfl (fun H1 G hFr hO => ?_)
       have hc_17 := getI_set hc13 ({ c13 with State := (1:Int) } : Held)
       have hv_17 := sl_set (j := x4.toNat) (y := ({ c13 with State := (1:Int) } : Held)) hv14
       refine pE (gn (lsq (wpL_drw [(0, true), (1, true), (2, true), (3, true), (4, true), (5, false)] [_, _, _, _, _, _] (by decide +kernel) (by rfl) ?_)))
       refine pLs hO 1 [_, _, _, _, _] tA37 tZ37 ?_
       refine pM (.ptr _ _) ?_
       refine pNil ?_
       refine pLrS hO 2 tA42 tZ42 ?_
       refine pM (.int _ _) (bk hk fun v18 hv18 hk => ?_)
       obtain ⟨_, hm19⟩ := ld_tr hO (j := 5) rfl (lk.length + 1) 7
       obtain ⟨_, hm20⟩ := ld_trF hO (j := 4) rfl (lk.length + 1) 7
       obtain ⟨_, hm21⟩ := ld_trF hO (j := 3) rfl (lk.length + 1) 7
       refine pCall (vs := [(.agg [_, _, _, _, _]), (.agg [_, _, _, _]), (.int _ _)]) (caps := []) (fun _ => f49_run hv18) ?_ (h3 := (la_cons rfl (la_cons (ld_agg (ll_cons rfl (ll_cons hm21 (ll_cons hm20 (ll_cons hm19 ll_nil))))) (la_cons rfl la_nil))))
       refine pE (gn (lck hk (fun hk => ?_) (fun hk => ?_)))
       ·refine lrg (pM (.ptr _ _) ?_)
        refine pM (.ptr _ _) ?_
        refine pNil ?_
        refine pF tF61_0 ?_
        refine pSTr foc_Held_State (y' := (2:Int)) hO 5 hv_17 hc_17 tZ3 (fun _ => ⟨rfl, rfl⟩) hFr hS rfl (fun H1 G hFr hO => ?_)
        have hc_22 := getI_set hc_17 ({ ({ c13 with State := (1:Int) } : Held) with State := (2:Int) } : Held)
        have hv_22 := sl_set (j := x4.toNat) (y := ({ ({ c13 with State := (1:Int) } : Held) with State := (2:Int) } : Held)) hv_17
        refine pNil ?_
        refine pF tF61_3 ?_
        refine pSTr foc_Held_Shown (y' := true) hO 5 hv_22 hc_22 tZ4 (fun _ => ⟨rfl, rfl⟩) hFr hS rfl (fun H1 G hFr hO => ?_)
        have hc_23 := getI_set hc_22 ({ ({ ({ c13 with State := (1:Int) } : Held) with State := (2:Int) } : Held) with Shown := true } : Held)
        have hv_23 := sl_set (j := x4.toNat) (y := ({ ({ ({ c13 with State := (1:Int) } : Held) with State := (2:Int) } : Held) with Shown := true } : Held)) hv_22
        exact pE (bn (bn (gn (⟨((x11.set x4.toNat ({ c13 with State := (1:Int) })).set x4.toNat ({ ({ c13 with State := (1:Int) } : Held) with State := (2:Int) })).set x4.toNat ({ ({ ({ c13 with State := (1:Int) } : Held) with State := (2:Int) } : Held) with Shown := true }), F15, _, _, _, hk, hFr, (pk hO [1, 2, 3, 4, 5]), sh⟩))))
       ·exact lsk (bn (bn (gn (⟨x11.set x4.toNat ({ c13 with State := (1:Int) }), F15, _, _, _, hk, hFr, (pk hO [1, 2, 3, 4, 5]), sh⟩))))
      ·refine lsq (lrg (pBi ?_))
       refine pA (.bool _) (pE (gn (lck hk (fun hk => ?_) (fun hk => ?_))))
       ·refine lsq (lsq (lrg (pFL tF89_0 hO 0 (.lit _ _ _) tA22 ?_)))
        refine pLen tS22 ?_
        refine pM (.int _ _) (pE (gn (lbl ?_)))
        refine wpL_loopO (F := f64_L5 aF1 x4 c9) (fun s S' => ∃ (F25 : List Nat) (J : Nat → V) (G : Heap) (H1 : Heap), getI s.1 x4 = some s.2.1 ∧ vp3 = .sl b8 0 s.1.length ∧ Sees H H1 S0 ∧ Owns H1 G [.blk b10 (.cells 5 (cWay m3 0 m3 0 m3 0 m3 0 m3 0 c9)), .blk b1 (.cells 5 (cPlan l1 0 l2 m3 l4 m5 aP0)), .fblk S0 q0 (.cells 4 [.bool aF1.Ok, vp1, vp2, vp3]), Tree S0 Fp1 aF1.Occ [vp1], Tree S0 Fp2 aF1.Points [vp2], Tree S0 F25 s.1 [vp3]] ∧ S' = ⟨hav [(1, .ptr q0 0), (2, .ptr b1 0), (5, .ptr b8 (x4.toNat * 5)), (6, .ptr b10 0), (13, iv (aF1.Ways.length : Int)), (14, iv x4), (81, litL m3 0 c9.Sections), (82, iv (c9.Sections.length : Int)), (83, iv s.2.2)] J, G⟩) hk ⟨F15, _, _, _, hc13, hv14, hFr, hO, sh⟩ ?_
        rintro ⟨x24, c26, x28⟩ _ y2 ⟨F25, J, G, H1, hc26, hv27, hFr, hO, rfl⟩ hk hx2
        refine lsq (lrg (pBi (pE (gn (lsq (lck hk (fun hk => ?_) (fun hk => ?_)))))))
        ·refine lsk (gn (lsq (lbl (lsq (lrg (pM (.int _ _) (bk hk fun c29 hc29 hk => ?_)))))))
         refine pX hc29 tE22 tZ3 ?_
         refine pLp (.int _ _) (rd1 (lm := 0) (off := 0) hc29 tA3) ?_
         refine pA (.int _ _) ?_
         refine pA (.int _ _) (pE (gn ?_))
         refine wpL_drw [(0, true), (1, true), (2, true), (3, true), (4, true), (5, true), (6, true), (7, true), (8, true), (9, true), (10, true), (11, true), (12, true), (13, true), (14, true), (15, true), (16, true), (17, true), (18, true), (19, true), (20, true), (21, false), (22, false)] [_, _, _, _, _, _, _, _, _, _, _, _, _, _, _, _, _, _, _, _, _, _, _] (by decide +kernel) (by rfl) ?_
         refine pM (.ptr _ _) ?_
         refine pNil ?_
         refine pF tF61_2 ?_
         refine pLT foc_Held_Been hO 5 hv27 hc26 tA27 (fun u30 fs30 hs30 => ?_)
         refine pM (.int _ _) ?_
         refine pM (.ptr _ _) ?_
         refine pNil ?_
         refine pF tF61_2 ?_
         refine pLT foc_Held_Been hO 5 hv27 hc26 tA27 (fun u31 fs31 hs31 => ?_)
         refine pM (.int _ _) (bk hk fun c32 hc32 hk => ?_)
         refine pXS hs31 hc32 tE27 tZ4 (fun b33 hb33 => ?_)
         refine pLXS (.bool _) hs31 hb33 hc32 tA4 ?_
         refine pM (.bool _) (bk hk fun t34 ht hk => ?_)
         refine wpR_mid (l1 := [_, _, _, _, _, _, _, _]) (fun S' => ∃ J, S' = ⟨hav [(1, .ptr q0 0), (2, .ptr b1 0), (5, .ptr b8 (x4.toNat * 5)), (6, .ptr b10 0), (13, iv (aF1.Ways.length : Int)), (14, iv x4), (81, litL m3 0 c9.Sections), (82, iv (c9.Sections.length : Int)), (83, iv x28), (91, u30), (92, iv x28), (108, .bool t34)] J, G⟩) ?_ ?_
         ·refine bc (b := c32) (fun hg => ?_) (fun hg => ?_)
          ·replace hk := ct hg ht
           refine pGn hg (pGn hg (pGn hg (pGn hg (pGn hg (pGn hg (pGn hg (pPt hg (.bool _) ?_)))))))
           cases hk; exact pE ⟨_, sh⟩
          ·replace hk := cf hg ht
           refine pGy hg (pM (.ptr _ _) (pGy hg ?_))
           refine pNil (pGy hg ?_)
           refine pF tF42_1 (pGy hg ?_)
           refine pLr hO 2 vp1 tA27 (pGy hg ?_)
           refine pM (.int _ _) (pGy hg (bk hk fun c35 hc35 hk => ?_))
           refine pXT hO 3 hc35 tE27 tZ4 (fun b36 hb36 => pGy hg ?_)
           refine pLTv (Foc.all (α := Bool)) (.bool _) hO 3 hb36 hc35 tA4 ?_
           refine pPf hg (.bool _) ?_
           cases hk; exact pE ⟨_, sh⟩
         ·rintro _ ⟨J, rfl⟩
          refine bk hk fun c37 hc37 hk => pXS hs30 hc37 tE27 tZ4 (fun b38 hb38 => ?_)
          refine pSXr (y' := t34) hO 5 hs30 hb38 hc37 tZ4 (fun _ => ⟨rfl, rfl⟩) hFr hS rfl (fun H1 G hFr hO => ?_)
          replace hO : Owns H1 G [.blk b10 (.cells 5 (cWay m3 0 m3 0 m3 0 m3 0 m3 0 c9)), .blk b1 (.cells 5 (cPlan l1 0 l2 m3 l4 m5 aP0)), .fblk S0 q0 (.cells 4 [.bool aF1.Ok, vp1, vp2, vp3]), Tree S0 Fp1 aF1.Occ [vp1], Tree S0 Fp2 aF1.Points [vp2], Tree S0 F25 (x24.set x4.toNat ({ c26 with Been := c26.Been.set x28.toNat t34 })) [vp3]] := hO
          have hc_39 := getI_set hc26 ({ c26 with Been := c26.Been.set x28.toNat t34 } : Held)
          have hv_39 := sl_set (j := x4.toNat) (y := ({ c26 with Been := c26.Been.set x28.toNat t34 } : Held)) hv27
          refine pE (bn (gn (lrg (pBi ?_))))
          refine pM (.int _ _) (pE (gn ?_))
          cases hk; exact ⟨_, rfl, F25, _, _, _, hc_39, hv_39, hFr, hO, sh⟩
        ·refine lex (ge (ge (be (gn (have hk := lx hx2 hk; lsq (lbl (wpL_loopO (F := f64_L6 aF1 x4 c9) (fun s S' => ∃ (F41 : List Nat) (J : Nat → V) (G : Heap) (H1 : Heap), getI s.1 x4 = some s.2 ∧ vp3 = .sl b8 0 s.1.length ∧ Sees H H1 S0 ∧ Owns H1 G [.blk b10 (.cells 5 (cWay m3 0 m3 0 m3 0 m3 0 m3 0 c9)), .blk b1 (.cells 5 (cPlan l1 0 l2 m3 l4 m5 aP0)), .fblk S0 q0 (.cells 4 [.bool aF1.Ok, vp1, vp2, vp3]), Tree S0 Fp1 aF1.Occ [vp1], Tree S0 Fp2 aF1.Points [vp2], Tree S0 F41 s.1 [vp3]] ∧ S' = ⟨hav [(1, .ptr q0 0), (2, .ptr b1 0), (5, .ptr b8 (x4.toNat * 5)), (6, .ptr b10 0), (13, iv (aF1.Ways.length : Int)), (14, iv x4)] J, G⟩) hk ⟨F25, _, _, _, hc26, hv27, hFr, hO, sh⟩ ?_)))))))
         rintro ⟨x40, c42⟩ _ y2 ⟨F41, J, G, H1, hc42, hv43, hFr, hO, rfl⟩ hk hx2
         refine lsq (lsq (wpL_drw [(0, true), (1, true), (2, true), (3, true), (4, true), (5, true), (6, true), (7, false), (8, false), (9, true), (10, true), (11, true), (12, true), (13, true), (14, true), (15, true), (16, true), (17, false), (18, true), (19, false), (20, false), (21, true), (22, true), (23, true), (24, true), (25, true), (26, true), (27, true), (28, true), (29, true), (30, true), (31, true), (32, true), (33, false), (34, true), (35, false), (36, false), (37, false), (38, true), (39, true), (40, true), (41, true), (42, true), (43, true), (44, true), (45, true), (46, false), (47, false), (48, true), (49, true), (50, true), (51, true), (52, true), (53, true), (54, true), (55, true), (56, true), (57, false), (58, true), (59, false), (60, false)] [_, _, _, _, _, _, _, _, _, _, _, _, _, _, _, _, _, _, _, _, _, _, _, _, _, _, _, _, _, _, _, _, _, _, _, _, _, _, _, _, _, _, _, _, _, _, _, _, _, _, _, _, _, _, _, _, _, _, _, _, _] (by decide +kernel) (by rfl) ?_))
         refine pM (.ptr _ _) ?_
         refine pNil ?_
         refine pF tF61_1 ?_
         refine pLTv foc_Held_Gone (.int _ _) hO 5 hv43 hc42 tA3 ?_
         refine pFL tF89_0 hO 0 (.lit _ _ _) tA22 ?_
         refine pLen tS22 ?_
         refine pBi ?_
         refine pM (.bool _) (bk hk fun t44 ht hk => ?_)
         refine wpR_mid (l1 := [_, _, _, _, _, _, _, _, _, _, _]) (fun S' => ∃ J, S' = ⟨hav [(1, .ptr q0 0), (2, .ptr b1 0), (5, .ptr b8 (x4.toNat * 5)), (6, .ptr b10 0), (13, iv (aF1.Ways.length : Int)), (14, iv x4), (130, .bool t44)] J, G⟩) ?_ ?_
         ·refine bc (b := decide (c42.Gone < (c9.Sections.length : Int))) (fun hg => ?_) (fun hg => ?_)
          ·replace hk := ct hg ht
           refine pGy hg (pM (.ptr _ _) (pGy hg ?_))
           refine pNil (pGy hg ?_)
           refine pF tF61_2 (pGy hg ?_)
           refine pLT foc_Held_Been hO 5 hv43 hc42 tA27 (fun u45 fs45 hs45 => pGy hg ?_)
           refine pM (.ptr _ _) (pGy hg ?_)
           refine pNil (pGy hg ?_)
           refine pF tF61_1 (pGy hg ?_)
           refine pLTv foc_Held_Gone (.int _ _) hO 5 hv43 hc42 tA3 (pGy hg (bk hk fun c46 hc46 hk => ?_))
           refine pXS hs45 hc46 tE27 tZ4 (fun b47 hb47 => pGy hg ?_)
           refine pLXS (.bool _) hs45 hb47 hc46 tA4 ?_
           refine pPt hg (.bool _) ?_
           cases hk; exact pE ⟨_, sh⟩
          ·replace hk := cf hg ht
           refine pGn hg (pGn hg (pGn hg (pGn hg (pGn hg (pGn hg (pGn hg (pGn hg (pGn hg (pGn hg (pPf hg (.bool _) ?_))))))))))
           cases hk; exact pE ⟨_, sh⟩
         ·rintro _ ⟨J, rfl⟩
          refine pM (.bool _) (bk hk fun t48 ht hk => ?_)
          refine wpR_mid (l1 := [_, _, _, _, _, _, _, _, _, _, _, _, _, _, _, _]) (fun S' => ∃ J, S' = ⟨hav [(1, .ptr q0 0), (2, .ptr b1 0), (5, .ptr b8 (x4.toNat * 5)), (6, .ptr b10 0), (13, iv (aF1.Ways.length : Int)), (14, iv x4), (147, .bool t48)] J, G⟩) ?_ ?_
          ·refine bc (b := t44) (fun hg => ?_) (fun hg => ?_)
           ·replace hk := ct hg ht
            refine pGy hg (pM (.ptr _ _) (pGy hg ?_))
            refine pNil (pGy hg ?_)
            refine pF tF42_1 (pGy hg ?_)
            refine pLr hO 2 vp1 tA27 (pGy hg ?_)
            refine pF tF89_0 (pGy hg ?_)
            refine pLo hO 0 (.lit _ _ _) tA22 (pGy hg ?_)
            refine pM (.ptr _ _) (pGy hg ?_)
            refine pNil (pGy hg ?_)
            refine pF tF61_1 (pGy hg ?_)
            refine pLTv foc_Held_Gone (.int _ _) hO 5 hv43 hc42 tA3 (pGy hg (bk hk fun c49 hc49 hk => ?_))
            refine pX hc49 tE22 tZ3 (pGy hg ?_)
            refine pLp (.int _ _) (rd1 (lm := 0) (off := 0) hc49 tA3) (pGy hg (bk hk fun c50 hc50 hk => ?_))
            refine pXT hO 3 hc50 tE27 tZ4 (fun b51 hb51 => pGy hg ?_)
            refine pLTv (Foc.all (α := Bool)) (.bool _) hO 3 hb51 hc50 tA4 (pGy hg ?_)
            refine pU ?_
            refine pPt hg (.bool _) ?_
            cases hk; exact pE ⟨_, sh⟩
           ·replace hk := cf hg ht
            refine pGn hg (pGn hg (pGn hg (pGn hg (pGn hg (pGn hg (pGn hg (pGn hg (pGn hg (pGn hg (pGn hg (pGn hg (pGn hg (pGn hg (pGn hg (pPf hg (.bool _) ?_)))))))))))))))
            cases hk; exact pE ⟨_, sh⟩
          ·rintro _ ⟨J, rfl⟩
           refine pM (.bool _) (bk hk fun t52 ht hk => ?_)
           refine wpR_mid (l1 := [_, _, _, _, _, _, _, _, _, _, _, _, _, _, _, _, _, _, _, _, _, _, _]) (fun S' => ∃ J, S' = ⟨hav [(1, .ptr q0 0), (2, .ptr b1 0), (5, .ptr b8 (x4.toNat * 5)), (6, .ptr b10 0), (13, iv (aF1.Ways.length : Int)), (14, iv x4), (171, .bool t52)] J, G⟩) ?_ ?_
           ·refine bc (b := t48) (fun hg => ?_) (fun hg => ?_)
            ·replace hk := ct hg ht
             refine pGy hg (pM (.ptr _ _) (pGy hg ?_))
             refine pNil (pGy hg ?_)
             refine pF tF61_1 (pGy hg ?_)
             refine pLTv foc_Held_Gone (.int _ _) hO 5 hv43 hc42 tA3 (pGy hg ?_)
             refine pF tF89_0 (pGy hg ?_)
             refine pLo hO 0 (.lit _ _ _) tA22 (pGy hg ?_)
             refine pLen tS22 (pGy hg ?_)
             refine pBi (pGy hg ?_)
             refine pBi (pGy hg ?_)
             refine pM (.bool _) (bk hk fun t53 ht hk => ?_)
             refine wpR_mid (l1 := [_, _, _, _, _, _, _, _, _, _, _, _]) (fun S' => ∃ J, S' = ⟨hav [(1, .ptr q0 0), (2, .ptr b1 0), (5, .ptr b8 (x4.toNat * 5)), (6, .ptr b10 0), (13, iv (aF1.Ways.length : Int)), (14, iv x4), (148, .bool t48), (170, .bool t53)] J, G⟩) ?_ ?_
             ·refine bc (b := (c42.Gone == (w64 ((c9.Sections.length : Int) - (1:Int))))) (fun hg2 => ?_) (fun hg2 => ?_)
              ·replace hk := ct hg2 ht
               refine pGn hg2 (pGn hg2 (pGn hg2 (pGn hg2 (pGn hg2 (pGn hg2 (pGn hg2 (pGn hg2 (pGn hg2 (pGn hg2 (pGn hg2 (pGy hg (pPt hg2 (.bool _) ?_))))))))))))
               cases hk; exact pE ⟨_, sh⟩
              ·replace hk := cf hg2 ht
               refine pGy hg2 (pM (.ptr _ _) (pGy hg2 ?_))
               refine pNil (pGy hg2 ?_)
               refine pF tF61_2 (pGy hg2 ?_)
               refine pLT foc_Held_Been hO 5 hv43 hc42 tA27 (fun u54 fs54 hs54 => pGy hg2 ?_)
               refine pM (.ptr _ _) (pGy hg2 ?_)
               refine pNil (pGy hg2 ?_)
               refine pF tF61_1 (pGy hg2 ?_)
               refine pLTv foc_Held_Gone (.int _ _) hO 5 hv43 hc42 tA3 (pGy hg2 ?_)
               refine pBi (pGy hg2 (bk hk fun c55 hc55 hk => ?_))
               refine pXS hs54 hc55 tE27 tZ4 (fun b56 hb56 => pGy hg2 ?_)
               refine pLXS (.bool _) hs54 hb56 hc55 tA4 (pGy hg ?_)
               refine pPf hg2 (.bool _) ?_
               cases hk; exact pE ⟨_, sh⟩
             ·rintro _ ⟨J, rfl⟩
              refine pPt hg (.bool _) ?_
              cases hk; exact pE ⟨_, sh⟩
            ·replace hk := cf hg ht
             refine pGn hg (pGn hg (pGn hg (pGn hg (pGn hg (pGn hg (pGn hg (pGn hg (pGn hg (pGn hg (pGu (pGu (pGu (pGu (pGu (pGu (pGu (pGu (pGu (pGu (pGu (pGn hg (pPf hg (.bool _) ?_))))))))))))))))))))))
             cases hk; exact pE ⟨_, sh⟩
           ·rintro _ ⟨J, rfl⟩
            refine pE (gn (lck hk (fun hk => ?_) (fun hk => ?_)))
            ·refine lsk (gn (lbl (lrg (pM (.ptr _ _) ?_))))
             refine pNil ?_
             refine pF tF61_1 ?_
             refine pLTv foc_Held_Gone (.int _ _) hO 5 hv43 hc42 tA3 ?_
             refine pBi ?_
             refine pNil ?_
             refine pF tF61_1 ?_
             refine pSTr foc_Held_Gone (y' := (w64 (c42.Gone + (1:Int)))) hO 5 hv43 hc42 tZ3 (fun _ => ⟨rfl, rfl⟩) hFr hS rfl (fun H1 G hFr hO => ?_)
             have hc_57 := getI_set hc42 ({ c42 with Gone := w64 (c42.Gone + (1:Int)) } : Held)
             have hv_57 := sl_set (j := x4.toNat) (y := ({ c42 with Gone := w64 (c42.Gone + (1:Int)) } : Held)) hv43
             refine pE (bn (gn ?_))
             cases hk; exact ⟨_, rfl, F41, _, _, _, hc_57, hv_57, hFr, hO, sh⟩
            ·refine lex (ge (ge (be (gn (have hk := lx hx2 hk; lsq (wpL_drw [(0, true), (1, true), (2, true), (3, true), (4, true), (5, true), (6, true), (7, false)] [_, _, _, _, _, _, _, _] (by decide +kernel) (by rfl) ?_))))))
             refine pM (.ptr _ _) ?_
             refine pNil ?_
             refine pF tF61_1 ?_
             refine pLTv foc_Held_Gone (.int _ _) hO 5 hv43 hc42 tA3 ?_
             refine pFL tF89_0 hO 0 (.lit _ _ _) tA22 ?_
             refine pLen tS22 ?_
             refine pBi (pE (gn (lck hk (fun hk => ?_) (fun hk => ?_))))
             ·refine lrg (pM (.ptr _ _) ?_)
              refine pLs hO 0 [_, _, _, _, _] tA89 tZ89 (bk hk fun v58 hv58 hk => ?_)
              refine pCNs hO (fun _ => f85_run hv58) (fun u59 F59 G hO => ?_)
              refine pNil ?_
              refine pSTTr hO 5 hv43 hc42 tZ61 hFr hS rfl (fun H1 G hFr hO => pE (bn (bn (gn ?_))))
              exact ⟨x40.set x4.toNat v58, (F41 ++ F59), _, _, _, hk, hFr, (pk hO [1, 2, 3, 4, 5]), sh⟩
             ·exact lsk (bn (bn (gn (⟨x40, F41, _, _, _, hk, hFr, (pk hO [1, 2, 3, 4, 5]), sh⟩))))
       ·exact lsk (bn (bn (gn (⟨x11, F15, _, _, _, hk, hFr, (pk hO [1, 2, 3, 4, 5]), sh⟩))))
  ·rintro _ ⟨x5, F6, J, G, H1, hk, hFr, hO, rfl⟩
   refine lrg (pBi ?_)
   refine pM (.int _ _) (pE (gn ?_))
   cases hk; exact ⟨_, rfl, F6, _, _, _, hFr, hO, sh⟩
 ·refine lex (ge (ge (be (have hk := lx hx1 hk; ?_))))
  replace hk := Option.some.inj hk; subst hk; exact finG (Fp1, Fp2, F3) (pk hO [1, 2, 3, 4]) hFr (relC (relB hq) (relC relT (relC relT (relC relT relN)))) rfl rfl rfl rfl (by first | exact Or.inl rfl | exact Or.inr rfl)
def f86_L1 (aS10 : List Bool) (aS21 : List Bool) : Int → Option (Int ⊕ Bool) := fun s =>
 (bif decide (s < (aS10.length : Int)) then ((getI aS10 s).bind fun c2 => ((getI aS21 s).bind fun c3 => (bif !(c2 == c3) then ((some false).map Sum.inr) else some (.inl (w64 (s + (1:Int))))))) else ((some true).map Sum.inr))
def f86 (aS10 : List Bool) (aS21 : List Bool) : Option Bool :=
 (bif ((aS10.length : Int) != (aS21.length : Int)) then some false else (loopO (f86_L1 aS10 aS21) ((0:Int))))
theorem f86_run {aS10 : List Bool} {aS21 : List Bool} {r : Bool} {l1 l2 : Nat} (hk : f86 aS10 aS21 = some r) (hlk : 0 < lk.length := by simp) : runL Try.prog hh 86 [litL l1 0 aS10, litL l2 0 aS21] H lk = some (.bool r, H) := by
 refine run_start Try.func86 rfl Try.ntmps86 Try.results86 rfl rfl fun hO => ?_
 unfold f86 at hk
 refine lsq (lrg (pA (.bool _) (pE (gn (lsq (lsq (lrg ?_)))))))
 refine pM (.lit _ _ _) ?_
 refine pLen tS27 ?_
 refine pM (.lit _ _ _) ?_
 refine pLen tS27 ?_
 refine pBi (pE (gn (lck hk (fun hk => ?_) (fun hk => ?_))))
 ·refine lsq (lrg (pA (.bool _) (pE (gn (lrt (gr ?_))))))
  cases hk; exact fin0 hO
 ·refine lsk (gn (lsq (lsq (lrg (pM (.lit _ _ _) ?_)))))
  refine pLen tS27 ?_
  refine pM (.int _ _) (pE (gn (lbl ?_)))
  refine wpL_loopO (F := f86_L1 aS10 aS21) (fun s S' => ∃ (J : Nat → V) (G : Heap), Owns H G [] ∧ S' = ⟨hav [(0, litL l1 0 aS10), (1, litL l2 0 aS21), (12, iv (aS10.length : Int)), (13, iv s)] J, G⟩) hk ⟨_, _, hO, sh⟩ ?_
  rintro x1 _ y1 ⟨J, G, hO, rfl⟩ hk hx1
  refine lsq (lrg (pBi (pE (gn (lsq (lck hk (fun hk => ?_) (fun hk => ?_)))))))
  ·refine lsk (gn (lsq (lbl (lsq (lrg (pM (.int _ _) ?_))))))
   refine pA (.int _ _) (pE (gn (lsq ?_)))
   refine wpL_drw [(0, true), (1, true), (2, true), (3, true), (4, true), (5, true), (6, true), (7, true), (8, false)] [_, _, _, _, _, _, _, _, _] (by decide +kernel) (by rfl) ?_
   refine pM (.lit _ _ _) ?_
   refine pM (.int _ _) (bk hk fun c2 hc2 hk => ?_)
   refine pX hc2 tE27 tZ4 ?_
   refine pLp (.bool _) (rd1 (lm := 0) (off := 0) hc2 tA4) ?_
   refine pM (.lit _ _ _) ?_
   refine pM (.int _ _) (bk hk fun c3 hc3 hk => ?_)
   refine pX hc3 tE27 tZ4 ?_
   refine pLp (.bool _) (rd1 (lm := 0) (off := 0) hc3 tA4) ?_
   refine pBn Try.underlying4 (pE (gn (lck hk (fun hk => ?_) (fun hk => ?_))))
   ·refine lsq (lrg (pA (.bool _) (pE (gn (lrt (br (gr (gr (br (gr (have hk := lx hx1 hk; ?_)))))))))))
    cases hk; exact fin0 hO
   ·refine lsk (bn (gn (lrg (pBi ?_))))
    refine pM (.int _ _) (pE (gn ?_))
    cases hk; exact ⟨_, rfl, _, _, hO, sh⟩
  ·refine lex (ge (ge (be (gn (have hk := lx hx1 hk; lsq (lrg (pA (.bool _) (pE (gn (lrt ?_))))))))))
   cases hk; exact fin0 hO
def f87_L1 (aS10 : List Point) (aS21 : List Point) : Int → Option (Int ⊕ Bool) := fun s =>
 (bif decide (s < (aS10.length : Int)) then ((getI aS10 s).bind fun c2 => ((getI aS21 s).bind fun c3 => (bif !((c2.Want == c3.Want) && ((c2.Lies == c3.Lies) && true)) then ((some false).map Sum.inr) else some (.inl (w64 (s + (1:Int))))))) else ((some true).map Sum.inr))
def f87 (aS10 : List Point) (aS21 : List Point) : Option Bool :=
 (bif ((aS10.length : Int) != (aS21.length : Int)) then some false else (loopO (f87_L1 aS10 aS21) ((0:Int))))
theorem f87_run {aS10 : List Point} {aS21 : List Point} {r : Bool} {l1 l2 : Nat} (hk : f87 aS10 aS21 = some r) (hlk : 0 < lk.length := by simp) : runL Try.prog hh 87 [litL l1 0 aS10, litL l2 0 aS21] H lk = some (.bool r, H) := by
 refine run_start Try.func87 rfl Try.ntmps87 Try.results87 rfl rfl fun hO => ?_
 unfold f87 at hk
 refine lsq (lrg (pA (.bool _) (pE (gn (lsq (lsq (lrg ?_)))))))
 refine pM (.lit _ _ _) ?_
 refine pLen tS39 ?_
 refine pM (.lit _ _ _) ?_
 refine pLen tS39 ?_
 refine pBi (pE (gn (lck hk (fun hk => ?_) (fun hk => ?_))))
 ·refine lsq (lrg (pA (.bool _) (pE (gn (lrt (gr ?_))))))
  cases hk; exact fin0 hO
 ·refine lsk (gn (lsq (lsq (lrg (pM (.lit _ _ _) ?_)))))
  refine pLen tS39 ?_
  refine pM (.int _ _) (pE (gn (lbl ?_)))
  refine wpL_loopO (F := f87_L1 aS10 aS21) (fun s S' => ∃ (J : Nat → V) (G : Heap), Owns H G [] ∧ S' = ⟨hav [(0, litL l1 0 aS10), (1, litL l2 0 aS21), (12, iv (aS10.length : Int)), (13, iv s)] J, G⟩) hk ⟨_, _, hO, sh⟩ ?_
  rintro x1 _ y1 ⟨J, G, hO, rfl⟩ hk hx1
  refine lsq (lrg (pBi (pE (gn (lsq (lck hk (fun hk => ?_) (fun hk => ?_)))))))
  ·refine lsk (gn (lsq (lbl (lsq (lrg (pM (.int _ _) ?_))))))
   refine pA (.int _ _) (pE (gn (lsq ?_)))
   refine wpL_drw [(0, true), (1, true), (2, true), (3, true), (4, true), (5, true), (6, true), (7, true), (8, false)] [_, _, _, _, _, _, _, _, _] (by decide +kernel) (by rfl) ?_
   refine pM (.lit _ _ _) ?_
   refine pM (.int _ _) (bk hk fun c2 hc2 hk => ?_)
   refine pX hc2 tE39 tZ58 ?_
   refine pLp (.agg [_, _]) (rd2 (lm := 0) (off := 0) hc2 tA58 tZ58) ?_
   refine pM (.lit _ _ _) ?_
   refine pM (.int _ _) (bk hk fun c3 hc3 hk => ?_)
   refine pX hc3 tE39 tZ58 ?_
   refine pLp (.agg [_, _]) (rd2 (lm := 0) (off := 0) hc3 tA58 tZ58) ?_
   refine pGne tG58 (eqc (eqi _ _ _) (eqc (eqi _ _ _) (rfl))) (pE (gn (lck hk (fun hk => ?_) (fun hk => ?_))))
   ·refine lsq (lrg (pA (.bool _) (pE (gn (lrt (br (gr (gr (br (gr (have hk := lx hx1 hk; ?_)))))))))))
    cases hk; exact fin0 hO
   ·refine lsk (bn (gn (lrg (pBi ?_))))
    refine pM (.int _ _) (pE (gn ?_))
    cases hk; exact ⟨_, rfl, _, _, hO, sh⟩
  ·refine lex (ge (ge (be (gn (have hk := lx hx1 hk; lsq (lrg (pA (.bool _) (pE (gn (lrt ?_))))))))))
   cases hk; exact fin0 hO
def f65_L1 (aA0 : Frame) (aB1 : Frame) : Int → Option (Int ⊕ Bool) := fun s =>
 (bif decide (s < (aA0.Ways.length : Int)) then ((getI aA0.Ways s).bind fun c7 => ((getI aB1.Ways s).bind fun c9 => ((bif ((((c7.State != c9.State) || (c7.Gone != c9.Gone)) || !(c7.Shown == c9.Shown)) || (c7.Timer != c9.Timer)) then some true else ((f86 c7.Been c9.Been).bind fun v12 => some (!v12))).bind fun t11 => (bif t11 then ((some false).map Sum.inr) else some (.inl (w64 (s + (1:Int)))))))) else ((some true).map Sum.inr))
def f65 (aA0 : Frame) (aB1 : Frame) : Option Bool :=
 ((f86 aA0.Occ aB1.Occ).bind fun v3 => ((bif !v3 then some true else ((f87 aA0.Points aB1.Points).bind fun v5 => some (!v5))).bind fun t4 => (bif (t4 || ((aA0.Ways.length : Int) != (aB1.Ways.length : Int))) then some false else (loopO (f65_L1 aA0 aB1) ((0:Int))))))
theorem f65_run {aA0 : Frame} {aB1 : Frame} {r : Bool} {l1 l2 l3 m4 l5 l6 l7 m8 : Nat} (hk : f65 aA0 aB1 = some r) (hlk : 0 < lk.length := by simp) : runL Try.prog hh 65 [.agg (cFrame l1 0 l2 0 l3 m4 aA0), .agg (cFrame l5 0 l6 0 l7 m8 aB1)] H lk = some (.bool r, H) := by
 refine run_start Try.func65 rfl Try.ntmps65 Try.results65 rfl rfl fun hO => ?_
 unfold f65 at hk
 refine lsq (lrg (pBox (cs := [_, _, _, _]) hO tZ42 (fun b1 G hO => ?_)))
 refine pBox (cs := [_, _, _, _]) hO tZ42 (fun b2 G hO => ?_)
 refine pA (.bool _) (pE (gn (lsq (lsq (lrg ?_)))))
 refine pFL tF42_1 hO 1 (.lit _ _ _) tA27 ?_
 refine pFL tF42_1 hO 0 (.lit _ _ _) tA27 (bk hk fun v3 hv3 hk => ?_)
 refine pCall (fun _ => f86_run hv3) ?_
 refine pU ?_
 refine pM (.bool _) (bk hk fun t4 ht hk => ?_)
 refine wpR_mid (l1 := [_, _, _, _, _, _, _]) (fun S' => ∃ J, S' = ⟨hav [(2, .ptr b1 0), (3, .ptr b2 0), (21, .bool t4)] J, G⟩) ?_ ?_
 ·refine bc (b := !v3) (fun hg => ?_) (fun hg => ?_)
  ·replace hk := ct hg ht
   refine pGn hg (pGn hg (pGn hg (pGn hg (pGn hg (pGn hg (pPt hg (.bool _) ?_))))))
   cases hk; exact pE ⟨_, sh⟩
  ·replace hk := cf hg ht
   refine pGy hg (pF tF42_2 (pGy hg ?_))
   refine pLo hO 1 (.lit _ _ _) tA39 (pGy hg ?_)
   refine pF tF42_2 (pGy hg ?_)
   refine pLo hO 0 (.lit _ _ _) tA39 (pGy hg (bk hk fun v5 hv5 hk => ?_))
   refine pCall (fun _ => f87_run hv5) (pGy hg ?_)
   refine pU ?_
   refine pPf hg (.bool _) ?_
   cases hk; exact pE ⟨_, sh⟩
 ·rintro _ ⟨J, rfl⟩
  refine pM (.bool _) ?_
  refine wpR_mid (l1 := [_, _, _, _, _, _, _, _]) (fun S' => ∃ J, S' = ⟨hav [(2, .ptr b1 0), (3, .ptr b2 0), (30, .bool (t4 || ((aA0.Ways.length : Int) != (aB1.Ways.length : Int))))] J, G⟩) ?_ ?_
  ·refine bc (b := t4) (fun hg => ?_) (fun hg => ?_)
   ·refine pGn hg (pGn hg (pGn hg (pGn hg (pGn hg (pGn hg (pGn hg (pPt hg (.bool _) ?_)))))))
    exact pE ⟨_, St.hav _ ⟨rfl, rfl, by rw [hg]; rfl, trivial⟩⟩
   ·refine pGy hg (pF tF42_3 (pGy hg ?_))
    refine pLo hO 1 (.lit _ _ _) tA40 (pGy hg ?_)
    refine pLen tS40 (pGy hg ?_)
    refine pF tF42_3 (pGy hg ?_)
    refine pLo hO 0 (.lit _ _ _) tA40 (pGy hg ?_)
    refine pLen tS40 (pGy hg ?_)
    refine pBi ?_
    refine pPf hg (.bool _) ?_
    exact pE ⟨_, St.hav _ ⟨rfl, rfl, by rw [hg]; rfl, trivial⟩⟩
  ·rintro _ ⟨J, rfl⟩
   refine pE (gn (lck hk (fun hk => ?_) (fun hk => ?_)))
   ·refine lsq (lrg (pA (.bool _) (pE (gn (lrt (gr ?_))))))
    cases hk; exact fin0 hO
   ·refine lsk (gn (lsq (lsq (lrg (pFL tF42_3 hO 1 (.lit _ _ _) tA40 ?_)))))
    refine pLen tS40 ?_
    refine pM (.int _ _) (pE (gn (lbl ?_)))
    refine wpL_loopO (F := f65_L1 aA0 aB1) (fun s S' => ∃ (J : Nat → V) (G : Heap), Owns H G [.blk b2 (.cells 4 (cFrame l5 0 l6 0 l7 m8 aB1))] ∧ S' = ⟨hav [(3, .ptr b2 0), (32, litL l3 m4 aA0.Ways), (33, iv (aA0.Ways.length : Int)), (34, iv s)] J, G⟩) hk ⟨_, _, (pk hO [0]), sh⟩ ?_
    rintro x6 _ y1 ⟨J, G, hO, rfl⟩ hk hx1
    refine lsq (lrg (pBi (pE (gn (lsq (lck hk (fun hk => ?_) (fun hk => ?_)))))))
    ·refine lsk (gn (lsq (lbl (lsq (lrg (pM (.int _ _) (bk hk fun c7 hc7 hk => ?_)))))))
     refine pX hc7 tE40 tZ61 ?_
     refine pLp (.agg [_, _, _, _, _]) (rd2 (lm := m4) (off := 0) hc7 tA61 tZ61) (pNew hO tZ61 t061 (fun b8 G hO => ?_))
     refine pA (.int _ _) ?_
     refine pSt (xs := [_, _, _, _, _]) hO 0 tZ61 rfl (fun G hO => pE (gn (lsq (lrg ?_))))
     refine pFL tF42_3 hO 1 (.lit _ _ _) tA40 ?_
     refine pM (.int _ _) (bk hk fun c9 hc9 hk => ?_)
     refine pX hc9 tE40 tZ61 ?_
     refine pLp (.agg [_, _, _, _, _]) (rd2 (lm := m8) (off := 0) hc9 tA61 tZ61) (pNew hO tZ61 t061 (fun b10 G hO => ?_))
     refine pSt (xs := [_, _, _, _, _]) hO 0 tZ61 rfl (fun G hO => pE (gn (lsq (lrg ?_))))
     refine pFL tF61_0 hO 1 (.int _ _) tA3 ?_
     refine pFL tF61_0 hO 0 (.int _ _) tA3 ?_
     refine pBi ?_
     refine pM (.bool _) ?_
     refine wpR_mid (l1 := [_, _, _, _, _, _]) (fun S' => ∃ J, S' = ⟨hav [(3, .ptr b2 0), (6, .ptr b8 0), (7, .ptr b10 0), (32, litL l3 m4 aA0.Ways), (33, iv (aA0.Ways.length : Int)), (34, iv x6), (55, .bool ((c7.State != c9.State) || (c7.Gone != c9.Gone)))] J, G⟩) ?_ ?_
     ·refine bc (b := (c7.State != c9.State)) (fun hg => ?_) (fun hg => ?_)
      ·refine pGn hg (pGn hg (pGn hg (pGn hg (pGn hg (pPt hg (.bool _) ?_)))))
       exact pE ⟨_, St.hav _ ⟨rfl, rfl, rfl, rfl, rfl, rfl, by rw [hg]; rfl, trivial⟩⟩
      ·refine pGy hg (pF tF61_1 (pGy hg ?_))
       refine pLo hO 1 (.int _ _) tA3 (pGy hg ?_)
       refine pF tF61_1 (pGy hg ?_)
       refine pLo hO 0 (.int _ _) tA3 (pGy hg ?_)
       refine pBi ?_
       refine pPf hg (.bool _) ?_
       exact pE ⟨_, St.hav _ ⟨rfl, rfl, rfl, rfl, rfl, rfl, by rw [hg]; rfl, trivial⟩⟩
     ·rintro _ ⟨J, rfl⟩
      refine pM (.bool _) ?_
      refine wpR_mid (l1 := [_, _, _, _, _, _]) (fun S' => ∃ J, S' = ⟨hav [(3, .ptr b2 0), (6, .ptr b8 0), (7, .ptr b10 0), (32, litL l3 m4 aA0.Ways), (33, iv (aA0.Ways.length : Int)), (34, iv x6), (62, .bool (((c7.State != c9.State) || (c7.Gone != c9.Gone)) || !(c7.Shown == c9.Shown)))] J, G⟩) ?_ ?_
      ·refine bc (b := ((c7.State != c9.State) || (c7.Gone != c9.Gone))) (fun hg => ?_) (fun hg => ?_)
       ·refine pGn hg (pGn hg (pGn hg (pGn hg (pGn hg (pPt hg (.bool _) ?_)))))
        exact pE ⟨_, St.hav _ ⟨rfl, rfl, rfl, rfl, rfl, rfl, by rw [hg]; rfl, trivial⟩⟩
       ·refine pGy hg (pF tF61_3 (pGy hg ?_))
        refine pLo hO 1 (.bool _) tA4 (pGy hg ?_)
        refine pF tF61_3 (pGy hg ?_)
        refine pLo hO 0 (.bool _) tA4 (pGy hg ?_)
        refine pBn Try.underlying4 ?_
        refine pPf hg (.bool _) ?_
        exact pE ⟨_, St.hav _ ⟨rfl, rfl, rfl, rfl, rfl, rfl, by rw [hg]; rfl, trivial⟩⟩
      ·rintro _ ⟨J, rfl⟩
       refine pM (.bool _) ?_
       refine wpR_mid (l1 := [_, _, _, _, _, _]) (fun S' => ∃ J, S' = ⟨hav [(3, .ptr b2 0), (6, .ptr b8 0), (7, .ptr b10 0), (32, litL l3 m4 aA0.Ways), (33, iv (aA0.Ways.length : Int)), (34, iv x6), (69, .bool ((((c7.State != c9.State) || (c7.Gone != c9.Gone)) || !(c7.Shown == c9.Shown)) || (c7.Timer != c9.Timer)))] J, G⟩) ?_ ?_
       ·refine bc (b := (((c7.State != c9.State) || (c7.Gone != c9.Gone)) || !(c7.Shown == c9.Shown))) (fun hg => ?_) (fun hg => ?_)
        ·refine pGn hg (pGn hg (pGn hg (pGn hg (pGn hg (pPt hg (.bool _) ?_)))))
         exact pE ⟨_, St.hav _ ⟨rfl, rfl, rfl, rfl, rfl, rfl, by rw [hg]; rfl, trivial⟩⟩
        ·refine pGy hg (pF tF61_4 (pGy hg ?_))
         refine pLo hO 1 (.int _ _) tA3 (pGy hg ?_)
         refine pF tF61_4 (pGy hg ?_)
         refine pLo hO 0 (.int _ _) tA3 (pGy hg ?_)
         refine pBi ?_
         refine pPf hg (.bool _) ?_
         exact pE ⟨_, St.hav _ ⟨rfl, rfl, rfl, rfl, rfl, rfl, by rw [hg]; rfl, trivial⟩⟩
       ·rintro _ ⟨J, rfl⟩
        refine pM (.bool _) (bk hk fun t11 ht hk => ?_)
        refine wpR_mid (l1 := [_, _, _, _, _, _, _]) (fun S' => ∃ J, S' = ⟨hav [(3, .ptr b2 0), (32, litL l3 m4 aA0.Ways), (33, iv (aA0.Ways.length : Int)), (34, iv x6), (77, .bool t11)] J, G⟩) ?_ ?_
        ·refine bc (b := ((((c7.State != c9.State) || (c7.Gone != c9.Gone)) || !(c7.Shown == c9.Shown)) || (c7.Timer != c9.Timer))) (fun hg => ?_) (fun hg => ?_)
         ·replace hk := ct hg ht
          refine pGn hg (pGn hg (pGn hg (pGn hg (pGn hg (pGn hg (pPt hg (.bool _) ?_))))))
          cases hk; exact pE ⟨_, sh⟩
         ·replace hk := cf hg ht
          refine pGy hg (pF tF61_2 (pGy hg ?_))
          refine pLo hO 1 (.lit _ _ _) tA27 (pGy hg ?_)
          refine pF tF61_2 (pGy hg ?_)
          refine pLo hO 0 (.lit _ _ _) tA27 (pGy hg (bk hk fun v12 hv12 hk => ?_))
          refine pCall (fun _ => f86_run hv12) (pGy hg ?_)
          refine pU ?_
          refine pPf hg (.bool _) ?_
          cases hk; exact pE ⟨_, sh⟩
        ·rintro _ ⟨J, rfl⟩
         refine pE (gn (lck hk (fun hk => ?_) (fun hk => ?_)))
         ·refine lsq (lrg (pA (.bool _) (pE (gn (lrt (br (gr (gr (br (gr (have hk := lx hx1 hk; ?_)))))))))))
          cases hk; exact fin0 hO
         ·refine lsk (bn (gn (lrg (pBi ?_))))
          refine pM (.int _ _) (pE (gn ?_))
          cases hk; exact ⟨_, rfl, _, _, (pk hO [2]), sh⟩
    ·refine lex (ge (ge (be (gn (have hk := lx hx1 hk; lsq (lrg (pA (.bool _) (pE (gn (lrt ?_))))))))))
     cases hk; exact fin0 hO
def f40_L3 (aP0 : Plan) (aF1 : Frame) (x9 : Int) (c10 : Held) : Int → Option (Int ⊕ (Int ⊕ Bool)) := fun s =>
 (bif decide (s < x9) then ((bif (c10.State != (0:Int)) then ((getI aF1.Ways s).bind fun c16 => some (c16.State != (0:Int))) else some false).bind fun t15 => ((bif t15 then ((getI aP0.Bars x9).bind fun c18 => ((getI c18 s).bind fun c19 => some c19)) else some false).bind fun t17 => (bif t17 then (((some false).map Sum.inr).map Sum.inr) else some (.inl (w64 (s + (1:Int))))))) else ((some (.inl (w64 (x9 + (1:Int))))).map Sum.inr))
def f40_L2 (aP0 : Plan) (aF1 : Frame) : Int → Option (Int ⊕ Bool) := fun s =>
 (bif decide (s < (aF1.Ways.length : Int)) then ((getI aF1.Ways s).bind fun c10 => ((getI aP0.Ways s).bind fun c12 => ((f62 aP0 c10 c12).bind fun v13 => (bif !v13 then ((some false).map Sum.inr) else (loopO (f40_L3 aP0 aF1 s c10) ((0:Int))))))) else (((f63 aF1).bind fun v20 => ((f64 aP0 v20).bind fun z33 => ((f65 aF1 z33).bind fun v35 => some v35))).map Sum.inr))
def f40_L1 (aP0 : Plan) (aF1 : Frame) : Int → Option (Int ⊕ Bool) := fun s =>
 (bif decide (s < (aF1.Points.length : Int)) then ((getI aF1.Points s).bind fun c4 => ((f48 c4.Want (1:Int) (2:Int)).bind fun v6 => ((bif !v6 then some true else ((f48 c4.Lies (0:Int) (2:Int)).bind fun v8 => some (!v8))).bind fun t7 => (bif t7 then ((some false).map Sum.inr) else some (.inl (w64 (s + (1:Int)))))))) else ((loopO (f40_L2 aP0 aF1) ((0:Int))).map Sum.inr))
def f40 (aP0 : Plan) (aF1 : Frame) : Option Bool :=
 (bif (((!aF1.Ok || ((aF1.Occ.length : Int) != aP0.Sections)) || ((aF1.Points.length : Int) != (aP0.Switches.length : Int))) || ((aF1.Ways.length : Int) != (aP0.Ways.length : Int))) then some false else (loopO (f40_L1 aP0 aF1) ((0:Int))))
theorem f40_run {aP0 : Plan} {aF1 : Frame} {r : Bool} {l1 l2 m3 l4 m5 l6 l7 l8 : Nat} (hk : f40 aP0 aF1 = some r) (hlk : 0 < lk.length := by simp) (hlo : LkOk lk H.length := by simp [LkOk]) : runL Try.prog hh 40 [.agg (cPlan l1 0 l2 m3 l4 m5 aP0), .agg (cFrame l6 0 l7 0 l8 0 aF1)] H lk = some (.bool r, H) := by
 refine run_start Try.func40 rfl Try.ntmps40 Try.results40 rfl rfl fun hO => ?_
 unfold f40 at hk
 refine lsq (lrg (pBox (cs := [_, _, _, _, _]) hO tZ37 (fun b1 G hO => ?_)))
 refine pBox (cs := [_, _, _, _]) hO tZ42 (fun b2 G hO => ?_)
 refine pA (.bool _) (pE (gn (lsq (lsq (lrg ?_)))))
 refine pFL tF42_0 hO 0 (.bool _) tA4 ?_
 refine pU ?_
 refine pM (.bool _) ?_
 refine wpR_mid (l1 := [_, _, _, _, _, _, _]) (fun S' => ∃ J, S' = ⟨hav [(2, .ptr b1 0), (3, .ptr b2 0), (21, .bool (!aF1.Ok || ((aF1.Occ.length : Int) != aP0.Sections)))] J, G⟩) ?_ ?_
 ·refine bc (b := !aF1.Ok) (fun hg => ?_) (fun hg => ?_)
  ·refine pGn hg (pGn hg (pGn hg (pGn hg (pGn hg (pGn hg (pPt hg (.bool _) ?_))))))
   exact pE ⟨_, St.hav _ ⟨rfl, rfl, by rw [hg]; rfl, trivial⟩⟩
  ·refine pGy hg (pF tF42_1 (pGy hg ?_))
   refine pLo hO 0 (.lit _ _ _) tA27 (pGy hg ?_)
   refine pLen tS27 (pGy hg ?_)
   refine pF tF37_0 (pGy hg ?_)
   refine pLo hO 1 (.int _ _) tA3 (pGy hg ?_)
   refine pBi ?_
   refine pPf hg (.bool _) ?_
   exact pE ⟨_, St.hav _ ⟨rfl, rfl, by rw [hg]; rfl, trivial⟩⟩
 ·rintro _ ⟨J, rfl⟩
  refine pM (.bool _) ?_
  refine wpR_mid (l1 := [_, _, _, _, _, _, _, _]) (fun S' => ∃ J, S' = ⟨hav [(2, .ptr b1 0), (3, .ptr b2 0), (30, .bool ((!aF1.Ok || ((aF1.Occ.length : Int) != aP0.Sections)) || ((aF1.Points.length : Int) != (aP0.Switches.length : Int))))] J, G⟩) ?_ ?_
  ·refine bc (b := (!aF1.Ok || ((aF1.Occ.length : Int) != aP0.Sections))) (fun hg => ?_) (fun hg => ?_)
   ·refine pGn hg (pGn hg (pGn hg (pGn hg (pGn hg (pGn hg (pGn hg (pPt hg (.bool _) ?_)))))))
    exact pE ⟨_, St.hav _ ⟨rfl, rfl, by rw [hg]; rfl, trivial⟩⟩
   ·refine pGy hg (pF tF42_2 (pGy hg ?_))
    refine pLo hO 0 (.lit _ _ _) tA39 (pGy hg ?_)
    refine pLen tS39 (pGy hg ?_)
    refine pF tF37_1 (pGy hg ?_)
    refine pLo hO 1 (.lit _ _ _) tA22 (pGy hg ?_)
    refine pLen tS22 (pGy hg ?_)
    refine pBi ?_
    refine pPf hg (.bool _) ?_
    exact pE ⟨_, St.hav _ ⟨rfl, rfl, by rw [hg]; rfl, trivial⟩⟩
  ·rintro _ ⟨J, rfl⟩
   refine pM (.bool _) ?_
   refine wpR_mid (l1 := [_, _, _, _, _, _, _, _]) (fun S' => ∃ J, S' = ⟨hav [(2, .ptr b1 0), (3, .ptr b2 0), (39, .bool (((!aF1.Ok || ((aF1.Occ.length : Int) != aP0.Sections)) || ((aF1.Points.length : Int) != (aP0.Switches.length : Int))) || ((aF1.Ways.length : Int) != (aP0.Ways.length : Int))))] J, G⟩) ?_ ?_
   ·refine bc (b := ((!aF1.Ok || ((aF1.Occ.length : Int) != aP0.Sections)) || ((aF1.Points.length : Int) != (aP0.Switches.length : Int)))) (fun hg => ?_) (fun hg => ?_)
    ·refine pGn hg (pGn hg (pGn hg (pGn hg (pGn hg (pGn hg (pGn hg (pPt hg (.bool _) ?_)))))))
     exact pE ⟨_, St.hav _ ⟨rfl, rfl, by rw [hg]; rfl, trivial⟩⟩
    ·refine pGy hg (pF tF42_3 (pGy hg ?_))
     refine pLo hO 0 (.lit _ _ _) tA40 (pGy hg ?_)
     refine pLen tS40 (pGy hg ?_)
     refine pF tF37_2 (pGy hg ?_)
     refine pLo hO 1 (.lit _ _ _) tA35 (pGy hg ?_)
     refine pLen tS35 (pGy hg ?_)
     refine pBi ?_
     refine pPf hg (.bool _) ?_
     exact pE ⟨_, St.hav _ ⟨rfl, rfl, by rw [hg]; rfl, trivial⟩⟩
   ·rintro _ ⟨J, rfl⟩
    refine pE (gn (lck hk (fun hk => ?_) (fun hk => ?_)))
    ·refine lsq (lrg (pA (.bool _) (pE (gn (lrt (gr ?_))))))
     cases hk; exact fin0 hO
    ·refine lsk (gn (lsq (lsq (lrg (pFL tF42_2 hO 0 (.lit _ _ _) tA39 ?_)))))
     refine pLen tS39 ?_
     refine pM (.int _ _) (pE (gn (lbl ?_)))
     refine wpL_loopO (F := f40_L1 aP0 aF1) (fun s S' => ∃ (J : Nat → V) (G : Heap), Owns H G [.blk b2 (.cells 4 (cFrame l6 0 l7 0 l8 0 aF1)), .blk b1 (.cells 5 (cPlan l1 0 l2 m3 l4 m5 aP0))] ∧ S' = ⟨hav [(2, .ptr b1 0), (3, .ptr b2 0), (41, litL l7 0 aF1.Points), (42, iv (aF1.Points.length : Int)), (43, iv s)] J, G⟩) hk ⟨_, _, hO, sh⟩ ?_
     rintro x3 _ y1 ⟨J, G, hO, rfl⟩ hk hx1
     refine lsq (lrg (pBi (pE (gn (lsq (lck hk (fun hk => ?_) (fun hk => ?_)))))))
     ·refine lsk (gn (lsq (lbl (lsq (lrg (bk hk fun c4 hc4 hk => pX hc4 tE39 tZ58 ?_))))))
      refine pLp (.agg [_, _]) (rd2 (lm := 0) (off := 0) hc4 tA58 tZ58) (pNew hO tZ58 t058 (fun b5 G hO => ?_))
      refine pSt (xs := [_, _]) hO 0 tZ58 rfl (fun G hO => pE (gn (lsq (lrg ?_))))
      refine pFL tF58_0 hO 0 (.int _ _) tA3 (bk hk fun v6 hv6 hk => ?_)
      refine pCall (fun _ => f48_run hv6) ?_
      refine pU ?_
      refine pM (.bool _) (bk hk fun t7 ht hk => ?_)
      refine wpR_mid (l1 := [_, _, _, _, _]) (fun S' => ∃ J, S' = ⟨hav [(2, .ptr b1 0), (3, .ptr b2 0), (41, litL l7 0 aF1.Points), (42, iv (aF1.Points.length : Int)), (43, iv x3), (56, .bool t7)] J, G⟩) ?_ ?_
      ·refine bc (b := !v6) (fun hg => ?_) (fun hg => ?_)
       ·replace hk := ct hg ht
        refine pGn hg (pGn hg (pGn hg (pGn hg (pPt hg (.bool _) ?_))))
        cases hk; exact pE ⟨_, sh⟩
       ·replace hk := cf hg ht
        refine pGy hg (pF tF58_1 (pGy hg ?_))
        refine pLo hO 0 (.int _ _) tA3 (pGy hg (bk hk fun v8 hv8 hk => ?_))
        refine pCall (fun _ => f48_run hv8) (pGy hg ?_)
        refine pU ?_
        refine pPf hg (.bool _) ?_
        cases hk; exact pE ⟨_, sh⟩
      ·rintro _ ⟨J, rfl⟩
       refine pE (gn (lck hk (fun hk => ?_) (fun hk => ?_)))
       ·refine lsq (lrg (pA (.bool _) (pE (gn (lrt (br (gr (gr (br (gr (have hk := lx hx1 hk; ?_)))))))))))
        cases hk; exact fin0 hO
       ·refine lsk (bn (gn (lrg (pBi ?_))))
        refine pM (.int _ _) (pE (gn ?_))
        cases hk; exact ⟨_, rfl, _, _, (pk hO [1, 2]), sh⟩
     ·refine lex (ge (ge (be (gn (have hk := lx hx1 hk; lsq (lsq (lrg (pFL tF42_3 hO 0 (.lit _ _ _) tA40 ?_))))))))
      refine pLen tS40 ?_
      refine pM (.int _ _) (pE (gn (lbl ?_)))
      refine wpL_loopO (F := f40_L2 aP0 aF1) (fun s S' => ∃ (J : Nat → V) (G : Heap), Owns H G [.blk b2 (.cells 4 (cFrame l6 0 l7 0 l8 0 aF1)), .blk b1 (.cells 5 (cPlan l1 0 l2 m3 l4 m5 aP0))] ∧ S' = ⟨hav [(2, .ptr b1 0), (3, .ptr b2 0), (59, litL l8 0 aF1.Ways), (60, iv (aF1.Ways.length : Int)), (61, iv s)] J, G⟩) hk ⟨_, _, hO, sh⟩ ?_
      rintro x9 _ y1 ⟨J, G, hO, rfl⟩ hk hx1
      refine lsq (lrg (pBi (pE (gn (lsq (lck hk (fun hk => ?_) (fun hk => ?_)))))))
      ·refine lsk (gn (lsq (lbl (lsq (lrg (pM (.int _ _) (bk hk fun c10 hc10 hk => ?_)))))))
       refine pX hc10 tE40 tZ61 ?_
       refine pLp (.agg [_, _, _, _, _]) (rd2 (lm := 0) (off := 0) hc10 tA61 tZ61) (pNew hO tZ61 t061 (fun b11 G hO => ?_))
       refine pA (.int _ _) ?_
       refine pSt (xs := [_, _, _, _, _]) hO 0 tZ61 rfl (fun G hO => pE (gn (lsq (lsq ?_))))
       refine wpL_drw [(0, true), (1, true), (2, true), (3, true), (4, true), (5, true), (6, true), (7, false), (8, false)] [_, _, _, _, _, _, _, _, _] (by decide +kernel) (by rfl) ?_
       refine pLs hO 2 [_, _, _, _, _] tA37 tZ37 ?_
       refine pLs hO 0 [_, _, _, _, _] tA61 tZ61 ?_
       refine pFL tF37_2 hO 2 (.lit _ _ _) tA35 ?_
       refine pM (.int _ _) (bk hk fun c12 hc12 hk => ?_)
       refine pX hc12 tE35 tZ89 ?_
       refine pLp (.agg [_, _, _, _, _]) (rd2 (lm := m3) (off := 0) hc12 tA89 tZ89) (bk hk fun v13 hv13 hk => ?_)
       refine pCall (fun _ => f62_run hv13) ?_
       refine pU (pE (gn (lck hk (fun hk => ?_) (fun hk => ?_))))
       ·refine lsq (lrg (pA (.bool _) (pE (gn (lrt (gr (br (gr (gr (br (gr (have hk := lx hx1 hk; ?_))))))))))))
        cases hk; exact fin0 hO
       ·refine lsk (gn (lsq (lrg (pM (.int _ _) ?_))))
        refine pM (.int _ _) (pE (gn (lbl ?_)))
        refine wpL_loopO (F := f40_L3 aP0 aF1 x9 c10) (fun s S' => ∃ (J : Nat → V) (G : Heap), Owns H G [.blk b11 (.cells 5 [iv c10.State, iv c10.Gone, litL 0 0 c10.Been, .bool c10.Shown, iv c10.Timer]), .blk b2 (.cells 4 (cFrame l6 0 l7 0 l8 0 aF1)), .blk b1 (.cells 5 (cPlan l1 0 l2 m3 l4 m5 aP0))] ∧ S' = ⟨hav [(2, .ptr b1 0), (3, .ptr b2 0), (7, iv x9), (8, .ptr b11 0), (59, litL l8 0 aF1.Ways), (60, iv (aF1.Ways.length : Int)), (61, iv x9), (75, iv x9), (76, iv s)] J, G⟩) hk ⟨_, _, hO, sh⟩ ?_
        rintro x14 _ y2 ⟨J, G, hO, rfl⟩ hk hx2
        refine lsq (lrg (pBi (pE (gn (lsq (lck hk (fun hk => ?_) (fun hk => ?_)))))))
        ·refine lsk (gn (lsq (lbl (lsq (lrg (pM (.int _ _) ?_))))))
         refine pA (.int _ _) (pE (gn (lsq (lrg ?_))))
         refine pFL tF61_0 hO 0 (.int _ _) tA3 ?_
         refine pBi ?_
         refine pM (.bool _) (bk hk fun t15 ht hk => ?_)
         refine wpR_mid (l1 := [_, _, _, _, _, _, _, _]) (fun S' => ∃ J, S' = ⟨hav [(2, .ptr b1 0), (3, .ptr b2 0), (7, iv x9), (8, .ptr b11 0), (9, iv x14), (59, litL l8 0 aF1.Ways), (60, iv (aF1.Ways.length : Int)), (61, iv x9), (75, iv x9), (76, iv x14), (90, .bool t15)] J, G⟩) ?_ ?_
         ·refine bc (b := (c10.State != (0:Int))) (fun hg => ?_) (fun hg => ?_)
          ·replace hk := ct hg ht
           refine pGy hg (pF tF42_3 (pGy hg ?_))
           refine pLo hO 1 (.lit _ _ _) tA40 (pGy hg ?_)
           refine pM (.int _ _) (pGy hg (bk hk fun c16 hc16 hk => ?_))
           refine pX hc16 tE40 tZ61 (pGy hg ?_)
           refine pF tF61_0 (pGy hg ?_)
           refine pLp (.int _ _) (rd1 (lm := 0) (off := 0) hc16 tA3) (pGy hg ?_)
           refine pBi ?_
           refine pPt hg (.bool _) ?_
           cases hk; exact pE ⟨_, sh⟩
          ·replace hk := cf hg ht
           refine pGn hg (pGn hg (pGn hg (pGn hg (pGn hg (pGn hg (pGn hg (pPf hg (.bool _) ?_)))))))
           cases hk; exact pE ⟨_, sh⟩
         ·rintro _ ⟨J, rfl⟩
          refine pM (.bool _) (bk hk fun t17 ht hk => ?_)
          refine wpR_mid (l1 := [_, _, _, _, _, _, _, _, _]) (fun S' => ∃ J, S' = ⟨hav [(2, .ptr b1 0), (3, .ptr b2 0), (7, iv x9), (8, .ptr b11 0), (59, litL l8 0 aF1.Ways), (60, iv (aF1.Ways.length : Int)), (61, iv x9), (75, iv x9), (76, iv x14), (100, .bool t17)] J, G⟩) ?_ ?_
          ·refine bc (b := t15) (fun hg => ?_) (fun hg => ?_)
           ·replace hk := ct hg ht
            refine pGy hg (pF tF37_3 (pGy hg ?_))
            refine pLo hO 2 (.lit _ _ _) tA24 (pGy hg ?_)
            refine pM (.int _ _) (pGy hg (bk hk fun c18 hc18 hk => ?_))
            refine pX hc18 tE24 tZ27 (pGy hg ?_)
            refine pLp (.lit _ _ _) (rd1 (lm := m5) (off := 0) hc18 tA27) (pGy hg ?_)
            refine pM (.int _ _) (pGy hg (bk hk fun c19 hc19 hk => ?_))
            refine pX hc19 tE27 tZ4 (pGy hg ?_)
            refine pLp (.bool _) (rd1 (lm := 0) (off := 0) hc19 tA4) ?_
            refine pPt hg (.bool _) ?_
            cases hk; exact pE ⟨_, sh⟩
           ·replace hk := cf hg ht
            refine pGn hg (pGn hg (pGn hg (pGn hg (pGn hg (pGn hg (pGn hg (pGn hg (pPf hg (.bool _) ?_))))))))
            cases hk; exact pE ⟨_, sh⟩
          ·rintro _ ⟨J, rfl⟩
           refine pE (gn (lck hk (fun hk => ?_) (fun hk => ?_)))
           ·refine lsq (lrg (pA (.bool _) (pE (gn (lrt (br (gr (gr (br (br (gr (gr (br (gr (have hk := lx hx2 hk; have hk := lx hx1 hk; ?_)))))))))))))))
            cases hk; exact fin0 hO
           ·refine lsk (bn (gn (lrg (pBi ?_))))
            refine pM (.int _ _) (pE (gn ?_))
            cases hk; exact ⟨_, rfl, _, _, hO, sh⟩
        ·refine lex (ge (ge (be (bn (gn (have hk := lx hx2 hk; lrg (pBi ?_)))))))
         refine pM (.int _ _) (pE (gn ?_))
         cases hk; exact ⟨_, rfl, _, _, (pk hO [1, 2]), sh⟩
      ·refine lex (ge (ge (be (gn (have hk := lx hx1 hk; lsq (lrg (pLs hO 0 [_, _, _, _] tA42 tZ42 (bk hk fun v20 hv20 hk => ?_))))))))
       refine pCNs hO (fun _ => f63_run hv20) (fun u21 F21 G hO => ?_)
       replace hO : Owns H G (Tree [] _ ((v20.Ok, v20.Occ, v20.Points, v20.Ways) : Bool × (List Bool) × (List Point) × (List Held)) _ :: [.blk b2 (.cells 4 (cFrame l6 0 l7 0 l8 0 aF1)), .blk b1 (.cells 5 (cPlan l1 0 l2 m3 l4 m5 aP0))]) := hO
       obtain ⟨cs22, Fb22, he, hP⟩ := Owns.splitS hO
       clear hO; subst he; have hO := hP; clear hP
       obtain ⟨u23, cs23, F23, Fb23, he, hP⟩ := Owns.splitL hO
       clear hO; subst he; have hO := hP; clear hP
       obtain ⟨u25, cs25, F25, Fb25, he, hP⟩ := Owns.splitL hO
       clear hO; subst he; have hO := hP; clear hP
       obtain ⟨u27, rfl⟩ := Owns.lastL hO
       refine pNew hO tZ42 t042 (fun b29 G hO => ?_)
       have hc30 := tl_cells hO (j := 3) rfl
       have hc31 := tl_cells hO (j := 2) rfl
       have hc32 := tl_cells hO (j := 1) rfl
       refine pSt (xs := [_, _, _, _]) hO 0 tZ42 rfl (fun G hO => ?_) (h6 := (all_c rfl (all_c hc30.2 (all_c hc31.2 (all_c hc32.2 all_n)))))
       refine pE (gn (lsq (lrg (pLs hO 5 [_, _, _, _, _] tA37 tZ37 ?_))))
       replace hO := (Owns.pick hO [0, 3, 2, 1, 4, 5] (by decide) rfl : Owns H G ([.blk b29 (.cells 4 [.bool v20.Ok, u23, u25, u27]), Tree [] F23 v20.Occ [u23], Tree [] F25 v20.Points [u25], Tree [] Fb25 v20.Ways [u27]] ++ [.blk b2 (.cells 4 (cFrame l6 0 l7 0 l8 0 aF1)), .blk b1 (.cells 5 (cPlan l1 0 l2 m3 l4 m5 aP0))]))
       refine bk hk fun z33 hz33 hk => pCGd (rs0 := [.blk b29 (.cells 4 [.bool v20.Ok, u23, u25, u27]), Tree [] F23 v20.Occ [u23], Tree [] F25 v20.Points [u25], Tree [] Fb25 v20.Ways [u27]]) (rs1 := fun (Fs34 : List Nat × List Nat × List Nat) => [.blk b29 (.cells 4 [.bool z33.Ok, u23, u25, u27]), Tree [] Fs34.1 z33.Occ [u23], Tree [] Fs34.2.1 z33.Points [u25], Tree [] Fs34.2.2 z33.Ways [u27]]) (rest := [.blk b2 (.cells 4 (cFrame l6 0 l7 0 l8 0 aF1)), .blk b1 (.cells 5 (cPlan l1 0 l2 m3 l4 m5 aP0))]) (S := (b29 :: (F23 ++ (F25 ++ (Fb25 ++ []))))) hO hlo rfl (nums_S rfl) (nums_S' rfl) (Owns.lo hO) (fun _ hl1 hlt1 hun1 ho1 => f64_run hz33 ho1 hun1 hlt1 hl1) (fun _ => (inC rfl (inC rfl (inC rfl (inC rfl inN))))) (fun Fs34 G hO => pE (gn (lsq (lrg ?_))))
       refine pLs hO 4 [_, _, _, _] tA42 tZ42 ?_
       refine pLs hO 0 [_, _, _, _] tA42 tZ42 (bk hk fun v35 hv35 hk => ?_)
       obtain ⟨_, hm36⟩ := ld_tr hO (j := 3) rfl (lk.length + 1) 7
       obtain ⟨_, hm37⟩ := ld_trF hO (j := 2) rfl (lk.length + 1) 7
       obtain ⟨_, hm38⟩ := ld_trF hO (j := 1) rfl (lk.length + 1) 7
       refine pCall (vs := [(.agg [_, _, _, _]), (.agg [_, _, _, _])]) (caps := []) (fun _ => f65_run hv35) ?_ (h3 := (la_cons rfl (la_cons (ld_agg (ll_cons rfl (ll_cons hm38 (ll_cons hm37 (ll_cons hm36 ll_nil))))) la_nil)))
       refine pA (.bool _) (pE (gn (lrt ?_)))
       cases hk; exact fin0 hO
def f12 (aP0 : Plan) (aF1 : Frame) : Option Bool :=
 ((f39 aP0).bind fun v3 => ((bif v3 then ((f40 aP0 aF1).bind fun v5 => some v5) else some false).bind fun t4 => some t4))
theorem f12_run {aP0 : Plan} {aF1 : Frame} {r : Bool} {l1 l2 m3 l4 m5 l6 l7 l8 : Nat} (hk : f12 aP0 aF1 = some r) (hlk : 0 < lk.length := by simp) (hlo : LkOk lk H.length := by simp [LkOk]) : runL Try.prog hh 12 [.agg (cPlan l1 0 l2 m3 l4 m5 aP0), .agg (cFrame l6 0 l7 0 l8 0 aF1)] H lk = some (.bool r, H) := by
 refine run_start Try.func12 rfl Try.ntmps12 Try.results12 rfl rfl fun hO => ?_
 unfold f12 at hk
 refine lsq (lrg (pBox (cs := [_, _, _, _, _]) hO tZ37 (fun b1 G hO => ?_)))
 refine pBox (cs := [_, _, _, _]) hO tZ42 (fun b2 G hO => ?_)
 refine pA (.bool _) (pE (gn (lsq (lrg ?_))))
 refine pLs hO 1 [_, _, _, _, _] tA37 tZ37 (bk hk fun v3 hv3 hk => ?_)
 refine pCall (fun _ => f39_run hv3) ?_
 refine pM (.bool _) (bk hk fun t4 ht hk => ?_)
 refine wpR_mid (l1 := [_, _, _, _]) (fun S' => ∃ J, S' = ⟨hav [(11, .bool t4)] J, G⟩) ?_ ?_
 ·refine bc (b := v3) (fun hg => ?_) (fun hg => ?_)
  ·replace hk := ct hg ht
   refine pGy hg (pLs hO 1 [_, _, _, _, _] tA37 tZ37 (pGy hg ?_))
   refine pLs hO 0 [_, _, _, _] tA42 tZ42 (pGy hg (bk hk fun v5 hv5 hk => ?_))
   refine pCallL hO hlo rfl (fun _ hl => f40_run hv5 (hlo := hl)) ?_
   refine pPt hg (.bool _) ?_
   cases hk; exact pE ⟨_, sh⟩
  ·replace hk := cf hg ht
   refine pGn hg (pGn hg (pGn hg (pPf hg (.bool _) ?_)))
   cases hk; exact pE ⟨_, sh⟩
 ·rintro _ ⟨J, rfl⟩
  refine pA (.bool _) (pE (gn (lrt ?_)))
  cases hk; exact fin0 hO
def f105 (aT0 : Turn) (aA1 : Int) : Option Bool :=
 some (aT0.Switch == aA1)
theorem f105_run {aT0 : Turn} {aA1 : Int} {r : Bool} {q0 : Nat} (hk : f105 aT0 aA1 = some r) (hq0 : H[q0]? = some (.cells 1 [iv aA1])) (hlk : 0 < lk.length := by simp) : runL Try.prog hh 105 [.agg [iv aT0.Switch, iv aT0.Lie], .ptr q0 0] H lk = some (.bool r, H) := by
 refine run_start Try.func105 rfl Try.ntmps105 Try.results105 rfl rfl fun hO => ?_
 unfold f105 at hk
 refine lsq (lrg (pBox (cs := [_, _]) hO tZ102 (fun b1 G hO => ?_)))
 refine pA (.bool _) (pE (gn (lsq (lrg ?_))))
 refine pFL tF102_0 hO 0 (.int _ _) tA3 ?_
 refine pLf (.int _ _) hO hq0 tA3 ?_
 refine pBi ?_
 refine pA (.bool _) (pE (gn (lrt ?_)))
 cases hk; exact fin0 hO
def f107c105_L1 (aS0 : List Turn) (aC1_0 : Int) : Int → Option (Int ⊕ Int) := fun s =>
 (bif decide (s < (aS0.length : Int)) then ((getI aS0 s).bind fun c2 => ((f105 c2 aC1_0).bind fun v3 => (bif v3 then ((some s).map Sum.inr) else some (.inl (w64 (s + (1:Int))))))) else ((some (-1:Int)).map Sum.inr))
def f107c105 (aS0 : List Turn) (aC1_0 : Int) : Option Int :=
 (loopO (f107c105_L1 aS0 aC1_0) ((0:Int)))
theorem f107c105_run {aS0 : List Turn} {aC1_0 : Int} {r : Int} {l1 : Nat} {q0 : Nat} (hk : f107c105 aS0 aC1_0 = some r) (hq0 : H[q0]? = some (.cells 1 [iv aC1_0])) (hlk : 0 < lk.length := by simp) : runL Try.prog hh 107 [litL l1 0 aS0, .fn 105 [.ptr q0 0]] H lk = some (iv r, H) := by
 refine run_start Try.func107 rfl Try.ntmps107 Try.results107 rfl rfl fun hO => ?_
 unfold f107c105 at hk
 refine lsq (lrg (pA (.int _ _) (pE (gn (lsq (lsq (lrg ?_)))))))
 refine pM (.lit _ _ _) ?_
 refine pLen tS87 ?_
 refine pM (.int _ _) (pE (gn (lbl ?_)))
 refine wpL_loopO (F := f107c105_L1 aS0 aC1_0) (fun s S' => ∃ (J : Nat → V) (G : Heap), Owns H G [] ∧ S' = ⟨hav [(0, litL l1 0 aS0), (1, .fn 105 [.ptr q0 0]), (7, iv (aS0.length : Int)), (8, iv s)] J, G⟩) hk ⟨_, _, hO, sh⟩ ?_
 rintro x1 _ y1 ⟨J, G, hO, rfl⟩ hk hx1
 refine lsq (lrg (pBi (pE (gn (lsq (lck hk (fun hk => ?_) (fun hk => ?_)))))))
 ·refine lsk (gn (lsq (lbl (lsq (lrg (pM (.int _ _) ?_))))))
  refine pA (.int _ _) (pE (gn (lsq (lrg ?_))))
  refine pM (.fn _ _) ?_
  refine pM (.lit _ _ _) ?_
  refine pM (.int _ _) (bk hk fun c2 hc2 hk => ?_)
  refine pX hc2 tE87 tZ102 ?_
  refine pLp (.agg [_, _]) (rd2 (lm := 0) (off := 0) hc2 tA102 tZ102) (bk hk fun v3 hv3 hk => ?_)
  refine pCall (fun _ => f105_run hv3 (own_for hO hq0)) (pE (gn (lck hk (fun hk => ?_) (fun hk => ?_))))
  ·refine lsq (lrg (pM (.int _ _) ?_))
   refine pA (.int _ _) (pE (gn (lrt (br (gr (gr (br (gr (have hk := lx hx1 hk; ?_)))))))))
   cases hk; exact fin0 hO
  ·refine lsk (bn (gn (lrg (pBi ?_))))
   refine pM (.int _ _) (pE (gn ?_))
   cases hk; exact ⟨_, rfl, _, _, hO, sh⟩
 ·refine lex (ge (ge (be (gn (have hk := lx hx1 hk; lsq (lrg (pA (.int _ _) (pE (gn (lrt ?_))))))))))
  cases hk; exact fin0 hO
def f104c105 (aS0 : List Turn) (aC1_0 : Int) : Option Bool :=
 ((f107c105 aS0 aC1_0).bind fun v1 => some (decide (v1 ≥ (0:Int))))
theorem f104c105_run {aS0 : List Turn} {aC1_0 : Int} {r : Bool} {l1 : Nat} {q0 : Nat} (hk : f104c105 aS0 aC1_0 = some r) (hq0 : H[q0]? = some (.cells 1 [iv aC1_0])) (hlk : 0 < lk.length := by simp) : runL Try.prog hh 104 [litL l1 0 aS0, .fn 105 [.ptr q0 0]] H lk = some (.bool r, H) := by
 refine run_start Try.func104 rfl Try.ntmps104 Try.results104 rfl rfl fun hO => ?_
 unfold f104c105 at hk
 refine lsq (lrg (pA (.bool _) (pE (gn (lsq (lrg ?_))))))
 refine pM (.lit _ _ _) ?_
 refine pM (.fn _ _) (bk hk fun v1 hv1 hk => ?_)
 refine pCall (fun _ => f107c105_run hv1 (own_for hO hq0)) ?_
 refine pBi ?_
 refine pA (.bool _) (pE (gn (lrt ?_)))
 cases hk; exact fin0 hO
def f106 (aT0 : Turn) (aA1 : Int) : Option Bool :=
 some (aT0.Switch == aA1)
theorem f106_run {aT0 : Turn} {aA1 : Int} {r : Bool} {q0 : Nat} (hk : f106 aT0 aA1 = some r) (hq0 : H[q0]? = some (.cells 1 [iv aA1])) (hlk : 0 < lk.length := by simp) : runL Try.prog hh 106 [.agg [iv aT0.Switch, iv aT0.Lie], .ptr q0 0] H lk = some (.bool r, H) := by
 refine run_start Try.func106 rfl Try.ntmps106 Try.results106 rfl rfl fun hO => ?_
 unfold f106 at hk
 refine lsq (lrg (pBox (cs := [_, _]) hO tZ102 (fun b1 G hO => ?_)))
 refine pA (.bool _) (pE (gn (lsq (lrg ?_))))
 refine pFL tF102_0 hO 0 (.int _ _) tA3 ?_
 refine pLf (.int _ _) hO hq0 tA3 ?_
 refine pBi ?_
 refine pA (.bool _) (pE (gn (lrt ?_)))
 cases hk; exact fin0 hO
def f107c106_L1 (aS0 : List Turn) (aC1_0 : Int) : Int → Option (Int ⊕ Int) := fun s =>
 (bif decide (s < (aS0.length : Int)) then ((getI aS0 s).bind fun c2 => ((f106 c2 aC1_0).bind fun v3 => (bif v3 then ((some s).map Sum.inr) else some (.inl (w64 (s + (1:Int))))))) else ((some (-1:Int)).map Sum.inr))
def f107c106 (aS0 : List Turn) (aC1_0 : Int) : Option Int :=
 (loopO (f107c106_L1 aS0 aC1_0) ((0:Int)))
theorem f107c106_run {aS0 : List Turn} {aC1_0 : Int} {r : Int} {l1 : Nat} {q0 : Nat} (hk : f107c106 aS0 aC1_0 = some r) (hq0 : H[q0]? = some (.cells 1 [iv aC1_0])) (hlk : 0 < lk.length := by simp) : runL Try.prog hh 107 [litL l1 0 aS0, .fn 106 [.ptr q0 0]] H lk = some (iv r, H) := by
 refine run_start Try.func107 rfl Try.ntmps107 Try.results107 rfl rfl fun hO => ?_
 unfold f107c106 at hk
 refine lsq (lrg (pA (.int _ _) (pE (gn (lsq (lsq (lrg ?_)))))))
 refine pM (.lit _ _ _) ?_
 refine pLen tS87 ?_
 refine pM (.int _ _) (pE (gn (lbl ?_)))
 refine wpL_loopO (F := f107c106_L1 aS0 aC1_0) (fun s S' => ∃ (J : Nat → V) (G : Heap), Owns H G [] ∧ S' = ⟨hav [(0, litL l1 0 aS0), (1, .fn 106 [.ptr q0 0]), (7, iv (aS0.length : Int)), (8, iv s)] J, G⟩) hk ⟨_, _, hO, sh⟩ ?_
 rintro x1 _ y1 ⟨J, G, hO, rfl⟩ hk hx1
 refine lsq (lrg (pBi (pE (gn (lsq (lck hk (fun hk => ?_) (fun hk => ?_)))))))
 ·refine lsk (gn (lsq (lbl (lsq (lrg (pM (.int _ _) ?_))))))
  refine pA (.int _ _) (pE (gn (lsq (lrg ?_))))
  refine pM (.fn _ _) ?_
  refine pM (.lit _ _ _) ?_
  refine pM (.int _ _) (bk hk fun c2 hc2 hk => ?_)
  refine pX hc2 tE87 tZ102 ?_
  refine pLp (.agg [_, _]) (rd2 (lm := 0) (off := 0) hc2 tA102 tZ102) (bk hk fun v3 hv3 hk => ?_)
  refine pCall (fun _ => f106_run hv3 (own_for hO hq0)) (pE (gn (lck hk (fun hk => ?_) (fun hk => ?_))))
  ·refine lsq (lrg (pM (.int _ _) ?_))
   refine pA (.int _ _) (pE (gn (lrt (br (gr (gr (br (gr (have hk := lx hx1 hk; ?_)))))))))
   cases hk; exact fin0 hO
  ·refine lsk (bn (gn (lrg (pBi ?_))))
   refine pM (.int _ _) (pE (gn ?_))
   cases hk; exact ⟨_, rfl, _, _, hO, sh⟩
 ·refine lex (ge (ge (be (gn (have hk := lx hx1 hk; lsq (lrg (pA (.int _ _) (pE (gn (lrt ?_))))))))))
  cases hk; exact fin0 hO
def f104c106 (aS0 : List Turn) (aC1_0 : Int) : Option Bool :=
 ((f107c106 aS0 aC1_0).bind fun v1 => some (decide (v1 ≥ (0:Int))))
theorem f104c106_run {aS0 : List Turn} {aC1_0 : Int} {r : Bool} {l1 : Nat} {q0 : Nat} (hk : f104c106 aS0 aC1_0 = some r) (hq0 : H[q0]? = some (.cells 1 [iv aC1_0])) (hlk : 0 < lk.length := by simp) : runL Try.prog hh 104 [litL l1 0 aS0, .fn 106 [.ptr q0 0]] H lk = some (.bool r, H) := by
 refine run_start Try.func104 rfl Try.ntmps104 Try.results104 rfl rfl fun hO => ?_
 unfold f104c106 at hk
 refine lsq (lrg (pA (.bool _) (pE (gn (lsq (lrg ?_))))))
 refine pM (.lit _ _ _) ?_
 refine pM (.fn _ _) (bk hk fun v1 hv1 hk => ?_)
 refine pCall (fun _ => f107c106_run hv1 (own_for hO hq0)) ?_
 refine pBi ?_
 refine pA (.bool _) (pE (gn (lrt ?_)))
 cases hk; exact fin0 hO
def f94_k2 (x6 : Int) (x7 : List Int) : Option (((List Int) × Int) ⊕ (List Int)) :=
 some (.inl (x7, w64 (x6 + (1:Int))))
def f94_k3 (x6 : Int) (x14 : List Int) (x16 : Bool) : Option (((List Int) × Int) ⊕ (List Int)) :=
 (bif x16 then ((appB 8 x14 ([x6] : List Int)).bind fun z17 => (f94_k2 x6 z17)) else (f94_k2 x6 x14))
def f94_L1 (aP0 : Plan) (aF1 : Frame) (aPoint2 : Int) : ((List Int) × Int) → Option (((List Int) × Int) ⊕ (List Int)) := fun s =>
 (bif decide (s.2 < (aF1.Ways.length : Int)) then ((getI aF1.Ways s.2).bind fun c9 => (bif (c9.State == (0:Int)) then (f94_k2 s.2 s.1) else ((getI aP0.Ways s.2).bind fun c11 => ((f104c105 c11.Flanks aPoint2).bind fun v13 => ((f104c106 c11.Lies aPoint2).bind fun v18 => (bif v18 then ((bif v13 then some true else ((getI aP0.Switches aPoint2).bind fun c20 => ((f71 c11.Sections c20).bind fun v21 => some (decide (v21 ≥ c9.Gone))))).bind fun t19 => (f94_k3 s.2 s.1 t19)) else (f94_k3 s.2 s.1 v13))))))) else ((some s.1).map Sum.inr))
def f94 (aP0 : Plan) (aF1 : Frame) (aPoint2 : Int) : Option (List Int) :=
 (loopO (f94_L1 aP0 aF1 aPoint2) (([] : List Int), (0:Int)))
theorem f94_run {aP0 : Plan} {aF1 : Frame} {aPoint2 : Int} {r : (List Int)} {l1 l2 m3 l4 m5 l6 l7 l8 m9 : Nat} (hk : f94 aP0 aF1 aPoint2 = some r) (hlk : 0 < lk.length := by simp) : runL Try.prog hh 94 [.agg (cPlan l1 0 l2 m3 l4 m5 aP0), .agg (cFrame l6 0 l7 0 l8 m9 aF1), iv aPoint2] H lk = some (litL 0 0 r, H) := by
 refine run_start Try.func94 rfl Try.ntmps94 Try.results94 rfl rfl fun hO => ?_
 unfold f94 at hk
 refine lsq (lrg (pBox (cs := [_, _, _, _, _]) hO tZ37 (fun b1 G hO => ?_)))
 refine pBox (cs := [_, _, _, _]) hO tZ42 (fun b2 G hO => ?_)
 refine pBox (cs := [_]) hO tZ3 (fun b3 G hO => ?_)
 refine pA (.tl 0 []) (pE (gn (lsq (lrg ?_))))
 refine pA (.tl 0 []) (pE (gn (lsq (lsq (lrg ?_)))))
 refine pFL tF42_3 hO 1 (.lit _ _ _) tA40 ?_
 refine pLen tS40 ?_
 refine pM (.int _ _) (pE (gn (lbl ?_)))
 refine wpL_loopO (F := f94_L1 aP0 aF1 aPoint2) (fun s S' => ∃ (o4 : V) (J : Nat → V) (G : Heap), Owns H G [.blk b3 (.cells 1 [iv aPoint2]), .blk b1 (.cells 5 (cPlan l1 0 l2 m3 l4 m5 aP0)), .own o4 lk.length 1 s.1.length (flatL 0 s.1)] ∧ S' = ⟨hav [(3, .ptr b1 0), (5, .ptr b3 0), (7, o4), (13, litL l8 m9 aF1.Ways), (14, iv (aF1.Ways.length : Int)), (15, iv s.2)] J, G⟩) hk ⟨(.tl 0 []), _, _, (Owns.pick (Owns.addTl hO lk.length ([] : List Int)) [1, 3, 0] (by decide) rfl), sh⟩ ?_
 rintro ⟨x4, x6⟩ _ y1 ⟨o4, J, G, hO, rfl⟩ hk hx1
 refine lsq (lrg (pBi (pE (gn (lsq (lck hk (fun hk => ?_) (fun hk => ?_)))))))
 ·refine lsk (gn (wpL_mid (fun S' => ∃ (x7 : List Int) (o7 : V) (J : Nat → V) (G : Heap), f94_k2 x6 x7 = some y1 ∧ Owns H G [.blk b3 (.cells 1 [iv aPoint2]), .blk b1 (.cells 5 (cPlan l1 0 l2 m3 l4 m5 aP0)), .own o7 lk.length 1 x7.length (flatL 0 x7)] ∧ S' = ⟨hav [(3, .ptr b1 0), (5, .ptr b3 0), (7, o7), (13, litL l8 m9 aF1.Ways), (14, iv (aF1.Ways.length : Int)), (15, iv x6)] J, G⟩) ?_ ?_))
  ·refine lbl (lsq (lrg (pM (.int _ _) (bk hk fun c9 hc9 hk => ?_))))
   refine pX hc9 tE40 tZ61 ?_
   refine pLp (.agg [_, _, _, _, _]) (rd2 (lm := m9) (off := 0) hc9 tA61 tZ61) (pNew hO tZ61 t061 (fun b10 G hO => ?_))
   refine pA (.int _ _) ?_
   refine pSt (xs := [_, _, _, _, _]) hO 0 tZ61 rfl (fun G hO => pE (gn (lsq (lsq (lrg ?_)))))
   refine pFL tF61_0 hO 0 (.int _ _) tA3 ?_
   refine pBi (pE (gn (lck hk (fun hk => ?_) (fun hk => ?_))))
   ·exact lex (ge (be (gn (⟨x4, o4, _, _, hk, (pk hO [1, 2, 3]), sh⟩))))
   ·refine lsk (gn (lsq (lrg (pFL tF37_2 hO 2 (.lit _ _ _) tA35 ?_))))
    refine pM (.int _ _) (bk hk fun c11 hc11 hk => ?_)
    refine pX hc11 tE35 tZ89 ?_
    refine pLp (.agg [_, _, _, _, _]) (rd2 (lm := m3) (off := 0) hc11 tA89 tZ89) (pNew hO tZ89 t089 (fun b12 G hO => ?_))
    refine pSt (xs := [_, _, _, _, _]) hO 0 tZ89 rfl (fun G hO => pE (gn (lsq (lrg ?_))))
    refine pFL tF89_2 hO 0 (.lit _ _ _) tA87 ?_
    refine pFn (vs := [_]) (bk hk fun v13 hv13 hk => ?_)
    refine pCall (fun _ => f104c105_run hv13 (hO.get (k := 2) rfl).1) ?_
    refine pA (.bool _) (pE (gn ?_))
    refine wpL_mid (fun S' => ∃ (x14 : List Int) (x16 : Bool) (o14 : V) (J : Nat → V) (G : Heap), f94_k3 x6 x14 x16 = some y1 ∧ Owns H G [.blk b3 (.cells 1 [iv aPoint2]), .blk b1 (.cells 5 (cPlan l1 0 l2 m3 l4 m5 aP0)), .own o14 lk.length 1 x14.length (flatL 0 x14)] ∧ S' = ⟨hav [(3, .ptr b1 0), (5, .ptr b3 0), (7, o14), (8, iv x6), (11, .bool x16), (13, litL l8 m9 aF1.Ways), (14, iv (aF1.Ways.length : Int)), (15, iv x6)] J, G⟩) ?_ ?_
    ·refine lsq (lrg (pFL tF89_1 hO 0 (.lit _ _ _) tA87 ?_))
     refine pFn (vs := [_]) (bk hk fun v18 hv18 hk => ?_)
     refine pCall (fun _ => f104c106_run hv18 (hO.get (k := 2) rfl).1) (pE (gn (lck hk (fun hk => ?_) (fun hk => ?_))))
     ·refine wpL_drw [(0, false), (1, false), (2, true), (3, true), (4, true), (5, true), (6, true), (7, true), (8, true), (10, true), (11, true), (9, true), (12, false), (13, false), (14, false)] [_, _, _, _, _, _, _, _, _, _, _, _, _, _, _] (by decide +kernel) (by rfl) ?_
      refine pM (.bool _) ?_
      refine pM (.bool _) (bk hk fun t19 ht hk => ?_)
      refine wpR_mid (l1 := [_, _, _, _, _, _, _, _, _, _, _, _]) (fun S' => ∃ J, S' = ⟨hav [(3, .ptr b1 0), (5, .ptr b3 0), (7, o4), (8, iv x6), (13, litL l8 m9 aF1.Ways), (14, iv (aF1.Ways.length : Int)), (15, iv x6), (49, .bool t19)] J, G⟩) ?_ ?_
      ·refine bc (b := v13) (fun hg => ?_) (fun hg => ?_)
       ·replace hk := ct hg ht
        refine pGn hg (pGn hg (pGn hg (pGn hg (pGn hg (pGn hg (pGn hg (pGn hg (pGn hg (pGn hg (pGn hg (pPt hg (.bool _) ?_)))))))))))
        cases hk; exact pE ⟨_, sh⟩
       ·replace hk := cf hg ht
        refine pGy hg (pF tF89_0 (pGy hg ?_))
        refine pLo hO 0 (.lit _ _ _) tA22 (pGy hg ?_)
        refine pF tF37_1 (pGy hg ?_)
        refine pLo hO 3 (.lit _ _ _) tA22 (pGy hg ?_)
        refine pLo hO 2 (.int _ _) tA3 (pGy hg (bk hk fun c20 hc20 hk => ?_))
        refine pX hc20 tE22 tZ3 (pGy hg ?_)
        refine pLp (.int _ _) (rd1 (lm := 0) (off := 0) hc20 tA3) (pGy hg ?_)
        refine pF tF61_1 (pGy hg ?_)
        refine pLo hO 1 (.int _ _) tA3 (pGy hg (bk hk fun v21 hv21 hk => ?_))
        refine pCall (fun _ => f71_run hv21) (pGy hg ?_)
        refine pBi ?_
        refine pPf hg (.bool _) ?_
        cases hk; exact pE ⟨_, sh⟩
      ·rintro _ ⟨J, rfl⟩
       refine pA (.bool _) (pE (gn ?_))
       exact ⟨x4, t19, o4, _, _, hk, (pk hO [2, 3, 4]), sh⟩
     ·exact lsk (gn (⟨x4, v13, o4, _, _, hk, (pk hO [2, 3, 4]), sh⟩))
    ·rintro _ ⟨x14, x16, o14, J, G, hk, hO, rfl⟩
     refine lsq (lrg (pM (.bool _) (pE (gn (lck hk (fun hk => ?_) (fun hk => ?_))))))
     ·refine lrg (pM o14 ?_)
      refine pM (.int _ _) ?_
      refine pBs (ps := [(0, (.int _ _))]) ([x6] : List Int) tE22 tZ3 t03 (emb_cons (embx_int _ _) (emb_nil)) (bk hk fun z17 hz17 hk => ?_)
      refine pAp (xs := x14) hO 2 hz17 (bears_tl ([x6] : List Int)) tE22 tZ3 tB3 t03 tE22 rfl (fun o17 G hno17 hO => ?_)
      refine pA o17 (pE (bn (gn ?_)))
      exact ⟨z17, o17, _, _, hk, hO, sh⟩
     ·exact lsk (bn (gn (⟨x14, o14, _, _, hk, hO, sh⟩)))
  ·rintro _ ⟨x7, o7, J, G, hk, hO, rfl⟩
   refine lrg (pBi ?_)
   refine pM (.int _ _) (pE (gn ?_))
   cases hk; exact ⟨_, rfl, o7, _, _, hO, sh⟩
 ·refine lex (ge (ge (be (gn (have hk := lx hx1 hk; lsq (lrg (pM o4 ?_)))))))
  refine pA o4 (pE (gn (lrt ?_)))
  replace hk := Option.some.inj hk; subst hk; exact finZ hO (fz_own (xs := x4) hlk 2) (resT o4 resN)
def f73_k2 (x9 : Int) (x10 : List Int) : Option (((List Int) × Int) ⊕ (Stays × (List Int) × (List Int))) :=
 some (.inl (x10, w64 (x9 + (1:Int))))
def f73_k4 (x29 : Int) (x30 : List Int) (x32 : List Int) : Option (((List Int) × (List Int) × Int) ⊕ (Stays × (List Int) × (List Int))) :=
 some (.inl (x30, x32, w64 (x29 + (1:Int))))
def f73_k7 (x63 : Int) (x64 : List Int) (x66 : List Int) (x68 : List Int) (x70 : List Int) (x72 : List Int) : Option (((List Int) × (List Int) × (List Int) × (List Int) × (List Int) × Int) ⊕ (((List Int) × (List Int) × (List Int) × (List Int) × (List Int) × Int) ⊕ (Stays × (List Int) × (List Int)))) :=
 some (.inl (x64, x66, x68, x70, x72, w64 (x63 + (1:Int))))
def f73_k9 (x51 : Int) (x63 : Int) (v78 : (List Int)) (c80 : Bool) (x91 : List Int) (x93 : List Int) (x95 : List Int) (x97 : List Int) (x99 : List Int) : Option (((List Int) × (List Int) × (List Int) × (List Int) × (List Int) × Int) ⊕ (((List Int) × (List Int) × (List Int) × (List Int) × (List Int) × Int) ⊕ (Stays × (List Int) × (List Int)))) :=
 (bif (decide ((v78.length : Int) > (0:Int)) || c80) then ((appB 8 x95 ([x51] : List Int)).bind fun z101 => (f73_k7 x63 x91 x93 z101 x97 x99)) else (f73_k7 x63 x91 x93 x95 x97 x99))
def f73_k8 (x51 : Int) (x63 : Int) (v78 : (List Int)) (c80 : Bool) (x81 : List Int) (x83 : List Int) (x85 : List Int) (x87 : List Int) (x89 : List Int) : Option (((List Int) × (List Int) × (List Int) × (List Int) × (List Int) × Int) ⊕ (((List Int) × (List Int) × (List Int) × (List Int) × (List Int) × Int) ⊕ (Stays × (List Int) × (List Int)))) :=
 (bif c80 then ((appB 8 x89 ([x51] : List Int)).bind fun z103 => (f73_k9 x51 x63 v78 c80 x81 x83 x85 x87 z103)) else (f73_k9 x51 x63 v78 c80 x81 x83 x85 x87 x89))
def f73_L6 (aP0 : Plan) (aF1 : Frame) (x51 : Int) (v52 : (List Turn)) : ((List Int) × (List Int) × (List Int) × (List Int) × (List Int) × Int) → Option (((List Int) × (List Int) × (List Int) × (List Int) × (List Int) × Int) ⊕ (((List Int) × (List Int) × (List Int) × (List Int) × (List Int) × Int) ⊕ (Stays × (List Int) × (List Int)))) := fun s =>
 (bif decide (s.2.2.2.2.2 < (v52.length : Int)) then ((getI v52 s.2.2.2.2.2).bind fun c74 => ((bif (c74.Switch != x51) then some true else ((getI aF1.Points x51).bind fun c77 => some (c77.Want == c74.Lie))).bind fun t76 => (bif t76 then (f73_k7 s.2.2.2.2.2 s.1 s.2.1 s.2.2.1 s.2.2.2.1 s.2.2.2.2.1) else ((f94 aP0 aF1 x51).bind fun v78 => ((getI aP0.Switches x51).bind fun c79 => ((getI aF1.Occ c79).bind fun c80 => (bif decide ((v78.length : Int) > (0:Int)) then ((appB 8 s.2.2.2.1 ([x51] : List Int)).bind fun z104 => (f73_k8 x51 s.2.2.2.2.2 v78 c80 s.1 s.2.1 s.2.2.1 z104 s.2.2.2.2.1)) else (f73_k8 x51 s.2.2.2.2.2 v78 c80 s.1 s.2.1 s.2.2.1 s.2.2.2.1 s.2.2.2.2.1)))))))) else ((some (.inl (s.1, s.2.1, s.2.2.1, s.2.2.2.1, s.2.2.2.2.1, w64 (x51 + (1:Int))))).map Sum.inr))
def f73_L5 (aP0 : Plan) (aF1 : Frame) (c4 : Way) : ((List Int) × (List Int) × (List Int) × (List Int) × (List Int) × Int) → Option (((List Int) × (List Int) × (List Int) × (List Int) × (List Int) × Int) ⊕ (Stays × (List Int) × (List Int))) := fun s =>
 (bif decide (s.2.2.2.2.2 < (aP0.Switches.length : Int)) then ((f69 c4).bind fun v52 => (loopO (f73_L6 aP0 aF1 s.2.2.2.2.2 v52) (s.1, s.2.1, s.2.2.1, s.2.2.2.1, s.2.2.2.2.1, (0:Int)))) else ((some (({ Ways := s.1, Sections := s.2.1, Points := s.2.2.1 } : Stays), s.2.2.2.1, s.2.2.2.2.1)).map Sum.inr))
def f73_L3 (aP0 : Plan) (aF1 : Frame) (c4 : Way) : ((List Int) × (List Int) × Int) → Option (((List Int) × (List Int) × Int) ⊕ (Stays × (List Int) × (List Int))) := fun s =>
 (bif decide (s.2.2 < aP0.Sections) then ((getI aF1.Occ s.2.2).bind fun c34 => ((bif c34 then ((f93 c4.Sections s.2.2).bind fun v36 => ((bif v36 then some true else ((f93 c4.Over s.2.2).bind fun v38 => some v38)).bind fun t37 => some t37)) else some false).bind fun t35 => (bif t35 then ((appB 8 s.2.1 ([s.2.2] : List Int)).bind fun z39 => (f73_k4 s.2.2 s.1 z39)) else (f73_k4 s.2.2 s.1 s.2.1)))) else ((loopO (f73_L5 aP0 aF1 c4) (s.1, s.2.1, ([] : List Int), ([] : List Int), ([] : List Int), (0:Int))).map Sum.inr))
def f73_L1 (aP0 : Plan) (aF1 : Frame) (aWay2 : Int) (c4 : Way) : ((List Int) × Int) → Option (((List Int) × Int) ⊕ (Stays × (List Int) × (List Int))) := fun s =>
 (bif decide (s.2 < (aF1.Ways.length : Int)) then ((getI aF1.Ways s.2).bind fun c12 => ((bif ((s.2 != aWay2) && (c12.State != (0:Int))) then ((getI aP0.Bars aWay2).bind fun c15 => ((getI c15 s.2).bind fun c16 => ((bif c16 then some true else ((getI aP0.Ways s.2).bind fun c18 => ((f80 c4.Sections c18.Over).bind fun v19 => some v19))).bind fun t17 => ((bif t17 then some true else ((getI aP0.Ways s.2).bind fun c21 => ((f80 c4.Over c21.Sections).bind fun v22 => some v22))).bind fun t20 => some t20)))) else some false).bind fun t14 => (bif t14 then ((appB 8 s.1 ([s.2] : List Int)).bind fun z23 => (f73_k2 s.2 z23)) else (f73_k2 s.2 s.1)))) else ((loopO (f73_L3 aP0 aF1 c4) (s.1, ([] : List Int), (0:Int))).map Sum.inr))
def f73 (aP0 : Plan) (aF1 : Frame) (aWay2 : Int) : Option (Stays × (List Int) × (List Int)) :=
 ((getI aP0.Ways aWay2).bind fun c4 => (loopO (f73_L1 aP0 aF1 aWay2 c4) (([] : List Int), (0:Int))))
theorem f73_run {aP0 : Plan} {aF1 : Frame} {aWay2 : Int} {r : (Stays × (List Int) × (List Int))} {l1 l2 m3 l4 m5 l6 l7 l8 m9 : Nat} (hk : f73 aP0 aF1 aWay2 = some r) (hlk : 0 < lk.length := by simp) : runL Try.prog hh 73 [.agg (cPlan l1 0 l2 m3 l4 m5 aP0), .agg (cFrame l6 0 l7 0 l8 m9 aF1), iv aWay2] H lk = some (.tup [.agg [litL 0 0 r.1.Ways, litL 0 0 r.1.Sections, litL 0 0 r.1.Points], litL 0 0 r.2.1, litL 0 0 r.2.2], H) := by
 refine run_start Try.func73 rfl Try.ntmps73 Try.results73 rfl rfl fun hO => ?_
 unfold f73 at hk
 refine lsq (lrg (pBox (cs := [_, _, _, _, _]) hO tZ37 (fun b1 G hO => ?_)))
 refine pBox (cs := [_, _, _, _]) hO tZ42 (fun b2 G hO => pNew hO tZ107 t0107 (fun b3 G hO => ?_))
 refine pA (.tl 0 []) ?_
 refine pA (.tl 0 []) (pE (gn (lsq (lrg ?_))))
 refine pFL tF37_2 hO 2 (.lit _ _ _) tA35 ?_
 refine pM (.int _ _) (bk hk fun c4 hc4 hk => ?_)
 refine pX hc4 tE35 tZ89 ?_
 refine pLp (.agg [_, _, _, _, _]) (rd2 (lm := m3) (off := 0) hc4 tA89 tZ89) (pNew hO tZ89 t089 (fun b5 G hO => ?_))
 refine pSt (xs := [_, _, _, _, _]) hO 0 tZ89 rfl (fun G hO => pE (gn (lsq (lrg (pNew hO tZ107 t0107 (fun b6 G hO => pE (gn (lsq (lsq (lrg ?_))))))))))
 refine pFL tF42_3 hO 3 (.lit _ _ _) tA40 ?_
 refine pLen tS40 ?_
 refine pM (.int _ _) (pE (gn (lbl ?_)))
 refine wpL_loopO (F := f73_L1 aP0 aF1 aWay2 c4) (fun s S' => ∃ (o7 : V) (J : Nat → V) (G : Heap), Owns H G [.own o7 lk.length 1 s.1.length (flatL 0 s.1), .blk b6 (.cells 3 [o7, (.tl 0 []), (.tl 0 [])]), .blk b5 (.cells 5 (cWay m3 0 m3 0 m3 0 m3 0 m3 0 c4)), .blk b3 (.cells 3 [(.tl 0 []), (.tl 0 []), (.tl 0 [])]), .blk b2 (.cells 4 (cFrame l6 0 l7 0 l8 m9 aF1)), .blk b1 (.cells 5 (cPlan l1 0 l2 m3 l4 m5 aP0))] ∧ S' = ⟨hav [(2, iv aWay2), (3, .ptr b1 0), (4, .ptr b2 0), (6, .ptr b3 0), (9, .ptr b5 0), (10, .ptr b6 0), (27, litL l8 m9 aF1.Ways), (28, iv (aF1.Ways.length : Int)), (29, iv s.2)] J, G⟩) hk ⟨(.tl 0 []), _, _, (Owns.addTl hO lk.length ([] : List Int)), sh⟩ ?_
 rintro ⟨x7, x9⟩ _ y1 ⟨o7, J, G, hO, rfl⟩ hk hx1
 refine lsq (lrg (pBi (pE (gn (lsq (lck hk (fun hk => ?_) (fun hk => ?_)))))))
 ·refine lsk (gn (wpL_mid (fun S' => ∃ (x10 : List Int) (o10 : V) (J : Nat → V) (G : Heap), f73_k2 x9 x10 = some y1 ∧ Owns H G [.own o10 lk.length 1 x10.length (flatL 0 x10), .blk b6 (.cells 3 [o10, (.tl 0 []), (.tl 0 [])]), .blk b5 (.cells 5 (cWay m3 0 m3 0 m3 0 m3 0 m3 0 c4)), .blk b3 (.cells 3 [(.tl 0 []), (.tl 0 []), (.tl 0 [])]), .blk b2 (.cells 4 (cFrame l6 0 l7 0 l8 m9 aF1)), .blk b1 (.cells 5 (cPlan l1 0 l2 m3 l4 m5 aP0))] ∧ S' = ⟨hav [(2, iv aWay2), (3, .ptr b1 0), (4, .ptr b2 0), (6, .ptr b3 0), (9, .ptr b5 0), (10, .ptr b6 0), (27, litL l8 m9 aF1.Ways), (28, iv (aF1.Ways.length : Int)), (29, iv x9)] J, G⟩) ?_ ?_))
  ·refine lbl (lsq (lrg (pM (.int _ _) (bk hk fun c12 hc12 hk => ?_))))
   refine pX hc12 tE40 tZ61 ?_
   refine pLp (.agg [_, _, _, _, _]) (rd2 (lm := m9) (off := 0) hc12 tA61 tZ61) (pNew hO tZ61 t061 (fun b13 G hO => ?_))
   refine pA (.int _ _) ?_
   refine pSt (xs := [_, _, _, _, _]) hO 0 tZ61 rfl (fun G hO => pE (gn (lsq ?_)))
   refine wpL_drw [(0, false), (1, false), (2, false), (3, false), (4, false), (5, true), (6, false), (7, false), (8, false), (9, false), (10, true), (11, true), (12, false), (13, true), (14, true), (15, false), (16, true), (17, false), (18, true), (19, true), (20, true), (21, true), (22, true), (23, true), (24, true), (25, true), (26, false), (27, false), (28, false), (29, true), (30, true), (31, true), (32, true), (33, true), (34, true), (35, true), (36, true), (37, false), (38, false), (39, false)] [_, _, _, _, _, _, _, _, _, _, _, _, _, _, _, _, _, _, _, _, _, _, _, _, _, _, _, _, _, _, _, _, _, _, _, _, _, _, _, _] (by decide +kernel) (by rfl) ?_
   refine pM (.int _ _) ?_
   refine pM (.int _ _) ?_
   refine pBi ?_
   refine pM (.bool _) ?_
   refine wpR_mid (l1 := [_, _, _, _]) (fun S' => ∃ J, S' = ⟨hav [(2, iv aWay2), (3, .ptr b1 0), (4, .ptr b2 0), (6, .ptr b3 0), (9, .ptr b5 0), (10, .ptr b6 0), (11, iv x9), (27, litL l8 m9 aF1.Ways), (28, iv (aF1.Ways.length : Int)), (29, iv x9), (41, .bool ((x9 != aWay2) && (c12.State != (0:Int))))] J, G⟩) ?_ ?_
   ·refine bc (b := (x9 != aWay2)) (fun hg => ?_) (fun hg => ?_)
    ·refine pGy hg (pF tF61_0 (pGy hg ?_))
     refine pLo hO 0 (.int _ _) tA3 (pGy hg ?_)
     refine pBi ?_
     refine pPt hg (.bool _) ?_
     exact pE ⟨_, St.hav _ ⟨rfl, rfl, rfl, rfl, rfl, rfl, rfl, rfl, rfl, rfl, by rw [hg]; rfl, trivial⟩⟩
    ·refine pGn hg (pGn hg (pGn hg (pPf hg (.bool _) ?_)))
     exact pE ⟨_, St.hav _ ⟨rfl, rfl, rfl, rfl, rfl, rfl, rfl, rfl, rfl, rfl, by rw [hg]; rfl, trivial⟩⟩
   ·rintro _ ⟨J, rfl⟩
    refine pM (.bool _) (bk hk fun t14 ht hk => ?_)
    refine wpR_mid (l1 := [_, _, _, _, _, _, _, _, _, _, _, _, _, _, _, _, _, _, _, _, _, _, _, _, _, _, _, _, _, _, _]) (fun S' => ∃ J, S' = ⟨hav [(2, iv aWay2), (3, .ptr b1 0), (4, .ptr b2 0), (6, .ptr b3 0), (9, .ptr b5 0), (10, .ptr b6 0), (11, iv x9), (27, litL l8 m9 aF1.Ways), (28, iv (aF1.Ways.length : Int)), (29, iv x9), (73, .bool t14)] J, G⟩) ?_ ?_
    ·refine bc (b := ((x9 != aWay2) && (c12.State != (0:Int)))) (fun hg => ?_) (fun hg => ?_)
     ·replace hk := ct hg ht
      refine pGy hg (pF tF37_3 (pGy hg ?_))
      refine pLo hO 6 (.lit _ _ _) tA24 (pGy hg ?_)
      refine pM (.int _ _) (pGy hg (bk hk fun c15 hc15 hk => ?_))
      refine pX hc15 tE24 tZ27 (pGy hg ?_)
      refine pLp (.lit _ _ _) (rd1 (lm := m5) (off := 0) hc15 tA27) (pGy hg ?_)
      refine pM (.int _ _) (pGy hg (bk hk fun c16 hc16 hk => ?_))
      refine pX hc16 tE27 tZ4 (pGy hg ?_)
      refine pLp (.bool _) (rd1 (lm := 0) (off := 0) hc16 tA4) (pGy hg ?_)
      refine pM (.bool _) (bk hk fun t17 ht hk => ?_)
      refine wpR_mid (l1 := [_, _, _, _, _, _, _, _, _, _]) (fun S' => ∃ J, S' = ⟨hav [(2, iv aWay2), (3, .ptr b1 0), (4, .ptr b2 0), (6, .ptr b3 0), (9, .ptr b5 0), (10, .ptr b6 0), (11, iv x9), (27, litL l8 m9 aF1.Ways), (28, iv (aF1.Ways.length : Int)), (29, iv x9), (42, .bool ((x9 != aWay2) && (c12.State != (0:Int)))), (61, .bool t17)] J, G⟩) ?_ ?_
      ·refine bc (b := c16) (fun hg2 => ?_) (fun hg2 => ?_)
       ·replace hk := ct hg2 ht
        refine pGn hg2 (pGn hg2 (pGn hg2 (pGn hg2 (pGn hg2 (pGn hg2 (pGn hg2 (pGn hg2 (pGn hg2 (pGy hg (pPt hg2 (.bool _) ?_))))))))))
        cases hk; exact pE ⟨_, sh⟩
       ·replace hk := cf hg2 ht
        refine pGy hg2 (pF tF89_0 (pGy hg2 ?_))
        refine pLo hO 3 (.lit _ _ _) tA22 (pGy hg2 ?_)
        refine pF tF37_2 (pGy hg2 ?_)
        refine pLo hO 6 (.lit _ _ _) tA35 (pGy hg2 ?_)
        refine pM (.int _ _) (pGy hg2 (bk hk fun c18 hc18 hk => ?_))
        refine pX hc18 tE35 tZ89 (pGy hg2 ?_)
        refine pF tF89_3 (pGy hg2 ?_)
        refine pLp (.lit _ _ _) (rd1 (lm := m3) (off := 3) hc18 tA22) (pGy hg2 (bk hk fun v19 hv19 hk => ?_))
        refine pCall (fun _ => f80_run hv19) (pGy hg ?_)
        refine pPf hg2 (.bool _) ?_
        cases hk; exact pE ⟨_, sh⟩
      ·rintro _ ⟨J, rfl⟩
       refine pGy hg (pM (.bool _) (bk hk fun t20 ht hk => ?_))
       refine wpR_mid (l1 := [_, _, _, _, _, _, _, _, _, _]) (fun S' => ∃ J, S' = ⟨hav [(2, iv aWay2), (3, .ptr b1 0), (4, .ptr b2 0), (6, .ptr b3 0), (9, .ptr b5 0), (10, .ptr b6 0), (11, iv x9), (27, litL l8 m9 aF1.Ways), (28, iv (aF1.Ways.length : Int)), (29, iv x9), (42, .bool ((x9 != aWay2) && (c12.State != (0:Int)))), (72, .bool t20)] J, G⟩) ?_ ?_
       ·refine bc (b := t17) (fun hg2 => ?_) (fun hg2 => ?_)
        ·replace hk := ct hg2 ht
         refine pGn hg2 (pGn hg2 (pGn hg2 (pGn hg2 (pGn hg2 (pGn hg2 (pGn hg2 (pGn hg2 (pGn hg2 (pGy hg (pPt hg2 (.bool _) ?_))))))))))
         cases hk; exact pE ⟨_, sh⟩
        ·replace hk := cf hg2 ht
         refine pGy hg2 (pF tF89_3 (pGy hg2 ?_))
         refine pLo hO 3 (.lit _ _ _) tA22 (pGy hg2 ?_)
         refine pF tF37_2 (pGy hg2 ?_)
         refine pLo hO 6 (.lit _ _ _) tA35 (pGy hg2 ?_)
         refine pM (.int _ _) (pGy hg2 (bk hk fun c21 hc21 hk => ?_))
         refine pX hc21 tE35 tZ89 (pGy hg2 ?_)
         refine pF tF89_0 (pGy hg2 ?_)
         refine pLp (.lit _ _ _) (rd1 (lm := m3) (off := 0) hc21 tA22) (pGy hg2 (bk hk fun v22 hv22 hk => ?_))
         refine pCall (fun _ => f80_run hv22) (pGy hg ?_)
         refine pPf hg2 (.bool _) ?_
         cases hk; exact pE ⟨_, sh⟩
       ·rintro _ ⟨J, rfl⟩
        refine pPt hg (.bool _) ?_
        cases hk; exact pE ⟨_, sh⟩
     ·replace hk := cf hg ht
      refine pGn hg (pGn hg (pGn hg (pGn hg (pGn hg (pGn hg (pGn hg (pGn hg (pGn hg (pGu (pGu (pGu (pGu (pGu (pGu (pGu (pGu (pGu (pGn hg (pGn hg (pGu (pGu (pGu (pGu (pGu (pGu (pGu (pGu (pGu (pGn hg (pPf hg (.bool _) ?_))))))))))))))))))))))))))))))
      cases hk; exact pE ⟨_, sh⟩
    ·rintro _ ⟨J, rfl⟩
     refine pE (gn (lck hk (fun hk => ?_) (fun hk => ?_)))
     ·refine lrg (pFL tF107_0 hO 2 o7 tA22 ?_)
      refine pM (.int _ _) ?_
      refine pBs (ps := [(0, (.int _ _))]) ([x9] : List Int) tE22 tZ3 t03 (emb_cons (embx_int _ _) (emb_nil)) (bk hk fun z23 hz23 hk => ?_)
      refine pAp (xs := x7) hO 1 hz23 (bears_tl ([x9] : List Int)) tE22 tZ3 tB3 t03 tE22 rfl (fun o23 G hno23 hO => ?_)
      refine pF tF107_0 ?_
      have hc24 := own_cells hO (j := 1) rfl
      refine pSt (xs := [_]) hO 2 tZ22 rfl (fun G hO => ?_) (h3 := hc24.1) (h6 := one_cell hc24.2)
      exact pE (bn (gn (⟨z23, o23, _, _, hk, (pk hO [1, 2, 3, 4, 5, 6]), sh⟩)))
     ·exact lsk (bn (gn (⟨x7, o7, _, _, hk, (pk hO [1, 2, 3, 4, 5, 6]), sh⟩)))
  ·rintro _ ⟨x10, o10, J, G, hk, hO, rfl⟩
   refine lrg (pBi ?_)
   refine pM (.int _ _) (pE (gn ?_))
   cases hk; exact ⟨_, rfl, o10, _, _, hO, sh⟩
 ·refine lex (ge (ge (be (gn (have hk := lx hx1 hk; lsq (lsq (lrg (pFL tF37_0 hO 5 (.int _ _) tA3 ?_))))))))
  refine pM (.int _ _) (pE (gn (lbl ?_)))
  refine wpL_loopO (F := f73_L3 aP0 aF1 c4) (fun s S' => ∃ (o25 : V) (o27 : V) (J : Nat → V) (G : Heap), Owns H G [.own o25 lk.length 1 s.1.length (flatL 0 s.1), .own o27 lk.length 1 s.2.1.length (flatL 0 s.2.1), .blk b6 (.cells 3 [o25, o27, (.tl 0 [])]), .blk b5 (.cells 5 (cWay m3 0 m3 0 m3 0 m3 0 m3 0 c4)), .blk b3 (.cells 3 [(.tl 0 []), (.tl 0 []), (.tl 0 [])]), .blk b2 (.cells 4 (cFrame l6 0 l7 0 l8 m9 aF1)), .blk b1 (.cells 5 (cPlan l1 0 l2 m3 l4 m5 aP0))] ∧ S' = ⟨hav [(3, .ptr b1 0), (4, .ptr b2 0), (6, .ptr b3 0), (9, .ptr b5 0), (10, .ptr b6 0), (82, iv aP0.Sections), (83, iv s.2.2)] J, G⟩) hk ⟨o7, (.tl 0 []), _, _, (Owns.pick (Owns.addTl hO lk.length ([] : List Int)) [1, 0, 2, 3, 4, 5, 6] (by decide) rfl), sh⟩ ?_
  rintro ⟨x25, x27, x29⟩ _ y1 ⟨o25, o27, J, G, hO, rfl⟩ hk hx1
  refine lsq (lrg (pBi (pE (gn (lsq (lck hk (fun hk => ?_) (fun hk => ?_)))))))
  ·refine lsk (gn (wpL_mid (fun S' => ∃ (x30 : List Int) (x32 : List Int) (o30 : V) (o32 : V) (J : Nat → V) (G : Heap), f73_k4 x29 x30 x32 = some y1 ∧ Owns H G [.own o30 lk.length 1 x30.length (flatL 0 x30), .own o32 lk.length 1 x32.length (flatL 0 x32), .blk b6 (.cells 3 [o30, o32, (.tl 0 [])]), .blk b5 (.cells 5 (cWay m3 0 m3 0 m3 0 m3 0 m3 0 c4)), .blk b3 (.cells 3 [(.tl 0 []), (.tl 0 []), (.tl 0 [])]), .blk b2 (.cells 4 (cFrame l6 0 l7 0 l8 m9 aF1)), .blk b1 (.cells 5 (cPlan l1 0 l2 m3 l4 m5 aP0))] ∧ S' = ⟨hav [(3, .ptr b1 0), (4, .ptr b2 0), (6, .ptr b3 0), (9, .ptr b5 0), (10, .ptr b6 0), (82, iv aP0.Sections), (83, iv x29)] J, G⟩) ?_ ?_))
   ·refine lbl (lsq (lrg (pM (.int _ _) ?_)))
    refine pA (.int _ _) (pE (gn (lsq (lrg ?_))))
    refine pFL tF42_1 hO 5 (.lit _ _ _) tA27 ?_
    refine pM (.int _ _) (bk hk fun c34 hc34 hk => ?_)
    refine pX hc34 tE27 tZ4 ?_
    refine pLp (.bool _) (rd1 (lm := 0) (off := 0) hc34 tA4) ?_
    refine pM (.bool _) (bk hk fun t35 ht hk => ?_)
    refine wpR_mid (l1 := [_, _, _, _, _, _, _, _, _, _, _]) (fun S' => ∃ J, S' = ⟨hav [(3, .ptr b1 0), (4, .ptr b2 0), (6, .ptr b3 0), (9, .ptr b5 0), (10, .ptr b6 0), (13, iv x29), (82, iv aP0.Sections), (83, iv x29), (102, .bool t35)] J, G⟩) ?_ ?_
    ·refine bc (b := c34) (fun hg => ?_) (fun hg => ?_)
     ·replace hk := ct hg ht
      refine pGy hg (pF tF89_0 (pGy hg ?_))
      refine pLo hO 3 (.lit _ _ _) tA22 (pGy hg ?_)
      refine pM (.int _ _) (pGy hg (bk hk fun v36 hv36 hk => ?_))
      refine pCall (fun _ => f93_run hv36) (pGy hg ?_)
      refine pM (.bool _) (bk hk fun t37 ht hk => ?_)
      refine wpR_mid (l1 := [_, _, _, _, _]) (fun S' => ∃ J, S' = ⟨hav [(3, .ptr b1 0), (4, .ptr b2 0), (6, .ptr b3 0), (9, .ptr b5 0), (10, .ptr b6 0), (13, iv x29), (82, iv aP0.Sections), (83, iv x29), (91, .bool c34), (101, .bool t37)] J, G⟩) ?_ ?_
      ·refine bc (b := v36) (fun hg2 => ?_) (fun hg2 => ?_)
       ·replace hk := ct hg2 ht
        refine pGn hg2 (pGn hg2 (pGn hg2 (pGn hg2 (pGy hg (pPt hg2 (.bool _) ?_)))))
        cases hk; exact pE ⟨_, sh⟩
       ·replace hk := cf hg2 ht
        refine pGy hg2 (pF tF89_3 (pGy hg2 ?_))
        refine pLo hO 3 (.lit _ _ _) tA22 (pGy hg2 ?_)
        refine pM (.int _ _) (pGy hg2 (bk hk fun v38 hv38 hk => ?_))
        refine pCall (fun _ => f93_run hv38) (pGy hg ?_)
        refine pPf hg2 (.bool _) ?_
        cases hk; exact pE ⟨_, sh⟩
      ·rintro _ ⟨J, rfl⟩
       refine pPt hg (.bool _) ?_
       cases hk; exact pE ⟨_, sh⟩
     ·replace hk := cf hg ht
      refine pGn hg (pGn hg (pGn hg (pGn hg (pGn hg (pGu (pGu (pGu (pGu (pGn hg (pPf hg (.bool _) ?_))))))))))
      cases hk; exact pE ⟨_, sh⟩
    ·rintro _ ⟨J, rfl⟩
     refine pE (gn (lck hk (fun hk => ?_) (fun hk => ?_)))
     ·refine lrg (pFL tF107_1 hO 2 o27 tA22 ?_)
      refine pM (.int _ _) ?_
      refine pBs (ps := [(0, (.int _ _))]) ([x29] : List Int) tE22 tZ3 t03 (emb_cons (embx_int _ _) (emb_nil)) (bk hk fun z39 hz39 hk => ?_)
      refine pAp (xs := x27) hO 1 hz39 (bears_tl ([x29] : List Int)) tE22 tZ3 tB3 t03 tE22 rfl (fun o39 G hno39 hO => ?_)
      refine pF tF107_1 ?_
      have hc40 := own_cells hO (j := 1) rfl
      refine pSt (xs := [_]) hO 2 tZ22 rfl (fun G hO => ?_) (h3 := hc40.1) (h6 := one_cell hc40.2)
      exact pE (bn (gn (⟨x25, z39, o25, o39, _, _, hk, hO, sh⟩)))
     ·exact lsk (bn (gn (⟨x25, x27, o25, o27, _, _, hk, hO, sh⟩)))
   ·rintro _ ⟨x30, x32, o30, o32, J, G, hk, hO, rfl⟩
    refine lrg (pBi ?_)
    refine pM (.int _ _) (pE (gn ?_))
    cases hk; exact ⟨_, rfl, o30, o32, _, _, hO, sh⟩
  ·refine lex (ge (ge (be (gn (have hk := lx hx1 hk; lsq (lrg (pA (.tl 0 []) ?_)))))))
   refine pA (.tl 0 []) (pE (gn (lsq (lsq (lrg ?_)))))
   refine pFL tF37_1 hO 6 (.lit _ _ _) tA22 ?_
   refine pLen tS22 ?_
   refine pM (.int _ _) (pE (gn (lbl ?_)))
   refine wpL_loopO (F := f73_L5 aP0 aF1 c4) (fun s S' => ∃ (o41 : V) (o43 : V) (o45 : V) (o47 : V) (o49 : V) (J : Nat → V) (G : Heap), Owns H G [.own o41 lk.length 1 s.1.length (flatL 0 s.1), .own o43 lk.length 1 s.2.1.length (flatL 0 s.2.1), .own o45 lk.length 1 s.2.2.1.length (flatL 0 s.2.2.1), .blk b6 (.cells 3 [o41, o43, o45]), .blk b5 (.cells 5 (cWay m3 0 m3 0 m3 0 m3 0 m3 0 c4)), .blk b3 (.cells 3 [(.tl 0 []), (.tl 0 []), (.tl 0 [])]), .blk b2 (.cells 4 (cFrame l6 0 l7 0 l8 m9 aF1)), .blk b1 (.cells 5 (cPlan l1 0 l2 m3 l4 m5 aP0)), .own o47 lk.length 1 s.2.2.2.1.length (flatL 0 s.2.2.2.1), .own o49 lk.length 1 s.2.2.2.2.1.length (flatL 0 s.2.2.2.2.1)] ∧ S' = ⟨hav [(3, .ptr b1 0), (4, .ptr b2 0), (6, .ptr b3 0), (9, .ptr b5 0), (10, .ptr b6 0), (14, o47), (15, o49), (112, iv (aP0.Switches.length : Int)), (113, iv s.2.2.2.2.2)] J, G⟩) hk ⟨o25, o27, (.tl 0 []), (.tl 0 []), (.tl 0 []), _, _, (Owns.pick (Owns.addTl (Owns.addTl (Owns.addTl hO lk.length ([] : List Int)) lk.length ([] : List Int)) lk.length ([] : List Int)) [3, 4, 2, 5, 6, 7, 8, 9, 1, 0] (by decide) rfl), sh⟩ ?_
   rintro ⟨x41, x43, x45, x47, x49, x51⟩ _ y1 ⟨o41, o43, o45, o47, o49, J, G, hO, rfl⟩ hk hx1
   refine lsq (lrg (pBi (pE (gn (lsq (lck hk (fun hk => ?_) (fun hk => ?_)))))))
   ·refine lsk (gn (lsq (lbl (lsq (lrg (pM (.int _ _) ?_))))))
    refine pA (.int _ _) (pE (gn (lsq (lrg ?_))))
    refine pLs hO 4 [_, _, _, _, _] tA89 tZ89 (bk hk fun v52 hv52 hk => ?_)
    refine pCall (fun _ => f69_run hv52) ?_
    refine pLen tS87 ?_
    refine pM (.int _ _) (pE (gn (lbl ?_)))
    refine wpL_loopO (F := f73_L6 aP0 aF1 x51 v52) (fun s S' => ∃ (o53 : V) (o55 : V) (o57 : V) (o59 : V) (o61 : V) (J : Nat → V) (G : Heap), Owns H G [.own o53 lk.length 1 s.1.length (flatL 0 s.1), .own o55 lk.length 1 s.2.1.length (flatL 0 s.2.1), .own o57 lk.length 1 s.2.2.1.length (flatL 0 s.2.2.1), .blk b6 (.cells 3 [o53, o55, o57]), .blk b5 (.cells 5 (cWay m3 0 m3 0 m3 0 m3 0 m3 0 c4)), .blk b3 (.cells 3 [(.tl 0 []), (.tl 0 []), (.tl 0 [])]), .blk b2 (.cells 4 (cFrame l6 0 l7 0 l8 m9 aF1)), .blk b1 (.cells 5 (cPlan l1 0 l2 m3 l4 m5 aP0)), .own o59 lk.length 1 s.2.2.2.1.length (flatL 0 s.2.2.2.1), .own o61 lk.length 1 s.2.2.2.2.1.length (flatL 0 s.2.2.2.2.1)] ∧ S' = ⟨hav [(3, .ptr b1 0), (4, .ptr b2 0), (6, .ptr b3 0), (9, .ptr b5 0), (10, .ptr b6 0), (14, o59), (15, o61), (16, iv x51), (112, iv (aP0.Switches.length : Int)), (113, iv x51), (117, litL 0 0 v52), (118, iv (v52.length : Int)), (119, iv s.2.2.2.2.2)] J, G⟩) hk ⟨o41, o43, o45, o47, o49, _, _, hO, sh⟩ ?_
    rintro ⟨x53, x55, x57, x59, x61, x63⟩ _ y2 ⟨o53, o55, o57, o59, o61, J, G, hO, rfl⟩ hk hx2
    refine lsq (lrg (pBi (pE (gn (lsq (lck hk (fun hk => ?_) (fun hk => ?_)))))))
    ·refine lsk (gn (wpL_mid (fun S' => ∃ (x64 : List Int) (x66 : List Int) (x68 : List Int) (x70 : List Int) (x72 : List Int) (o64 : V) (o66 : V) (o68 : V) (o70 : V) (o72 : V) (J : Nat → V) (G : Heap), f73_k7 x63 x64 x66 x68 x70 x72 = some y2 ∧ Owns H G [.own o64 lk.length 1 x64.length (flatL 0 x64), .own o66 lk.length 1 x66.length (flatL 0 x66), .own o68 lk.length 1 x68.length (flatL 0 x68), .blk b6 (.cells 3 [o64, o66, o68]), .blk b5 (.cells 5 (cWay m3 0 m3 0 m3 0 m3 0 m3 0 c4)), .blk b3 (.cells 3 [(.tl 0 []), (.tl 0 []), (.tl 0 [])]), .blk b2 (.cells 4 (cFrame l6 0 l7 0 l8 m9 aF1)), .blk b1 (.cells 5 (cPlan l1 0 l2 m3 l4 m5 aP0)), .own o70 lk.length 1 x70.length (flatL 0 x70), .own o72 lk.length 1 x72.length (flatL 0 x72)] ∧ S' = ⟨hav [(3, .ptr b1 0), (4, .ptr b2 0), (6, .ptr b3 0), (9, .ptr b5 0), (10, .ptr b6 0), (14, o70), (15, o72), (16, iv x51), (112, iv (aP0.Switches.length : Int)), (113, iv x51), (117, litL 0 0 v52), (118, iv (v52.length : Int)), (119, iv x63)] J, G⟩) ?_ ?_))
     ·refine lbl (lsq (lrg (bk hk fun c74 hc74 hk => pX hc74 tE87 tZ102 ?_)))
      refine pLp (.agg [_, _]) (rd2 (lm := 0) (off := 0) hc74 tA102 tZ102) (pNew hO tZ102 t0102 (fun b75 G hO => ?_))
      refine pSt (xs := [_, _]) hO 0 tZ102 rfl (fun G hO => pE (gn (lsq (lsq ?_))))
      refine wpL_drw [(0, false), (1, true), (2, true), (3, false), (4, false), (5, true), (6, true), (7, true), (8, true), (9, true), (10, true), (11, true), (12, true), (13, false), (14, false)] [_, _, _, _, _, _, _, _, _, _, _, _, _, _, _] (by decide +kernel) (by rfl) ?_
      refine pFL tF102_0 hO 0 (.int _ _) tA3 ?_
      refine pM (.int _ _) ?_
      refine pBi ?_
      refine pM (.bool _) (bk hk fun t76 ht hk => ?_)
      refine wpR_mid (l1 := [_, _, _, _, _, _, _, _, _, _]) (fun S' => ∃ J, S' = ⟨hav [(3, .ptr b1 0), (4, .ptr b2 0), (6, .ptr b3 0), (9, .ptr b5 0), (10, .ptr b6 0), (14, o59), (15, o61), (16, iv x51), (112, iv (aP0.Switches.length : Int)), (113, iv x51), (117, litL 0 0 v52), (118, iv (v52.length : Int)), (119, iv x63), (137, .bool t76)] J, G⟩) ?_ ?_
      ·refine bc (b := (c74.Switch != x51)) (fun hg => ?_) (fun hg => ?_)
       ·replace hk := ct hg ht
        refine pGn hg (pGn hg (pGn hg (pGn hg (pGn hg (pGn hg (pGn hg (pGn hg (pGn hg (pPt hg (.bool _) ?_)))))))))
        cases hk; exact pE ⟨_, sh⟩
       ·replace hk := cf hg ht
        refine pGy hg (pF tF42_2 (pGy hg ?_))
        refine pLo hO 7 (.lit _ _ _) tA39 (pGy hg ?_)
        refine pM (.int _ _) (pGy hg (bk hk fun c77 hc77 hk => ?_))
        refine pX hc77 tE39 tZ58 (pGy hg ?_)
        refine pF tF58_0 (pGy hg ?_)
        refine pLp (.int _ _) (rd1 (lm := 0) (off := 0) hc77 tA3) (pGy hg ?_)
        refine pF tF102_1 (pGy hg ?_)
        refine pLo hO 0 (.int _ _) tA3 (pGy hg ?_)
        refine pBi ?_
        refine pPf hg (.bool _) ?_
        cases hk; exact pE ⟨_, sh⟩
      ·rintro _ ⟨J, rfl⟩
       refine pE (gn (lck hk (fun hk => ?_) (fun hk => ?_)))
       ·exact lex (ge (be (gn (⟨x53, x55, x57, x59, x61, o53, o55, o57, o59, o61, _, _, hk, (pk hO [1, 2, 3, 4, 5, 6, 7, 8, 9, 10]), sh⟩))))
       ·refine lsk (gn (lsq (lrg (pLs hO 8 [_, _, _, _, _] tA37 tZ37 ?_))))
        refine pLs hO 7 [_, _, _, _] tA42 tZ42 ?_
        refine pM (.int _ _) (bk hk fun v78 hv78 hk => ?_)
        refine pCall (fun _ => f94_run hv78) ?_
        refine pLen tS22 ?_
        refine pBi ?_
        refine pA (.bool _) (pE (gn (lsq ?_)))
        refine wpL_drw [(0, true), (1, true), (2, true), (3, true), (4, true), (5, true), (6, true), (7, false), (8, true), (9, false)] [_, _, _, _, _, _, _, _, _, _] (by decide +kernel) (by rfl) ?_
        refine pFL tF42_1 hO 7 (.lit _ _ _) tA27 ?_
        refine pFL tF37_1 hO 8 (.lit _ _ _) tA22 ?_
        refine pM (.int _ _) (bk hk fun c79 hc79 hk => ?_)
        refine pX hc79 tE22 tZ3 ?_
        refine pLp (.int _ _) (rd1 (lm := 0) (off := 0) hc79 tA3) (bk hk fun c80 hc80 hk => ?_)
        refine pX hc80 tE27 tZ4 ?_
        refine pLp (.bool _) (rd1 (lm := 0) (off := 0) hc80 tA4) ?_
        refine pA (.bool _) (pE (gn ?_))
        refine wpL_mid (fun S' => ∃ (x81 : List Int) (x83 : List Int) (x85 : List Int) (x87 : List Int) (x89 : List Int) (o81 : V) (o83 : V) (o85 : V) (o87 : V) (o89 : V) (J : Nat → V) (G : Heap), f73_k8 x51 x63 v78 c80 x81 x83 x85 x87 x89 = some y2 ∧ Owns H G [.own o81 lk.length 1 x81.length (flatL 0 x81), .own o83 lk.length 1 x83.length (flatL 0 x83), .own o85 lk.length 1 x85.length (flatL 0 x85), .blk b6 (.cells 3 [o81, o83, o85]), .blk b5 (.cells 5 (cWay m3 0 m3 0 m3 0 m3 0 m3 0 c4)), .blk b3 (.cells 3 [(.tl 0 []), (.tl 0 []), (.tl 0 [])]), .blk b2 (.cells 4 (cFrame l6 0 l7 0 l8 m9 aF1)), .blk b1 (.cells 5 (cPlan l1 0 l2 m3 l4 m5 aP0)), .own o87 lk.length 1 x87.length (flatL 0 x87), .own o89 lk.length 1 x89.length (flatL 0 x89)] ∧ S' = ⟨hav [(3, .ptr b1 0), (4, .ptr b2 0), (6, .ptr b3 0), (9, .ptr b5 0), (10, .ptr b6 0), (14, o87), (15, o89), (16, iv x51), (19, .bool (decide ((v78.length : Int) > (0:Int)))), (20, .bool c80), (112, iv (aP0.Switches.length : Int)), (113, iv x51), (117, litL 0 0 v52), (118, iv (v52.length : Int)), (119, iv x63)] J, G⟩) ?_ ?_
        ·refine lsq (lrg (pM (.bool _) (pE (gn (lck hk (fun hk => ?_) (fun hk => ?_))))))
         ·refine lrg (pM o59 ?_)
          refine pM (.int _ _) ?_
          refine pBs (ps := [(0, (.int _ _))]) ([x51] : List Int) tE22 tZ3 t03 (emb_cons (embx_int _ _) (emb_nil)) (bk hk fun z104 hz104 hk => ?_)
          refine pAp (xs := x59) hO 9 hz104 (bears_tl ([x51] : List Int)) tE22 tZ3 tB3 t03 tE22 rfl (fun o104 G hno104 hO => ?_)
          refine pA o104 (pE (gn ?_))
          exact ⟨x53, x55, x57, z104, x61, o53, o55, o57, o104, o61, _, _, hk, (pk hO [1, 2, 3, 4, 5, 6, 7, 8, 9, 10]), sh⟩
         ·exact lsk (gn (⟨x53, x55, x57, x59, x61, o53, o55, o57, o59, o61, _, _, hk, (pk hO [1, 2, 3, 4, 5, 6, 7, 8, 9, 10]), sh⟩))
        ·rintro _ ⟨x81, x83, x85, x87, x89, o81, o83, o85, o87, o89, J, G, hk, hO, rfl⟩
         refine wpL_mid (fun S' => ∃ (x91 : List Int) (x93 : List Int) (x95 : List Int) (x97 : List Int) (x99 : List Int) (o91 : V) (o93 : V) (o95 : V) (o97 : V) (o99 : V) (J : Nat → V) (G : Heap), f73_k9 x51 x63 v78 c80 x91 x93 x95 x97 x99 = some y2 ∧ Owns H G [.own o91 lk.length 1 x91.length (flatL 0 x91), .own o93 lk.length 1 x93.length (flatL 0 x93), .own o95 lk.length 1 x95.length (flatL 0 x95), .blk b6 (.cells 3 [o91, o93, o95]), .blk b5 (.cells 5 (cWay m3 0 m3 0 m3 0 m3 0 m3 0 c4)), .blk b3 (.cells 3 [(.tl 0 []), (.tl 0 []), (.tl 0 [])]), .blk b2 (.cells 4 (cFrame l6 0 l7 0 l8 m9 aF1)), .blk b1 (.cells 5 (cPlan l1 0 l2 m3 l4 m5 aP0)), .own o97 lk.length 1 x97.length (flatL 0 x97), .own o99 lk.length 1 x99.length (flatL 0 x99)] ∧ S' = ⟨hav [(3, .ptr b1 0), (4, .ptr b2 0), (6, .ptr b3 0), (9, .ptr b5 0), (10, .ptr b6 0), (14, o97), (15, o99), (16, iv x51), (19, .bool (decide ((v78.length : Int) > (0:Int)))), (20, .bool c80), (112, iv (aP0.Switches.length : Int)), (113, iv x51), (117, litL 0 0 v52), (118, iv (v52.length : Int)), (119, iv x63)] J, G⟩) ?_ ?_
         ·refine lsq (lrg (pM (.bool _) (pE (gn (lck hk (fun hk => ?_) (fun hk => ?_))))))
          ·refine lrg (pM o89 ?_)
           refine pM (.int _ _) ?_
           refine pBs (ps := [(0, (.int _ _))]) ([x51] : List Int) tE22 tZ3 t03 (emb_cons (embx_int _ _) (emb_nil)) (bk hk fun z103 hz103 hk => ?_)
           refine pAp (xs := x89) hO 9 hz103 (bears_tl ([x51] : List Int)) tE22 tZ3 tB3 t03 tE22 rfl (fun o103 G hno103 hO => ?_)
           refine pA o103 (pE (gn ?_))
           exact ⟨x81, x83, x85, x87, z103, o81, o83, o85, o87, o103, _, _, hk, hO, sh⟩
          ·exact lsk (gn (⟨x81, x83, x85, x87, x89, o81, o83, o85, o87, o89, _, _, hk, hO, sh⟩))
         ·rintro _ ⟨x91, x93, x95, x97, x99, o91, o93, o95, o97, o99, J, G, hk, hO, rfl⟩
          refine lsq (lrg (pM (.bool _) ?_))
          refine pM (.bool _) ?_
          refine wpR_mid (l1 := [_, _]) (fun S' => ∃ J, S' = ⟨hav [(3, .ptr b1 0), (4, .ptr b2 0), (6, .ptr b3 0), (9, .ptr b5 0), (10, .ptr b6 0), (14, o97), (15, o99), (16, iv x51), (112, iv (aP0.Switches.length : Int)), (113, iv x51), (117, litL 0 0 v52), (118, iv (v52.length : Int)), (119, iv x63), (166, .bool (decide ((v78.length : Int) > (0:Int)) || c80))] J, G⟩) ?_ ?_
          ·refine bc (b := decide ((v78.length : Int) > (0:Int))) (fun hg => ?_) (fun hg => ?_)
           ·refine pGn hg (pPt hg (.bool _) ?_)
            exact pE ⟨_, St.hav _ ⟨rfl, rfl, rfl, rfl, rfl, rfl, rfl, rfl, rfl, rfl, rfl, rfl, rfl, by rw [hg]; rfl, trivial⟩⟩
           ·refine pGy hg (pM (.bool _) ?_)
            refine pPf hg (.bool _) ?_
            exact pE ⟨_, St.hav _ ⟨rfl, rfl, rfl, rfl, rfl, rfl, rfl, rfl, rfl, rfl, rfl, rfl, rfl, by rw [hg]; rfl, trivial⟩⟩
          ·rintro _ ⟨J, rfl⟩
           refine pE (gn (lck hk (fun hk => ?_) (fun hk => ?_)))
           ·refine lrg (pFL tF107_2 hO 3 o95 tA22 ?_)
            refine pM (.int _ _) ?_
            refine pBs (ps := [(0, (.int _ _))]) ([x51] : List Int) tE22 tZ3 t03 (emb_cons (embx_int _ _) (emb_nil)) (bk hk fun z101 hz101 hk => ?_)
            refine pAp (xs := x95) hO 2 hz101 (bears_tl ([x51] : List Int)) tE22 tZ3 tB3 t03 tE22 rfl (fun o101 G hno101 hO => ?_)
            refine pF tF107_2 ?_
            have hc102 := own_cells hO (j := 2) rfl
            refine pSt (xs := [_]) hO 3 tZ22 rfl (fun G hO => ?_) (h3 := hc102.1) (h6 := one_cell hc102.2)
            exact pE (bn (gn (⟨x91, x93, z101, x97, x99, o91, o93, o101, o97, o99, _, _, hk, hO, sh⟩)))
           ·exact lsk (bn (gn (⟨x91, x93, x95, x97, x99, o91, o93, o95, o97, o99, _, _, hk, hO, sh⟩)))
     ·rintro _ ⟨x64, x66, x68, x70, x72, o64, o66, o68, o70, o72, J, G, hk, hO, rfl⟩
      refine lrg (pBi ?_)
      refine pM (.int _ _) (pE (gn ?_))
      cases hk; exact ⟨_, rfl, o64, o66, o68, o70, o72, _, _, hO, sh⟩
    ·refine lex (ge (ge (be (bn (gn (have hk := lx hx2 hk; lrg (pBi ?_)))))))
     refine pM (.int _ _) (pE (gn ?_))
     cases hk; exact ⟨_, rfl, o53, o55, o57, o59, o61, _, _, hO, sh⟩
   ·refine lex (ge (ge (be (gn (have hk := lx hx1 hk; lsq (lrg (pLs hO 3 [_, _, _] tA107 tZ107 ?_)))))))
    refine pM o47 ?_
    refine pM o49 ?_
    have hc105 := own_cells hO (j := 0) rfl
    have hc106 := own_cells hO (j := 1) rfl
    have hc107 := own_cells hO (j := 2) rfl
    refine pSt (xs := [_, _, _]) hO 5 tZ107 rfl (fun G hO => ?_) (h6 := (all_c hc105.2 (all_c hc106.2 (all_c hc107.2 all_n))))
    refine pA o47 ?_
    refine pA o49 (pE (gn (lrt ?_)))
    replace hk := Option.some.inj hk; subst hk; exact finZ hO (fz_tup (n := 3) (fz_c (fz_agg (n := 2) (fz_c (fz_own (xs := x41) hlk 0) (fz_c (fz_own (xs := x43) hlk 0) (fz_c (fz_own (xs := x45) hlk 0) (fz_n))))) (fz_c (fz_own (xs := x47) hlk 5) (fz_c (fz_own (xs := x49) hlk 5) (fz_n))))) (resS hO 5 [_, _, _] tA107 tZ107 (resT o47 (resT o49 resN)))
def f53 (aP0 : Plan) (aF1 : Frame) (aWay2 : Int) : Option Int :=
 ((f73 aP0 aF1 aWay2).bind fun v3 => ((getI aF1.Ways aWay2).bind fun c5 => (bif (c5.State != (0:Int)) then some (2:Int) else (bif decide ((v3.1.Ways.length : Int) > (0:Int)) then some (3:Int) else (bif decide ((v3.1.Sections.length : Int) > (0:Int)) then some (4:Int) else (bif decide ((v3.2.1.length : Int) > (0:Int)) then some (5:Int) else (bif decide ((v3.2.2.length : Int) > (0:Int)) then some (6:Int) else some (0:Int))))))))
theorem f53_run {aP0 : Plan} {aF1 : Frame} {aWay2 : Int} {r : Int} {l1 l2 m3 l4 m5 l6 l7 l8 m9 : Nat} (hk : f53 aP0 aF1 aWay2 = some r) (hlk : 0 < lk.length := by simp) : runL Try.prog hh 53 [.agg (cPlan l1 0 l2 m3 l4 m5 aP0), .agg (cFrame l6 0 l7 0 l8 m9 aF1), iv aWay2] H lk = some (iv r, H) := by
 refine run_start Try.func53 rfl Try.ntmps53 Try.results53 rfl rfl fun hO => ?_
 unfold f53 at hk
 refine lsq (lrg (pBox (cs := [_, _, _, _, _]) hO tZ37 (fun b1 G hO => ?_)))
 refine pBox (cs := [_, _, _, _]) hO tZ42 (fun b2 G hO => ?_)
 refine pA (.int _ _) (pE (gn (lsq (lrg ?_))))
 refine pLs hO 1 [_, _, _, _, _] tA37 tZ37 ?_
 refine pLs hO 0 [_, _, _, _] tA42 tZ42 ?_
 refine pM (.int _ _) (bk hk fun v3 hv3 hk => ?_)
 refine pCall (fun _ => f73_run hv3) ?_
 refine pM (.tup [_, _, _]) ?_
 refine pEx (.agg [_, _, _]) ?_
 refine pEx (.lit _ _ _) ?_
 refine pEx (.lit _ _ _) (pNew hO tZ107 t0107 (fun b4 G hO => ?_))
 refine pSt (xs := [_, _, _]) hO 0 tZ107 rfl (fun G hO => ?_)
 refine pA (.lit _ _ _) ?_
 refine pA (.lit _ _ _) (pE (gn (lsq (lbl (lsq (lrg ?_))))))
 refine pFL tF42_3 hO 1 (.lit _ _ _) tA40 ?_
 refine pM (.int _ _) (bk hk fun c5 hc5 hk => ?_)
 refine pX hc5 tE40 tZ61 ?_
 refine pF tF61_0 ?_
 refine pLp (.int _ _) (rd1 (lm := m9) (off := 0) hc5 tA3) ?_
 refine pBi ?_
 refine pA (.bool _) (pE (gn (lck hk (fun hk => ?_) (fun hk => ?_))))
 ·refine lsq (lrg (pA (.int _ _) (pE (gn (lrt (br (gr ?_)))))))
  cases hk; exact fin0 hO
 ·refine lsq (lrg (pFL tF107_0 hO 0 (.lit _ _ _) tA22 ?_))
  refine pLen tS22 ?_
  refine pBi ?_
  refine pA (.bool _) (pE (gn (lck hk (fun hk => ?_) (fun hk => ?_))))
  ·refine lsq (lrg (pA (.int _ _) (pE (gn (lrt (br (gr ?_)))))))
   cases hk; exact fin0 hO
  ·refine lsq (lrg (pFL tF107_1 hO 0 (.lit _ _ _) tA22 ?_))
   refine pLen tS22 ?_
   refine pBi ?_
   refine pA (.bool _) (pE (gn (lck hk (fun hk => ?_) (fun hk => ?_))))
   ·refine lsq (lrg (pA (.int _ _) (pE (gn (lrt (br (gr ?_)))))))
    cases hk; exact fin0 hO
   ·refine lsq (lrg (pM (.lit _ _ _) ?_))
    refine pLen tS22 ?_
    refine pBi ?_
    refine pA (.bool _) (pE (gn (lck hk (fun hk => ?_) (fun hk => ?_))))
    ·refine lsq (lrg (pA (.int _ _) (pE (gn (lrt (br (gr ?_)))))))
     cases hk; exact fin0 hO
    ·refine lsq (lrg (pM (.lit _ _ _) ?_))
     refine pLen tS22 ?_
     refine pBi ?_
     refine pA (.bool _) (pE (gn (lck hk (fun hk => ?_) (fun hk => ?_))))
     ·refine lsq (lrg (pA (.int _ _) (pE (gn (lrt (br (gr ?_)))))))
      cases hk; exact fin0 hO
     ·refine lsk (bn (gn (lsq (lrg (pA (.int _ _) (pE (gn (lrt ?_))))))))
      cases hk; exact fin0 hO
def f20 (aP0 : Plan) (aF1 : Frame) (aWay2 : Int) : Option Int :=
 ((f12 aP0 aF1).bind fun v3 => ((bif !v3 then some true else ((f48 aWay2 (0:Int) (w64 ((aP0.Ways.length : Int) - (1:Int)))).bind fun v5 => some (!v5))).bind fun t4 => (bif t4 then some (1:Int) else ((f53 aP0 aF1 aWay2).bind fun v6 => some v6))))
theorem f20_run {aP0 : Plan} {aF1 : Frame} {aWay2 : Int} {r : Int} {l1 l2 m3 l4 m5 l6 l7 l8 : Nat} (hk : f20 aP0 aF1 aWay2 = some r) (hlk : 0 < lk.length := by simp) (hlo : LkOk lk H.length := by simp [LkOk]) : runL Try.prog hh 20 [.agg (cPlan l1 0 l2 m3 l4 m5 aP0), .agg (cFrame l6 0 l7 0 l8 0 aF1), iv aWay2] H lk = some (iv r, H) := by
 refine run_start Try.func20 rfl Try.ntmps20 Try.results20 rfl rfl fun hO => ?_
 unfold f20 at hk
 refine lsq (lrg (pBox (cs := [_, _, _, _, _]) hO tZ37 (fun b1 G hO => ?_)))
 refine pBox (cs := [_, _, _, _]) hO tZ42 (fun b2 G hO => ?_)
 refine pA (.int _ _) (pE (gn (lsq (lsq (lrg ?_)))))
 refine pLs hO 1 [_, _, _, _, _] tA37 tZ37 ?_
 refine pLs hO 0 [_, _, _, _] tA42 tZ42 (bk hk fun v3 hv3 hk => ?_)
 refine pCallL hO hlo rfl (fun _ hl => f12_run hv3 (hlo := hl)) ?_
 refine pU ?_
 refine pM (.bool _) (bk hk fun t4 ht hk => ?_)
 refine wpR_mid (l1 := [_, _, _, _, _, _, _, _]) (fun S' => ∃ J, S' = ⟨hav [(2, iv aWay2), (3, .ptr b1 0), (4, .ptr b2 0), (19, .bool t4)] J, G⟩) ?_ ?_
 ·refine bc (b := !v3) (fun hg => ?_) (fun hg => ?_)
  ·replace hk := ct hg ht
   refine pGn hg (pGn hg (pGn hg (pGn hg (pGn hg (pGn hg (pGn hg (pPt hg (.bool _) ?_)))))))
   cases hk; exact pE ⟨_, sh⟩
  ·replace hk := cf hg ht
   refine pGy hg (pM (.int _ _) (pGy hg ?_))
   refine pF tF37_2 (pGy hg ?_)
   refine pLo hO 1 (.lit _ _ _) tA35 (pGy hg ?_)
   refine pLen tS35 (pGy hg ?_)
   refine pBi (pGy hg (bk hk fun v5 hv5 hk => ?_))
   refine pCall (fun _ => f48_run hv5) (pGy hg ?_)
   refine pU ?_
   refine pPf hg (.bool _) ?_
   cases hk; exact pE ⟨_, sh⟩
 ·rintro _ ⟨J, rfl⟩
  refine pE (gn (lck hk (fun hk => ?_) (fun hk => ?_)))
  ·refine lsq (lrg (pA (.int _ _) (pE (gn (lrt (gr ?_))))))
   cases hk; exact fin0 hO
  ·refine lsk (gn (lsq (lrg (pLs hO 1 [_, _, _, _, _] tA37 tZ37 ?_))))
   refine pLs hO 0 [_, _, _, _] tA42 tZ42 ?_
   refine pM (.int _ _) (bk hk fun v6 hv6 hk => ?_)
   refine pCall (fun _ => f53_run hv6) ?_
   refine pA (.int _ _) (pE (gn (lrt ?_)))
   cases hk; exact fin0 hO
def f41_L1 (aA0 : List Int) (aB1 : List Int) : Int → Option (Int ⊕ Bool) := fun s =>
 (bif decide (s < (aA0.length : Int)) then ((getI aA0 s).bind fun c2 => ((getI aB1 s).bind fun c3 => (bif (c2 != c3) then ((some false).map Sum.inr) else some (.inl (w64 (s + (1:Int))))))) else ((some true).map Sum.inr))
def f41 (aA0 : List Int) (aB1 : List Int) : Option Bool :=
 (bif ((aA0.length : Int) != (aB1.length : Int)) then some false else (loopO (f41_L1 aA0 aB1) ((0:Int))))
theorem f41_run {aA0 : List Int} {aB1 : List Int} {r : Bool} {l1 l2 : Nat} (hk : f41 aA0 aB1 = some r) (hlk : 0 < lk.length := by simp) : runL Try.prog hh 41 [litL l1 0 aA0, litL l2 0 aB1] H lk = some (.bool r, H) := by
 refine run_start Try.func41 rfl Try.ntmps41 Try.results41 rfl rfl fun hO => ?_
 unfold f41 at hk
 refine lsq (lrg (pA (.bool _) (pE (gn (lsq (lsq (lrg ?_)))))))
 refine pM (.lit _ _ _) ?_
 refine pLen tS22 ?_
 refine pM (.lit _ _ _) ?_
 refine pLen tS22 ?_
 refine pBi (pE (gn (lck hk (fun hk => ?_) (fun hk => ?_))))
 ·refine lsq (lrg (pA (.bool _) (pE (gn (lrt (gr ?_))))))
  cases hk; exact fin0 hO
 ·refine lsk (gn (lsq (lsq (lrg (pA (.int _ _) (pE (gn (lbl ?_))))))))
  refine wpL_loopO (F := f41_L1 aA0 aB1) (fun s S' => ∃ (J : Nat → V) (G : Heap), Owns H G [] ∧ S' = ⟨hav [(0, litL l1 0 aA0), (1, litL l2 0 aB1), (5, iv s)] J, G⟩) hk ⟨_, _, hO, sh⟩ ?_
  rintro x1 _ y1 ⟨J, G, hO, rfl⟩ hk hx1
  refine lsq (lsq (lrg (pM (.int _ _) ?_)))
  refine pM (.lit _ _ _) ?_
  refine pLen tS22 ?_
  refine pBi (pE (gn (lck hk (fun hk => ?_) (fun hk => ?_))))
  ·refine lsk (gn (lsq (lbl (lsq (wpL_drw [(0, true), (1, true), (2, true), (3, true), (4, true), (5, true), (6, true), (7, true), (8, false)] [_, _, _, _, _, _, _, _, _] (by decide +kernel) (by rfl) ?_)))))
   refine pM (.lit _ _ _) ?_
   refine pM (.int _ _) (bk hk fun c2 hc2 hk => ?_)
   refine pX hc2 tE22 tZ3 ?_
   refine pLp (.int _ _) (rd1 (lm := 0) (off := 0) hc2 tA3) ?_
   refine pM (.lit _ _ _) ?_
   refine pM (.int _ _) (bk hk fun c3 hc3 hk => ?_)
   refine pX hc3 tE22 tZ3 ?_
   refine pLp (.int _ _) (rd1 (lm := 0) (off := 0) hc3 tA3) ?_
   refine pBi (pE (gn (lck hk (fun hk => ?_) (fun hk => ?_))))
   ·refine lsq (lrg (pA (.bool _) (pE (gn (lrt (br (gr (gr (br (gr (have hk := lx hx1 hk; ?_)))))))))))
    cases hk; exact fin0 hO
   ·refine lsk (bn (gn (lrg (pM (.int _ _) ?_))))
    refine pBi ?_
    refine pA (.int _ _) (pE (gn ?_))
    cases hk; exact ⟨_, rfl, _, _, hO, sh⟩
  ·refine lex (ge (ge (be (gn (have hk := lx hx1 hk; lsq (lrg (pA (.bool _) (pE (gn (lrt ?_))))))))))
   cases hk; exact fin0 hO
def f101 (aA0 : Turn) (aB1 : Turn) : Option Bool :=
 (bif (aA0.Switch != aB1.Switch) then some false else (bif (aA0.Lie != aB1.Lie) then some false else some true))
theorem f101_run {aA0 : Turn} {aB1 : Turn} {r : Bool} (hk : f101 aA0 aB1 = some r) (hlk : 0 < lk.length := by simp) : runL Try.prog hh 101 [.agg [iv aA0.Switch, iv aA0.Lie], .agg [iv aB1.Switch, iv aB1.Lie]] H lk = some (.bool r, H) := by
 refine run_start Try.func101 rfl Try.ntmps101 Try.results101 rfl rfl fun hO => ?_
 unfold f101 at hk
 refine lsq (lrg (pBox (cs := [_, _]) hO tZ102 (fun b1 G hO => ?_)))
 refine pBox (cs := [_, _]) hO tZ102 (fun b2 G hO => ?_)
 refine pA (.bool _) (pE (gn (lsq (lsq (lrg ?_)))))
 refine pFL tF102_0 hO 1 (.int _ _) tA3 ?_
 refine pFL tF102_0 hO 0 (.int _ _) tA3 ?_
 refine pBi (pE (gn (lck hk (fun hk => ?_) (fun hk => ?_))))
 ·refine lsq (lrg (pA (.bool _) (pE (gn (lrt (gr ?_))))))
  cases hk; exact fin0 hO
 ·refine lsk (gn (lsq (lsq (lrg (pFL tF102_1 hO 1 (.int _ _) tA3 ?_)))))
  refine pFL tF102_1 hO 0 (.int _ _) tA3 ?_
  refine pBi (pE (gn (lck hk (fun hk => ?_) (fun hk => ?_))))
  ·refine lsq (lrg (pA (.bool _) (pE (gn (lrt (gr ?_))))))
   cases hk; exact fin0 hO
  ·refine lsk (gn (lsq (lrg (pA (.bool _) (pE (gn (lrt ?_)))))))
   cases hk; exact fin0 hO
def f88_L1 (aA0 : List Turn) (aB1 : List Turn) : Int → Option (Int ⊕ Bool) := fun s =>
 (bif decide (s < (aA0.length : Int)) then ((getI aA0 s).bind fun c2 => ((getI aB1 s).bind fun c3 => ((f101 c2 c3).bind fun v4 => (bif !v4 then ((some false).map Sum.inr) else some (.inl (w64 (s + (1:Int)))))))) else ((some true).map Sum.inr))
def f88 (aA0 : List Turn) (aB1 : List Turn) : Option Bool :=
 (bif ((aA0.length : Int) != (aB1.length : Int)) then some false else (loopO (f88_L1 aA0 aB1) ((0:Int))))
theorem f88_run {aA0 : List Turn} {aB1 : List Turn} {r : Bool} {l1 l2 : Nat} (hk : f88 aA0 aB1 = some r) (hlk : 0 < lk.length := by simp) : runL Try.prog hh 88 [litL l1 0 aA0, litL l2 0 aB1] H lk = some (.bool r, H) := by
 refine run_start Try.func88 rfl Try.ntmps88 Try.results88 rfl rfl fun hO => ?_
 unfold f88 at hk
 refine lsq (lrg (pA (.bool _) (pE (gn (lsq (lsq (lrg ?_)))))))
 refine pM (.lit _ _ _) ?_
 refine pLen tS87 ?_
 refine pM (.lit _ _ _) ?_
 refine pLen tS87 ?_
 refine pBi (pE (gn (lck hk (fun hk => ?_) (fun hk => ?_))))
 ·refine lsq (lrg (pA (.bool _) (pE (gn (lrt (gr ?_))))))
  cases hk; exact fin0 hO
 ·refine lsk (gn (lsq (lsq (lrg (pA (.int _ _) (pE (gn (lbl ?_))))))))
  refine wpL_loopO (F := f88_L1 aA0 aB1) (fun s S' => ∃ (J : Nat → V) (G : Heap), Owns H G [] ∧ S' = ⟨hav [(0, litL l1 0 aA0), (1, litL l2 0 aB1), (5, iv s)] J, G⟩) hk ⟨_, _, hO, sh⟩ ?_
  rintro x1 _ y1 ⟨J, G, hO, rfl⟩ hk hx1
  refine lsq (lsq (lrg (pM (.int _ _) ?_)))
  refine pM (.lit _ _ _) ?_
  refine pLen tS87 ?_
  refine pBi (pE (gn (lck hk (fun hk => ?_) (fun hk => ?_))))
  ·refine lsk (gn (lsq (lbl (lsq (wpL_drw [(0, true), (1, true), (2, true), (3, true), (4, true), (5, true), (6, true), (7, true), (8, false), (9, false)] [_, _, _, _, _, _, _, _, _, _] (by decide +kernel) (by rfl) ?_)))))
   refine pM (.lit _ _ _) ?_
   refine pM (.int _ _) (bk hk fun c2 hc2 hk => ?_)
   refine pX hc2 tE87 tZ102 ?_
   refine pLp (.agg [_, _]) (rd2 (lm := 0) (off := 0) hc2 tA102 tZ102) ?_
   refine pM (.lit _ _ _) ?_
   refine pM (.int _ _) (bk hk fun c3 hc3 hk => ?_)
   refine pX hc3 tE87 tZ102 ?_
   refine pLp (.agg [_, _]) (rd2 (lm := 0) (off := 0) hc3 tA102 tZ102) (bk hk fun v4 hv4 hk => ?_)
   refine pCall (fun _ => f101_run hv4) ?_
   refine pU (pE (gn (lck hk (fun hk => ?_) (fun hk => ?_))))
   ·refine lsq (lrg (pA (.bool _) (pE (gn (lrt (br (gr (gr (br (gr (have hk := lx hx1 hk; ?_)))))))))))
    cases hk; exact fin0 hO
   ·refine lsk (bn (gn (lrg (pM (.int _ _) ?_))))
    refine pBi ?_
    refine pA (.int _ _) (pE (gn ?_))
    cases hk; exact ⟨_, rfl, _, _, hO, sh⟩
  ·refine lex (ge (ge (be (gn (have hk := lx hx1 hk; lsq (lrg (pA (.bool _) (pE (gn (lrt ?_))))))))))
   cases hk; exact fin0 hO
def f66 (aA0 : Way) (aB1 : Way) : Option Bool :=
 ((f41 aA0.Sections aB1.Sections).bind fun v3 => (bif !v3 then some false else ((f88 aA0.Lies aB1.Lies).bind fun v4 => (bif !v4 then some false else ((f88 aA0.Flanks aB1.Flanks).bind fun v5 => (bif !v5 then some false else ((f41 aA0.Over aB1.Over).bind fun v6 => (bif !v6 then some false else ((f41 aA0.Near aB1.Near).bind fun v7 => (bif !v7 then some false else some true))))))))))
theorem f66_run {aA0 : Way} {aB1 : Way} {r : Bool} {l1 l2 l3 l4 l5 l6 l7 l8 l9 l10 : Nat} (hk : f66 aA0 aB1 = some r) (hlk : 0 < lk.length := by simp) : runL Try.prog hh 66 [.agg (cWay l1 0 l2 0 l3 0 l4 0 l5 0 aA0), .agg (cWay l6 0 l7 0 l8 0 l9 0 l10 0 aB1)] H lk = some (.bool r, H) := by
 refine run_start Try.func66 rfl Try.ntmps66 Try.results66 rfl rfl fun hO => ?_
 unfold f66 at hk
 refine lsq (lrg (pBox (cs := [_, _, _, _, _]) hO tZ89 (fun b1 G hO => ?_)))
 refine pBox (cs := [_, _, _, _, _]) hO tZ89 (fun b2 G hO => ?_)
 refine pA (.bool _) (pE (gn (lsq (lsq (lrg ?_)))))
 refine pFL tF89_0 hO 1 (.lit _ _ _) tA22 ?_
 refine pFL tF89_0 hO 0 (.lit _ _ _) tA22 (bk hk fun v3 hv3 hk => ?_)
 refine pCall (fun _ => f41_run hv3) ?_
 refine pU (pE (gn (lck hk (fun hk => ?_) (fun hk => ?_))))
 ·refine lsq (lrg (pA (.bool _) (pE (gn (lrt (gr ?_))))))
  cases hk; exact fin0 hO
 ·refine lsk (gn (lsq (lsq (lrg (pFL tF89_1 hO 1 (.lit _ _ _) tA87 ?_)))))
  refine pFL tF89_1 hO 0 (.lit _ _ _) tA87 (bk hk fun v4 hv4 hk => ?_)
  refine pCall (fun _ => f88_run hv4) ?_
  refine pU (pE (gn (lck hk (fun hk => ?_) (fun hk => ?_))))
  ·refine lsq (lrg (pA (.bool _) (pE (gn (lrt (gr ?_))))))
   cases hk; exact fin0 hO
  ·refine lsk (gn (lsq (lsq (lrg (pFL tF89_2 hO 1 (.lit _ _ _) tA87 ?_)))))
   refine pFL tF89_2 hO 0 (.lit _ _ _) tA87 (bk hk fun v5 hv5 hk => ?_)
   refine pCall (fun _ => f88_run hv5) ?_
   refine pU (pE (gn (lck hk (fun hk => ?_) (fun hk => ?_))))
   ·refine lsq (lrg (pA (.bool _) (pE (gn (lrt (gr ?_))))))
    cases hk; exact fin0 hO
   ·refine lsk (gn (lsq (lsq (lrg (pFL tF89_3 hO 1 (.lit _ _ _) tA22 ?_)))))
    refine pFL tF89_3 hO 0 (.lit _ _ _) tA22 (bk hk fun v6 hv6 hk => ?_)
    refine pCall (fun _ => f41_run hv6) ?_
    refine pU (pE (gn (lck hk (fun hk => ?_) (fun hk => ?_))))
    ·refine lsq (lrg (pA (.bool _) (pE (gn (lrt (gr ?_))))))
     cases hk; exact fin0 hO
    ·refine lsk (gn (lsq (lsq (lrg (pFL tF89_4 hO 1 (.lit _ _ _) tA22 ?_)))))
     refine pFL tF89_4 hO 0 (.lit _ _ _) tA22 (bk hk fun v7 hv7 hk => ?_)
     refine pCall (fun _ => f41_run hv7) ?_
     refine pU (pE (gn (lck hk (fun hk => ?_) (fun hk => ?_))))
     ·refine lsq (lrg (pA (.bool _) (pE (gn (lrt (gr ?_))))))
      cases hk; exact fin0 hO
     ·refine lsk (gn (lsq (lrg (pA (.bool _) (pE (gn (lrt ?_)))))))
      cases hk; exact fin0 hO
def f42_L1 (aA0 : List Way) (aB1 : List Way) : Int → Option (Int ⊕ Bool) := fun s =>
 (bif decide (s < (aA0.length : Int)) then ((getI aA0 s).bind fun c2 => ((getI aB1 s).bind fun c3 => ((f66 c2 c3).bind fun v4 => (bif !v4 then ((some false).map Sum.inr) else some (.inl (w64 (s + (1:Int)))))))) else ((some true).map Sum.inr))
def f42 (aA0 : List Way) (aB1 : List Way) : Option Bool :=
 (bif ((aA0.length : Int) != (aB1.length : Int)) then some false else (loopO (f42_L1 aA0 aB1) ((0:Int))))
theorem f42_run {aA0 : List Way} {aB1 : List Way} {r : Bool} {l1 m2 l3 m4 : Nat} (hk : f42 aA0 aB1 = some r) (hlk : 0 < lk.length := by simp) : runL Try.prog hh 42 [litL l1 m2 aA0, litL l3 m4 aB1] H lk = some (.bool r, H) := by
 refine run_start Try.func42 rfl Try.ntmps42 Try.results42 rfl rfl fun hO => ?_
 unfold f42 at hk
 refine lsq (lrg (pA (.bool _) (pE (gn (lsq (lsq (lrg ?_)))))))
 refine pM (.lit _ _ _) ?_
 refine pLen tS35 ?_
 refine pM (.lit _ _ _) ?_
 refine pLen tS35 ?_
 refine pBi (pE (gn (lck hk (fun hk => ?_) (fun hk => ?_))))
 ·refine lsq (lrg (pA (.bool _) (pE (gn (lrt (gr ?_))))))
  cases hk; exact fin0 hO
 ·refine lsk (gn (lsq (lsq (lrg (pA (.int _ _) (pE (gn (lbl ?_))))))))
  refine wpL_loopO (F := f42_L1 aA0 aB1) (fun s S' => ∃ (J : Nat → V) (G : Heap), Owns H G [] ∧ S' = ⟨hav [(0, litL l1 m2 aA0), (1, litL l3 m4 aB1), (5, iv s)] J, G⟩) hk ⟨_, _, hO, sh⟩ ?_
  rintro x1 _ y1 ⟨J, G, hO, rfl⟩ hk hx1
  refine lsq (lsq (lrg (pM (.int _ _) ?_)))
  refine pM (.lit _ _ _) ?_
  refine pLen tS35 ?_
  refine pBi (pE (gn (lck hk (fun hk => ?_) (fun hk => ?_))))
  ·refine lsk (gn (lsq (lbl (lsq (wpL_drw [(0, true), (1, true), (2, true), (3, true), (4, true), (5, true), (6, true), (7, true), (8, false), (9, false)] [_, _, _, _, _, _, _, _, _, _] (by decide +kernel) (by rfl) ?_)))))
   refine pM (.lit _ _ _) ?_
   refine pM (.int _ _) (bk hk fun c2 hc2 hk => ?_)
   refine pX hc2 tE35 tZ89 ?_
   refine pLp (.agg [_, _, _, _, _]) (rd2 (lm := m2) (off := 0) hc2 tA89 tZ89) ?_
   refine pM (.lit _ _ _) ?_
   refine pM (.int _ _) (bk hk fun c3 hc3 hk => ?_)
   refine pX hc3 tE35 tZ89 ?_
   refine pLp (.agg [_, _, _, _, _]) (rd2 (lm := m4) (off := 0) hc3 tA89 tZ89) (bk hk fun v4 hv4 hk => ?_)
   refine pCall (fun _ => f66_run hv4) ?_
   refine pU (pE (gn (lck hk (fun hk => ?_) (fun hk => ?_))))
   ·refine lsq (lrg (pA (.bool _) (pE (gn (lrt (br (gr (gr (br (gr (have hk := lx hx1 hk; ?_)))))))))))
    cases hk; exact fin0 hO
   ·refine lsk (bn (gn (lrg (pM (.int _ _) ?_))))
    refine pBi ?_
    refine pA (.int _ _) (pE (gn ?_))
    cases hk; exact ⟨_, rfl, _, _, hO, sh⟩
  ·refine lex (ge (ge (be (gn (have hk := lx hx1 hk; lsq (lrg (pA (.bool _) (pE (gn (lrt ?_))))))))))
   cases hk; exact fin0 hO
def f44_L1 (aA0 : List Bool) (aB1 : List Bool) : Int → Option (Int ⊕ Bool) := fun s =>
 (bif decide (s < (aA0.length : Int)) then ((getI aA0 s).bind fun c2 => ((getI aB1 s).bind fun c3 => (bif !(c2 == c3) then ((some false).map Sum.inr) else some (.inl (w64 (s + (1:Int))))))) else ((some true).map Sum.inr))
def f44 (aA0 : List Bool) (aB1 : List Bool) : Option Bool :=
 (bif ((aA0.length : Int) != (aB1.length : Int)) then some false else (loopO (f44_L1 aA0 aB1) ((0:Int))))
theorem f44_run {aA0 : List Bool} {aB1 : List Bool} {r : Bool} {l1 l2 : Nat} (hk : f44 aA0 aB1 = some r) (hlk : 0 < lk.length := by simp) : runL Try.prog hh 44 [litL l1 0 aA0, litL l2 0 aB1] H lk = some (.bool r, H) := by
 refine run_start Try.func44 rfl Try.ntmps44 Try.results44 rfl rfl fun hO => ?_
 unfold f44 at hk
 refine lsq (lrg (pA (.bool _) (pE (gn (lsq (lsq (lrg ?_)))))))
 refine pM (.lit _ _ _) ?_
 refine pLen tS27 ?_
 refine pM (.lit _ _ _) ?_
 refine pLen tS27 ?_
 refine pBi (pE (gn (lck hk (fun hk => ?_) (fun hk => ?_))))
 ·refine lsq (lrg (pA (.bool _) (pE (gn (lrt (gr ?_))))))
  cases hk; exact fin0 hO
 ·refine lsk (gn (lsq (lsq (lrg (pA (.int _ _) (pE (gn (lbl ?_))))))))
  refine wpL_loopO (F := f44_L1 aA0 aB1) (fun s S' => ∃ (J : Nat → V) (G : Heap), Owns H G [] ∧ S' = ⟨hav [(0, litL l1 0 aA0), (1, litL l2 0 aB1), (5, iv s)] J, G⟩) hk ⟨_, _, hO, sh⟩ ?_
  rintro x1 _ y1 ⟨J, G, hO, rfl⟩ hk hx1
  refine lsq (lsq (lrg (pM (.int _ _) ?_)))
  refine pM (.lit _ _ _) ?_
  refine pLen tS27 ?_
  refine pBi (pE (gn (lck hk (fun hk => ?_) (fun hk => ?_))))
  ·refine lsk (gn (lsq (lbl (lsq (wpL_drw [(0, true), (1, true), (2, true), (3, true), (4, true), (5, true), (6, true), (7, true), (8, false)] [_, _, _, _, _, _, _, _, _] (by decide +kernel) (by rfl) ?_)))))
   refine pM (.lit _ _ _) ?_
   refine pM (.int _ _) (bk hk fun c2 hc2 hk => ?_)
   refine pX hc2 tE27 tZ4 ?_
   refine pLp (.bool _) (rd1 (lm := 0) (off := 0) hc2 tA4) ?_
   refine pM (.lit _ _ _) ?_
   refine pM (.int _ _) (bk hk fun c3 hc3 hk => ?_)
   refine pX hc3 tE27 tZ4 ?_
   refine pLp (.bool _) (rd1 (lm := 0) (off := 0) hc3 tA4) ?_
   refine pBn Try.underlying4 (pE (gn (lck hk (fun hk => ?_) (fun hk => ?_))))
   ·refine lsq (lrg (pA (.bool _) (pE (gn (lrt (br (gr (gr (br (gr (have hk := lx hx1 hk; ?_)))))))))))
    cases hk; exact fin0 hO
   ·refine lsk (bn (gn (lrg (pM (.int _ _) ?_))))
    refine pBi ?_
    refine pA (.int _ _) (pE (gn ?_))
    cases hk; exact ⟨_, rfl, _, _, hO, sh⟩
  ·refine lex (ge (ge (be (gn (have hk := lx hx1 hk; lsq (lrg (pA (.bool _) (pE (gn (lrt ?_))))))))))
   cases hk; exact fin0 hO
def f43_L1 (aA0 : List (List Bool)) (aB1 : List (List Bool)) : Int → Option (Int ⊕ Bool) := fun s =>
 (bif decide (s < (aA0.length : Int)) then ((getI aA0 s).bind fun c2 => ((getI aB1 s).bind fun c3 => ((f44 c2 c3).bind fun v4 => (bif !v4 then ((some false).map Sum.inr) else some (.inl (w64 (s + (1:Int)))))))) else ((some true).map Sum.inr))
def f43 (aA0 : List (List Bool)) (aB1 : List (List Bool)) : Option Bool :=
 (bif ((aA0.length : Int) != (aB1.length : Int)) then some false else (loopO (f43_L1 aA0 aB1) ((0:Int))))
theorem f43_run {aA0 : List (List Bool)} {aB1 : List (List Bool)} {r : Bool} {l1 m2 l3 m4 : Nat} (hk : f43 aA0 aB1 = some r) (hlk : 0 < lk.length := by simp) : runL Try.prog hh 43 [litL l1 m2 aA0, litL l3 m4 aB1] H lk = some (.bool r, H) := by
 refine run_start Try.func43 rfl Try.ntmps43 Try.results43 rfl rfl fun hO => ?_
 unfold f43 at hk
 refine lsq (lrg (pA (.bool _) (pE (gn (lsq (lsq (lrg ?_)))))))
 refine pM (.lit _ _ _) ?_
 refine pLen tS24 ?_
 refine pM (.lit _ _ _) ?_
 refine pLen tS24 ?_
 refine pBi (pE (gn (lck hk (fun hk => ?_) (fun hk => ?_))))
 ·refine lsq (lrg (pA (.bool _) (pE (gn (lrt (gr ?_))))))
  cases hk; exact fin0 hO
 ·refine lsk (gn (lsq (lsq (lrg (pA (.int _ _) (pE (gn (lbl ?_))))))))
  refine wpL_loopO (F := f43_L1 aA0 aB1) (fun s S' => ∃ (J : Nat → V) (G : Heap), Owns H G [] ∧ S' = ⟨hav [(0, litL l1 m2 aA0), (1, litL l3 m4 aB1), (5, iv s)] J, G⟩) hk ⟨_, _, hO, sh⟩ ?_
  rintro x1 _ y1 ⟨J, G, hO, rfl⟩ hk hx1
  refine lsq (lsq (lrg (pM (.int _ _) ?_)))
  refine pM (.lit _ _ _) ?_
  refine pLen tS24 ?_
  refine pBi (pE (gn (lck hk (fun hk => ?_) (fun hk => ?_))))
  ·refine lsk (gn (lsq (lbl (lsq (wpL_drw [(0, true), (1, true), (2, true), (3, true), (4, true), (5, true), (6, true), (7, true), (8, false), (9, false)] [_, _, _, _, _, _, _, _, _, _] (by decide +kernel) (by rfl) ?_)))))
   refine pM (.lit _ _ _) ?_
   refine pM (.int _ _) (bk hk fun c2 hc2 hk => ?_)
   refine pX hc2 tE24 tZ27 ?_
   refine pLp (.lit _ _ _) (rd1 (lm := m2) (off := 0) hc2 tA27) ?_
   refine pM (.lit _ _ _) ?_
   refine pM (.int _ _) (bk hk fun c3 hc3 hk => ?_)
   refine pX hc3 tE24 tZ27 ?_
   refine pLp (.lit _ _ _) (rd1 (lm := m4) (off := 0) hc3 tA27) (bk hk fun v4 hv4 hk => ?_)
   refine pCall (fun _ => f44_run hv4) ?_
   refine pU (pE (gn (lck hk (fun hk => ?_) (fun hk => ?_))))
   ·refine lsq (lrg (pA (.bool _) (pE (gn (lrt (br (gr (gr (br (gr (have hk := lx hx1 hk; ?_)))))))))))
    cases hk; exact fin0 hO
   ·refine lsk (bn (gn (lrg (pM (.int _ _) ?_))))
    refine pBi ?_
    refine pA (.int _ _) (pE (gn ?_))
    cases hk; exact ⟨_, rfl, _, _, hO, sh⟩
  ·refine lex (ge (ge (be (gn (have hk := lx hx1 hk; lsq (lrg (pA (.bool _) (pE (gn (lrt ?_))))))))))
   cases hk; exact fin0 hO
def f13 (aA0 : Plan) (aB1 : Plan) : Option Bool :=
 (bif (aA0.Sections != aB1.Sections) then some false else ((f41 aA0.Switches aB1.Switches).bind fun v3 => (bif !v3 then some false else ((f42 aA0.Ways aB1.Ways).bind fun v4 => (bif !v4 then some false else ((f43 aA0.Bars aB1.Bars).bind fun v5 => (bif !v5 then some false else (bif (aA0.Hold != aB1.Hold) then some false else some true))))))))
theorem f13_run {aA0 : Plan} {aB1 : Plan} {r : Bool} {l1 l2 m3 l4 m5 l6 l7 m8 l9 m10 : Nat} (hk : f13 aA0 aB1 = some r) (hlk : 0 < lk.length := by simp) : runL Try.prog hh 13 [.agg (cPlan l1 0 l2 m3 l4 m5 aA0), .agg (cPlan l6 0 l7 m8 l9 m10 aB1)] H lk = some (.bool r, H) := by
 refine run_start Try.func13 rfl Try.ntmps13 Try.results13 rfl rfl fun hO => ?_
 unfold f13 at hk
 refine lsq (lrg (pBox (cs := [_, _, _, _, _]) hO tZ37 (fun b1 G hO => ?_)))
 refine pBox (cs := [_, _, _, _, _]) hO tZ37 (fun b2 G hO => ?_)
 refine pA (.bool _) (pE (gn (lsq (lsq (lrg ?_)))))
 refine pFL tF37_0 hO 1 (.int _ _) tA3 ?_
 refine pFL tF37_0 hO 0 (.int _ _) tA3 ?_
 refine pBi (pE (gn (lck hk (fun hk => ?_) (fun hk => ?_))))
 ·refine lsq (lrg (pA (.bool _) (pE (gn (lrt (gr ?_))))))
  cases hk; exact fin0 hO
 ·refine lsk (gn (lsq (lsq (lrg (pFL tF37_1 hO 1 (.lit _ _ _) tA22 ?_)))))
  refine pFL tF37_1 hO 0 (.lit _ _ _) tA22 (bk hk fun v3 hv3 hk => ?_)
  refine pCall (fun _ => f41_run hv3) ?_
  refine pU (pE (gn (lck hk (fun hk => ?_) (fun hk => ?_))))
  ·refine lsq (lrg (pA (.bool _) (pE (gn (lrt (gr ?_))))))
   cases hk; exact fin0 hO
  ·refine lsk (gn (lsq (lsq (lrg (pFL tF37_2 hO 1 (.lit _ _ _) tA35 ?_)))))
   refine pFL tF37_2 hO 0 (.lit _ _ _) tA35 (bk hk fun v4 hv4 hk => ?_)
   refine pCall (fun _ => f42_run hv4) ?_
   refine pU (pE (gn (lck hk (fun hk => ?_) (fun hk => ?_))))
   ·refine lsq (lrg (pA (.bool _) (pE (gn (lrt (gr ?_))))))
    cases hk; exact fin0 hO
   ·refine lsk (gn (lsq (lsq (lrg (pFL tF37_3 hO 1 (.lit _ _ _) tA24 ?_)))))
    refine pFL tF37_3 hO 0 (.lit _ _ _) tA24 (bk hk fun v5 hv5 hk => ?_)
    refine pCall (fun _ => f43_run hv5) ?_
    refine pU (pE (gn (lck hk (fun hk => ?_) (fun hk => ?_))))
    ·refine lsq (lrg (pA (.bool _) (pE (gn (lrt (gr ?_))))))
     cases hk; exact fin0 hO
    ·refine lsk (gn (lsq (lsq (lrg (pFL tF37_4 hO 1 (.int _ _) tA3 ?_)))))
     refine pFL tF37_4 hO 0 (.int _ _) tA3 ?_
     refine pBi (pE (gn (lck hk (fun hk => ?_) (fun hk => ?_))))
     ·refine lsq (lrg (pA (.bool _) (pE (gn (lrt (gr ?_))))))
      cases hk; exact fin0 hO
     ·refine lsk (gn (lsq (lrg (pA (.bool _) (pE (gn (lrt ?_)))))))
      cases hk; exact fin0 hO
def f67 (aA0 : Point) (aB1 : Point) : Option Bool :=
 (bif (aA0.Want != aB1.Want) then some false else (bif (aA0.Lies != aB1.Lies) then some false else some true))
theorem f67_run {aA0 : Point} {aB1 : Point} {r : Bool} (hk : f67 aA0 aB1 = some r) (hlk : 0 < lk.length := by simp) : runL Try.prog hh 67 [.agg [iv aA0.Want, iv aA0.Lies], .agg [iv aB1.Want, iv aB1.Lies]] H lk = some (.bool r, H) := by
 refine run_start Try.func67 rfl Try.ntmps67 Try.results67 rfl rfl fun hO => ?_
 unfold f67 at hk
 refine lsq (lrg (pBox (cs := [_, _]) hO tZ58 (fun b1 G hO => ?_)))
 refine pBox (cs := [_, _]) hO tZ58 (fun b2 G hO => ?_)
 refine pA (.bool _) (pE (gn (lsq (lsq (lrg ?_)))))
 refine pFL tF58_0 hO 1 (.int _ _) tA3 ?_
 refine pFL tF58_0 hO 0 (.int _ _) tA3 ?_
 refine pBi (pE (gn (lck hk (fun hk => ?_) (fun hk => ?_))))
 ·refine lsq (lrg (pA (.bool _) (pE (gn (lrt (gr ?_))))))
  cases hk; exact fin0 hO
 ·refine lsk (gn (lsq (lsq (lrg (pFL tF58_1 hO 1 (.int _ _) tA3 ?_)))))
  refine pFL tF58_1 hO 0 (.int _ _) tA3 ?_
  refine pBi (pE (gn (lck hk (fun hk => ?_) (fun hk => ?_))))
  ·refine lsq (lrg (pA (.bool _) (pE (gn (lrt (gr ?_))))))
   cases hk; exact fin0 hO
  ·refine lsk (gn (lsq (lrg (pA (.bool _) (pE (gn (lrt ?_)))))))
   cases hk; exact fin0 hO
def f45_L1 (aA0 : List Point) (aB1 : List Point) : Int → Option (Int ⊕ Bool) := fun s =>
 (bif decide (s < (aA0.length : Int)) then ((getI aA0 s).bind fun c2 => ((getI aB1 s).bind fun c3 => ((f67 c2 c3).bind fun v4 => (bif !v4 then ((some false).map Sum.inr) else some (.inl (w64 (s + (1:Int)))))))) else ((some true).map Sum.inr))
def f45 (aA0 : List Point) (aB1 : List Point) : Option Bool :=
 (bif ((aA0.length : Int) != (aB1.length : Int)) then some false else (loopO (f45_L1 aA0 aB1) ((0:Int))))
theorem f45_run {aA0 : List Point} {aB1 : List Point} {r : Bool} {l1 l2 : Nat} (hk : f45 aA0 aB1 = some r) (hlk : 0 < lk.length := by simp) : runL Try.prog hh 45 [litL l1 0 aA0, litL l2 0 aB1] H lk = some (.bool r, H) := by
 refine run_start Try.func45 rfl Try.ntmps45 Try.results45 rfl rfl fun hO => ?_
 unfold f45 at hk
 refine lsq (lrg (pA (.bool _) (pE (gn (lsq (lsq (lrg ?_)))))))
 refine pM (.lit _ _ _) ?_
 refine pLen tS39 ?_
 refine pM (.lit _ _ _) ?_
 refine pLen tS39 ?_
 refine pBi (pE (gn (lck hk (fun hk => ?_) (fun hk => ?_))))
 ·refine lsq (lrg (pA (.bool _) (pE (gn (lrt (gr ?_))))))
  cases hk; exact fin0 hO
 ·refine lsk (gn (lsq (lsq (lrg (pA (.int _ _) (pE (gn (lbl ?_))))))))
  refine wpL_loopO (F := f45_L1 aA0 aB1) (fun s S' => ∃ (J : Nat → V) (G : Heap), Owns H G [] ∧ S' = ⟨hav [(0, litL l1 0 aA0), (1, litL l2 0 aB1), (5, iv s)] J, G⟩) hk ⟨_, _, hO, sh⟩ ?_
  rintro x1 _ y1 ⟨J, G, hO, rfl⟩ hk hx1
  refine lsq (lsq (lrg (pM (.int _ _) ?_)))
  refine pM (.lit _ _ _) ?_
  refine pLen tS39 ?_
  refine pBi (pE (gn (lck hk (fun hk => ?_) (fun hk => ?_))))
  ·refine lsk (gn (lsq (lbl (lsq (wpL_drw [(0, true), (1, true), (2, true), (3, true), (4, true), (5, true), (6, true), (7, true), (8, false), (9, false)] [_, _, _, _, _, _, _, _, _, _] (by decide +kernel) (by rfl) ?_)))))
   refine pM (.lit _ _ _) ?_
   refine pM (.int _ _) (bk hk fun c2 hc2 hk => ?_)
   refine pX hc2 tE39 tZ58 ?_
   refine pLp (.agg [_, _]) (rd2 (lm := 0) (off := 0) hc2 tA58 tZ58) ?_
   refine pM (.lit _ _ _) ?_
   refine pM (.int _ _) (bk hk fun c3 hc3 hk => ?_)
   refine pX hc3 tE39 tZ58 ?_
   refine pLp (.agg [_, _]) (rd2 (lm := 0) (off := 0) hc3 tA58 tZ58) (bk hk fun v4 hv4 hk => ?_)
   refine pCall (fun _ => f67_run hv4) ?_
   refine pU (pE (gn (lck hk (fun hk => ?_) (fun hk => ?_))))
   ·refine lsq (lrg (pA (.bool _) (pE (gn (lrt (br (gr (gr (br (gr (have hk := lx hx1 hk; ?_)))))))))))
    cases hk; exact fin0 hO
   ·refine lsk (bn (gn (lrg (pM (.int _ _) ?_))))
    refine pBi ?_
    refine pA (.int _ _) (pE (gn ?_))
    cases hk; exact ⟨_, rfl, _, _, hO, sh⟩
  ·refine lex (ge (ge (be (gn (have hk := lx hx1 hk; lsq (lrg (pA (.bool _) (pE (gn (lrt ?_))))))))))
   cases hk; exact fin0 hO
def f68 (aA0 : Held) (aB1 : Held) : Option Bool :=
 (bif (aA0.State != aB1.State) then some false else (bif (aA0.Gone != aB1.Gone) then some false else ((f44 aA0.Been aB1.Been).bind fun v3 => (bif !v3 then some false else (bif !(aA0.Shown == aB1.Shown) then some false else (bif (aA0.Timer != aB1.Timer) then some false else some true))))))
theorem f68_run {aA0 : Held} {aB1 : Held} {r : Bool} {l1 l2 : Nat} (hk : f68 aA0 aB1 = some r) (hlk : 0 < lk.length := by simp) : runL Try.prog hh 68 [.agg [iv aA0.State, iv aA0.Gone, litL l1 0 aA0.Been, .bool aA0.Shown, iv aA0.Timer], .agg [iv aB1.State, iv aB1.Gone, litL l2 0 aB1.Been, .bool aB1.Shown, iv aB1.Timer]] H lk = some (.bool r, H) := by
 refine run_start Try.func68 rfl Try.ntmps68 Try.results68 rfl rfl fun hO => ?_
 unfold f68 at hk
 refine lsq (lrg (pBox (cs := [_, _, _, _, _]) hO tZ61 (fun b1 G hO => ?_)))
 refine pBox (cs := [_, _, _, _, _]) hO tZ61 (fun b2 G hO => ?_)
 refine pA (.bool _) (pE (gn (lsq (lsq (lrg ?_)))))
 refine pFL tF61_0 hO 1 (.int _ _) tA3 ?_
 refine pFL tF61_0 hO 0 (.int _ _) tA3 ?_
 refine pBi (pE (gn (lck hk (fun hk => ?_) (fun hk => ?_))))
 ·refine lsq (lrg (pA (.bool _) (pE (gn (lrt (gr ?_))))))
  cases hk; exact fin0 hO
 ·refine lsk (gn (lsq (lsq (lrg (pFL tF61_1 hO 1 (.int _ _) tA3 ?_)))))
  refine pFL tF61_1 hO 0 (.int _ _) tA3 ?_
  refine pBi (pE (gn (lck hk (fun hk => ?_) (fun hk => ?_))))
  ·refine lsq (lrg (pA (.bool _) (pE (gn (lrt (gr ?_))))))
   cases hk; exact fin0 hO
  ·refine lsk (gn (lsq (lsq (lrg (pFL tF61_2 hO 1 (.lit _ _ _) tA27 ?_)))))
   refine pFL tF61_2 hO 0 (.lit _ _ _) tA27 (bk hk fun v3 hv3 hk => ?_)
   refine pCall (fun _ => f44_run hv3) ?_
   refine pU (pE (gn (lck hk (fun hk => ?_) (fun hk => ?_))))
   ·refine lsq (lrg (pA (.bool _) (pE (gn (lrt (gr ?_))))))
    cases hk; exact fin0 hO
   ·refine lsk (gn (lsq (lsq (lrg (pFL tF61_3 hO 1 (.bool _) tA4 ?_)))))
    refine pFL tF61_3 hO 0 (.bool _) tA4 ?_
    refine pBn Try.underlying4 (pE (gn (lck hk (fun hk => ?_) (fun hk => ?_))))
    ·refine lsq (lrg (pA (.bool _) (pE (gn (lrt (gr ?_))))))
     cases hk; exact fin0 hO
    ·refine lsk (gn (lsq (lsq (lrg (pFL tF61_4 hO 1 (.int _ _) tA3 ?_)))))
     refine pFL tF61_4 hO 0 (.int _ _) tA3 ?_
     refine pBi (pE (gn (lck hk (fun hk => ?_) (fun hk => ?_))))
     ·refine lsq (lrg (pA (.bool _) (pE (gn (lrt (gr ?_))))))
      cases hk; exact fin0 hO
     ·refine lsk (gn (lsq (lrg (pA (.bool _) (pE (gn (lrt ?_)))))))
      cases hk; exact fin0 hO
def f46_L1 (aA0 : List Held) (aB1 : List Held) : Int → Option (Int ⊕ Bool) := fun s =>
 (bif decide (s < (aA0.length : Int)) then ((getI aA0 s).bind fun c2 => ((getI aB1 s).bind fun c3 => ((f68 c2 c3).bind fun v4 => (bif !v4 then ((some false).map Sum.inr) else some (.inl (w64 (s + (1:Int)))))))) else ((some true).map Sum.inr))
def f46 (aA0 : List Held) (aB1 : List Held) : Option Bool :=
 (bif ((aA0.length : Int) != (aB1.length : Int)) then some false else (loopO (f46_L1 aA0 aB1) ((0:Int))))
theorem f46_run {aA0 : List Held} {aB1 : List Held} {r : Bool} {l1 m2 l3 m4 : Nat} (hk : f46 aA0 aB1 = some r) (hlk : 0 < lk.length := by simp) : runL Try.prog hh 46 [litL l1 m2 aA0, litL l3 m4 aB1] H lk = some (.bool r, H) := by
 refine run_start Try.func46 rfl Try.ntmps46 Try.results46 rfl rfl fun hO => ?_
 unfold f46 at hk
 refine lsq (lrg (pA (.bool _) (pE (gn (lsq (lsq (lrg ?_)))))))
 refine pM (.lit _ _ _) ?_
 refine pLen tS40 ?_
 refine pM (.lit _ _ _) ?_
 refine pLen tS40 ?_
 refine pBi (pE (gn (lck hk (fun hk => ?_) (fun hk => ?_))))
 ·refine lsq (lrg (pA (.bool _) (pE (gn (lrt (gr ?_))))))
  cases hk; exact fin0 hO
 ·refine lsk (gn (lsq (lsq (lrg (pA (.int _ _) (pE (gn (lbl ?_))))))))
  refine wpL_loopO (F := f46_L1 aA0 aB1) (fun s S' => ∃ (J : Nat → V) (G : Heap), Owns H G [] ∧ S' = ⟨hav [(0, litL l1 m2 aA0), (1, litL l3 m4 aB1), (5, iv s)] J, G⟩) hk ⟨_, _, hO, sh⟩ ?_
  rintro x1 _ y1 ⟨J, G, hO, rfl⟩ hk hx1
  refine lsq (lsq (lrg (pM (.int _ _) ?_)))
  refine pM (.lit _ _ _) ?_
  refine pLen tS40 ?_
  refine pBi (pE (gn (lck hk (fun hk => ?_) (fun hk => ?_))))
  ·refine lsk (gn (lsq (lbl (lsq (wpL_drw [(0, true), (1, true), (2, true), (3, true), (4, true), (5, true), (6, true), (7, true), (8, false), (9, false)] [_, _, _, _, _, _, _, _, _, _] (by decide +kernel) (by rfl) ?_)))))
   refine pM (.lit _ _ _) ?_
   refine pM (.int _ _) (bk hk fun c2 hc2 hk => ?_)
   refine pX hc2 tE40 tZ61 ?_
   refine pLp (.agg [_, _, _, _, _]) (rd2 (lm := m2) (off := 0) hc2 tA61 tZ61) ?_
   refine pM (.lit _ _ _) ?_
   refine pM (.int _ _) (bk hk fun c3 hc3 hk => ?_)
   refine pX hc3 tE40 tZ61 ?_
   refine pLp (.agg [_, _, _, _, _]) (rd2 (lm := m4) (off := 0) hc3 tA61 tZ61) (bk hk fun v4 hv4 hk => ?_)
   refine pCall (fun _ => f68_run hv4) ?_
   refine pU (pE (gn (lck hk (fun hk => ?_) (fun hk => ?_))))
   ·refine lsq (lrg (pA (.bool _) (pE (gn (lrt (br (gr (gr (br (gr (have hk := lx hx1 hk; ?_)))))))))))
    cases hk; exact fin0 hO
   ·refine lsk (bn (gn (lrg (pM (.int _ _) ?_))))
    refine pBi ?_
    refine pA (.int _ _) (pE (gn ?_))
    cases hk; exact ⟨_, rfl, _, _, hO, sh⟩
  ·refine lex (ge (ge (be (gn (have hk := lx hx1 hk; lsq (lrg (pA (.bool _) (pE (gn (lrt ?_))))))))))
   cases hk; exact fin0 hO
def f14 (aA0 : Frame) (aB1 : Frame) : Option Bool :=
 (bif !(aA0.Ok == aB1.Ok) then some false else ((f44 aA0.Occ aB1.Occ).bind fun v3 => (bif !v3 then some false else ((f45 aA0.Points aB1.Points).bind fun v4 => (bif !v4 then some false else ((f46 aA0.Ways aB1.Ways).bind fun v5 => (bif !v5 then some false else some true)))))))
theorem f14_run {aA0 : Frame} {aB1 : Frame} {r : Bool} {l1 l2 l3 m4 l5 l6 l7 m8 : Nat} (hk : f14 aA0 aB1 = some r) (hlk : 0 < lk.length := by simp) : runL Try.prog hh 14 [.agg (cFrame l1 0 l2 0 l3 m4 aA0), .agg (cFrame l5 0 l6 0 l7 m8 aB1)] H lk = some (.bool r, H) := by
 refine run_start Try.func14 rfl Try.ntmps14 Try.results14 rfl rfl fun hO => ?_
 unfold f14 at hk
 refine lsq (lrg (pBox (cs := [_, _, _, _]) hO tZ42 (fun b1 G hO => ?_)))
 refine pBox (cs := [_, _, _, _]) hO tZ42 (fun b2 G hO => ?_)
 refine pA (.bool _) (pE (gn (lsq (lsq (lrg ?_)))))
 refine pFL tF42_0 hO 1 (.bool _) tA4 ?_
 refine pFL tF42_0 hO 0 (.bool _) tA4 ?_
 refine pBn Try.underlying4 (pE (gn (lck hk (fun hk => ?_) (fun hk => ?_))))
 ·refine lsq (lrg (pA (.bool _) (pE (gn (lrt (gr ?_))))))
  cases hk; exact fin0 hO
 ·refine lsk (gn (lsq (lsq (lrg (pFL tF42_1 hO 1 (.lit _ _ _) tA27 ?_)))))
  refine pFL tF42_1 hO 0 (.lit _ _ _) tA27 (bk hk fun v3 hv3 hk => ?_)
  refine pCall (fun _ => f44_run hv3) ?_
  refine pU (pE (gn (lck hk (fun hk => ?_) (fun hk => ?_))))
  ·refine lsq (lrg (pA (.bool _) (pE (gn (lrt (gr ?_))))))
   cases hk; exact fin0 hO
  ·refine lsk (gn (lsq (lsq (lrg (pFL tF42_2 hO 1 (.lit _ _ _) tA39 ?_)))))
   refine pFL tF42_2 hO 0 (.lit _ _ _) tA39 (bk hk fun v4 hv4 hk => ?_)
   refine pCall (fun _ => f45_run hv4) ?_
   refine pU (pE (gn (lck hk (fun hk => ?_) (fun hk => ?_))))
   ·refine lsq (lrg (pA (.bool _) (pE (gn (lrt (gr ?_))))))
    cases hk; exact fin0 hO
   ·refine lsk (gn (lsq (lsq (lrg (pFL tF42_3 hO 1 (.lit _ _ _) tA40 ?_)))))
    refine pFL tF42_3 hO 0 (.lit _ _ _) tA40 (bk hk fun v5 hv5 hk => ?_)
    refine pCall (fun _ => f46_run hv5) ?_
    refine pU (pE (gn (lck hk (fun hk => ?_) (fun hk => ?_))))
    ·refine lsq (lrg (pA (.bool _) (pE (gn (lrt (gr ?_))))))
     cases hk; exact fin0 hO
    ·refine lsk (gn (lsq (lrg (pA (.bool _) (pE (gn (lrt ?_)))))))
     cases hk; exact fin0 hO
def f6 (aAP0 : Plan) (aAF1 : Frame) (aAWay2 : Int) : Option Bool :=
 ((f7 aAP0 (1048576:Int)).bind fun v3 => (bif decide (v3 < (0:Int)) then some true else ((f8 aAF1 v3).bind fun v4 => (bif decide (v4 < (0:Int)) then some true else ((f10 aAP0).bind fun v5 => ((f11 aAF1).bind fun v6 => ((f19 v5 v6 aAWay2).bind fun v7 => ((f10 aAP0).bind fun v8 => ((f11 aAF1).bind fun v10 => ((f20 v8 v10 aAWay2).bind fun v12 => (bif (v12 != v7) then some false else ((f10 aAP0).bind fun v13 => ((f13 v8 v13).bind fun v14 => (bif !v14 then some false else ((f11 aAF1).bind fun v15 => ((f14 v10 v15).bind fun v16 => (bif !v16 then some false else some true)))))))))))))))))
theorem f6_run {aAP0 : Plan} {aAF1 : Frame} {aAWay2 : Int} {r : Bool} {l1 l2 m3 l4 m5 l6 l7 l8 m9 : Nat} (hk : f6 aAP0 aAF1 aAWay2 = some r) (hlk : 0 < lk.length := by simp) (hlo : LkOk lk H.length := by simp [LkOk]) : runL Try.prog hh 6 [.agg (cPlan l1 0 l2 m3 l4 m5 aAP0), .agg (cFrame l6 0 l7 0 l8 m9 aAF1), iv aAWay2] H lk = some (.bool r, H) := by
 refine run_start Try.func6 rfl Try.ntmps6 Try.results6 rfl rfl fun hO => ?_
 unfold f6 at hk
 refine lsq (lrg (pBox (cs := [_, _, _, _, _]) hO tZ26 (fun b1 G hO => ?_)))
 refine pBox (cs := [_, _, _, _]) hO tZ31 (fun b2 G hO => ?_)
 refine pA (.bool _) (pE (gn (lsq (lrg ?_))))
 refine pA (.int _ _) (pE (gn (lsq (lrg ?_))))
 refine pLs hO 1 [_, _, _, _, _] tA26 tZ26 ?_
 refine pM (.int _ _) (bk hk fun v3 hv3 hk => ?_)
 refine pCall (fun _ => f7_run hv3) ?_
 refine pA (.int _ _) (pE (gn (lsq (lsq (lrg ?_)))))
 refine pM (.int _ _) ?_
 refine pBi (pE (gn (lck hk (fun hk => ?_) (fun hk => ?_))))
 ·refine lsq (lrg (pA (.bool _) (pE (gn (lrt (gr ?_))))))
  cases hk; exact fin0 hO
 ·refine lsk (gn (lsq (lrg (pLs hO 0 [_, _, _, _] tA31 tZ31 ?_))))
  refine pM (.int _ _) (bk hk fun v4 hv4 hk => ?_)
  refine pCall (fun _ => f8_run hv4) ?_
  refine pA (.int _ _) (pE (gn (lsq (lsq (lrg ?_)))))
  refine pM (.int _ _) ?_
  refine pBi (pE (gn (lck hk (fun hk => ?_) (fun hk => ?_))))
  ·refine lsq (lrg (pA (.bool _) (pE (gn (lrt (gr ?_))))))
   cases hk; exact fin0 hO
  ·refine lsk (gn (lsq (wpL_drw [(0, true), (2, true), (4, true), (1, true), (3, false), (5, false), (6, false)] [_, _, _, _, _, _, _] (by decide +kernel) (by rfl) ?_)))
   refine pLs hO 1 [_, _, _, _, _] tA26 tZ26 ?_
   refine pLs hO 0 [_, _, _, _] tA31 tZ31 ?_
   refine pM (.int _ _) (bk hk fun v5 hv5 hk => ?_)
   refine pCall (fun _ => f10_run hv5) (bk hk fun v6 hv6 hk => ?_)
   refine pCall (fun _ => f11_run hv6) (bk hk fun v7 hv7 hk => ?_)
   refine pCallL hO hlo rfl (fun _ hl => f19_run hv7 (hlo := hl)) ?_
   refine pA (.int _ _) (pE (gn (lsq (lrg ?_))))
   refine pLs hO 1 [_, _, _, _, _] tA26 tZ26 (bk hk fun v8 hv8 hk => ?_)
   refine pCall (fun _ => f10_run hv8) (pNew hO tZ37 t037 (fun b9 G hO => ?_))
   refine pSt (xs := [_, _, _, _, _]) hO 0 tZ37 rfl (fun G hO => pE (gn (lsq (lrg ?_))))
   refine pLs hO 1 [_, _, _, _] tA31 tZ31 (bk hk fun v10 hv10 hk => ?_)
   refine pCall (fun _ => f11_run hv10) (pNew hO tZ42 t042 (fun b11 G hO => ?_))
   refine pSt (xs := [_, _, _, _]) hO 0 tZ42 rfl (fun G hO => pE (gn (lsq (lrg ?_))))
   refine pLs hO 1 [_, _, _, _, _] tA37 tZ37 ?_
   refine pLs hO 0 [_, _, _, _] tA42 tZ42 ?_
   refine pM (.int _ _) (bk hk fun v12 hv12 hk => ?_)
   refine pCallL hO hlo rfl (fun _ hl => f20_run hv12 (hlo := hl)) ?_
   refine pA (.int _ _) (pE (gn (lsq (lsq (lrg ?_)))))
   refine pM (.int _ _) ?_
   refine pM (.int _ _) ?_
   refine pBi (pE (gn (lck hk (fun hk => ?_) (fun hk => ?_))))
   ·refine lsq (lrg (pA (.bool _) (pE (gn (lrt (gr ?_))))))
    cases hk; exact fin0 hO
   ·refine lsk (gn (lsq (lsq (wpL_drw [(0, true), (1, true), (2, true), (3, false), (4, false)] [_, _, _, _, _] (by decide +kernel) (by rfl) ?_))))
    refine pLs hO 1 [_, _, _, _, _] tA37 tZ37 ?_
    refine pLs hO 3 [_, _, _, _, _] tA26 tZ26 (bk hk fun v13 hv13 hk => ?_)
    refine pCall (fun _ => f10_run hv13) (bk hk fun v14 hv14 hk => ?_)
    refine pCall (fun _ => f13_run hv14) ?_
    refine pU (pE (gn (lck hk (fun hk => ?_) (fun hk => ?_))))
    ·refine lsq (lrg (pA (.bool _) (pE (gn (lrt (gr ?_))))))
     cases hk; exact fin0 hO
    ·refine lsk (gn (lsq (lsq (wpL_drw [(0, true), (1, true), (2, true), (3, false), (4, false)] [_, _, _, _, _] (by decide +kernel) (by rfl) ?_))))
     refine pLs hO 0 [_, _, _, _] tA42 tZ42 ?_
     refine pLs hO 2 [_, _, _, _] tA31 tZ31 (bk hk fun v15 hv15 hk => ?_)
     refine pCall (fun _ => f11_run hv15) (bk hk fun v16 hv16 hk => ?_)
     refine pCall (fun _ => f14_run hv16) ?_
     refine pU (pE (gn (lck hk (fun hk => ?_) (fun hk => ?_))))
     ·refine lsq (lrg (pA (.bool _) (pE (gn (lrt (gr ?_))))))
      cases hk; exact fin0 hO
     ·refine lsk (gn (lsq (lrg (pA (.bool _) (pE (gn (lrt ?_)))))))
      cases hk; exact fin0 hO
end
end Go.Proofs.Ytphpkphklegfeaa.K
