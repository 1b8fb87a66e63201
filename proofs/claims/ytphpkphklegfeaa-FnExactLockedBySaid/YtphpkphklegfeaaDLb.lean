/-
 The functions that FnExactLockedBy reaches, as typed Lean functions, and that the interpreter computes them. Part 3 of 3. No conditions.
-/
import Derived.Test.YtphpkphklegfeaaDLbb
set_option linter.unusedVariables false
set_option linter.unusedSimpArgs false
set_option maxRecDepth 100000
namespace Go.Proofs.Ytphpkphklegfeaa.K
noncomputable section
def f40_L3 (aP0 : Plan) (aF1 : Frame) (x9 : Int) (c10 : Held) : Int → Option (Int ⊕ (Int ⊕ Bool)) := fun s =>
 (bif decide (s < x9) then ((bif (c10.State != (0:Int)) then ((getI aF1.Ways s).bind fun c16 => some (c16.State != (0:Int))) else some false).bind fun t15 => ((bif t15 then ((getI aP0.Bars x9).bind fun c18 => ((getI c18 s).bind fun c19 => some c19)) else some false).bind fun t17 => (bif t17 then (((some false).map Sum.inr).map Sum.inr) else some (.inl (w64 (s + (1:Int))))))) else ((some (.inl (w64 (x9 + (1:Int))))).map Sum.inr))
def f40_L2 (aP0 : Plan) (aF1 : Frame) : Int → Option (Int ⊕ Bool) := fun s =>
 (bif decide (s < (aF1.Ways.length : Int)) then ((getI aF1.Ways s).bind fun c10 => ((getI aP0.Ways s).bind fun c12 => ((f62 aP0 c10 c12).bind fun v13 => (bif !v13 then ((some false).map Sum.inr) else (loopO (f40_L3 aP0 aF1 s c10) ((0:Int))))))) else (((f63 aF1).bind fun v20 => ((f64 aP0 v20).bind fun z33 => ((f65 aF1 z33).bind fun v35 => some v35))).map Sum.inr))
def f40_L1 (aP0 : Plan) (aF1 : Frame) : Int → Option (Int ⊕ Bool) := fun s =>
 (bif decide (s < (aF1.Points.length : Int)) then ((getI aF1.Points s).bind fun c4 => ((f48 c4.Want (1:Int) (2:Int)).bind fun v6 => ((bif !v6 then some true else ((f48 c4.Lies (0:Int) (2:Int)).bind fun v8 => some (!v8))).bind fun t7 => (bif t7 then ((some false).map Sum.inr) else some (.inl (w64 (s + (1:Int)))))))) else ((loopO (f40_L2 aP0 aF1) ((0:Int))).map Sum.inr))
def f40 (aP0 : Plan) (aF1 : Frame) : Option Bool :=
 (bif (((!aF1.Ok || ((aF1.Occ.length : Int) != aP0.Sections)) || ((aF1.Points.length : Int) != (aP0.Switches.length : Int))) || ((aF1.Ways.length : Int) != (aP0.Ways.length : Int))) then some false else (loopO (f40_L1 aP0 aF1) ((0:Int))))
theorem f40_run {aP0 : Plan} {aF1 : Frame} {r : Bool} {l1 l2 m3 l4 m5 l6 l7 l8 : Nat} {H : Heap} {lk : Lk} (hk : f40 aP0 aF1 = some r) (hlk : 0 < lk.length := by simp) (hlo : LkOk lk H.length := by simp [LkOk]) : runL Try.prog hh 40 [.agg [.int .i64 aP0.Sections, litL l1 0 aP0.Switches, litL l2 m3 aP0.Ways, litL l4 m5 aP0.Bars, .int .i64 aP0.Hold], .agg [.bool aF1.Ok, litL l6 0 aF1.Occ, litL l7 0 aF1.Points, litL l8 0 aF1.Ways]] H lk = some (.bool r, H) := by
 refine run_start Try.func40 rfl Try.ntmps40 Try.results40 rfl rfl fun hO => ?_
 unfold f40 at hk
 refine lsq (lrg (pBox (cs := [_, _, _, _, _]) hO tZ37 (fun b1 G hO => ?_)))
 refine pBox (cs := [_, _, _, _]) hO tZ42 (fun b2 G hO => ?_)
 refine pA (.bool _) (pE (gn (lsq (lsq (lrg ?_)))))
 refine pFL tF42_0 hO 0 (.bool _) tA4 ?_
 refine pU ?_
 refine pM (.bool _) ?_
 refine wpR_mid (l1 := [_, _, _, _, _, _, _]) (fun S' => ∃ J, S' = ⟨hav [(2, .ptr b1 0), (3, .ptr b2 0), (21, .bool (!aF1.Ok || ((aF1.Occ.length : Int) != aP0.Sections)))] J, G⟩) ?_ ?_
 ·refine bc (b := !aF1.Ok) (fun hg1 => ?_) (fun hg1 => ?_)
  ·refine pGn hg1 (pGn hg1 (pGn hg1 (pGn hg1 (pGn hg1 (pGn hg1 (pPt hg1 (.bool _) ?_))))))
   exact pE ⟨_, St.hav _ ⟨rfl, rfl, by rw [hg1]; rfl, trivial⟩⟩
  ·refine pGy hg1 (pF tF42_1 (pGy hg1 ?_))
   refine pLo hO 0 (.lit _ _ _) tA27 (pGy hg1 ?_)
   refine pLen tS27 (pGy hg1 ?_)
   refine pF tF37_0 (pGy hg1 ?_)
   refine pLo hO 1 (.int _ _) tA3 (pGy hg1 ?_)
   refine pBi ?_
   refine pPf hg1 (.bool _) ?_
   exact pE ⟨_, St.hav _ ⟨rfl, rfl, by rw [hg1]; rfl, trivial⟩⟩
 ·rintro _ ⟨J, rfl⟩
  refine pM (.bool _) ?_
  refine wpR_mid (l1 := [_, _, _, _, _, _, _, _]) (fun S' => ∃ J, S' = ⟨hav [(2, .ptr b1 0), (3, .ptr b2 0), (30, .bool ((!aF1.Ok || ((aF1.Occ.length : Int) != aP0.Sections)) || ((aF1.Points.length : Int) != (aP0.Switches.length : Int))))] J, G⟩) ?_ ?_
  ·refine bc (b := (!aF1.Ok || ((aF1.Occ.length : Int) != aP0.Sections))) (fun hg1 => ?_) (fun hg1 => ?_)
   ·refine pGn hg1 (pGn hg1 (pGn hg1 (pGn hg1 (pGn hg1 (pGn hg1 (pGn hg1 (pPt hg1 (.bool _) ?_)))))))
    exact pE ⟨_, St.hav _ ⟨rfl, rfl, by rw [hg1]; rfl, trivial⟩⟩
   ·refine pGy hg1 (pF tF42_2 (pGy hg1 ?_))
    refine pLo hO 0 (.lit _ _ _) tA39 (pGy hg1 ?_)
    refine pLen tS39 (pGy hg1 ?_)
    refine pF tF37_1 (pGy hg1 ?_)
    refine pLo hO 1 (.lit _ _ _) tA22 (pGy hg1 ?_)
    refine pLen tS22 (pGy hg1 ?_)
    refine pBi ?_
    refine pPf hg1 (.bool _) ?_
    exact pE ⟨_, St.hav _ ⟨rfl, rfl, by rw [hg1]; rfl, trivial⟩⟩
  ·rintro _ ⟨J, rfl⟩
   refine pM (.bool _) ?_
   refine wpR_mid (l1 := [_, _, _, _, _, _, _, _]) (fun S' => ∃ J, S' = ⟨hav [(2, .ptr b1 0), (3, .ptr b2 0), (39, .bool (((!aF1.Ok || ((aF1.Occ.length : Int) != aP0.Sections)) || ((aF1.Points.length : Int) != (aP0.Switches.length : Int))) || ((aF1.Ways.length : Int) != (aP0.Ways.length : Int))))] J, G⟩) ?_ ?_
   ·refine bc (b := ((!aF1.Ok || ((aF1.Occ.length : Int) != aP0.Sections)) || ((aF1.Points.length : Int) != (aP0.Switches.length : Int)))) (fun hg1 => ?_) (fun hg1 => ?_)
    ·refine pGn hg1 (pGn hg1 (pGn hg1 (pGn hg1 (pGn hg1 (pGn hg1 (pGn hg1 (pPt hg1 (.bool _) ?_)))))))
     exact pE ⟨_, St.hav _ ⟨rfl, rfl, by rw [hg1]; rfl, trivial⟩⟩
    ·refine pGy hg1 (pF tF42_3 (pGy hg1 ?_))
     refine pLo hO 0 (.lit _ _ _) tA40 (pGy hg1 ?_)
     refine pLen tS40 (pGy hg1 ?_)
     refine pF tF37_2 (pGy hg1 ?_)
     refine pLo hO 1 (.lit _ _ _) tA35 (pGy hg1 ?_)
     refine pLen tS35 (pGy hg1 ?_)
     refine pBi ?_
     refine pPf hg1 (.bool _) ?_
     exact pE ⟨_, St.hav _ ⟨rfl, rfl, by rw [hg1]; rfl, trivial⟩⟩
   ·rintro _ ⟨J, rfl⟩
    refine pE (gn (lck hk (fun hk => ?_) (fun hk => ?_)))
    ·refine lsq (lrg (pA (.bool _) (pE (gn (lrt (gr ?_))))))
     cases hk; exact fin0 hO
    ·refine lsk (gn (lsq (lsq (lrg (pFL tF42_2 hO 0 (.lit _ _ _) tA39 ?_)))))
     refine pLen tS39 ?_
     refine pM (.int _ _) (pE (gn (lbl ?_)))
     refine wpL_loopO (F := f40_L1 aP0 aF1) (fun s S' => ∃ (J : Nat → V) (G : Heap), Owns H G [.blk b2 (.cells 4 [.bool aF1.Ok, litL l6 0 aF1.Occ, litL l7 0 aF1.Points, litL l8 0 aF1.Ways]), .blk b1 (.cells 5 [.int .i64 aP0.Sections, litL l1 0 aP0.Switches, litL l2 m3 aP0.Ways, litL l4 m5 aP0.Bars, .int .i64 aP0.Hold])] ∧ S' = ⟨hav [(2, .ptr b1 0), (3, .ptr b2 0), (41, litL l7 0 aF1.Points), (42, .int .i64 (aF1.Points.length : Int)), (43, .int .i64 s)] J, G⟩) hk ⟨_, _, hO, sh⟩ ?_
     rintro x3 _ y1 ⟨J, G, hO, rfl⟩ hk hx1
     refine lsq (lrg (pBi (pE (gn (lsq (lck hk (fun hk => ?_) (fun hk => ?_)))))))
     ·refine lsk (gn (lsq (lbl (lsq (lrg (bk hk fun c4 hc4 hk => pX hc4 tE39 tZ58 ?_))))))
      refine pLp (.agg [_, _]) (rd2 (lm := 0) (off := 0) hc4 tA58 tZ58) (pNew hO tZ58 t058 (fun b5 G hO => ?_))
      refine pSt (xs := [_, _]) hO 0 tZ58 rfl (fun G hO => pE (gn (lsq (lrg ?_))))
      refine pFL tF58_0 hO 0 (.int _ _) tA3 (bk hk fun v6 hv6 hk => ?_)
      refine pCall (fun _ => f48_run hv6) ?_
      refine pU ?_
      refine pM (.bool _) (bk hk fun t7 ht hk => ?_)
      refine wpR_mid (l1 := [_, _, _, _, _]) (fun S' => ∃ J, S' = ⟨hav [(2, .ptr b1 0), (3, .ptr b2 0), (41, litL l7 0 aF1.Points), (42, .int .i64 (aF1.Points.length : Int)), (43, .int .i64 x3), (56, .bool t7)] J, G⟩) ?_ ?_
      ·refine bc (b := !v6) (fun hg1 => ?_) (fun hg1 => ?_)
       ·replace hk := ct hg1 ht
        refine pGn hg1 (pGn hg1 (pGn hg1 (pGn hg1 (pPt hg1 (.bool _) ?_))))
        cases hk; exact pE ⟨_, sh⟩
       ·replace hk := cf hg1 ht
        refine pGy hg1 (pF tF58_1 (pGy hg1 ?_))
        refine pLo hO 0 (.int _ _) tA3 (pGy hg1 (bk hk fun v8 hv8 hk => ?_))
        refine pCall (fun _ => f48_run hv8) (pGy hg1 ?_)
        refine pU ?_
        refine pPf hg1 (.bool _) ?_
        cases hk; exact pE ⟨_, sh⟩
      ·rintro _ ⟨J, rfl⟩
       refine pE (gn (lck hk (fun hk => ?_) (fun hk => ?_)))
       ·refine lsq (lrg (pA (.bool _) (pE (gn (lrt (br (gr (gr (br (gr (have hk := lx hx1 hk; ?_)))))))))))
        cases hk; exact fin0 hO
       ·refine lsk (bn (gn (lrg (pBi ?_))))
        refine pM (.int _ _) (pE (gn ?_))
        cases hk; exact ⟨_, rfl, _, _, (pk hO [1, 2]), sh⟩
     ·refine lex (ge (ge (be (gn (have hk := lx hx1 hk; lsq (lsq (lrg (pFL tF42_3 hO 0 (.lit _ _ _) tA40 ?_))))))))
      refine pLen tS40 ?_
      refine pM (.int _ _) (pE (gn (lbl ?_)))
      refine wpL_loopO (F := f40_L2 aP0 aF1) (fun s S' => ∃ (J : Nat → V) (G : Heap), Owns H G [.blk b2 (.cells 4 [.bool aF1.Ok, litL l6 0 aF1.Occ, litL l7 0 aF1.Points, litL l8 0 aF1.Ways]), .blk b1 (.cells 5 [.int .i64 aP0.Sections, litL l1 0 aP0.Switches, litL l2 m3 aP0.Ways, litL l4 m5 aP0.Bars, .int .i64 aP0.Hold])] ∧ S' = ⟨hav [(2, .ptr b1 0), (3, .ptr b2 0), (59, litL l8 0 aF1.Ways), (60, .int .i64 (aF1.Ways.length : Int)), (61, .int .i64 s)] J, G⟩) hk ⟨_, _, hO, sh⟩ ?_
      rintro x9 _ y1 ⟨J, G, hO, rfl⟩ hk hx1
      refine lsq (lrg (pBi (pE (gn (lsq (lck hk (fun hk => ?_) (fun hk => ?_)))))))
      ·refine lsk (gn (lsq (lbl (lsq (lrg (pM (.int _ _) (bk hk fun c10 hc10 hk => ?_)))))))
       refine pX hc10 tE40 tZ61 ?_
       refine pLp (.agg [_, _, _, _, _]) (rd2 (lm := 0) (off := 0) hc10 tA61 tZ61) (pNew hO tZ61 t061 (fun b11 G hO => ?_))
       refine pA (.int _ _) ?_
       refine pSt (xs := [_, _, _, _, _]) hO 0 tZ61 rfl (fun G hO => pE (gn (lsq (lsq ?_))))
       refine wpL_drw [(0, true), (1, true), (2, true), (3, true), (4, true), (5, true), (6, true), (7, false), (8, false)] [_, _, _, _, _, _, _, _, _] (by decide +kernel) (by rfl) ?_
       refine pLs hO 2 [_, _, _, _, _] tA37 tZ37 ?_
       refine pLs hO 0 [_, _, _, _, _] tA61 tZ61 ?_
       refine pFL tF37_2 hO 2 (.lit _ _ _) tA35 ?_
       refine pM (.int _ _) (bk hk fun c12 hc12 hk => ?_)
       refine pX hc12 tE35 tZ89 ?_
       refine pLp (.agg [_, _, _, _, _]) (rd2 (lm := m3) (off := 0) hc12 tA89 tZ89) (bk hk fun v13 hv13 hk => ?_)
       refine pCall (fun _ => f62_run hv13) ?_
       refine pU (pE (gn (lck hk (fun hk => ?_) (fun hk => ?_))))
       ·refine lsq (lrg (pA (.bool _) (pE (gn (lrt (gr (br (gr (gr (br (gr (have hk := lx hx1 hk; ?_))))))))))))
        cases hk; exact fin0 hO
       ·refine lsk (gn (lsq (lrg (pM (.int _ _) ?_))))
        refine pM (.int _ _) (pE (gn (lbl ?_)))
        refine wpL_loopO (F := f40_L3 aP0 aF1 x9 c10) (fun s S' => ∃ (J : Nat → V) (G : Heap), Owns H G [.blk b11 (.cells 5 [.int .i64 c10.State, .int .i64 c10.Gone, litL 0 0 c10.Been, .bool c10.Shown, .int .i64 c10.Timer]), .blk b2 (.cells 4 [.bool aF1.Ok, litL l6 0 aF1.Occ, litL l7 0 aF1.Points, litL l8 0 aF1.Ways]), .blk b1 (.cells 5 [.int .i64 aP0.Sections, litL l1 0 aP0.Switches, litL l2 m3 aP0.Ways, litL l4 m5 aP0.Bars, .int .i64 aP0.Hold])] ∧ S' = ⟨hav [(2, .ptr b1 0), (3, .ptr b2 0), (7, .int .i64 x9), (8, .ptr b11 0), (59, litL l8 0 aF1.Ways), (60, .int .i64 (aF1.Ways.length : Int)), (61, .int .i64 x9), (75, .int .i64 x9), (76, .int .i64 s)] J, G⟩) hk ⟨_, _, hO, sh⟩ ?_
        rintro x14 _ y2 ⟨J, G, hO, rfl⟩ hk hx2
        refine lsq (lrg (pBi (pE (gn (lsq (lck hk (fun hk => ?_) (fun hk => ?_)))))))
        ·refine lsk (gn (lsq (lbl (lsq (lrg (pM (.int _ _) ?_))))))
         refine pA (.int _ _) (pE (gn (lsq (lrg ?_))))
         refine pFL tF61_0 hO 0 (.int _ _) tA3 ?_
         refine pBi ?_
         refine pM (.bool _) (bk hk fun t15 ht hk => ?_)
         refine wpR_mid (l1 := [_, _, _, _, _, _, _, _]) (fun S' => ∃ J, S' = ⟨hav [(2, .ptr b1 0), (3, .ptr b2 0), (7, .int .i64 x9), (8, .ptr b11 0), (9, .int .i64 x14), (59, litL l8 0 aF1.Ways), (60, .int .i64 (aF1.Ways.length : Int)), (61, .int .i64 x9), (75, .int .i64 x9), (76, .int .i64 x14), (90, .bool t15)] J, G⟩) ?_ ?_
         ·refine bc (b := (c10.State != (0:Int))) (fun hg1 => ?_) (fun hg1 => ?_)
          ·replace hk := ct hg1 ht
           refine pGy hg1 (pF tF42_3 (pGy hg1 ?_))
           refine pLo hO 1 (.lit _ _ _) tA40 (pGy hg1 ?_)
           refine pM (.int _ _) (pGy hg1 (bk hk fun c16 hc16 hk => ?_))
           refine pX hc16 tE40 tZ61 (pGy hg1 ?_)
           refine pF tF61_0 (pGy hg1 ?_)
           refine pLp (.int _ _) (rd1 (lm := 0) (off := 0) hc16 tA3) (pGy hg1 ?_)
           refine pBi ?_
           refine pPt hg1 (.bool _) ?_
           cases hk; exact pE ⟨_, sh⟩
          ·replace hk := cf hg1 ht
           refine pGn hg1 (pGn hg1 (pGn hg1 (pGn hg1 (pGn hg1 (pGn hg1 (pGn hg1 (pPf hg1 (.bool _) ?_)))))))
           cases hk; exact pE ⟨_, sh⟩
         ·rintro _ ⟨J, rfl⟩
          refine pM (.bool _) (bk hk fun t17 ht hk => ?_)
          refine wpR_mid (l1 := [_, _, _, _, _, _, _, _, _]) (fun S' => ∃ J, S' = ⟨hav [(2, .ptr b1 0), (3, .ptr b2 0), (7, .int .i64 x9), (8, .ptr b11 0), (59, litL l8 0 aF1.Ways), (60, .int .i64 (aF1.Ways.length : Int)), (61, .int .i64 x9), (75, .int .i64 x9), (76, .int .i64 x14), (100, .bool t17)] J, G⟩) ?_ ?_
          ·refine bc (b := t15) (fun hg1 => ?_) (fun hg1 => ?_)
           ·replace hk := ct hg1 ht
            refine pGy hg1 (pF tF37_3 (pGy hg1 ?_))
            refine pLo hO 2 (.lit _ _ _) tA24 (pGy hg1 ?_)
            refine pM (.int _ _) (pGy hg1 (bk hk fun c18 hc18 hk => ?_))
            refine pX hc18 tE24 tZ27 (pGy hg1 ?_)
            refine pLp (.lit _ _ _) (rd1 (lm := m5) (off := 0) hc18 tA27) (pGy hg1 ?_)
            refine pM (.int _ _) (pGy hg1 (bk hk fun c19 hc19 hk => ?_))
            refine pX hc19 tE27 tZ4 (pGy hg1 ?_)
            refine pLp (.bool _) (rd1 (lm := 0) (off := 0) hc19 tA4) ?_
            refine pPt hg1 (.bool _) ?_
            cases hk; exact pE ⟨_, sh⟩
           ·replace hk := cf hg1 ht
            refine pGn hg1 (pGn hg1 (pGn hg1 (pGn hg1 (pGn hg1 (pGn hg1 (pGn hg1 (pGn hg1 (pPf hg1 (.bool _) ?_))))))))
            cases hk; exact pE ⟨_, sh⟩
          ·rintro _ ⟨J, rfl⟩
           refine pE (gn (lck hk (fun hk => ?_) (fun hk => ?_)))
           ·refine lsq (lrg (pA (.bool _) (pE (gn (lrt (br (gr (gr (br (br (gr (gr (br (gr (have hk := lx hx2 hk; have hk := lx hx1 hk; ?_)))))))))))))))
            cases hk; exact fin0 hO
           ·refine lsk (bn (gn (lrg (pBi ?_))))
            refine pM (.int _ _) (pE (gn ?_))
            cases hk; exact ⟨_, rfl, _, _, hO, sh⟩
        ·refine lex (ge (ge (be (bn (gn (have hk := lx hx2 hk; lrg (pBi ?_)))))))
         refine pM (.int _ _) (pE (gn ?_))
         cases hk; exact ⟨_, rfl, _, _, (pk hO [1, 2]), sh⟩
      ·refine lex (ge (ge (be (gn (have hk := lx hx1 hk; lsq (lrg (pLs hO 0 [_, _, _, _] tA42 tZ42 (bk hk fun v20 hv20 hk => ?_))))))))
       refine pCNs hO (fun _ => f63_run hv20) (fun u21 F21 G hO => ?_)
       replace hO : Owns H G (Tree [] _ ((v20.Ok, v20.Occ, v20.Points, v20.Ways) : Bool × (List Bool) × (List Point) × (List Held)) _ :: [.blk b2 (.cells 4 [.bool aF1.Ok, litL l6 0 aF1.Occ, litL l7 0 aF1.Points, litL l8 0 aF1.Ways]), .blk b1 (.cells 5 [.int .i64 aP0.Sections, litL l1 0 aP0.Switches, litL l2 m3 aP0.Ways, litL l4 m5 aP0.Bars, .int .i64 aP0.Hold])]) := hO
       obtain ⟨cs22, Fb22, he, hP⟩ := Owns.splitS hO
       clear hO; subst he; have hO := hP; clear hP
       obtain ⟨u23, cs23, F23, Fb23, he, hP⟩ := Owns.splitL hO
       clear hO; subst he; have hO := hP; clear hP
       obtain ⟨u25, cs25, F25, Fb25, he, hP⟩ := Owns.splitL hO
       clear hO; subst he; have hO := hP; clear hP
       obtain ⟨u27, rfl⟩ := Owns.lastL hO
       refine pNew hO tZ42 t042 (fun b29 G hO => ?_)
       have hc30 := tl_cells hO (j := 3) rfl
       have hc31 := tl_cells hO (j := 2) rfl
       have hc32 := tl_cells hO (j := 1) rfl
       refine pSt (xs := [_, _, _, _]) hO 0 tZ42 rfl (fun G hO => ?_) (h6 := (all_c rfl (all_c hc30.2 (all_c hc31.2 (all_c hc32.2 all_n)))))
       refine pE (gn (lsq (lrg (pLs hO 5 [_, _, _, _, _] tA37 tZ37 ?_))))
       replace hO := (Owns.pick hO [0, 3, 2, 1, 4, 5] (by decide) rfl : Owns H G ([.blk b29 (.cells 4 [.bool v20.Ok, u23, u25, u27]), Tree [] F23 v20.Occ [u23], Tree [] F25 v20.Points [u25], Tree [] Fb25 v20.Ways [u27]] ++ [.blk b2 (.cells 4 [.bool aF1.Ok, litL l6 0 aF1.Occ, litL l7 0 aF1.Points, litL l8 0 aF1.Ways]), .blk b1 (.cells 5 [.int .i64 aP0.Sections, litL l1 0 aP0.Switches, litL l2 m3 aP0.Ways, litL l4 m5 aP0.Bars, .int .i64 aP0.Hold])]))
       refine bk hk fun z33 hz33 hk => pCGd (rs0 := [.blk b29 (.cells 4 [.bool v20.Ok, u23, u25, u27]), Tree [] F23 v20.Occ [u23], Tree [] F25 v20.Points [u25], Tree [] Fb25 v20.Ways [u27]]) (rs1 := fun (Fs34 : List Nat × List Nat × List Nat) => [.blk b29 (.cells 4 [.bool z33.Ok, u23, u25, u27]), Tree [] Fs34.1 z33.Occ [u23], Tree [] Fs34.2.1 z33.Points [u25], Tree [] Fs34.2.2 z33.Ways [u27]]) (rest := [.blk b2 (.cells 4 [.bool aF1.Ok, litL l6 0 aF1.Occ, litL l7 0 aF1.Points, litL l8 0 aF1.Ways]), .blk b1 (.cells 5 [.int .i64 aP0.Sections, litL l1 0 aP0.Switches, litL l2 m3 aP0.Ways, litL l4 m5 aP0.Bars, .int .i64 aP0.Hold])]) (S := (b29 :: (F23 ++ (F25 ++ (Fb25 ++ []))))) hO hlo rfl (nums_S rfl) (nums_S' rfl) (Owns.lo hO) (fun _ hl1 hlt1 hun1 ho1 => f64_run hz33 ho1 hun1 hlt1 hl1) (fun _ => (inC rfl (inC rfl (inC rfl (inC rfl inN))))) (fun Fs34 G hO => pE (gn (lsq (lrg ?_))))
       refine pLs hO 4 [_, _, _, _] tA42 tZ42 ?_
       refine pLs hO 0 [_, _, _, _] tA42 tZ42 (bk hk fun v35 hv35 hk => ?_)
       obtain ⟨_, hm36⟩ := ld_tr hO (j := 3) rfl (lk.length + 1) 7
       obtain ⟨_, hm37⟩ := ld_trF hO (j := 2) rfl (lk.length + 1) 7
       obtain ⟨_, hm38⟩ := ld_trF hO (j := 1) rfl (lk.length + 1) 7
       refine pCall (vs := [(.agg [_, _, _, _]), (.agg [_, _, _, _])]) (caps := []) (fun _ => f65_run hv35) ?_ (h3 := (la_cons rfl (la_cons (ld_agg (ll_cons rfl (ll_cons hm38 (ll_cons hm37 (ll_cons hm36 ll_nil))))) la_nil)))
       refine pA (.bool _) (pE (gn (lrt ?_)))
       cases hk; exact fin0 hO
def f12 (aP0 : Plan) (aF1 : Frame) : Option Bool :=
 ((f39 aP0).bind fun v3 => ((bif v3 then ((f40 aP0 aF1).bind fun v5 => some v5) else some false).bind fun t4 => some t4))
theorem f12_run {aP0 : Plan} {aF1 : Frame} {r : Bool} {l1 l2 m3 l4 m5 l6 l7 l8 : Nat} {H : Heap} {lk : Lk} (hk : f12 aP0 aF1 = some r) (hlk : 0 < lk.length := by simp) (hlo : LkOk lk H.length := by simp [LkOk]) : runL Try.prog hh 12 [.agg [.int .i64 aP0.Sections, litL l1 0 aP0.Switches, litL l2 m3 aP0.Ways, litL l4 m5 aP0.Bars, .int .i64 aP0.Hold], .agg [.bool aF1.Ok, litL l6 0 aF1.Occ, litL l7 0 aF1.Points, litL l8 0 aF1.Ways]] H lk = some (.bool r, H) := by
 refine run_start Try.func12 rfl Try.ntmps12 Try.results12 rfl rfl fun hO => ?_
 unfold f12 at hk
 refine lsq (lrg (pBox (cs := [_, _, _, _, _]) hO tZ37 (fun b1 G hO => ?_)))
 refine pBox (cs := [_, _, _, _]) hO tZ42 (fun b2 G hO => ?_)
 refine pA (.bool _) (pE (gn (lsq (lrg ?_))))
 refine pLs hO 1 [_, _, _, _, _] tA37 tZ37 (bk hk fun v3 hv3 hk => ?_)
 refine pCall (fun _ => f39_run hv3) ?_
 refine pM (.bool _) (bk hk fun t4 ht hk => ?_)
 refine wpR_mid (l1 := [_, _, _, _]) (fun S' => ∃ J, S' = ⟨hav [(11, .bool t4)] J, G⟩) ?_ ?_
 ·refine bc (b := v3) (fun hg1 => ?_) (fun hg1 => ?_)
  ·replace hk := ct hg1 ht
   refine pGy hg1 (pLs hO 1 [_, _, _, _, _] tA37 tZ37 (pGy hg1 ?_))
   refine pLs hO 0 [_, _, _, _] tA42 tZ42 (pGy hg1 (bk hk fun v5 hv5 hk => ?_))
   refine pCallL hO hlo rfl (fun _ hl => f40_run hv5 (hlo := hl)) ?_
   refine pPt hg1 (.bool _) ?_
   cases hk; exact pE ⟨_, sh⟩
  ·replace hk := cf hg1 ht
   refine pGn hg1 (pGn hg1 (pGn hg1 (pPf hg1 (.bool _) ?_)))
   cases hk; exact pE ⟨_, sh⟩
 ·rintro _ ⟨J, rfl⟩
  refine pA (.bool _) (pE (gn (lrt ?_)))
  cases hk; exact fin0 hO
def f51_L1 (aP0 : Plan) (aF1 : Frame) (aSection2 : Int) : Int → Option (Int ⊕ Int) := fun s =>
 (bif decide (s < (aF1.Ways.length : Int)) then ((getI aF1.Ways s).bind fun c4 => ((bif (c4.State != (0:Int)) then ((getI aP0.Ways s).bind fun c7 => ((f71 c7.Sections aSection2).bind fun v8 => some (decide (v8 ≥ c4.Gone)))) else some false).bind fun t6 => (bif t6 then ((some s).map Sum.inr) else some (.inl (w64 (s + (1:Int))))))) else ((some (-1:Int)).map Sum.inr))
def f51 (aP0 : Plan) (aF1 : Frame) (aSection2 : Int) : Option Int :=
 (loopO (f51_L1 aP0 aF1 aSection2) ((0:Int)))
theorem f51_run {aP0 : Plan} {aF1 : Frame} {aSection2 : Int} {r : Int} {l1 l2 m3 l4 m5 l6 l7 l8 m9 : Nat} {H : Heap} {lk : Lk} (hk : f51 aP0 aF1 aSection2 = some r) (hlk : 0 < lk.length := by simp) : runL Try.prog hh 51 [.agg [.int .i64 aP0.Sections, litL l1 0 aP0.Switches, litL l2 m3 aP0.Ways, litL l4 m5 aP0.Bars, .int .i64 aP0.Hold], .agg [.bool aF1.Ok, litL l6 0 aF1.Occ, litL l7 0 aF1.Points, litL l8 m9 aF1.Ways], .int .i64 aSection2] H lk = some (.int .i64 r, H) := by
 refine run_start Try.func51 rfl Try.ntmps51 Try.results51 rfl rfl fun hO => ?_
 unfold f51 at hk
 refine lsq (lrg (pBox (cs := [_, _, _, _, _]) hO tZ37 (fun b1 G hO => ?_)))
 refine pBox (cs := [_, _, _, _]) hO tZ42 (fun b2 G hO => ?_)
 refine pA (.int _ _) (pE (gn (lsq (lsq (lrg ?_)))))
 refine pFL tF42_3 hO 0 (.lit _ _ _) tA40 ?_
 refine pLen tS40 ?_
 refine pM (.int _ _) (pE (gn (lbl ?_)))
 refine wpL_loopO (F := f51_L1 aP0 aF1 aSection2) (fun s S' => ∃ (J : Nat → V) (G : Heap), Owns H G [.blk b1 (.cells 5 [.int .i64 aP0.Sections, litL l1 0 aP0.Switches, litL l2 m3 aP0.Ways, litL l4 m5 aP0.Bars, .int .i64 aP0.Hold])] ∧ S' = ⟨hav [(2, .int .i64 aSection2), (3, .ptr b1 0), (10, litL l8 m9 aF1.Ways), (11, .int .i64 (aF1.Ways.length : Int)), (12, .int .i64 s)] J, G⟩) hk ⟨_, _, (pk hO [1]), sh⟩ ?_
 rintro x3 _ y1 ⟨J, G, hO, rfl⟩ hk hx1
 refine lsq (lrg (pBi (pE (gn (lsq (lck hk (fun hk => ?_) (fun hk => ?_)))))))
 ·refine lsk (gn (lsq (lbl (lsq (lrg (pM (.int _ _) (bk hk fun c4 hc4 hk => ?_)))))))
  refine pX hc4 tE40 tZ61 ?_
  refine pLp (.agg [_, _, _, _, _]) (rd2 (lm := m9) (off := 0) hc4 tA61 tZ61) (pNew hO tZ61 t061 (fun b5 G hO => ?_))
  refine pA (.int _ _) ?_
  refine pSt (xs := [_, _, _, _, _]) hO 0 tZ61 rfl (fun G hO => pE (gn (lsq ?_)))
  refine wpL_drw [(0, false), (1, true), (2, false), (3, false), (4, true), (5, true), (6, true), (7, true), (8, true), (9, true), (10, true), (12, true), (13, true), (11, true), (14, false), (15, false)] [_, _, _, _, _, _, _, _, _, _, _, _, _, _, _, _] (by decide +kernel) (by rfl) ?_
  refine pFL tF61_0 hO 0 (.int _ _) tA3 ?_
  refine pBi ?_
  refine pM (.bool _) (bk hk fun t6 ht hk => ?_)
  refine wpR_mid (l1 := [_, _, _, _, _, _, _, _, _, _, _, _]) (fun S' => ∃ J, S' = ⟨hav [(2, .int .i64 aSection2), (3, .ptr b1 0), (7, .int .i64 x3), (10, litL l8 m9 aF1.Ways), (11, .int .i64 (aF1.Ways.length : Int)), (12, .int .i64 x3), (32, .bool t6)] J, G⟩) ?_ ?_
  ·refine bc (b := (c4.State != (0:Int))) (fun hg1 => ?_) (fun hg1 => ?_)
   ·replace hk := ct hg1 ht
    refine pGy hg1 (pF tF37_2 (pGy hg1 ?_))
    refine pLo hO 1 (.lit _ _ _) tA35 (pGy hg1 ?_)
    refine pM (.int _ _) (pGy hg1 (bk hk fun c7 hc7 hk => ?_))
    refine pX hc7 tE35 tZ89 (pGy hg1 ?_)
    refine pF tF89_0 (pGy hg1 ?_)
    refine pLp (.lit _ _ _) (rd1 (lm := m3) (off := 0) hc7 tA22) (pGy hg1 ?_)
    refine pM (.int _ _) (pGy hg1 ?_)
    refine pF tF61_1 (pGy hg1 ?_)
    refine pLo hO 0 (.int _ _) tA3 (pGy hg1 (bk hk fun v8 hv8 hk => ?_))
    refine pCall (fun _ => f71_run hv8) (pGy hg1 ?_)
    refine pBi ?_
    refine pPt hg1 (.bool _) ?_
    cases hk; exact pE ⟨_, sh⟩
   ·replace hk := cf hg1 ht
    refine pGn hg1 (pGn hg1 (pGn hg1 (pGn hg1 (pGn hg1 (pGn hg1 (pGn hg1 (pGn hg1 (pGn hg1 (pGn hg1 (pGn hg1 (pPf hg1 (.bool _) ?_)))))))))))
    cases hk; exact pE ⟨_, sh⟩
  ·rintro _ ⟨J, rfl⟩
   refine pE (gn (lck hk (fun hk => ?_) (fun hk => ?_)))
   ·refine lsq (lrg (pM (.int _ _) ?_))
    refine pA (.int _ _) (pE (gn (lrt (br (gr (gr (br (gr (have hk := lx hx1 hk; ?_)))))))))
    cases hk; exact fin0 hO
   ·refine lsk (bn (gn (lrg (pBi ?_))))
    refine pM (.int _ _) (pE (gn ?_))
    cases hk; exact ⟨_, rfl, _, _, (pk hO [1]), sh⟩
 ·refine lex (ge (ge (be (gn (have hk := lx hx1 hk; lsq (lrg (pA (.int _ _) (pE (gn (lrt ?_))))))))))
  cases hk; exact fin0 hO
def f18 (aP0 : Plan) (aF1 : Frame) (aSection2 : Int) : Option Int :=
 ((f12 aP0 aF1).bind fun v3 => ((bif !v3 then some true else ((f48 aSection2 (0:Int) (w64 (aP0.Sections - (1:Int)))).bind fun v5 => some (!v5))).bind fun t4 => (bif t4 then some (-1:Int) else ((f51 aP0 aF1 aSection2).bind fun v6 => some v6))))
theorem f18_run {aP0 : Plan} {aF1 : Frame} {aSection2 : Int} {r : Int} {l1 l2 m3 l4 m5 l6 l7 l8 : Nat} {H : Heap} {lk : Lk} (hk : f18 aP0 aF1 aSection2 = some r) (hlk : 0 < lk.length := by simp) (hlo : LkOk lk H.length := by simp [LkOk]) : runL Try.prog hh 18 [.agg [.int .i64 aP0.Sections, litL l1 0 aP0.Switches, litL l2 m3 aP0.Ways, litL l4 m5 aP0.Bars, .int .i64 aP0.Hold], .agg [.bool aF1.Ok, litL l6 0 aF1.Occ, litL l7 0 aF1.Points, litL l8 0 aF1.Ways], .int .i64 aSection2] H lk = some (.int .i64 r, H) := by
 refine run_start Try.func18 rfl Try.ntmps18 Try.results18 rfl rfl fun hO => ?_
 unfold f18 at hk
 refine lsq (lrg (pBox (cs := [_, _, _, _, _]) hO tZ37 (fun b1 G hO => ?_)))
 refine pBox (cs := [_, _, _, _]) hO tZ42 (fun b2 G hO => ?_)
 refine pA (.int _ _) (pE (gn (lsq (lsq (lrg ?_)))))
 refine pLs hO 1 [_, _, _, _, _] tA37 tZ37 ?_
 refine pLs hO 0 [_, _, _, _] tA42 tZ42 (bk hk fun v3 hv3 hk => ?_)
 refine pCallL hO hlo rfl (fun _ hl => f12_run hv3 (hlo := hl)) ?_
 refine pU ?_
 refine pM (.bool _) (bk hk fun t4 ht hk => ?_)
 refine wpR_mid (l1 := [_, _, _, _, _, _, _]) (fun S' => ∃ J, S' = ⟨hav [(2, .int .i64 aSection2), (3, .ptr b1 0), (4, .ptr b2 0), (18, .bool t4)] J, G⟩) ?_ ?_
 ·refine bc (b := !v3) (fun hg1 => ?_) (fun hg1 => ?_)
  ·replace hk := ct hg1 ht
   refine pGn hg1 (pGn hg1 (pGn hg1 (pGn hg1 (pGn hg1 (pGn hg1 (pPt hg1 (.bool _) ?_))))))
   cases hk; exact pE ⟨_, sh⟩
  ·replace hk := cf hg1 ht
   refine pGy hg1 (pM (.int _ _) (pGy hg1 ?_))
   refine pF tF37_0 (pGy hg1 ?_)
   refine pLo hO 1 (.int _ _) tA3 (pGy hg1 ?_)
   refine pBi (pGy hg1 (bk hk fun v5 hv5 hk => ?_))
   refine pCall (fun _ => f48_run hv5) (pGy hg1 ?_)
   refine pU ?_
   refine pPf hg1 (.bool _) ?_
   cases hk; exact pE ⟨_, sh⟩
 ·rintro _ ⟨J, rfl⟩
  refine pE (gn (lck hk (fun hk => ?_) (fun hk => ?_)))
  ·refine lsq (lrg (pA (.int _ _) (pE (gn (lrt (gr ?_))))))
   cases hk; exact fin0 hO
  ·refine lsk (gn (lsq (lrg (pLs hO 1 [_, _, _, _, _] tA37 tZ37 ?_))))
   refine pLs hO 0 [_, _, _, _] tA42 tZ42 ?_
   refine pM (.int _ _) (bk hk fun v6 hv6 hk => ?_)
   refine pCall (fun _ => f51_run hv6) ?_
   refine pA (.int _ _) (pE (gn (lrt ?_)))
   cases hk; exact fin0 hO
def f41_L1 (aA0 : List Int) (aB1 : List Int) : Int → Option (Int ⊕ Bool) := fun s =>
 (bif decide (s < (aA0.length : Int)) then ((getI aA0 s).bind fun c2 => ((getI aB1 s).bind fun c3 => (bif (c2 != c3) then ((some false).map Sum.inr) else some (.inl (w64 (s + (1:Int))))))) else ((some true).map Sum.inr))
def f41 (aA0 : List Int) (aB1 : List Int) : Option Bool :=
 (bif ((aA0.length : Int) != (aB1.length : Int)) then some false else (loopO (f41_L1 aA0 aB1) ((0:Int))))
theorem f41_run {aA0 : List Int} {aB1 : List Int} {r : Bool} {l1 l2 : Nat} {H : Heap} {lk : Lk} (hk : f41 aA0 aB1 = some r) (hlk : 0 < lk.length := by simp) : runL Try.prog hh 41 [litL l1 0 aA0, litL l2 0 aB1] H lk = some (.bool r, H) := by
 refine run_start Try.func41 rfl Try.ntmps41 Try.results41 rfl rfl fun hO => ?_
 unfold f41 at hk
 refine lsq (lrg (pA (.bool _) (pE (gn (lsq (lsq (lrg ?_)))))))
 refine pM (.lit _ _ _) ?_
 refine pLen tS22 ?_
 refine pM (.lit _ _ _) ?_
 refine pLen tS22 ?_
 refine pBi (pE (gn (lck hk (fun hk => ?_) (fun hk => ?_))))
 ·refine lsq (lrg (pA (.bool _) (pE (gn (lrt (gr ?_))))))
  cases hk; exact fin0 hO
 ·refine lsk (gn (lsq (lsq (lrg (pA (.int _ _) (pE (gn (lbl ?_))))))))
  refine wpL_loopO (F := f41_L1 aA0 aB1) (fun s S' => ∃ (J : Nat → V) (G : Heap), Owns H G [] ∧ S' = ⟨hav [(0, litL l1 0 aA0), (1, litL l2 0 aB1), (5, .int .i64 s)] J, G⟩) hk ⟨_, _, hO, sh⟩ ?_
  rintro x1 _ y1 ⟨J, G, hO, rfl⟩ hk hx1
  refine lsq (lsq (lrg (pM (.int _ _) ?_)))
  refine pM (.lit _ _ _) ?_
  refine pLen tS22 ?_
  refine pBi (pE (gn (lck hk (fun hk => ?_) (fun hk => ?_))))
  ·refine lsk (gn (lsq (lbl (lsq (wpL_drw [(0, true), (1, true), (2, true), (3, true), (4, true), (5, true), (6, true), (7, true), (8, false)] [_, _, _, _, _, _, _, _, _] (by decide +kernel) (by rfl) ?_)))))
   refine pM (.lit _ _ _) ?_
   refine pM (.int _ _) (bk hk fun c2 hc2 hk => ?_)
   refine pX hc2 tE22 tZ3 ?_
   refine pLp (.int _ _) (rd1 (lm := 0) (off := 0) hc2 tA3) ?_
   refine pM (.lit _ _ _) ?_
   refine pM (.int _ _) (bk hk fun c3 hc3 hk => ?_)
   refine pX hc3 tE22 tZ3 ?_
   refine pLp (.int _ _) (rd1 (lm := 0) (off := 0) hc3 tA3) ?_
   refine pBi (pE (gn (lck hk (fun hk => ?_) (fun hk => ?_))))
   ·refine lsq (lrg (pA (.bool _) (pE (gn (lrt (br (gr (gr (br (gr (have hk := lx hx1 hk; ?_)))))))))))
    cases hk; exact fin0 hO
   ·refine lsk (bn (gn (lrg (pM (.int _ _) ?_))))
    refine pBi ?_
    refine pA (.int _ _) (pE (gn ?_))
    cases hk; exact ⟨_, rfl, _, _, hO, sh⟩
  ·refine lex (ge (ge (be (gn (have hk := lx hx1 hk; lsq (lrg (pA (.bool _) (pE (gn (lrt ?_))))))))))
   cases hk; exact fin0 hO
def f101 (aA0 : Turn) (aB1 : Turn) : Option Bool :=
 (bif (aA0.Switch != aB1.Switch) then some false else (bif (aA0.Lie != aB1.Lie) then some false else some true))
theorem f101_run {aA0 : Turn} {aB1 : Turn} {r : Bool} {H : Heap} {lk : Lk} (hk : f101 aA0 aB1 = some r) (hlk : 0 < lk.length := by simp) : runL Try.prog hh 101 [.agg [.int .i64 aA0.Switch, .int .i64 aA0.Lie], .agg [.int .i64 aB1.Switch, .int .i64 aB1.Lie]] H lk = some (.bool r, H) := by
 refine run_start Try.func101 rfl Try.ntmps101 Try.results101 rfl rfl fun hO => ?_
 unfold f101 at hk
 refine lsq (lrg (pBox (cs := [_, _]) hO tZ102 (fun b1 G hO => ?_)))
 refine pBox (cs := [_, _]) hO tZ102 (fun b2 G hO => ?_)
 refine pA (.bool _) (pE (gn (lsq (lsq (lrg ?_)))))
 refine pFL tF102_0 hO 1 (.int _ _) tA3 ?_
 refine pFL tF102_0 hO 0 (.int _ _) tA3 ?_
 refine pBi (pE (gn (lck hk (fun hk => ?_) (fun hk => ?_))))
 ·refine lsq (lrg (pA (.bool _) (pE (gn (lrt (gr ?_))))))
  cases hk; exact fin0 hO
 ·refine lsk (gn (lsq (lsq (lrg (pFL tF102_1 hO 1 (.int _ _) tA3 ?_)))))
  refine pFL tF102_1 hO 0 (.int _ _) tA3 ?_
  refine pBi (pE (gn (lck hk (fun hk => ?_) (fun hk => ?_))))
  ·refine lsq (lrg (pA (.bool _) (pE (gn (lrt (gr ?_))))))
   cases hk; exact fin0 hO
  ·refine lsk (gn (lsq (lrg (pA (.bool _) (pE (gn (lrt ?_)))))))
   cases hk; exact fin0 hO
def f88_L1 (aA0 : List Turn) (aB1 : List Turn) : Int → Option (Int ⊕ Bool) := fun s =>
 (bif decide (s < (aA0.length : Int)) then ((getI aA0 s).bind fun c2 => ((getI aB1 s).bind fun c3 => ((f101 c2 c3).bind fun v4 => (bif !v4 then ((some false).map Sum.inr) else some (.inl (w64 (s + (1:Int)))))))) else ((some true).map Sum.inr))
def f88 (aA0 : List Turn) (aB1 : List Turn) : Option Bool :=
 (bif ((aA0.length : Int) != (aB1.length : Int)) then some false else (loopO (f88_L1 aA0 aB1) ((0:Int))))
theorem f88_run {aA0 : List Turn} {aB1 : List Turn} {r : Bool} {l1 l2 : Nat} {H : Heap} {lk : Lk} (hk : f88 aA0 aB1 = some r) (hlk : 0 < lk.length := by simp) : runL Try.prog hh 88 [litL l1 0 aA0, litL l2 0 aB1] H lk = some (.bool r, H) := by
 refine run_start Try.func88 rfl Try.ntmps88 Try.results88 rfl rfl fun hO => ?_
 unfold f88 at hk
 refine lsq (lrg (pA (.bool _) (pE (gn (lsq (lsq (lrg ?_)))))))
 refine pM (.lit _ _ _) ?_
 refine pLen tS87 ?_
 refine pM (.lit _ _ _) ?_
 refine pLen tS87 ?_
 refine pBi (pE (gn (lck hk (fun hk => ?_) (fun hk => ?_))))
 ·refine lsq (lrg (pA (.bool _) (pE (gn (lrt (gr ?_))))))
  cases hk; exact fin0 hO
 ·refine lsk (gn (lsq (lsq (lrg (pA (.int _ _) (pE (gn (lbl ?_))))))))
  refine wpL_loopO (F := f88_L1 aA0 aB1) (fun s S' => ∃ (J : Nat → V) (G : Heap), Owns H G [] ∧ S' = ⟨hav [(0, litL l1 0 aA0), (1, litL l2 0 aB1), (5, .int .i64 s)] J, G⟩) hk ⟨_, _, hO, sh⟩ ?_
  rintro x1 _ y1 ⟨J, G, hO, rfl⟩ hk hx1
  refine lsq (lsq (lrg (pM (.int _ _) ?_)))
  refine pM (.lit _ _ _) ?_
  refine pLen tS87 ?_
  refine pBi (pE (gn (lck hk (fun hk => ?_) (fun hk => ?_))))
  ·refine lsk (gn (lsq (lbl (lsq (wpL_drw [(0, true), (1, true), (2, true), (3, true), (4, true), (5, true), (6, true), (7, true), (8, false), (9, false)] [_, _, _, _, _, _, _, _, _, _] (by decide +kernel) (by rfl) ?_)))))
   refine pM (.lit _ _ _) ?_
   refine pM (.int _ _) (bk hk fun c2 hc2 hk => ?_)
   refine pX hc2 tE87 tZ102 ?_
   refine pLp (.agg [_, _]) (rd2 (lm := 0) (off := 0) hc2 tA102 tZ102) ?_
   refine pM (.lit _ _ _) ?_
   refine pM (.int _ _) (bk hk fun c3 hc3 hk => ?_)
   refine pX hc3 tE87 tZ102 ?_
   refine pLp (.agg [_, _]) (rd2 (lm := 0) (off := 0) hc3 tA102 tZ102) (bk hk fun v4 hv4 hk => ?_)
   refine pCall (fun _ => f101_run hv4) ?_
   refine pU (pE (gn (lck hk (fun hk => ?_) (fun hk => ?_))))
   ·refine lsq (lrg (pA (.bool _) (pE (gn (lrt (br (gr (gr (br (gr (have hk := lx hx1 hk; ?_)))))))))))
    cases hk; exact fin0 hO
   ·refine lsk (bn (gn (lrg (pM (.int _ _) ?_))))
    refine pBi ?_
    refine pA (.int _ _) (pE (gn ?_))
    cases hk; exact ⟨_, rfl, _, _, hO, sh⟩
  ·refine lex (ge (ge (be (gn (have hk := lx hx1 hk; lsq (lrg (pA (.bool _) (pE (gn (lrt ?_))))))))))
   cases hk; exact fin0 hO
def f66 (aA0 : Way) (aB1 : Way) : Option Bool :=
 ((f41 aA0.Sections aB1.Sections).bind fun v3 => (bif !v3 then some false else ((f88 aA0.Lies aB1.Lies).bind fun v4 => (bif !v4 then some false else ((f88 aA0.Flanks aB1.Flanks).bind fun v5 => (bif !v5 then some false else ((f41 aA0.Over aB1.Over).bind fun v6 => (bif !v6 then some false else ((f41 aA0.Near aB1.Near).bind fun v7 => (bif !v7 then some false else some true))))))))))
theorem f66_run {aA0 : Way} {aB1 : Way} {r : Bool} {l1 l2 l3 l4 l5 l6 l7 l8 l9 l10 : Nat} {H : Heap} {lk : Lk} (hk : f66 aA0 aB1 = some r) (hlk : 0 < lk.length := by simp) : runL Try.prog hh 66 [.agg [litL l1 0 aA0.Sections, litL l2 0 aA0.Lies, litL l3 0 aA0.Flanks, litL l4 0 aA0.Over, litL l5 0 aA0.Near], .agg [litL l6 0 aB1.Sections, litL l7 0 aB1.Lies, litL l8 0 aB1.Flanks, litL l9 0 aB1.Over, litL l10 0 aB1.Near]] H lk = some (.bool r, H) := by
 refine run_start Try.func66 rfl Try.ntmps66 Try.results66 rfl rfl fun hO => ?_
 unfold f66 at hk
 refine lsq (lrg (pBox (cs := [_, _, _, _, _]) hO tZ89 (fun b1 G hO => ?_)))
 refine pBox (cs := [_, _, _, _, _]) hO tZ89 (fun b2 G hO => ?_)
 refine pA (.bool _) (pE (gn (lsq (lsq (lrg ?_)))))
 refine pFL tF89_0 hO 1 (.lit _ _ _) tA22 ?_
 refine pFL tF89_0 hO 0 (.lit _ _ _) tA22 (bk hk fun v3 hv3 hk => ?_)
 refine pCall (fun _ => f41_run hv3) ?_
 refine pU (pE (gn (lck hk (fun hk => ?_) (fun hk => ?_))))
 ·refine lsq (lrg (pA (.bool _) (pE (gn (lrt (gr ?_))))))
  cases hk; exact fin0 hO
 ·refine lsk (gn (lsq (lsq (lrg (pFL tF89_1 hO 1 (.lit _ _ _) tA87 ?_)))))
  refine pFL tF89_1 hO 0 (.lit _ _ _) tA87 (bk hk fun v4 hv4 hk => ?_)
  refine pCall (fun _ => f88_run hv4) ?_
  refine pU (pE (gn (lck hk (fun hk => ?_) (fun hk => ?_))))
  ·refine lsq (lrg (pA (.bool _) (pE (gn (lrt (gr ?_))))))
   cases hk; exact fin0 hO
  ·refine lsk (gn (lsq (lsq (lrg (pFL tF89_2 hO 1 (.lit _ _ _) tA87 ?_)))))
   refine pFL tF89_2 hO 0 (.lit _ _ _) tA87 (bk hk fun v5 hv5 hk => ?_)
   refine pCall (fun _ => f88_run hv5) ?_
   refine pU (pE (gn (lck hk (fun hk => ?_) (fun hk => ?_))))
   ·refine lsq (lrg (pA (.bool _) (pE (gn (lrt (gr ?_))))))
    cases hk; exact fin0 hO
   ·refine lsk (gn (lsq (lsq (lrg (pFL tF89_3 hO 1 (.lit _ _ _) tA22 ?_)))))
    refine pFL tF89_3 hO 0 (.lit _ _ _) tA22 (bk hk fun v6 hv6 hk => ?_)
    refine pCall (fun _ => f41_run hv6) ?_
    refine pU (pE (gn (lck hk (fun hk => ?_) (fun hk => ?_))))
    ·refine lsq (lrg (pA (.bool _) (pE (gn (lrt (gr ?_))))))
     cases hk; exact fin0 hO
    ·refine lsk (gn (lsq (lsq (lrg (pFL tF89_4 hO 1 (.lit _ _ _) tA22 ?_)))))
     refine pFL tF89_4 hO 0 (.lit _ _ _) tA22 (bk hk fun v7 hv7 hk => ?_)
     refine pCall (fun _ => f41_run hv7) ?_
     refine pU (pE (gn (lck hk (fun hk => ?_) (fun hk => ?_))))
     ·refine lsq (lrg (pA (.bool _) (pE (gn (lrt (gr ?_))))))
      cases hk; exact fin0 hO
     ·refine lsk (gn (lsq (lrg (pA (.bool _) (pE (gn (lrt ?_)))))))
      cases hk; exact fin0 hO
def f42_L1 (aA0 : List Way) (aB1 : List Way) : Int → Option (Int ⊕ Bool) := fun s =>
 (bif decide (s < (aA0.length : Int)) then ((getI aA0 s).bind fun c2 => ((getI aB1 s).bind fun c3 => ((f66 c2 c3).bind fun v4 => (bif !v4 then ((some false).map Sum.inr) else some (.inl (w64 (s + (1:Int)))))))) else ((some true).map Sum.inr))
def f42 (aA0 : List Way) (aB1 : List Way) : Option Bool :=
 (bif ((aA0.length : Int) != (aB1.length : Int)) then some false else (loopO (f42_L1 aA0 aB1) ((0:Int))))
theorem f42_run {aA0 : List Way} {aB1 : List Way} {r : Bool} {l1 m2 l3 m4 : Nat} {H : Heap} {lk : Lk} (hk : f42 aA0 aB1 = some r) (hlk : 0 < lk.length := by simp) : runL Try.prog hh 42 [litL l1 m2 aA0, litL l3 m4 aB1] H lk = some (.bool r, H) := by
 refine run_start Try.func42 rfl Try.ntmps42 Try.results42 rfl rfl fun hO => ?_
 unfold f42 at hk
 refine lsq (lrg (pA (.bool _) (pE (gn (lsq (lsq (lrg ?_)))))))
 refine pM (.lit _ _ _) ?_
 refine pLen tS35 ?_
 refine pM (.lit _ _ _) ?_
 refine pLen tS35 ?_
 refine pBi (pE (gn (lck hk (fun hk => ?_) (fun hk => ?_))))
 ·refine lsq (lrg (pA (.bool _) (pE (gn (lrt (gr ?_))))))
  cases hk; exact fin0 hO
 ·refine lsk (gn (lsq (lsq (lrg (pA (.int _ _) (pE (gn (lbl ?_))))))))
  refine wpL_loopO (F := f42_L1 aA0 aB1) (fun s S' => ∃ (J : Nat → V) (G : Heap), Owns H G [] ∧ S' = ⟨hav [(0, litL l1 m2 aA0), (1, litL l3 m4 aB1), (5, .int .i64 s)] J, G⟩) hk ⟨_, _, hO, sh⟩ ?_
  rintro x1 _ y1 ⟨J, G, hO, rfl⟩ hk hx1
  refine lsq (lsq (lrg (pM (.int _ _) ?_)))
  refine pM (.lit _ _ _) ?_
  refine pLen tS35 ?_
  refine pBi (pE (gn (lck hk (fun hk => ?_) (fun hk => ?_))))
  ·refine lsk (gn (lsq (lbl (lsq (wpL_drw [(0, true), (1, true), (2, true), (3, true), (4, true), (5, true), (6, true), (7, true), (8, false), (9, false)] [_, _, _, _, _, _, _, _, _, _] (by decide +kernel) (by rfl) ?_)))))
   refine pM (.lit _ _ _) ?_
   refine pM (.int _ _) (bk hk fun c2 hc2 hk => ?_)
   refine pX hc2 tE35 tZ89 ?_
   refine pLp (.agg [_, _, _, _, _]) (rd2 (lm := m2) (off := 0) hc2 tA89 tZ89) ?_
   refine pM (.lit _ _ _) ?_
   refine pM (.int _ _) (bk hk fun c3 hc3 hk => ?_)
   refine pX hc3 tE35 tZ89 ?_
   refine pLp (.agg [_, _, _, _, _]) (rd2 (lm := m4) (off := 0) hc3 tA89 tZ89) (bk hk fun v4 hv4 hk => ?_)
   refine pCall (fun _ => f66_run hv4) ?_
   refine pU (pE (gn (lck hk (fun hk => ?_) (fun hk => ?_))))
   ·refine lsq (lrg (pA (.bool _) (pE (gn (lrt (br (gr (gr (br (gr (have hk := lx hx1 hk; ?_)))))))))))
    cases hk; exact fin0 hO
   ·refine lsk (bn (gn (lrg (pM (.int _ _) ?_))))
    refine pBi ?_
    refine pA (.int _ _) (pE (gn ?_))
    cases hk; exact ⟨_, rfl, _, _, hO, sh⟩
  ·refine lex (ge (ge (be (gn (have hk := lx hx1 hk; lsq (lrg (pA (.bool _) (pE (gn (lrt ?_))))))))))
   cases hk; exact fin0 hO
def f44_L1 (aA0 : List Bool) (aB1 : List Bool) : Int → Option (Int ⊕ Bool) := fun s =>
 (bif decide (s < (aA0.length : Int)) then ((getI aA0 s).bind fun c2 => ((getI aB1 s).bind fun c3 => (bif !(c2 == c3) then ((some false).map Sum.inr) else some (.inl (w64 (s + (1:Int))))))) else ((some true).map Sum.inr))
def f44 (aA0 : List Bool) (aB1 : List Bool) : Option Bool :=
 (bif ((aA0.length : Int) != (aB1.length : Int)) then some false else (loopO (f44_L1 aA0 aB1) ((0:Int))))
theorem f44_run {aA0 : List Bool} {aB1 : List Bool} {r : Bool} {l1 l2 : Nat} {H : Heap} {lk : Lk} (hk : f44 aA0 aB1 = some r) (hlk : 0 < lk.length := by simp) : runL Try.prog hh 44 [litL l1 0 aA0, litL l2 0 aB1] H lk = some (.bool r, H) := by
 refine run_start Try.func44 rfl Try.ntmps44 Try.results44 rfl rfl fun hO => ?_
 unfold f44 at hk
 refine lsq (lrg (pA (.bool _) (pE (gn (lsq (lsq (lrg ?_)))))))
 refine pM (.lit _ _ _) ?_
 refine pLen tS27 ?_
 refine pM (.lit _ _ _) ?_
 refine pLen tS27 ?_
 refine pBi (pE (gn (lck hk (fun hk => ?_) (fun hk => ?_))))
 ·refine lsq (lrg (pA (.bool _) (pE (gn (lrt (gr ?_))))))
  cases hk; exact fin0 hO
 ·refine lsk (gn (lsq (lsq (lrg (pA (.int _ _) (pE (gn (lbl ?_))))))))
  refine wpL_loopO (F := f44_L1 aA0 aB1) (fun s S' => ∃ (J : Nat → V) (G : Heap), Owns H G [] ∧ S' = ⟨hav [(0, litL l1 0 aA0), (1, litL l2 0 aB1), (5, .int .i64 s)] J, G⟩) hk ⟨_, _, hO, sh⟩ ?_
  rintro x1 _ y1 ⟨J, G, hO, rfl⟩ hk hx1
  refine lsq (lsq (lrg (pM (.int _ _) ?_)))
  refine pM (.lit _ _ _) ?_
  refine pLen tS27 ?_
  refine pBi (pE (gn (lck hk (fun hk => ?_) (fun hk => ?_))))
  ·refine lsk (gn (lsq (lbl (lsq (wpL_drw [(0, true), (1, true), (2, true), (3, true), (4, true), (5, true), (6, true), (7, true), (8, false)] [_, _, _, _, _, _, _, _, _] (by decide +kernel) (by rfl) ?_)))))
   refine pM (.lit _ _ _) ?_
   refine pM (.int _ _) (bk hk fun c2 hc2 hk => ?_)
   refine pX hc2 tE27 tZ4 ?_
   refine pLp (.bool _) (rd1 (lm := 0) (off := 0) hc2 tA4) ?_
   refine pM (.lit _ _ _) ?_
   refine pM (.int _ _) (bk hk fun c3 hc3 hk => ?_)
   refine pX hc3 tE27 tZ4 ?_
   refine pLp (.bool _) (rd1 (lm := 0) (off := 0) hc3 tA4) ?_
   refine pBn Try.underlying4 (pE (gn (lck hk (fun hk => ?_) (fun hk => ?_))))
   ·refine lsq (lrg (pA (.bool _) (pE (gn (lrt (br (gr (gr (br (gr (have hk := lx hx1 hk; ?_)))))))))))
    cases hk; exact fin0 hO
   ·refine lsk (bn (gn (lrg (pM (.int _ _) ?_))))
    refine pBi ?_
    refine pA (.int _ _) (pE (gn ?_))
    cases hk; exact ⟨_, rfl, _, _, hO, sh⟩
  ·refine lex (ge (ge (be (gn (have hk := lx hx1 hk; lsq (lrg (pA (.bool _) (pE (gn (lrt ?_))))))))))
   cases hk; exact fin0 hO
def f43_L1 (aA0 : List (List Bool)) (aB1 : List (List Bool)) : Int → Option (Int ⊕ Bool) := fun s =>
 (bif decide (s < (aA0.length : Int)) then ((getI aA0 s).bind fun c2 => ((getI aB1 s).bind fun c3 => ((f44 c2 c3).bind fun v4 => (bif !v4 then ((some false).map Sum.inr) else some (.inl (w64 (s + (1:Int)))))))) else ((some true).map Sum.inr))
def f43 (aA0 : List (List Bool)) (aB1 : List (List Bool)) : Option Bool :=
 (bif ((aA0.length : Int) != (aB1.length : Int)) then some false else (loopO (f43_L1 aA0 aB1) ((0:Int))))
theorem f43_run {aA0 : List (List Bool)} {aB1 : List (List Bool)} {r : Bool} {l1 m2 l3 m4 : Nat} {H : Heap} {lk : Lk} (hk : f43 aA0 aB1 = some r) (hlk : 0 < lk.length := by simp) : runL Try.prog hh 43 [litL l1 m2 aA0, litL l3 m4 aB1] H lk = some (.bool r, H) := by
 refine run_start Try.func43 rfl Try.ntmps43 Try.results43 rfl rfl fun hO => ?_
 unfold f43 at hk
 refine lsq (lrg (pA (.bool _) (pE (gn (lsq (lsq (lrg ?_)))))))
 refine pM (.lit _ _ _) ?_
 refine pLen tS24 ?_
 refine pM (.lit _ _ _) ?_
 refine pLen tS24 ?_
 refine pBi (pE (gn (lck hk (fun hk => ?_) (fun hk => ?_))))
 ·refine lsq (lrg (pA (.bool _) (pE (gn (lrt (gr ?_))))))
  cases hk; exact fin0 hO
 ·refine lsk (gn (lsq (lsq (lrg (pA (.int _ _) (pE (gn (lbl ?_))))))))
  refine wpL_loopO (F := f43_L1 aA0 aB1) (fun s S' => ∃ (J : Nat → V) (G : Heap), Owns H G [] ∧ S' = ⟨hav [(0, litL l1 m2 aA0), (1, litL l3 m4 aB1), (5, .int .i64 s)] J, G⟩) hk ⟨_, _, hO, sh⟩ ?_
  rintro x1 _ y1 ⟨J, G, hO, rfl⟩ hk hx1
  refine lsq (lsq (lrg (pM (.int _ _) ?_)))
  refine pM (.lit _ _ _) ?_
  refine pLen tS24 ?_
  refine pBi (pE (gn (lck hk (fun hk => ?_) (fun hk => ?_))))
  ·refine lsk (gn (lsq (lbl (lsq (wpL_drw [(0, true), (1, true), (2, true), (3, true), (4, true), (5, true), (6, true), (7, true), (8, false), (9, false)] [_, _, _, _, _, _, _, _, _, _] (by decide +kernel) (by rfl) ?_)))))
   refine pM (.lit _ _ _) ?_
   refine pM (.int _ _) (bk hk fun c2 hc2 hk => ?_)
   refine pX hc2 tE24 tZ27 ?_
   refine pLp (.lit _ _ _) (rd1 (lm := m2) (off := 0) hc2 tA27) ?_
   refine pM (.lit _ _ _) ?_
   refine pM (.int _ _) (bk hk fun c3 hc3 hk => ?_)
   refine pX hc3 tE24 tZ27 ?_
   refine pLp (.lit _ _ _) (rd1 (lm := m4) (off := 0) hc3 tA27) (bk hk fun v4 hv4 hk => ?_)
   refine pCall (fun _ => f44_run hv4) ?_
   refine pU (pE (gn (lck hk (fun hk => ?_) (fun hk => ?_))))
   ·refine lsq (lrg (pA (.bool _) (pE (gn (lrt (br (gr (gr (br (gr (have hk := lx hx1 hk; ?_)))))))))))
    cases hk; exact fin0 hO
   ·refine lsk (bn (gn (lrg (pM (.int _ _) ?_))))
    refine pBi ?_
    refine pA (.int _ _) (pE (gn ?_))
    cases hk; exact ⟨_, rfl, _, _, hO, sh⟩
  ·refine lex (ge (ge (be (gn (have hk := lx hx1 hk; lsq (lrg (pA (.bool _) (pE (gn (lrt ?_))))))))))
   cases hk; exact fin0 hO
def f13 (aA0 : Plan) (aB1 : Plan) : Option Bool :=
 (bif (aA0.Sections != aB1.Sections) then some false else ((f41 aA0.Switches aB1.Switches).bind fun v3 => (bif !v3 then some false else ((f42 aA0.Ways aB1.Ways).bind fun v4 => (bif !v4 then some false else ((f43 aA0.Bars aB1.Bars).bind fun v5 => (bif !v5 then some false else (bif (aA0.Hold != aB1.Hold) then some false else some true))))))))
theorem f13_run {aA0 : Plan} {aB1 : Plan} {r : Bool} {l1 l2 m3 l4 m5 l6 l7 m8 l9 m10 : Nat} {H : Heap} {lk : Lk} (hk : f13 aA0 aB1 = some r) (hlk : 0 < lk.length := by simp) : runL Try.prog hh 13 [.agg [.int .i64 aA0.Sections, litL l1 0 aA0.Switches, litL l2 m3 aA0.Ways, litL l4 m5 aA0.Bars, .int .i64 aA0.Hold], .agg [.int .i64 aB1.Sections, litL l6 0 aB1.Switches, litL l7 m8 aB1.Ways, litL l9 m10 aB1.Bars, .int .i64 aB1.Hold]] H lk = some (.bool r, H) := by
 refine run_start Try.func13 rfl Try.ntmps13 Try.results13 rfl rfl fun hO => ?_
 unfold f13 at hk
 refine lsq (lrg (pBox (cs := [_, _, _, _, _]) hO tZ37 (fun b1 G hO => ?_)))
 refine pBox (cs := [_, _, _, _, _]) hO tZ37 (fun b2 G hO => ?_)
 refine pA (.bool _) (pE (gn (lsq (lsq (lrg ?_)))))
 refine pFL tF37_0 hO 1 (.int _ _) tA3 ?_
 refine pFL tF37_0 hO 0 (.int _ _) tA3 ?_
 refine pBi (pE (gn (lck hk (fun hk => ?_) (fun hk => ?_))))
 ·refine lsq (lrg (pA (.bool _) (pE (gn (lrt (gr ?_))))))
  cases hk; exact fin0 hO
 ·refine lsk (gn (lsq (lsq (lrg (pFL tF37_1 hO 1 (.lit _ _ _) tA22 ?_)))))
  refine pFL tF37_1 hO 0 (.lit _ _ _) tA22 (bk hk fun v3 hv3 hk => ?_)
  refine pCall (fun _ => f41_run hv3) ?_
  refine pU (pE (gn (lck hk (fun hk => ?_) (fun hk => ?_))))
  ·refine lsq (lrg (pA (.bool _) (pE (gn (lrt (gr ?_))))))
   cases hk; exact fin0 hO
  ·refine lsk (gn (lsq (lsq (lrg (pFL tF37_2 hO 1 (.lit _ _ _) tA35 ?_)))))
   refine pFL tF37_2 hO 0 (.lit _ _ _) tA35 (bk hk fun v4 hv4 hk => ?_)
   refine pCall (fun _ => f42_run hv4) ?_
   refine pU (pE (gn (lck hk (fun hk => ?_) (fun hk => ?_))))
   ·refine lsq (lrg (pA (.bool _) (pE (gn (lrt (gr ?_))))))
    cases hk; exact fin0 hO
   ·refine lsk (gn (lsq (lsq (lrg (pFL tF37_3 hO 1 (.lit _ _ _) tA24 ?_)))))
    refine pFL tF37_3 hO 0 (.lit _ _ _) tA24 (bk hk fun v5 hv5 hk => ?_)
    refine pCall (fun _ => f43_run hv5) ?_
    refine pU (pE (gn (lck hk (fun hk => ?_) (fun hk => ?_))))
    ·refine lsq (lrg (pA (.bool _) (pE (gn (lrt (gr ?_))))))
     cases hk; exact fin0 hO
    ·refine lsk (gn (lsq (lsq (lrg (pFL tF37_4 hO 1 (.int _ _) tA3 ?_)))))
     refine pFL tF37_4 hO 0 (.int _ _) tA3 ?_
     refine pBi (pE (gn (lck hk (fun hk => ?_) (fun hk => ?_))))
     ·refine lsq (lrg (pA (.bool _) (pE (gn (lrt (gr ?_))))))
      cases hk; exact fin0 hO
     ·refine lsk (gn (lsq (lrg (pA (.bool _) (pE (gn (lrt ?_)))))))
      cases hk; exact fin0 hO
def f67 (aA0 : Point) (aB1 : Point) : Option Bool :=
 (bif (aA0.Want != aB1.Want) then some false else (bif (aA0.Lies != aB1.Lies) then some false else some true))
theorem f67_run {aA0 : Point} {aB1 : Point} {r : Bool} {H : Heap} {lk : Lk} (hk : f67 aA0 aB1 = some r) (hlk : 0 < lk.length := by simp) : runL Try.prog hh 67 [.agg [.int .i64 aA0.Want, .int .i64 aA0.Lies], .agg [.int .i64 aB1.Want, .int .i64 aB1.Lies]] H lk = some (.bool r, H) := by
 refine run_start Try.func67 rfl Try.ntmps67 Try.results67 rfl rfl fun hO => ?_
 unfold f67 at hk
 refine lsq (lrg (pBox (cs := [_, _]) hO tZ58 (fun b1 G hO => ?_)))
 refine pBox (cs := [_, _]) hO tZ58 (fun b2 G hO => ?_)
 refine pA (.bool _) (pE (gn (lsq (lsq (lrg ?_)))))
 refine pFL tF58_0 hO 1 (.int _ _) tA3 ?_
 refine pFL tF58_0 hO 0 (.int _ _) tA3 ?_
 refine pBi (pE (gn (lck hk (fun hk => ?_) (fun hk => ?_))))
 ·refine lsq (lrg (pA (.bool _) (pE (gn (lrt (gr ?_))))))
  cases hk; exact fin0 hO
 ·refine lsk (gn (lsq (lsq (lrg (pFL tF58_1 hO 1 (.int _ _) tA3 ?_)))))
  refine pFL tF58_1 hO 0 (.int _ _) tA3 ?_
  refine pBi (pE (gn (lck hk (fun hk => ?_) (fun hk => ?_))))
  ·refine lsq (lrg (pA (.bool _) (pE (gn (lrt (gr ?_))))))
   cases hk; exact fin0 hO
  ·refine lsk (gn (lsq (lrg (pA (.bool _) (pE (gn (lrt ?_)))))))
   cases hk; exact fin0 hO
def f45_L1 (aA0 : List Point) (aB1 : List Point) : Int → Option (Int ⊕ Bool) := fun s =>
 (bif decide (s < (aA0.length : Int)) then ((getI aA0 s).bind fun c2 => ((getI aB1 s).bind fun c3 => ((f67 c2 c3).bind fun v4 => (bif !v4 then ((some false).map Sum.inr) else some (.inl (w64 (s + (1:Int)))))))) else ((some true).map Sum.inr))
def f45 (aA0 : List Point) (aB1 : List Point) : Option Bool :=
 (bif ((aA0.length : Int) != (aB1.length : Int)) then some false else (loopO (f45_L1 aA0 aB1) ((0:Int))))
theorem f45_run {aA0 : List Point} {aB1 : List Point} {r : Bool} {l1 l2 : Nat} {H : Heap} {lk : Lk} (hk : f45 aA0 aB1 = some r) (hlk : 0 < lk.length := by simp) : runL Try.prog hh 45 [litL l1 0 aA0, litL l2 0 aB1] H lk = some (.bool r, H) := by
 refine run_start Try.func45 rfl Try.ntmps45 Try.results45 rfl rfl fun hO => ?_
 unfold f45 at hk
 refine lsq (lrg (pA (.bool _) (pE (gn (lsq (lsq (lrg ?_)))))))
 refine pM (.lit _ _ _) ?_
 refine pLen tS39 ?_
 refine pM (.lit _ _ _) ?_
 refine pLen tS39 ?_
 refine pBi (pE (gn (lck hk (fun hk => ?_) (fun hk => ?_))))
 ·refine lsq (lrg (pA (.bool _) (pE (gn (lrt (gr ?_))))))
  cases hk; exact fin0 hO
 ·refine lsk (gn (lsq (lsq (lrg (pA (.int _ _) (pE (gn (lbl ?_))))))))
  refine wpL_loopO (F := f45_L1 aA0 aB1) (fun s S' => ∃ (J : Nat → V) (G : Heap), Owns H G [] ∧ S' = ⟨hav [(0, litL l1 0 aA0), (1, litL l2 0 aB1), (5, .int .i64 s)] J, G⟩) hk ⟨_, _, hO, sh⟩ ?_
  rintro x1 _ y1 ⟨J, G, hO, rfl⟩ hk hx1
  refine lsq (lsq (lrg (pM (.int _ _) ?_)))
  refine pM (.lit _ _ _) ?_
  refine pLen tS39 ?_
  refine pBi (pE (gn (lck hk (fun hk => ?_) (fun hk => ?_))))
  ·refine lsk (gn (lsq (lbl (lsq (wpL_drw [(0, true), (1, true), (2, true), (3, true), (4, true), (5, true), (6, true), (7, true), (8, false), (9, false)] [_, _, _, _, _, _, _, _, _, _] (by decide +kernel) (by rfl) ?_)))))
   refine pM (.lit _ _ _) ?_
   refine pM (.int _ _) (bk hk fun c2 hc2 hk => ?_)
   refine pX hc2 tE39 tZ58 ?_
   refine pLp (.agg [_, _]) (rd2 (lm := 0) (off := 0) hc2 tA58 tZ58) ?_
   refine pM (.lit _ _ _) ?_
   refine pM (.int _ _) (bk hk fun c3 hc3 hk => ?_)
   refine pX hc3 tE39 tZ58 ?_
   refine pLp (.agg [_, _]) (rd2 (lm := 0) (off := 0) hc3 tA58 tZ58) (bk hk fun v4 hv4 hk => ?_)
   refine pCall (fun _ => f67_run hv4) ?_
   refine pU (pE (gn (lck hk (fun hk => ?_) (fun hk => ?_))))
   ·refine lsq (lrg (pA (.bool _) (pE (gn (lrt (br (gr (gr (br (gr (have hk := lx hx1 hk; ?_)))))))))))
    cases hk; exact fin0 hO
   ·refine lsk (bn (gn (lrg (pM (.int _ _) ?_))))
    refine pBi ?_
    refine pA (.int _ _) (pE (gn ?_))
    cases hk; exact ⟨_, rfl, _, _, hO, sh⟩
  ·refine lex (ge (ge (be (gn (have hk := lx hx1 hk; lsq (lrg (pA (.bool _) (pE (gn (lrt ?_))))))))))
   cases hk; exact fin0 hO
def f68 (aA0 : Held) (aB1 : Held) : Option Bool :=
 (bif (aA0.State != aB1.State) then some false else (bif (aA0.Gone != aB1.Gone) then some false else ((f44 aA0.Been aB1.Been).bind fun v3 => (bif !v3 then some false else (bif !(aA0.Shown == aB1.Shown) then some false else (bif (aA0.Timer != aB1.Timer) then some false else some true))))))
theorem f68_run {aA0 : Held} {aB1 : Held} {r : Bool} {l1 l2 : Nat} {H : Heap} {lk : Lk} (hk : f68 aA0 aB1 = some r) (hlk : 0 < lk.length := by simp) : runL Try.prog hh 68 [.agg [.int .i64 aA0.State, .int .i64 aA0.Gone, litL l1 0 aA0.Been, .bool aA0.Shown, .int .i64 aA0.Timer], .agg [.int .i64 aB1.State, .int .i64 aB1.Gone, litL l2 0 aB1.Been, .bool aB1.Shown, .int .i64 aB1.Timer]] H lk = some (.bool r, H) := by
 refine run_start Try.func68 rfl Try.ntmps68 Try.results68 rfl rfl fun hO => ?_
 unfold f68 at hk
 refine lsq (lrg (pBox (cs := [_, _, _, _, _]) hO tZ61 (fun b1 G hO => ?_)))
 refine pBox (cs := [_, _, _, _, _]) hO tZ61 (fun b2 G hO => ?_)
 refine pA (.bool _) (pE (gn (lsq (lsq (lrg ?_)))))
 refine pFL tF61_0 hO 1 (.int _ _) tA3 ?_
 refine pFL tF61_0 hO 0 (.int _ _) tA3 ?_
 refine pBi (pE (gn (lck hk (fun hk => ?_) (fun hk => ?_))))
 ·refine lsq (lrg (pA (.bool _) (pE (gn (lrt (gr ?_))))))
  cases hk; exact fin0 hO
 ·refine lsk (gn (lsq (lsq (lrg (pFL tF61_1 hO 1 (.int _ _) tA3 ?_)))))
  refine pFL tF61_1 hO 0 (.int _ _) tA3 ?_
  refine pBi (pE (gn (lck hk (fun hk => ?_) (fun hk => ?_))))
  ·refine lsq (lrg (pA (.bool _) (pE (gn (lrt (gr ?_))))))
   cases hk; exact fin0 hO
  ·refine lsk (gn (lsq (lsq (lrg (pFL tF61_2 hO 1 (.lit _ _ _) tA27 ?_)))))
   refine pFL tF61_2 hO 0 (.lit _ _ _) tA27 (bk hk fun v3 hv3 hk => ?_)
   refine pCall (fun _ => f44_run hv3) ?_
   refine pU (pE (gn (lck hk (fun hk => ?_) (fun hk => ?_))))
   ·refine lsq (lrg (pA (.bool _) (pE (gn (lrt (gr ?_))))))
    cases hk; exact fin0 hO
   ·refine lsk (gn (lsq (lsq (lrg (pFL tF61_3 hO 1 (.bool _) tA4 ?_)))))
    refine pFL tF61_3 hO 0 (.bool _) tA4 ?_
    refine pBn Try.underlying4 (pE (gn (lck hk (fun hk => ?_) (fun hk => ?_))))
    ·refine lsq (lrg (pA (.bool _) (pE (gn (lrt (gr ?_))))))
     cases hk; exact fin0 hO
    ·refine lsk (gn (lsq (lsq (lrg (pFL tF61_4 hO 1 (.int _ _) tA3 ?_)))))
     refine pFL tF61_4 hO 0 (.int _ _) tA3 ?_
     refine pBi (pE (gn (lck hk (fun hk => ?_) (fun hk => ?_))))
     ·refine lsq (lrg (pA (.bool _) (pE (gn (lrt (gr ?_))))))
      cases hk; exact fin0 hO
     ·refine lsk (gn (lsq (lrg (pA (.bool _) (pE (gn (lrt ?_)))))))
      cases hk; exact fin0 hO
def f46_L1 (aA0 : List Held) (aB1 : List Held) : Int → Option (Int ⊕ Bool) := fun s =>
 (bif decide (s < (aA0.length : Int)) then ((getI aA0 s).bind fun c2 => ((getI aB1 s).bind fun c3 => ((f68 c2 c3).bind fun v4 => (bif !v4 then ((some false).map Sum.inr) else some (.inl (w64 (s + (1:Int)))))))) else ((some true).map Sum.inr))
def f46 (aA0 : List Held) (aB1 : List Held) : Option Bool :=
 (bif ((aA0.length : Int) != (aB1.length : Int)) then some false else (loopO (f46_L1 aA0 aB1) ((0:Int))))
theorem f46_run {aA0 : List Held} {aB1 : List Held} {r : Bool} {l1 m2 l3 m4 : Nat} {H : Heap} {lk : Lk} (hk : f46 aA0 aB1 = some r) (hlk : 0 < lk.length := by simp) : runL Try.prog hh 46 [litL l1 m2 aA0, litL l3 m4 aB1] H lk = some (.bool r, H) := by
 refine run_start Try.func46 rfl Try.ntmps46 Try.results46 rfl rfl fun hO => ?_
 unfold f46 at hk
 refine lsq (lrg (pA (.bool _) (pE (gn (lsq (lsq (lrg ?_)))))))
 refine pM (.lit _ _ _) ?_
 refine pLen tS40 ?_
 refine pM (.lit _ _ _) ?_
 refine pLen tS40 ?_
 refine pBi (pE (gn (lck hk (fun hk => ?_) (fun hk => ?_))))
 ·refine lsq (lrg (pA (.bool _) (pE (gn (lrt (gr ?_))))))
  cases hk; exact fin0 hO
 ·refine lsk (gn (lsq (lsq (lrg (pA (.int _ _) (pE (gn (lbl ?_))))))))
  refine wpL_loopO (F := f46_L1 aA0 aB1) (fun s S' => ∃ (J : Nat → V) (G : Heap), Owns H G [] ∧ S' = ⟨hav [(0, litL l1 m2 aA0), (1, litL l3 m4 aB1), (5, .int .i64 s)] J, G⟩) hk ⟨_, _, hO, sh⟩ ?_
  rintro x1 _ y1 ⟨J, G, hO, rfl⟩ hk hx1
  refine lsq (lsq (lrg (pM (.int _ _) ?_)))
  refine pM (.lit _ _ _) ?_
  refine pLen tS40 ?_
  refine pBi (pE (gn (lck hk (fun hk => ?_) (fun hk => ?_))))
  ·refine lsk (gn (lsq (lbl (lsq (wpL_drw [(0, true), (1, true), (2, true), (3, true), (4, true), (5, true), (6, true), (7, true), (8, false), (9, false)] [_, _, _, _, _, _, _, _, _, _] (by decide +kernel) (by rfl) ?_)))))
   refine pM (.lit _ _ _) ?_
   refine pM (.int _ _) (bk hk fun c2 hc2 hk => ?_)
   refine pX hc2 tE40 tZ61 ?_
   refine pLp (.agg [_, _, _, _, _]) (rd2 (lm := m2) (off := 0) hc2 tA61 tZ61) ?_
   refine pM (.lit _ _ _) ?_
   refine pM (.int _ _) (bk hk fun c3 hc3 hk => ?_)
   refine pX hc3 tE40 tZ61 ?_
   refine pLp (.agg [_, _, _, _, _]) (rd2 (lm := m4) (off := 0) hc3 tA61 tZ61) (bk hk fun v4 hv4 hk => ?_)
   refine pCall (fun _ => f68_run hv4) ?_
   refine pU (pE (gn (lck hk (fun hk => ?_) (fun hk => ?_))))
   ·refine lsq (lrg (pA (.bool _) (pE (gn (lrt (br (gr (gr (br (gr (have hk := lx hx1 hk; ?_)))))))))))
    cases hk; exact fin0 hO
   ·refine lsk (bn (gn (lrg (pM (.int _ _) ?_))))
    refine pBi ?_
    refine pA (.int _ _) (pE (gn ?_))
    cases hk; exact ⟨_, rfl, _, _, hO, sh⟩
  ·refine lex (ge (ge (be (gn (have hk := lx hx1 hk; lsq (lrg (pA (.bool _) (pE (gn (lrt ?_))))))))))
   cases hk; exact fin0 hO
def f14 (aA0 : Frame) (aB1 : Frame) : Option Bool :=
 (bif !(aA0.Ok == aB1.Ok) then some false else ((f44 aA0.Occ aB1.Occ).bind fun v3 => (bif !v3 then some false else ((f45 aA0.Points aB1.Points).bind fun v4 => (bif !v4 then some false else ((f46 aA0.Ways aB1.Ways).bind fun v5 => (bif !v5 then some false else some true)))))))
theorem f14_run {aA0 : Frame} {aB1 : Frame} {r : Bool} {l1 l2 l3 m4 l5 l6 l7 m8 : Nat} {H : Heap} {lk : Lk} (hk : f14 aA0 aB1 = some r) (hlk : 0 < lk.length := by simp) : runL Try.prog hh 14 [.agg [.bool aA0.Ok, litL l1 0 aA0.Occ, litL l2 0 aA0.Points, litL l3 m4 aA0.Ways], .agg [.bool aB1.Ok, litL l5 0 aB1.Occ, litL l6 0 aB1.Points, litL l7 m8 aB1.Ways]] H lk = some (.bool r, H) := by
 refine run_start Try.func14 rfl Try.ntmps14 Try.results14 rfl rfl fun hO => ?_
 unfold f14 at hk
 refine lsq (lrg (pBox (cs := [_, _, _, _]) hO tZ42 (fun b1 G hO => ?_)))
 refine pBox (cs := [_, _, _, _]) hO tZ42 (fun b2 G hO => ?_)
 refine pA (.bool _) (pE (gn (lsq (lsq (lrg ?_)))))
 refine pFL tF42_0 hO 1 (.bool _) tA4 ?_
 refine pFL tF42_0 hO 0 (.bool _) tA4 ?_
 refine pBn Try.underlying4 (pE (gn (lck hk (fun hk => ?_) (fun hk => ?_))))
 ·refine lsq (lrg (pA (.bool _) (pE (gn (lrt (gr ?_))))))
  cases hk; exact fin0 hO
 ·refine lsk (gn (lsq (lsq (lrg (pFL tF42_1 hO 1 (.lit _ _ _) tA27 ?_)))))
  refine pFL tF42_1 hO 0 (.lit _ _ _) tA27 (bk hk fun v3 hv3 hk => ?_)
  refine pCall (fun _ => f44_run hv3) ?_
  refine pU (pE (gn (lck hk (fun hk => ?_) (fun hk => ?_))))
  ·refine lsq (lrg (pA (.bool _) (pE (gn (lrt (gr ?_))))))
   cases hk; exact fin0 hO
  ·refine lsk (gn (lsq (lsq (lrg (pFL tF42_2 hO 1 (.lit _ _ _) tA39 ?_)))))
   refine pFL tF42_2 hO 0 (.lit _ _ _) tA39 (bk hk fun v4 hv4 hk => ?_)
   refine pCall (fun _ => f45_run hv4) ?_
   refine pU (pE (gn (lck hk (fun hk => ?_) (fun hk => ?_))))
   ·refine lsq (lrg (pA (.bool _) (pE (gn (lrt (gr ?_))))))
    cases hk; exact fin0 hO
   ·refine lsk (gn (lsq (lsq (lrg (pFL tF42_3 hO 1 (.lit _ _ _) tA40 ?_)))))
    refine pFL tF42_3 hO 0 (.lit _ _ _) tA40 (bk hk fun v5 hv5 hk => ?_)
    refine pCall (fun _ => f46_run hv5) ?_
    refine pU (pE (gn (lck hk (fun hk => ?_) (fun hk => ?_))))
    ·refine lsq (lrg (pA (.bool _) (pE (gn (lrt (gr ?_))))))
     cases hk; exact fin0 hO
    ·refine lsk (gn (lsq (lrg (pA (.bool _) (pE (gn (lrt ?_)))))))
     cases hk; exact fin0 hO
def f5 (aAP0 : Plan) (aAF1 : Frame) (aASection2 : Int) : Option Bool :=
 ((f7 aAP0 (1048576:Int)).bind fun v3 => (bif decide (v3 < (0:Int)) then some true else ((f8 aAF1 v3).bind fun v4 => (bif decide (v4 < (0:Int)) then some true else ((f10 aAP0).bind fun v5 => ((f11 aAF1).bind fun v6 => ((f17 v5 v6 aASection2).bind fun v7 => ((f10 aAP0).bind fun v8 => ((f11 aAF1).bind fun v10 => ((f18 v8 v10 aASection2).bind fun v12 => (bif (v12 != v7) then some false else ((f10 aAP0).bind fun v13 => ((f13 v8 v13).bind fun v14 => (bif !v14 then some false else ((f11 aAF1).bind fun v15 => ((f14 v10 v15).bind fun v16 => (bif !v16 then some false else some true)))))))))))))))))
theorem f5_run {aAP0 : Plan} {aAF1 : Frame} {aASection2 : Int} {r : Bool} {l1 l2 m3 l4 m5 l6 l7 l8 m9 : Nat} {H : Heap} {lk : Lk} (hk : f5 aAP0 aAF1 aASection2 = some r) (hlk : 0 < lk.length := by simp) (hlo : LkOk lk H.length := by simp [LkOk]) : runL Try.prog hh 5 [.agg [.int .i64 aAP0.Sections, litL l1 0 aAP0.Switches, litL l2 m3 aAP0.Ways, litL l4 m5 aAP0.Bars, .int .i64 aAP0.Hold], .agg [.bool aAF1.Ok, litL l6 0 aAF1.Occ, litL l7 0 aAF1.Points, litL l8 m9 aAF1.Ways], .int .i64 aASection2] H lk = some (.bool r, H) := by
 refine run_start Try.func5 rfl Try.ntmps5 Try.results5 rfl rfl fun hO => ?_
 unfold f5 at hk
 refine lsq (lrg (pBox (cs := [_, _, _, _, _]) hO tZ26 (fun b1 G hO => ?_)))
 refine pBox (cs := [_, _, _, _]) hO tZ31 (fun b2 G hO => ?_)
 refine pA (.bool _) (pE (gn (lsq (lrg ?_))))
 refine pA (.int _ _) (pE (gn (lsq (lrg ?_))))
 refine pLs hO 1 [_, _, _, _, _] tA26 tZ26 ?_
 refine pM (.int _ _) (bk hk fun v3 hv3 hk => ?_)
 refine pCall (fun _ => f7_run hv3) ?_
 refine pA (.int _ _) (pE (gn (lsq (lsq (lrg ?_)))))
 refine pM (.int _ _) ?_
 refine pBi (pE (gn (lck hk (fun hk => ?_) (fun hk => ?_))))
 ·refine lsq (lrg (pA (.bool _) (pE (gn (lrt (gr ?_))))))
  cases hk; exact fin0 hO
 ·refine lsk (gn (lsq (lrg (pLs hO 0 [_, _, _, _] tA31 tZ31 ?_))))
  refine pM (.int _ _) (bk hk fun v4 hv4 hk => ?_)
  refine pCall (fun _ => f8_run hv4) ?_
  refine pA (.int _ _) (pE (gn (lsq (lsq (lrg ?_)))))
  refine pM (.int _ _) ?_
  refine pBi (pE (gn (lck hk (fun hk => ?_) (fun hk => ?_))))
  ·refine lsq (lrg (pA (.bool _) (pE (gn (lrt (gr ?_))))))
   cases hk; exact fin0 hO
  ·refine lsk (gn (lsq (wpL_drw [(0, true), (2, true), (4, true), (1, true), (3, false), (5, false), (6, false)] [_, _, _, _, _, _, _] (by decide +kernel) (by rfl) ?_)))
   refine pLs hO 1 [_, _, _, _, _] tA26 tZ26 ?_
   refine pLs hO 0 [_, _, _, _] tA31 tZ31 ?_
   refine pM (.int _ _) (bk hk fun v5 hv5 hk => ?_)
   refine pCall (fun _ => f10_run hv5) (bk hk fun v6 hv6 hk => ?_)
   refine pCall (fun _ => f11_run hv6) (bk hk fun v7 hv7 hk => ?_)
   refine pCallL hO hlo rfl (fun _ hl => f17_run hv7 (hlo := hl)) ?_
   refine pA (.int _ _) (pE (gn (lsq (lrg ?_))))
   refine pLs hO 1 [_, _, _, _, _] tA26 tZ26 (bk hk fun v8 hv8 hk => ?_)
   refine pCall (fun _ => f10_run hv8) (pNew hO tZ37 t037 (fun b9 G hO => ?_))
   refine pSt (xs := [_, _, _, _, _]) hO 0 tZ37 rfl (fun G hO => pE (gn (lsq (lrg ?_))))
   refine pLs hO 1 [_, _, _, _] tA31 tZ31 (bk hk fun v10 hv10 hk => ?_)
   refine pCall (fun _ => f11_run hv10) (pNew hO tZ42 t042 (fun b11 G hO => ?_))
   refine pSt (xs := [_, _, _, _]) hO 0 tZ42 rfl (fun G hO => pE (gn (lsq (lrg ?_))))
   refine pLs hO 1 [_, _, _, _, _] tA37 tZ37 ?_
   refine pLs hO 0 [_, _, _, _] tA42 tZ42 ?_
   refine pM (.int _ _) (bk hk fun v12 hv12 hk => ?_)
   refine pCallL hO hlo rfl (fun _ hl => f18_run hv12 (hlo := hl)) ?_
   refine pA (.int _ _) (pE (gn (lsq (lsq (lrg ?_)))))
   refine pM (.int _ _) ?_
   refine pM (.int _ _) ?_
   refine pBi (pE (gn (lck hk (fun hk => ?_) (fun hk => ?_))))
   ·refine lsq (lrg (pA (.bool _) (pE (gn (lrt (gr ?_))))))
    cases hk; exact fin0 hO
   ·refine lsk (gn (lsq (lsq (wpL_drw [(0, true), (1, true), (2, true), (3, false), (4, false)] [_, _, _, _, _] (by decide +kernel) (by rfl) ?_))))
    refine pLs hO 1 [_, _, _, _, _] tA37 tZ37 ?_
    refine pLs hO 3 [_, _, _, _, _] tA26 tZ26 (bk hk fun v13 hv13 hk => ?_)
    refine pCall (fun _ => f10_run hv13) (bk hk fun v14 hv14 hk => ?_)
    refine pCall (fun _ => f13_run hv14) ?_
    refine pU (pE (gn (lck hk (fun hk => ?_) (fun hk => ?_))))
    ·refine lsq (lrg (pA (.bool _) (pE (gn (lrt (gr ?_))))))
     cases hk; exact fin0 hO
    ·refine lsk (gn (lsq (lsq (wpL_drw [(0, true), (1, true), (2, true), (3, false), (4, false)] [_, _, _, _, _] (by decide +kernel) (by rfl) ?_))))
     refine pLs hO 0 [_, _, _, _] tA42 tZ42 ?_
     refine pLs hO 2 [_, _, _, _] tA31 tZ31 (bk hk fun v15 hv15 hk => ?_)
     refine pCall (fun _ => f11_run hv15) (bk hk fun v16 hv16 hk => ?_)
     refine pCall (fun _ => f14_run hv16) ?_
     refine pU (pE (gn (lck hk (fun hk => ?_) (fun hk => ?_))))
     ·refine lsq (lrg (pA (.bool _) (pE (gn (lrt (gr ?_))))))
      cases hk; exact fin0 hO
     ·refine lsk (gn (lsq (lrg (pA (.bool _) (pE (gn (lrt ?_)))))))
      cases hk; exact fin0 hO
end
end Go.Proofs.Ytphpkphklegfeaa.K
