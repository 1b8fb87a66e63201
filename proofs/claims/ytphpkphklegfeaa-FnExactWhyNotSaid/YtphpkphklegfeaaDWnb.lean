/-
 The functions that FnExactWhyNot reaches, as typed Lean functions, and that the interpreter computes them. Part 2 of 3. No conditions.
-/
import Derived.Test.YtphpkphklegfeaaDWna
set_option linter.unusedVariables false
set_option linter.unusedSimpArgs false
set_option maxRecDepth 100000
namespace Go.Proofs.Ytphpkphklegfeaa.K
noncomputable section
variable {H : Heap} {lk : Lk}
def f32_L2 (x3 : Int) (c4 : Held) (c6 : Held) : Int → Option (Int ⊕ (Int ⊕ Bool)) := fun s =>
 (bif decide (s < (c4.Been.length : Int)) then ((getI c4.Been s).bind fun c9 => ((getI c6.Been s).bind fun c10 => (bif !(c9 == c10) then (((some false).map Sum.inr).map Sum.inr) else some (.inl (w64 (s + (1:Int))))))) else ((some (.inl (w64 (x3 + (1:Int))))).map Sum.inr))
def f32_L1 (aA0 : Frame) (aB1 : Frame) : Int → Option (Int ⊕ Bool) := fun s =>
 (bif decide (s < (aA0.Ways.length : Int)) then ((getI aA0.Ways s).bind fun c4 => ((getI aB1.Ways s).bind fun c6 => (bif ((((c4.State != c6.State) || (c4.Gone != c6.Gone)) || !(c4.Shown == c6.Shown)) || (c4.Timer != c6.Timer)) then ((some false).map Sum.inr) else (loopO (f32_L2 s c4 c6) ((0:Int)))))) else ((some true).map Sum.inr))
def f32 (aA0 : Frame) (aB1 : Frame) : Option Bool :=
 (loopO (f32_L1 aA0 aB1) ((0:Int)))
theorem f32_run {aA0 : Frame} {aB1 : Frame} {r : Bool} {l1 l2 l3 m4 l5 l6 l7 m8 : Nat} (hk : f32 aA0 aB1 = some r) (hlk : 0 < lk.length := by simp) : runL Try.prog hh 32 [.agg (cFrame l1 0 l2 0 l3 m4 aA0), .agg (cFrame l5 0 l6 0 l7 m8 aB1)] H lk = some (.bool r, H) := by
 refine run_start Try.func32 rfl Try.ntmps32 Try.results32 rfl rfl fun hO => ?_
 unfold f32 at hk
 refine lsq (lrg (pBox (cs := [_, _, _, _]) hO tZ42 (fun b1 G hO => ?_)))
 refine pBox (cs := [_, _, _, _]) hO tZ42 (fun b2 G hO => ?_)
 refine pA (.bool _) (pE (gn (lsq (lsq (lrg ?_)))))
 refine pFL tF42_3 hO 1 (.lit _ _ _) tA40 ?_
 refine pLen tS40 ?_
 refine pM (.int _ _) (pE (gn (lbl ?_)))
 refine wpL_loopO (F := f32_L1 aA0 aB1) (fun s S' => ∃ (J : Nat → V) (G : Heap), Owns H G [.blk b2 (.cells 4 (cFrame l5 0 l6 0 l7 m8 aB1)), .blk b1 (.cells 4 (cFrame l1 0 l2 0 l3 m4 aA0))] ∧ S' = ⟨hav [(2, .ptr b1 0), (3, .ptr b2 0), (11, iv (aA0.Ways.length : Int)), (12, iv s)] J, G⟩) hk ⟨_, _, hO, sh⟩ ?_
 rintro x3 _ y1 ⟨J, G, hO, rfl⟩ hk hx1
 refine lsq (lrg (pBi (pE (gn (lsq (lck hk (fun hk => ?_) (fun hk => ?_)))))))
 ·refine lsk (gn (lsq (lbl (lsq (lrg (pM (.int _ _) ?_))))))
  refine pA (.int _ _) (pE (gn (lsq (lrg ?_))))
  refine pFL tF42_3 hO 1 (.lit _ _ _) tA40 ?_
  refine pM (.int _ _) (bk hk fun c4 hc4 hk => ?_)
  refine pX hc4 tE40 tZ61 ?_
  refine pLp (.agg [_, _, _, _, _]) (rd2 (lm := m4) (off := 0) hc4 tA61 tZ61) (pNew hO tZ61 t061 (fun b5 G hO => ?_))
  refine pSt (xs := [_, _, _, _, _]) hO 0 tZ61 rfl (fun G hO => pE (gn (lsq (lrg ?_))))
  refine pFL tF42_3 hO 1 (.lit _ _ _) tA40 ?_
  refine pM (.int _ _) (bk hk fun c6 hc6 hk => ?_)
  refine pX hc6 tE40 tZ61 ?_
  refine pLp (.agg [_, _, _, _, _]) (rd2 (lm := m8) (off := 0) hc6 tA61 tZ61) (pNew hO tZ61 t061 (fun b7 G hO => ?_))
  refine pSt (xs := [_, _, _, _, _]) hO 0 tZ61 rfl (fun G hO => pE (gn (lsq (lsq (lrg ?_)))))
  refine pFL tF61_0 hO 1 (.int _ _) tA3 ?_
  refine pFL tF61_0 hO 0 (.int _ _) tA3 ?_
  refine pBi ?_
  refine pM (.bool _) ?_
  refine wpR_mid (l1 := [_, _, _, _, _, _]) (fun S' => ∃ J, S' = ⟨hav [(2, .ptr b1 0), (3, .ptr b2 0), (6, .ptr b5 0), (7, .ptr b7 0), (11, iv (aA0.Ways.length : Int)), (12, iv x3), (36, .bool ((c4.State != c6.State) || (c4.Gone != c6.Gone)))] J, G⟩) ?_ ?_
  ·refine bc (b := (c4.State != c6.State)) (fun hg => ?_) (fun hg => ?_)
   ·refine pGn hg (pGn hg (pGn hg (pGn hg (pGn hg (pPt hg (.bool _) ?_)))))
    exact pE ⟨_, St.hav _ ⟨rfl, rfl, rfl, rfl, rfl, rfl, by rw [hg]; rfl, trivial⟩⟩
   ·refine pGy hg (pF tF61_1 (pGy hg ?_))
    refine pLo hO 1 (.int _ _) tA3 (pGy hg ?_)
    refine pF tF61_1 (pGy hg ?_)
    refine pLo hO 0 (.int _ _) tA3 (pGy hg ?_)
    refine pBi ?_
    refine pPf hg (.bool _) ?_
    exact pE ⟨_, St.hav _ ⟨rfl, rfl, rfl, rfl, rfl, rfl, by rw [hg]; rfl, trivial⟩⟩
  ·rintro _ ⟨J, rfl⟩
   refine pM (.bool _) ?_
   refine wpR_mid (l1 := [_, _, _, _, _, _]) (fun S' => ∃ J, S' = ⟨hav [(2, .ptr b1 0), (3, .ptr b2 0), (6, .ptr b5 0), (7, .ptr b7 0), (11, iv (aA0.Ways.length : Int)), (12, iv x3), (43, .bool (((c4.State != c6.State) || (c4.Gone != c6.Gone)) || !(c4.Shown == c6.Shown)))] J, G⟩) ?_ ?_
   ·refine bc (b := ((c4.State != c6.State) || (c4.Gone != c6.Gone))) (fun hg => ?_) (fun hg => ?_)
    ·refine pGn hg (pGn hg (pGn hg (pGn hg (pGn hg (pPt hg (.bool _) ?_)))))
     exact pE ⟨_, St.hav _ ⟨rfl, rfl, rfl, rfl, rfl, rfl, by rw [hg]; rfl, trivial⟩⟩
    ·refine pGy hg (pF tF61_3 (pGy hg ?_))
     refine pLo hO 1 (.bool _) tA4 (pGy hg ?_)
     refine pF tF61_3 (pGy hg ?_)
     refine pLo hO 0 (.bool _) tA4 (pGy hg ?_)
     refine pBn Try.underlying4 ?_
     refine pPf hg (.bool _) ?_
     exact pE ⟨_, St.hav _ ⟨rfl, rfl, rfl, rfl, rfl, rfl, by rw [hg]; rfl, trivial⟩⟩
   ·rintro _ ⟨J, rfl⟩
    refine pM (.bool _) ?_
    refine wpR_mid (l1 := [_, _, _, _, _, _]) (fun S' => ∃ J, S' = ⟨hav [(2, .ptr b1 0), (3, .ptr b2 0), (6, .ptr b5 0), (7, .ptr b7 0), (11, iv (aA0.Ways.length : Int)), (12, iv x3), (50, .bool ((((c4.State != c6.State) || (c4.Gone != c6.Gone)) || !(c4.Shown == c6.Shown)) || (c4.Timer != c6.Timer)))] J, G⟩) ?_ ?_
    ·refine bc (b := (((c4.State != c6.State) || (c4.Gone != c6.Gone)) || !(c4.Shown == c6.Shown))) (fun hg => ?_) (fun hg => ?_)
     ·refine pGn hg (pGn hg (pGn hg (pGn hg (pGn hg (pPt hg (.bool _) ?_)))))
      exact pE ⟨_, St.hav _ ⟨rfl, rfl, rfl, rfl, rfl, rfl, by rw [hg]; rfl, trivial⟩⟩
     ·refine pGy hg (pF tF61_4 (pGy hg ?_))
      refine pLo hO 1 (.int _ _) tA3 (pGy hg ?_)
      refine pF tF61_4 (pGy hg ?_)
      refine pLo hO 0 (.int _ _) tA3 (pGy hg ?_)
      refine pBi ?_
      refine pPf hg (.bool _) ?_
      exact pE ⟨_, St.hav _ ⟨rfl, rfl, rfl, rfl, rfl, rfl, by rw [hg]; rfl, trivial⟩⟩
    ·rintro _ ⟨J, rfl⟩
     refine pE (gn (lck hk (fun hk => ?_) (fun hk => ?_)))
     ·refine lsq (lrg (pA (.bool _) (pE (gn (lrt (gr (br (gr (gr (br (gr (have hk := lx hx1 hk; ?_))))))))))))
      cases hk; exact fin0 hO
     ·refine lsk (gn (lsq (lrg (pFL tF61_2 hO 1 (.lit _ _ _) tA27 ?_))))
      refine pLen tS27 ?_
      refine pM (.int _ _) (pE (gn (lbl ?_)))
      refine wpL_loopO (F := f32_L2 x3 c4 c6) (fun s S' => ∃ (J : Nat → V) (G : Heap), Owns H G [.blk b7 (.cells 5 [iv c6.State, iv c6.Gone, litL m8 0 c6.Been, .bool c6.Shown, iv c6.Timer]), .blk b5 (.cells 5 [iv c4.State, iv c4.Gone, litL m4 0 c4.Been, .bool c4.Shown, iv c4.Timer]), .blk b2 (.cells 4 (cFrame l5 0 l6 0 l7 m8 aB1)), .blk b1 (.cells 4 (cFrame l1 0 l2 0 l3 m4 aA0))] ∧ S' = ⟨hav [(2, .ptr b1 0), (3, .ptr b2 0), (6, .ptr b5 0), (7, .ptr b7 0), (11, iv (aA0.Ways.length : Int)), (12, iv x3), (53, iv (c4.Been.length : Int)), (54, iv s)] J, G⟩) hk ⟨_, _, hO, sh⟩ ?_
      rintro x8 _ y2 ⟨J, G, hO, rfl⟩ hk hx2
      refine lsq (lrg (pBi (pE (gn (lsq (lck hk (fun hk => ?_) (fun hk => ?_)))))))
      ·refine lsk (gn (lsq (lbl (lsq (lrg (pM (.int _ _) ?_))))))
       refine pA (.int _ _) (pE (gn (lsq ?_)))
       refine wpL_drw [(0, true), (1, true), (2, true), (3, true), (4, true), (5, true), (6, true), (7, true), (8, true), (9, true), (10, false)] [_, _, _, _, _, _, _, _, _, _, _] (by decide +kernel) (by rfl) ?_
       refine pFL tF61_2 hO 1 (.lit _ _ _) tA27 ?_
       refine pM (.int _ _) (bk hk fun c9 hc9 hk => ?_)
       refine pX hc9 tE27 tZ4 ?_
       refine pLp (.bool _) (rd1 (lm := 0) (off := 0) hc9 tA4) ?_
       refine pFL tF61_2 hO 0 (.lit _ _ _) tA27 ?_
       refine pM (.int _ _) (bk hk fun c10 hc10 hk => ?_)
       refine pX hc10 tE27 tZ4 ?_
       refine pLp (.bool _) (rd1 (lm := 0) (off := 0) hc10 tA4) ?_
       refine pBn Try.underlying4 (pE (gn (lck hk (fun hk => ?_) (fun hk => ?_))))
       ·refine lsq (lrg (pA (.bool _) (pE (gn (lrt (br (gr (gr (br (br (gr (gr (br (gr (have hk := lx hx2 hk; have hk := lx hx1 hk; ?_)))))))))))))))
        cases hk; exact fin0 hO
       ·refine lsk (bn (gn (lrg (pBi ?_))))
        refine pM (.int _ _) (pE (gn ?_))
        cases hk; exact ⟨_, rfl, _, _, hO, sh⟩
      ·refine lex (ge (ge (be (bn (gn (have hk := lx hx2 hk; lrg (pBi ?_)))))))
       refine pM (.int _ _) (pE (gn ?_))
       cases hk; exact ⟨_, rfl, _, _, (pk hO [2, 3]), sh⟩
 ·refine lex (ge (ge (be (gn (have hk := lx hx1 hk; lsq (lrg (pA (.bool _) (pE (gn (lrt ?_))))))))))
  cases hk; exact fin0 hO
def f9_L3 (aP0 : Plan) (aF1 : Frame) (x10 : Int) : Int → Option (Int ⊕ (Int ⊕ Bool)) := fun s =>
 (bif decide (s < (aF1.Ways.length : Int)) then ((bif (x10 != s) then ((getI aP0.Bars x10).bind fun c14 => ((getI c14 s).bind fun c15 => some c15)) else some false).bind fun t13 => ((bif t13 then ((getI aF1.Ways x10).bind fun c17 => some (c17.State != (0:Int))) else some false).bind fun t16 => ((bif t16 then ((getI aF1.Ways s).bind fun c19 => some (c19.State != (0:Int))) else some false).bind fun t18 => (bif t18 then (((some false).map Sum.inr).map Sum.inr) else some (.inl (w64 (s + (1:Int)))))))) else ((some (.inl (w64 (x10 + (1:Int))))).map Sum.inr))
def f9_L2 (aP0 : Plan) (aF1 : Frame) : Int → Option (Int ⊕ Bool) := fun s =>
 (bif decide (s < (aF1.Ways.length : Int)) then ((f29 aP0 aF1 s).bind fun v11 => (bif !v11 then ((some false).map Sum.inr) else (loopO (f9_L3 aP0 aF1 s) ((0:Int))))) else (((f30 aF1).bind fun v20 => ((f31 aP0 v20).bind fun z33 => ((f32 aF1 z33).bind fun v35 => some v35))).map Sum.inr))
def f9_L1 (aP0 : Plan) (aF1 : Frame) : Int → Option (Int ⊕ Bool) := fun s =>
 (bif decide (s < (aF1.Points.length : Int)) then ((getI aF1.Points s).bind fun c5 => ((f28 c5.Want (1:Int) (2:Int)).bind fun v7 => ((bif !v7 then some true else ((f28 c5.Lies (0:Int) (2:Int)).bind fun v9 => some (!v9))).bind fun t8 => (bif t8 then ((some false).map Sum.inr) else some (.inl (w64 (s + (1:Int)))))))) else ((loopO (f9_L2 aP0 aF1) ((0:Int))).map Sum.inr))
def f9 (aP0 : Plan) (aF1 : Frame) : Option Bool :=
 ((f27 aP0).bind fun v3 => (bif ((((!v3 || !aF1.Ok) || ((aF1.Occ.length : Int) != aP0.Sections)) || ((aF1.Points.length : Int) != (aP0.Switches.length : Int))) || ((aF1.Ways.length : Int) != (aP0.Ways.length : Int))) then some false else (loopO (f9_L1 aP0 aF1) ((0:Int)))))
theorem f9_run {aP0 : Plan} {aF1 : Frame} {r : Bool} {l1 l2 l3 l4 l5 l6 m7 : Nat} (hk : f9 aP0 aF1 = some r) (hlk : 0 < lk.length := by simp) (hlo : LkOk lk H.length := by simp [LkOk]) : runL Try.prog hh 9 [.agg (cPlan l1 0 l2 0 l3 0 aP0), .agg (cFrame l4 0 l5 0 l6 m7 aF1)] H lk = some (.bool r, H) := by
 refine run_start Try.func9 rfl Try.ntmps9 Try.results9 rfl rfl fun hO => ?_
 unfold f9 at hk
 refine lsq (lrg (pBox (cs := [_, _, _, _, _]) hO tZ37 (fun b1 G hO => ?_)))
 refine pBox (cs := [_, _, _, _]) hO tZ42 (fun b2 G hO => ?_)
 refine pA (.bool _) (pE (gn (lsq (lsq (lrg ?_)))))
 refine pLs hO 1 [_, _, _, _, _] tA37 tZ37 (bk hk fun v3 hv3 hk => ?_)
 refine pCall (fun _ => f27_run hv3) ?_
 refine pU ?_
 refine pM (.bool _) ?_
 refine wpR_mid (l1 := [_, _, _, _]) (fun S' => ∃ J, S' = ⟨hav [(2, .ptr b1 0), (3, .ptr b2 0), (17, .bool (!v3 || !aF1.Ok))] J, G⟩) ?_ ?_
 ·refine bc (b := !v3) (fun hg => ?_) (fun hg => ?_)
  ·refine pGn hg (pGn hg (pGn hg (pPt hg (.bool _) ?_)))
   exact pE ⟨_, St.hav _ ⟨rfl, rfl, by rw [hg]; rfl, trivial⟩⟩
  ·refine pGy hg (pF tF42_0 (pGy hg ?_))
   refine pLo hO 0 (.bool _) tA4 (pGy hg ?_)
   refine pU ?_
   refine pPf hg (.bool _) ?_
   exact pE ⟨_, St.hav _ ⟨rfl, rfl, by rw [hg]; rfl, trivial⟩⟩
 ·rintro _ ⟨J, rfl⟩
  refine pM (.bool _) ?_
  refine wpR_mid (l1 := [_, _, _, _, _, _, _]) (fun S' => ∃ J, S' = ⟨hav [(2, .ptr b1 0), (3, .ptr b2 0), (25, .bool ((!v3 || !aF1.Ok) || ((aF1.Occ.length : Int) != aP0.Sections)))] J, G⟩) ?_ ?_
  ·refine bc (b := (!v3 || !aF1.Ok)) (fun hg => ?_) (fun hg => ?_)
   ·refine pGn hg (pGn hg (pGn hg (pGn hg (pGn hg (pGn hg (pPt hg (.bool _) ?_))))))
    exact pE ⟨_, St.hav _ ⟨rfl, rfl, by rw [hg]; rfl, trivial⟩⟩
   ·refine pGy hg (pF tF42_1 (pGy hg ?_))
    refine pLo hO 0 (.lit _ _ _) tA27 (pGy hg ?_)
    refine pLen tS27 (pGy hg ?_)
    refine pF tF37_0 (pGy hg ?_)
    refine pLo hO 1 (.int _ _) tA3 (pGy hg ?_)
    refine pBi ?_
    refine pPf hg (.bool _) ?_
    exact pE ⟨_, St.hav _ ⟨rfl, rfl, by rw [hg]; rfl, trivial⟩⟩
  ·rintro _ ⟨J, rfl⟩
   refine pM (.bool _) ?_
   refine wpR_mid (l1 := [_, _, _, _, _, _, _, _]) (fun S' => ∃ J, S' = ⟨hav [(2, .ptr b1 0), (3, .ptr b2 0), (34, .bool (((!v3 || !aF1.Ok) || ((aF1.Occ.length : Int) != aP0.Sections)) || ((aF1.Points.length : Int) != (aP0.Switches.length : Int))))] J, G⟩) ?_ ?_
   ·refine bc (b := ((!v3 || !aF1.Ok) || ((aF1.Occ.length : Int) != aP0.Sections))) (fun hg => ?_) (fun hg => ?_)
    ·refine pGn hg (pGn hg (pGn hg (pGn hg (pGn hg (pGn hg (pGn hg (pPt hg (.bool _) ?_)))))))
     exact pE ⟨_, St.hav _ ⟨rfl, rfl, by rw [hg]; rfl, trivial⟩⟩
    ·refine pGy hg (pF tF42_2 (pGy hg ?_))
     refine pLo hO 0 (.lit _ _ _) tA39 (pGy hg ?_)
     refine pLen tS39 (pGy hg ?_)
     refine pF tF37_1 (pGy hg ?_)
     refine pLo hO 1 (.lit _ _ _) tA22 (pGy hg ?_)
     refine pLen tS22 (pGy hg ?_)
     refine pBi ?_
     refine pPf hg (.bool _) ?_
     exact pE ⟨_, St.hav _ ⟨rfl, rfl, by rw [hg]; rfl, trivial⟩⟩
   ·rintro _ ⟨J, rfl⟩
    refine pM (.bool _) ?_
    refine wpR_mid (l1 := [_, _, _, _, _, _, _, _]) (fun S' => ∃ J, S' = ⟨hav [(2, .ptr b1 0), (3, .ptr b2 0), (43, .bool ((((!v3 || !aF1.Ok) || ((aF1.Occ.length : Int) != aP0.Sections)) || ((aF1.Points.length : Int) != (aP0.Switches.length : Int))) || ((aF1.Ways.length : Int) != (aP0.Ways.length : Int))))] J, G⟩) ?_ ?_
    ·refine bc (b := (((!v3 || !aF1.Ok) || ((aF1.Occ.length : Int) != aP0.Sections)) || ((aF1.Points.length : Int) != (aP0.Switches.length : Int)))) (fun hg => ?_) (fun hg => ?_)
     ·refine pGn hg (pGn hg (pGn hg (pGn hg (pGn hg (pGn hg (pGn hg (pPt hg (.bool _) ?_)))))))
      exact pE ⟨_, St.hav _ ⟨rfl, rfl, by rw [hg]; rfl, trivial⟩⟩
     ·refine pGy hg (pF tF42_3 (pGy hg ?_))
      refine pLo hO 0 (.lit _ _ _) tA40 (pGy hg ?_)
      refine pLen tS40 (pGy hg ?_)
      refine pF tF37_2 (pGy hg ?_)
      refine pLo hO 1 (.lit _ _ _) tA35 (pGy hg ?_)
      refine pLen tS35 (pGy hg ?_)
      refine pBi ?_
      refine pPf hg (.bool _) ?_
      exact pE ⟨_, St.hav _ ⟨rfl, rfl, by rw [hg]; rfl, trivial⟩⟩
    ·rintro _ ⟨J, rfl⟩
     refine pE (gn (lck hk (fun hk => ?_) (fun hk => ?_)))
     ·refine lsq (lrg (pA (.bool _) (pE (gn (lrt (gr ?_))))))
      cases hk; exact fin0 hO
     ·refine lsk (gn (lsq (lsq (lrg (pFL tF42_2 hO 0 (.lit _ _ _) tA39 ?_)))))
      refine pLen tS39 ?_
      refine pM (.int _ _) (pE (gn (lbl ?_)))
      refine wpL_loopO (F := f9_L1 aP0 aF1) (fun s S' => ∃ (J : Nat → V) (G : Heap), Owns H G [.blk b2 (.cells 4 (cFrame l4 0 l5 0 l6 m7 aF1)), .blk b1 (.cells 5 (cPlan l1 0 l2 0 l3 0 aP0))] ∧ S' = ⟨hav [(2, .ptr b1 0), (3, .ptr b2 0), (45, litL l5 0 aF1.Points), (46, iv (aF1.Points.length : Int)), (47, iv s)] J, G⟩) hk ⟨_, _, hO, sh⟩ ?_
      rintro x4 _ y1 ⟨J, G, hO, rfl⟩ hk hx1
      refine lsq (lrg (pBi (pE (gn (lsq (lck hk (fun hk => ?_) (fun hk => ?_)))))))
      ·refine lsk (gn (lsq (lbl (lsq (lrg (bk hk fun c5 hc5 hk => pX hc5 tE39 tZ58 ?_))))))
       refine pLp (.agg [_, _]) (rd2 (lm := 0) (off := 0) hc5 tA58 tZ58) (pNew hO tZ58 t058 (fun b6 G hO => ?_))
       refine pSt (xs := [_, _]) hO 0 tZ58 rfl (fun G hO => pE (gn (lsq (lrg ?_))))
       refine pFL tF58_0 hO 0 (.int _ _) tA3 (bk hk fun v7 hv7 hk => ?_)
       refine pCall (fun _ => f28_run hv7) ?_
       refine pU ?_
       refine pM (.bool _) (bk hk fun t8 ht hk => ?_)
       refine wpR_mid (l1 := [_, _, _, _, _]) (fun S' => ∃ J, S' = ⟨hav [(2, .ptr b1 0), (3, .ptr b2 0), (45, litL l5 0 aF1.Points), (46, iv (aF1.Points.length : Int)), (47, iv x4), (60, .bool t8)] J, G⟩) ?_ ?_
       ·refine bc (b := !v7) (fun hg => ?_) (fun hg => ?_)
        ·replace hk := ct hg ht
         refine pGn hg (pGn hg (pGn hg (pGn hg (pPt hg (.bool _) ?_))))
         cases hk; exact pE ⟨_, sh⟩
        ·replace hk := cf hg ht
         refine pGy hg (pF tF58_1 (pGy hg ?_))
         refine pLo hO 0 (.int _ _) tA3 (pGy hg (bk hk fun v9 hv9 hk => ?_))
         refine pCall (fun _ => f28_run hv9) (pGy hg ?_)
         refine pU ?_
         refine pPf hg (.bool _) ?_
         cases hk; exact pE ⟨_, sh⟩
       ·rintro _ ⟨J, rfl⟩
        refine pE (gn (lck hk (fun hk => ?_) (fun hk => ?_)))
        ·refine lsq (lrg (pA (.bool _) (pE (gn (lrt (br (gr (gr (br (gr (have hk := lx hx1 hk; ?_)))))))))))
         cases hk; exact fin0 hO
        ·refine lsk (bn (gn (lrg (pBi ?_))))
         refine pM (.int _ _) (pE (gn ?_))
         cases hk; exact ⟨_, rfl, _, _, (pk hO [1, 2]), sh⟩
      ·refine lex (ge (ge (be (gn (have hk := lx hx1 hk; lsq (lsq (lrg (pFL tF42_3 hO 0 (.lit _ _ _) tA40 ?_))))))))
       refine pLen tS40 ?_
       refine pM (.int _ _) (pE (gn (lbl ?_)))
       refine wpL_loopO (F := f9_L2 aP0 aF1) (fun s S' => ∃ (J : Nat → V) (G : Heap), Owns H G [.blk b2 (.cells 4 (cFrame l4 0 l5 0 l6 m7 aF1)), .blk b1 (.cells 5 (cPlan l1 0 l2 0 l3 0 aP0))] ∧ S' = ⟨hav [(2, .ptr b1 0), (3, .ptr b2 0), (64, iv (aF1.Ways.length : Int)), (65, iv s)] J, G⟩) hk ⟨_, _, hO, sh⟩ ?_
       rintro x10 _ y1 ⟨J, G, hO, rfl⟩ hk hx1
       refine lsq (lrg (pBi (pE (gn (lsq (lck hk (fun hk => ?_) (fun hk => ?_)))))))
       ·refine lsk (gn (lsq (lbl (lsq (lrg (pM (.int _ _) ?_))))))
        refine pA (.int _ _) (pE (gn (lsq (lsq (lrg ?_)))))
        refine pLs hO 1 [_, _, _, _, _] tA37 tZ37 ?_
        refine pLs hO 0 [_, _, _, _] tA42 tZ42 ?_
        refine pM (.int _ _) (bk hk fun v11 hv11 hk => ?_)
        refine pCall (fun _ => f29_run hv11) ?_
        refine pU (pE (gn (lck hk (fun hk => ?_) (fun hk => ?_))))
        ·refine lsq (lrg (pA (.bool _) (pE (gn (lrt (gr (br (gr (gr (br (gr (have hk := lx hx1 hk; ?_))))))))))))
         cases hk; exact fin0 hO
        ·refine lsk (gn (lsq (lrg (pFL tF42_3 hO 0 (.lit _ _ _) tA40 ?_))))
         refine pLen tS40 ?_
         refine pM (.int _ _) (pE (gn (lbl ?_)))
         refine wpL_loopO (F := f9_L3 aP0 aF1 x10) (fun s S' => ∃ (J : Nat → V) (G : Heap), Owns H G [.blk b2 (.cells 4 (cFrame l4 0 l5 0 l6 m7 aF1)), .blk b1 (.cells 5 (cPlan l1 0 l2 0 l3 0 aP0))] ∧ S' = ⟨hav [(2, .ptr b1 0), (3, .ptr b2 0), (7, iv x10), (64, iv (aF1.Ways.length : Int)), (65, iv x10), (75, iv (aF1.Ways.length : Int)), (76, iv s)] J, G⟩) hk ⟨_, _, hO, sh⟩ ?_
         rintro x12 _ y2 ⟨J, G, hO, rfl⟩ hk hx2
         refine lsq (lrg (pBi (pE (gn (lsq (lck hk (fun hk => ?_) (fun hk => ?_)))))))
         ·refine lsk (gn (lsq (lbl (lsq (lrg (pM (.int _ _) ?_))))))
          refine pA (.int _ _) (pE (gn (lsq (lrg ?_))))
          refine pM (.int _ _) ?_
          refine pM (.int _ _) ?_
          refine pBi ?_
          refine pM (.bool _) (bk hk fun t13 ht hk => ?_)
          refine wpR_mid (l1 := [_, _, _, _, _, _, _, _, _]) (fun S' => ∃ J, S' = ⟨hav [(2, .ptr b1 0), (3, .ptr b2 0), (7, iv x10), (8, iv x12), (64, iv (aF1.Ways.length : Int)), (65, iv x10), (75, iv (aF1.Ways.length : Int)), (76, iv x12), (91, .bool t13)] J, G⟩) ?_ ?_
          ·refine bc (b := (x10 != x12)) (fun hg => ?_) (fun hg => ?_)
           ·replace hk := ct hg ht
            refine pGy hg (pF tF37_3 (pGy hg ?_))
            refine pLo hO 1 (.lit _ _ _) tA24 (pGy hg ?_)
            refine pM (.int _ _) (pGy hg (bk hk fun c14 hc14 hk => ?_))
            refine pX hc14 tE24 tZ27 (pGy hg ?_)
            refine pLp (.lit _ _ _) (rd1 (lm := 0) (off := 0) hc14 tA27) (pGy hg ?_)
            refine pM (.int _ _) (pGy hg (bk hk fun c15 hc15 hk => ?_))
            refine pX hc15 tE27 tZ4 (pGy hg ?_)
            refine pLp (.bool _) (rd1 (lm := 0) (off := 0) hc15 tA4) ?_
            refine pPt hg (.bool _) ?_
            cases hk; exact pE ⟨_, sh⟩
           ·replace hk := cf hg ht
            refine pGn hg (pGn hg (pGn hg (pGn hg (pGn hg (pGn hg (pGn hg (pGn hg (pPf hg (.bool _) ?_))))))))
            cases hk; exact pE ⟨_, sh⟩
          ·rintro _ ⟨J, rfl⟩
           refine pM (.bool _) (bk hk fun t16 ht hk => ?_)
           refine wpR_mid (l1 := [_, _, _, _, _, _, _, _]) (fun S' => ∃ J, S' = ⟨hav [(2, .ptr b1 0), (3, .ptr b2 0), (7, iv x10), (8, iv x12), (64, iv (aF1.Ways.length : Int)), (65, iv x10), (75, iv (aF1.Ways.length : Int)), (76, iv x12), (100, .bool t16)] J, G⟩) ?_ ?_
           ·refine bc (b := t13) (fun hg => ?_) (fun hg => ?_)
            ·replace hk := ct hg ht
             refine pGy hg (pF tF42_3 (pGy hg ?_))
             refine pLo hO 0 (.lit _ _ _) tA40 (pGy hg ?_)
             refine pM (.int _ _) (pGy hg (bk hk fun c17 hc17 hk => ?_))
             refine pX hc17 tE40 tZ61 (pGy hg ?_)
             refine pF tF61_0 (pGy hg ?_)
             refine pLp (.int _ _) (rd1 (lm := m7) (off := 0) hc17 tA3) (pGy hg ?_)
             refine pBi ?_
             refine pPt hg (.bool _) ?_
             cases hk; exact pE ⟨_, sh⟩
            ·replace hk := cf hg ht
             refine pGn hg (pGn hg (pGn hg (pGn hg (pGn hg (pGn hg (pGn hg (pPf hg (.bool _) ?_)))))))
             cases hk; exact pE ⟨_, sh⟩
           ·rintro _ ⟨J, rfl⟩
            refine pM (.bool _) (bk hk fun t18 ht hk => ?_)
            refine wpR_mid (l1 := [_, _, _, _, _, _, _, _]) (fun S' => ∃ J, S' = ⟨hav [(2, .ptr b1 0), (3, .ptr b2 0), (7, iv x10), (64, iv (aF1.Ways.length : Int)), (65, iv x10), (75, iv (aF1.Ways.length : Int)), (76, iv x12), (109, .bool t18)] J, G⟩) ?_ ?_
            ·refine bc (b := t16) (fun hg => ?_) (fun hg => ?_)
             ·replace hk := ct hg ht
              refine pGy hg (pF tF42_3 (pGy hg ?_))
              refine pLo hO 0 (.lit _ _ _) tA40 (pGy hg ?_)
              refine pM (.int _ _) (pGy hg (bk hk fun c19 hc19 hk => ?_))
              refine pX hc19 tE40 tZ61 (pGy hg ?_)
              refine pF tF61_0 (pGy hg ?_)
              refine pLp (.int _ _) (rd1 (lm := m7) (off := 0) hc19 tA3) (pGy hg ?_)
              refine pBi ?_
              refine pPt hg (.bool _) ?_
              cases hk; exact pE ⟨_, sh⟩
             ·replace hk := cf hg ht
              refine pGn hg (pGn hg (pGn hg (pGn hg (pGn hg (pGn hg (pGn hg (pPf hg (.bool _) ?_)))))))
              cases hk; exact pE ⟨_, sh⟩
            ·rintro _ ⟨J, rfl⟩
             refine pE (gn (lck hk (fun hk => ?_) (fun hk => ?_)))
             ·refine lsq (lrg (pA (.bool _) (pE (gn (lrt (br (gr (gr (br (br (gr (gr (br (gr (have hk := lx hx2 hk; have hk := lx hx1 hk; ?_)))))))))))))))
              cases hk; exact fin0 hO
             ·refine lsk (bn (gn (lrg (pBi ?_))))
              refine pM (.int _ _) (pE (gn ?_))
              cases hk; exact ⟨_, rfl, _, _, hO, sh⟩
         ·refine lex (ge (ge (be (bn (gn (have hk := lx hx2 hk; lrg (pBi ?_)))))))
          refine pM (.int _ _) (pE (gn ?_))
          cases hk; exact ⟨_, rfl, _, _, hO, sh⟩
       ·refine lex (ge (ge (be (gn (have hk := lx hx1 hk; lsq (lrg (pLs hO 0 [_, _, _, _] tA42 tZ42 (bk hk fun v20 hv20 hk => ?_))))))))
        refine pCNs hO (fun _ => f30_run hv20) (fun u21 F21 G hO => ?_)
        replace hO : Owns H G (Tree [] _ ((v20.Ok, v20.Occ, v20.Points, v20.Ways) : Bool × (List Bool) × (List Point) × (List Held)) _ :: [.blk b2 (.cells 4 (cFrame l4 0 l5 0 l6 m7 aF1)), .blk b1 (.cells 5 (cPlan l1 0 l2 0 l3 0 aP0))]) := hO
        obtain ⟨cs22, Fb22, he, hP⟩ := Owns.splitS hO
        clear hO; subst he; have hO := hP; clear hP
        obtain ⟨u23, cs23, F23, Fb23, he, hP⟩ := Owns.splitL hO
        clear hO; subst he; have hO := hP; clear hP
        obtain ⟨u25, cs25, F25, Fb25, he, hP⟩ := Owns.splitL hO
        clear hO; subst he; have hO := hP; clear hP
        obtain ⟨u27, rfl⟩ := Owns.lastL hO
        refine pNew hO tZ42 t042 (fun b29 G hO => ?_)
        have hc30 := tl_cells hO (j := 3) rfl
        have hc31 := tl_cells hO (j := 2) rfl
        have hc32 := tl_cells hO (j := 1) rfl
        refine pSt (xs := [_, _, _, _]) hO 0 tZ42 rfl (fun G hO => ?_) (h6 := (all_c rfl (all_c hc30.2 (all_c hc31.2 (all_c hc32.2 all_n)))))
        refine pE (gn (lsq (lrg (pLs hO 5 [_, _, _, _, _] tA37 tZ37 ?_))))
        replace hO := (Owns.pick hO [0, 3, 2, 1, 4, 5] (by decide) rfl : Owns H G ([.blk b29 (.cells 4 [.bool v20.Ok, u23, u25, u27]), Tree [] F23 v20.Occ [u23], Tree [] F25 v20.Points [u25], Tree [] Fb25 v20.Ways [u27]] ++ [.blk b2 (.cells 4 (cFrame l4 0 l5 0 l6 m7 aF1)), .blk b1 (.cells 5 (cPlan l1 0 l2 0 l3 0 aP0))]))
        refine bk hk fun z33 hz33 hk => pCGd (rs0 := [.blk b29 (.cells 4 [.bool v20.Ok, u23, u25, u27]), Tree [] F23 v20.Occ [u23], Tree [] F25 v20.Points [u25], Tree [] Fb25 v20.Ways [u27]]) (rs1 := fun (Fs34 : List Nat × List Nat × List Nat) => [.blk b29 (.cells 4 [.bool z33.Ok, u23, u25, u27]), Tree [] Fs34.1 z33.Occ [u23], Tree [] Fs34.2.1 z33.Points [u25], Tree [] Fs34.2.2 z33.Ways [u27]]) (rest := [.blk b2 (.cells 4 (cFrame l4 0 l5 0 l6 m7 aF1)), .blk b1 (.cells 5 (cPlan l1 0 l2 0 l3 0 aP0))]) (S := (b29 :: (F23 ++ (F25 ++ (Fb25 ++ []))))) hO hlo rfl (nums_S rfl) (nums_S' rfl) (Owns.lo hO) (fun _ hl1 hlt1 hun1 ho1 => f31_run hz33 ho1 hun1 hlt1 hl1) (fun _ => (inC rfl (inC rfl (inC rfl (inC rfl inN))))) (fun Fs34 G hO => pE (gn (lsq (lrg ?_))))
        refine pLs hO 4 [_, _, _, _] tA42 tZ42 ?_
        refine pLs hO 0 [_, _, _, _] tA42 tZ42 (bk hk fun v35 hv35 hk => ?_)
        obtain ⟨_, hm36⟩ := ld_tr hO (j := 3) rfl (lk.length + 1) 7
        obtain ⟨_, hm37⟩ := ld_trF hO (j := 2) rfl (lk.length + 1) 7
        obtain ⟨_, hm38⟩ := ld_trF hO (j := 1) rfl (lk.length + 1) 7
        refine pCall (vs := [(.agg [_, _, _, _]), (.agg [_, _, _, _])]) (caps := []) (fun _ => f32_run hv35) ?_ (h3 := (la_cons rfl (la_cons (ld_agg (ll_cons rfl (ll_cons hm38 (ll_cons hm37 (ll_cons hm36 ll_nil))))) la_nil)))
        refine pA (.bool _) (pE (gn (lrt ?_)))
        cases hk; exact fin0 hO
def f50_L1 (aF1 : Frame) (aI2 : Int) (aSection3 : Int) (c4 : Way) : Int → Option (Int ⊕ Bool) := fun s =>
 (bif decide (s < (c4.Sections.length : Int)) then ((getI c4.Sections s).bind fun c6 => ((bif (c6 == aSection3) then ((getI aF1.Ways aI2).bind fun c8 => some (decide (s ≥ c8.Gone))) else some false).bind fun t7 => (bif t7 then ((some true).map Sum.inr) else some (.inl (w64 (s + (1:Int))))))) else ((some false).map Sum.inr))
def f50 (aP0 : Plan) (aF1 : Frame) (aI2 : Int) (aSection3 : Int) : Option Bool :=
 ((getI aF1.Ways aI2).bind fun c3 => (bif (c3.State == (0:Int)) then some false else ((getI aP0.Ways aI2).bind fun c4 => (loopO (f50_L1 aF1 aI2 aSection3 c4) ((0:Int))))))
theorem f50_run {aP0 : Plan} {aF1 : Frame} {aI2 : Int} {aSection3 : Int} {r : Bool} {l1 l2 m3 l4 m5 l6 l7 l8 m9 : Nat} (hk : f50 aP0 aF1 aI2 aSection3 = some r) (hlk : 0 < lk.length := by simp) : runL Try.prog hh 50 [.agg (cPlan l1 0 l2 m3 l4 m5 aP0), .agg (cFrame l6 0 l7 0 l8 m9 aF1), iv aI2, iv aSection3] H lk = some (.bool r, H) := by
 refine run_start Try.func50 rfl Try.ntmps50 Try.results50 rfl rfl fun hO => ?_
 unfold f50 at hk
 refine lsq (lrg (pBox (cs := [_, _, _, _, _]) hO tZ37 (fun b1 G hO => ?_)))
 refine pBox (cs := [_, _, _, _]) hO tZ42 (fun b2 G hO => ?_)
 refine pA (.bool _) (pE (gn (lsq (lsq (lrg ?_)))))
 refine pFL tF42_3 hO 0 (.lit _ _ _) tA40 ?_
 refine pM (.int _ _) (bk hk fun c3 hc3 hk => ?_)
 refine pX hc3 tE40 tZ61 ?_
 refine pF tF61_0 ?_
 refine pLp (.int _ _) (rd1 (lm := m9) (off := 0) hc3 tA3) ?_
 refine pBi (pE (gn (lck hk (fun hk => ?_) (fun hk => ?_))))
 ·refine lsq (lrg (pA (.bool _) (pE (gn (lrt (gr ?_))))))
  cases hk; exact fin0 hO
 ·refine lsk (gn (lsq (lsq (lrg (pFL tF37_2 hO 1 (.lit _ _ _) tA35 ?_)))))
  refine pM (.int _ _) (bk hk fun c4 hc4 hk => ?_)
  refine pX hc4 tE35 tZ89 ?_
  refine pF tF89_0 ?_
  refine pLp (.lit _ _ _) (rd1 (lm := m3) (off := 0) hc4 tA22) ?_
  refine pLen tS22 ?_
  refine pM (.int _ _) (pE (gn (lbl ?_)))
  refine wpL_loopO (F := f50_L1 aF1 aI2 aSection3 c4) (fun s S' => ∃ (J : Nat → V) (G : Heap), Owns H G [.blk b2 (.cells 4 (cFrame l6 0 l7 0 l8 m9 aF1))] ∧ S' = ⟨hav [(2, iv aI2), (3, iv aSection3), (5, .ptr b2 0), (23, litL m3 0 c4.Sections), (24, iv (c4.Sections.length : Int)), (25, iv s)] J, G⟩) hk ⟨_, _, (pk hO [0]), sh⟩ ?_
  rintro x5 _ y1 ⟨J, G, hO, rfl⟩ hk hx1
  refine lsq (lrg (pBi (pE (gn (lsq (lck hk (fun hk => ?_) (fun hk => ?_)))))))
  ·refine lsk (gn (lsq (lbl (lsq (lrg (pM (.int _ _) (bk hk fun c6 hc6 hk => ?_)))))))
   refine pX hc6 tE22 tZ3 ?_
   refine pLp (.int _ _) (rd1 (lm := 0) (off := 0) hc6 tA3) ?_
   refine pA (.int _ _) ?_
   refine pA (.int _ _) (pE (gn (lsq (lrg ?_))))
   refine pM (.int _ _) ?_
   refine pM (.int _ _) ?_
   refine pBi ?_
   refine pM (.bool _) (bk hk fun t7 ht hk => ?_)
   refine wpR_mid (l1 := [_, _, _, _, _, _, _, _, _]) (fun S' => ∃ J, S' = ⟨hav [(2, iv aI2), (3, iv aSection3), (5, .ptr b2 0), (23, litL m3 0 c4.Sections), (24, iv (c4.Sections.length : Int)), (25, iv x5), (42, .bool t7)] J, G⟩) ?_ ?_
   ·refine bc (b := (c6 == aSection3)) (fun hg => ?_) (fun hg => ?_)
    ·replace hk := ct hg ht
     refine pGy hg (pM (.int _ _) (pGy hg ?_))
     refine pF tF42_3 (pGy hg ?_)
     refine pLo hO 0 (.lit _ _ _) tA40 (pGy hg ?_)
     refine pM (.int _ _) (pGy hg (bk hk fun c8 hc8 hk => ?_))
     refine pX hc8 tE40 tZ61 (pGy hg ?_)
     refine pF tF61_1 (pGy hg ?_)
     refine pLp (.int _ _) (rd1 (lm := m9) (off := 1) hc8 tA3) (pGy hg ?_)
     refine pBi ?_
     refine pPt hg (.bool _) ?_
     cases hk; exact pE ⟨_, sh⟩
    ·replace hk := cf hg ht
     refine pGn hg (pGn hg (pGn hg (pGn hg (pGn hg (pGn hg (pGn hg (pGn hg (pPf hg (.bool _) ?_))))))))
     cases hk; exact pE ⟨_, sh⟩
   ·rintro _ ⟨J, rfl⟩
    refine pE (gn (lck hk (fun hk => ?_) (fun hk => ?_)))
    ·refine lsq (lrg (pA (.bool _) (pE (gn (lrt (br (gr (gr (br (gr (have hk := lx hx1 hk; ?_)))))))))))
     cases hk; exact fin0 hO
    ·refine lsk (bn (gn (lrg (pBi ?_))))
     refine pM (.int _ _) (pE (gn ?_))
     cases hk; exact ⟨_, rfl, _, _, hO, sh⟩
  ·refine lex (ge (ge (be (gn (have hk := lx hx1 hk; lsq (lrg (pA (.bool _) (pE (gn (lrt ?_))))))))))
   cases hk; exact fin0 hO
def f103_L2 (aP0 : Plan) (aF1 : Frame) (aI2 : Int) (aPoint3 : Int) (c8 : Way) : Int → Option (Int ⊕ Int) := fun s =>
 (bif decide (s < (c8.Lies.length : Int)) then ((getI c8.Lies s).bind fun c10 => ((bif (c10.Switch == aPoint3) then ((getI aP0.Switches aPoint3).bind fun c13 => ((f50 aP0 aF1 aI2 c13).bind fun v14 => some v14)) else some false).bind fun t12 => (bif t12 then ((some c10.Lie).map Sum.inr) else some (.inl (w64 (s + (1:Int))))))) else ((some (0:Int)).map Sum.inr))
def f103_L1 (aP0 : Plan) (aF1 : Frame) (aI2 : Int) (aPoint3 : Int) (c4 : Way) : Int → Option (Int ⊕ Int) := fun s =>
 (bif decide (s < (c4.Flanks.length : Int)) then ((getI c4.Flanks s).bind fun c6 => (bif (c6.Switch == aPoint3) then ((some c6.Lie).map Sum.inr) else some (.inl (w64 (s + (1:Int)))))) else (((getI aP0.Ways aI2).bind fun c8 => (loopO (f103_L2 aP0 aF1 aI2 aPoint3 c8) ((0:Int)))).map Sum.inr))
def f103 (aP0 : Plan) (aF1 : Frame) (aI2 : Int) (aPoint3 : Int) : Option Int :=
 ((getI aF1.Ways aI2).bind fun c3 => (bif (c3.State == (0:Int)) then some (0:Int) else ((getI aP0.Ways aI2).bind fun c4 => (loopO (f103_L1 aP0 aF1 aI2 aPoint3 c4) ((0:Int))))))
theorem f103_run {aP0 : Plan} {aF1 : Frame} {aI2 : Int} {aPoint3 : Int} {r : Int} {l1 l2 m3 l4 m5 l6 l7 l8 m9 : Nat} (hk : f103 aP0 aF1 aI2 aPoint3 = some r) (hlk : 0 < lk.length := by simp) : runL Try.prog hh 103 [.agg (cPlan l1 0 l2 m3 l4 m5 aP0), .agg (cFrame l6 0 l7 0 l8 m9 aF1), iv aI2, iv aPoint3] H lk = some (iv r, H) := by
 refine run_start Try.func103 rfl Try.ntmps103 Try.results103 rfl rfl fun hO => ?_
 unfold f103 at hk
 refine lsq (lrg (pBox (cs := [_, _, _, _, _]) hO tZ37 (fun b1 G hO => ?_)))
 refine pBox (cs := [_, _, _, _]) hO tZ42 (fun b2 G hO => ?_)
 refine pA (.int _ _) (pE (gn (lsq (lsq (lrg ?_)))))
 refine pFL tF42_3 hO 0 (.lit _ _ _) tA40 ?_
 refine pM (.int _ _) (bk hk fun c3 hc3 hk => ?_)
 refine pX hc3 tE40 tZ61 ?_
 refine pF tF61_0 ?_
 refine pLp (.int _ _) (rd1 (lm := m9) (off := 0) hc3 tA3) ?_
 refine pBi (pE (gn (lck hk (fun hk => ?_) (fun hk => ?_))))
 ·refine lsq (lrg (pA (.int _ _) (pE (gn (lrt (gr ?_))))))
  cases hk; exact fin0 hO
 ·refine lsk (gn (lsq (lsq (lrg (pFL tF37_2 hO 1 (.lit _ _ _) tA35 ?_)))))
  refine pM (.int _ _) (bk hk fun c4 hc4 hk => ?_)
  refine pX hc4 tE35 tZ89 ?_
  refine pF tF89_2 ?_
  refine pLp (.lit _ _ _) (rd1 (lm := m3) (off := 2) hc4 tA87) ?_
  refine pLen tS87 ?_
  refine pM (.int _ _) (pE (gn (lbl ?_)))
  refine wpL_loopO (F := f103_L1 aP0 aF1 aI2 aPoint3 c4) (fun s S' => ∃ (J : Nat → V) (G : Heap), Owns H G [.blk b2 (.cells 4 (cFrame l6 0 l7 0 l8 m9 aF1)), .blk b1 (.cells 5 (cPlan l1 0 l2 m3 l4 m5 aP0))] ∧ S' = ⟨hav [(2, iv aI2), (3, iv aPoint3), (4, .ptr b1 0), (5, .ptr b2 0), (25, litL m3 0 c4.Flanks), (26, iv (c4.Flanks.length : Int)), (27, iv s)] J, G⟩) hk ⟨_, _, hO, sh⟩ ?_
  rintro x5 _ y1 ⟨J, G, hO, rfl⟩ hk hx1
  refine lsq (lrg (pBi (pE (gn (lsq (lck hk (fun hk => ?_) (fun hk => ?_)))))))
  ·refine lsk (gn (lsq (lbl (lsq (lrg (bk hk fun c6 hc6 hk => pX hc6 tE87 tZ102 ?_))))))
   refine pLp (.agg [_, _]) (rd2 (lm := 0) (off := 0) hc6 tA102 tZ102) (pNew hO tZ102 t0102 (fun b7 G hO => ?_))
   refine pSt (xs := [_, _]) hO 0 tZ102 rfl (fun G hO => pE (gn (lsq (lrg ?_))))
   refine pFL tF102_0 hO 0 (.int _ _) tA3 ?_
   refine pM (.int _ _) ?_
   refine pBi (pE (gn (lck hk (fun hk => ?_) (fun hk => ?_))))
   ·refine lsq (lrg (pFL tF102_1 hO 0 (.int _ _) tA3 ?_))
    refine pA (.int _ _) (pE (gn (lrt (br (gr (gr (br (gr (have hk := lx hx1 hk; ?_)))))))))
    cases hk; exact fin0 hO
   ·refine lsk (bn (gn (lrg (pBi ?_))))
    refine pM (.int _ _) (pE (gn ?_))
    cases hk; exact ⟨_, rfl, _, _, (pk hO [1, 2]), sh⟩
  ·refine lex (ge (ge (be (gn (have hk := lx hx1 hk; lsq (lsq (lrg (pFL tF37_2 hO 1 (.lit _ _ _) tA35 ?_))))))))
   refine pM (.int _ _) (bk hk fun c8 hc8 hk => ?_)
   refine pX hc8 tE35 tZ89 ?_
   refine pF tF89_1 ?_
   refine pLp (.lit _ _ _) (rd1 (lm := m3) (off := 1) hc8 tA87) ?_
   refine pLen tS87 ?_
   refine pM (.int _ _) (pE (gn (lbl ?_)))
   refine wpL_loopO (F := f103_L2 aP0 aF1 aI2 aPoint3 c8) (fun s S' => ∃ (J : Nat → V) (G : Heap), Owns H G [.blk b2 (.cells 4 (cFrame l6 0 l7 0 l8 m9 aF1)), .blk b1 (.cells 5 (cPlan l1 0 l2 m3 l4 m5 aP0))] ∧ S' = ⟨hav [(2, iv aI2), (3, iv aPoint3), (4, .ptr b1 0), (5, .ptr b2 0), (43, litL m3 0 c8.Lies), (44, iv (c8.Lies.length : Int)), (45, iv s)] J, G⟩) hk ⟨_, _, hO, sh⟩ ?_
   rintro x9 _ y1 ⟨J, G, hO, rfl⟩ hk hx1
   refine lsq (lrg (pBi (pE (gn (lsq (lck hk (fun hk => ?_) (fun hk => ?_)))))))
   ·refine lsk (gn (lsq (lbl (lsq (lrg (bk hk fun c10 hc10 hk => pX hc10 tE87 tZ102 ?_))))))
    refine pLp (.agg [_, _]) (rd2 (lm := 0) (off := 0) hc10 tA102 tZ102) (pNew hO tZ102 t0102 (fun b11 G hO => ?_))
    refine pSt (xs := [_, _]) hO 0 tZ102 rfl (fun G hO => pE (gn (lsq ?_)))
    refine wpL_drw [(0, false), (1, true), (2, true), (3, false), (4, false), (5, true), (6, true), (7, true), (8, true), (9, true), (10, true), (11, true), (12, true), (13, false), (14, false)] [_, _, _, _, _, _, _, _, _, _, _, _, _, _, _] (by decide +kernel) (by rfl) ?_
    refine pFL tF102_0 hO 0 (.int _ _) tA3 ?_
    refine pM (.int _ _) ?_
    refine pBi ?_
    refine pM (.bool _) (bk hk fun t12 ht hk => ?_)
    refine wpR_mid (l1 := [_, _, _, _, _, _, _, _, _, _]) (fun S' => ∃ J, S' = ⟨hav [(2, iv aI2), (3, iv aPoint3), (4, .ptr b1 0), (5, .ptr b2 0), (12, .ptr b11 0), (43, litL m3 0 c8.Lies), (44, iv (c8.Lies.length : Int)), (45, iv x9), (63, .bool t12)] J, G⟩) ?_ ?_
    ·refine bc (b := (c10.Switch == aPoint3)) (fun hg => ?_) (fun hg => ?_)
     ·replace hk := ct hg ht
      refine pGy hg (pLs hO 2 [_, _, _, _, _] tA37 tZ37 (pGy hg ?_))
      refine pLs hO 1 [_, _, _, _] tA42 tZ42 (pGy hg ?_)
      refine pM (.int _ _) (pGy hg ?_)
      refine pF tF37_1 (pGy hg ?_)
      refine pLo hO 2 (.lit _ _ _) tA22 (pGy hg ?_)
      refine pM (.int _ _) (pGy hg (bk hk fun c13 hc13 hk => ?_))
      refine pX hc13 tE22 tZ3 (pGy hg ?_)
      refine pLp (.int _ _) (rd1 (lm := 0) (off := 0) hc13 tA3) (pGy hg (bk hk fun v14 hv14 hk => ?_))
      refine pCall (fun _ => f50_run hv14) ?_
      refine pPt hg (.bool _) ?_
      cases hk; exact pE ⟨_, sh⟩
     ·replace hk := cf hg ht
      refine pGn hg (pGn hg (pGn hg (pGn hg (pGn hg (pGn hg (pGn hg (pGn hg (pGn hg (pPf hg (.bool _) ?_)))))))))
      cases hk; exact pE ⟨_, sh⟩
    ·rintro _ ⟨J, rfl⟩
     refine pE (gn (lck hk (fun hk => ?_) (fun hk => ?_)))
     ·refine lsq (lrg (pFL tF102_1 hO 0 (.int _ _) tA3 ?_))
      refine pA (.int _ _) (pE (gn (lrt (br (gr (gr (br (gr (have hk := lx hx1 hk; ?_)))))))))
      cases hk; exact fin0 hO
     ·refine lsk (bn (gn (lrg (pBi ?_))))
      refine pM (.int _ _) (pE (gn ?_))
      cases hk; exact ⟨_, rfl, _, _, (pk hO [1, 2]), sh⟩
   ·refine lex (ge (ge (be (gn (have hk := lx hx1 hk; lsq (lrg (pA (.int _ _) (pE (gn (lrt ?_))))))))))
    cases hk; exact fin0 hO
def f92_k2 (x5 : Int) (x6 : List Int) : Option (((List Int) × Int) ⊕ (List Int)) :=
 some (.inl (x6, w64 (x5 + (1:Int))))
def f92_L1 (aP0 : Plan) (aF1 : Frame) (aPoint2 : Int) : ((List Int) × Int) → Option (((List Int) × Int) ⊕ (List Int)) := fun s =>
 (bif decide (s.2 < (aP0.Ways.length : Int)) then ((f103 aP0 aF1 s.2 aPoint2).bind fun v8 => (bif decide (v8 > (0:Int)) then ((appB 8 s.1 ([s.2] : List Int)).bind fun z9 => (f92_k2 s.2 z9)) else (f92_k2 s.2 s.1))) else ((some s.1).map Sum.inr))
def f92 (aP0 : Plan) (aF1 : Frame) (aPoint2 : Int) : Option (List Int) :=
 (loopO (f92_L1 aP0 aF1 aPoint2) (([] : List Int), (0:Int)))
theorem f92_run {aP0 : Plan} {aF1 : Frame} {aPoint2 : Int} {r : (List Int)} {l1 l2 m3 l4 m5 l6 l7 l8 m9 : Nat} (hk : f92 aP0 aF1 aPoint2 = some r) (hlk : 0 < lk.length := by simp) : runL Try.prog hh 92 [.agg (cPlan l1 0 l2 m3 l4 m5 aP0), .agg (cFrame l6 0 l7 0 l8 m9 aF1), iv aPoint2] H lk = some (litL 0 0 r, H) := by
 refine run_start Try.func92 rfl Try.ntmps92 Try.results92 rfl rfl fun hO => ?_
 unfold f92 at hk
 refine lsq (lrg (pBox (cs := [_, _, _, _, _]) hO tZ37 (fun b1 G hO => ?_)))
 refine pBox (cs := [_, _, _, _]) hO tZ42 (fun b2 G hO => ?_)
 refine pA (.tl 0 []) (pE (gn (lsq (lrg ?_))))
 refine pA (.tl 0 []) (pE (gn (lsq (lsq (lrg ?_)))))
 refine pFL tF37_2 hO 1 (.lit _ _ _) tA35 ?_
 refine pLen tS35 ?_
 refine pM (.int _ _) (pE (gn (lbl ?_)))
 refine wpL_loopO (F := f92_L1 aP0 aF1 aPoint2) (fun s S' => ∃ (o3 : V) (J : Nat → V) (G : Heap), Owns H G [.blk b2 (.cells 4 (cFrame l6 0 l7 0 l8 m9 aF1)), .blk b1 (.cells 5 (cPlan l1 0 l2 m3 l4 m5 aP0)), .own o3 lk.length 1 s.1.length (flatL 0 s.1)] ∧ S' = ⟨hav [(2, iv aPoint2), (3, .ptr b1 0), (4, .ptr b2 0), (7, o3), (11, iv (aP0.Ways.length : Int)), (12, iv s.2)] J, G⟩) hk ⟨(.tl 0 []), _, _, (Owns.pick (Owns.addTl hO lk.length ([] : List Int)) [1, 2, 0] (by decide) rfl), sh⟩ ?_
 rintro ⟨x3, x5⟩ _ y1 ⟨o3, J, G, hO, rfl⟩ hk hx1
 refine lsq (lrg (pBi (pE (gn (lsq (lck hk (fun hk => ?_) (fun hk => ?_)))))))
 ·refine lsk (gn (wpL_mid (fun S' => ∃ (x6 : List Int) (o6 : V) (J : Nat → V) (G : Heap), f92_k2 x5 x6 = some y1 ∧ Owns H G [.blk b2 (.cells 4 (cFrame l6 0 l7 0 l8 m9 aF1)), .blk b1 (.cells 5 (cPlan l1 0 l2 m3 l4 m5 aP0)), .own o6 lk.length 1 x6.length (flatL 0 x6)] ∧ S' = ⟨hav [(2, iv aPoint2), (3, .ptr b1 0), (4, .ptr b2 0), (7, o6), (11, iv (aP0.Ways.length : Int)), (12, iv x5)] J, G⟩) ?_ ?_))
  ·refine lbl (lsq (lrg (pM (.int _ _) ?_)))
   refine pA (.int _ _) (pE (gn (lsq (lrg ?_))))
   refine pLs hO 1 [_, _, _, _, _] tA37 tZ37 ?_
   refine pLs hO 0 [_, _, _, _] tA42 tZ42 ?_
   refine pM (.int _ _) ?_
   refine pM (.int _ _) (bk hk fun v8 hv8 hk => ?_)
   refine pCall (fun _ => f103_run hv8) ?_
   refine pBi (pE (gn (lck hk (fun hk => ?_) (fun hk => ?_))))
   ·refine lrg (pM o3 ?_)
    refine pM (.int _ _) ?_
    refine pBs (ps := [(0, (.int _ _))]) ([x5] : List Int) tE22 tZ3 t03 (emb_cons (embx_int _ _) (emb_nil)) (bk hk fun z9 hz9 hk => ?_)
    refine pAp (xs := x3) hO 2 hz9 (bears_tl ([x5] : List Int)) tE22 tZ3 tB3 t03 tE22 rfl (fun o9 G hno9 hO => ?_)
    refine pA o9 (pE (bn (gn ?_)))
    exact ⟨z9, o9, _, _, hk, hO, sh⟩
   ·exact lsk (bn (gn (⟨x3, o3, _, _, hk, hO, sh⟩)))
  ·rintro _ ⟨x6, o6, J, G, hk, hO, rfl⟩
   refine lrg (pBi ?_)
   refine pM (.int _ _) (pE (gn ?_))
   cases hk; exact ⟨_, rfl, o6, _, _, hO, sh⟩
 ·refine lex (ge (ge (be (gn (have hk := lx hx1 hk; lsq (lrg (pM o3 ?_)))))))
  refine pA o3 (pE (gn (lrt ?_)))
  replace hk := Option.some.inj hk; subst hk; exact finZ hO (fz_own (xs := x3) hlk 2) (resT o3 resN)
def f72_k2 (x10 : Int) (x11 : List Int) (x13 : Int) : Option (((List Int) × Int × Int) ⊕ (Stays × Int)) :=
 some (.inl (x11, x13, w64 (x10 + (1:Int))))
def f72_k4 (x32 : Int) (x33 : List Int) (x35 : List Int) (x37 : Int) : Option (((List Int) × (List Int) × Int × Int) ⊕ (Stays × Int)) :=
 some (.inl (x33, x35, x37, w64 (x32 + (1:Int))))
def f72_k6 (x52 : Int) (x53 : List Int) (x55 : List Int) (x57 : List Int) (x59 : Int) : Option (((List Int) × (List Int) × (List Int) × Int × Int) ⊕ (Stays × Int)) :=
 some (.inl (x53, x55, x57, x59, w64 (x52 + (1:Int))))
def f72_k9 (x76 : Int) (x77 : List Int) (x79 : List Int) (x81 : List Int) (x83 : Int) : Option (((List Int) × (List Int) × (List Int) × Int × Int) ⊕ (((List Int) × (List Int) × (List Int) × Int × Int) ⊕ (((List Int) × (List Int) × (List Int) × Int × Int) ⊕ (Stays × Int)))) :=
 some (.inl (x77, x79, x81, x83, w64 (x76 + (1:Int))))
def f72_L8 (x52 : Int) (x67 : Int) (c68 : List Turn) : ((List Int) × (List Int) × (List Int) × Int × Int) → Option (((List Int) × (List Int) × (List Int) × Int × Int) ⊕ (((List Int) × (List Int) × (List Int) × Int × Int) ⊕ (((List Int) × (List Int) × (List Int) × Int × Int) ⊕ (Stays × Int)))) := fun s =>
 (bif decide (s.2.2.2.2 < (c68.length : Int)) then ((getI c68 s.2.2.2.2).bind fun c84 => (bif (c84.Switch == x52) then (f72_k9 s.2.2.2.2 s.1 s.2.1 s.2.2.1 c84.Lie) else (f72_k9 s.2.2.2.2 s.1 s.2.1 s.2.2.1 s.2.2.2.1))) else ((some (.inl (s.1, s.2.1, s.2.2.1, s.2.2.2.1, w64 (x67 + (1:Int))))).map Sum.inr))
def f72_L7 (aP0 : Plan) (aF1 : Frame) (c5 : Way) (x51 : Int) (x52 : Int) : ((List Int) × (List Int) × (List Int) × Int × Int) → Option (((List Int) × (List Int) × (List Int) × Int × Int) ⊕ (((List Int) × (List Int) × (List Int) × Int × Int) ⊕ (Stays × Int))) := fun s =>
 (bif decide (s.2.2.2.2 < (([c5.Lies, c5.Flanks] : List (List Turn)).length : Int)) then ((getI ([c5.Lies, c5.Flanks] : List (List Turn)) s.2.2.2.2).bind fun c68 => (loopO (f72_L8 x52 s.2.2.2.2 c68) (s.1, s.2.1, s.2.2.1, s.2.2.2.1, (0:Int)))) else (((bif (s.2.2.2.1 == (0:Int)) then some true else ((getI aF1.Points x52).bind fun c87 => some (s.2.2.2.1 == c87.Want))).bind fun t86 => (bif t86 then (f72_k6 x52 s.1 s.2.1 s.2.2.1 x51) else ((f92 aP0 aF1 x52).bind fun v88 => (bif decide ((v88.length : Int) > (0:Int)) then ((appB 8 s.2.2.1 ([x52] : List Int)).bind fun z89 => (f72_k6 x52 s.1 s.2.1 z89 (5:Int))) else ((getI aP0.Switches x52).bind fun c91 => ((getI aF1.Occ c91).bind fun c92 => (bif c92 then ((appB 8 s.2.2.1 ([x52] : List Int)).bind fun z93 => (bif (x51 == (0:Int)) then (f72_k6 x52 s.1 s.2.1 z93 (6:Int)) else (f72_k6 x52 s.1 s.2.1 z93 x51))) else (f72_k6 x52 s.1 s.2.1 s.2.2.1 x51)))))))).map Sum.inr))
def f72_k10 (x95 : List Int) (x97 : List Int) (x99 : List Int) (x101 : Int) : Option (Stays × Int) :=
 some (({ Ways := x95, Sections := x97, Points := x99 } : Stays), x101)
def f72_L5 (aP0 : Plan) (aF1 : Frame) (c5 : Way) (x31 : Int) : ((List Int) × (List Int) × (List Int) × Int × Int) → Option (((List Int) × (List Int) × (List Int) × Int × Int) ⊕ (Stays × Int)) := fun s =>
 (bif decide (s.2.2.2.2 < (aP0.Switches.length : Int)) then (loopO (f72_L7 aP0 aF1 c5 s.2.2.2.1 s.2.2.2.2) (s.1, s.2.1, s.2.2.1, (0:Int), (0:Int))) else ((bif (x31 == (0:Int)) then (f72_k10 s.1 s.2.1 s.2.2.1 s.2.2.2.1) else (f72_k10 s.1 s.2.1 s.2.2.1 x31)).map Sum.inr))
def f72_L3 (aP0 : Plan) (aF1 : Frame) (c5 : Way) : ((List Int) × (List Int) × Int × Int) → Option (((List Int) × (List Int) × Int × Int) ⊕ (Stays × Int)) := fun s =>
 (bif decide (s.2.2.2 < aP0.Sections) then ((getI aF1.Occ s.2.2.2).bind fun c38 => ((bif c38 then ((f76 ([s.2.2.2] : List Int) c5.Sections).bind fun v40 => ((bif v40 then some true else ((f76 ([s.2.2.2] : List Int) c5.Over).bind fun v42 => some v42)).bind fun t41 => some t41)) else some false).bind fun t39 => (bif t39 then ((appB 8 s.2.1 ([s.2.2.2] : List Int)).bind fun z43 => (bif (s.2.2.1 == (0:Int)) then (f72_k4 s.2.2.2 s.1 z43 (4:Int)) else (f72_k4 s.2.2.2 s.1 z43 s.2.2.1))) else (f72_k4 s.2.2.2 s.1 s.2.1 s.2.2.1)))) else ((loopO (f72_L5 aP0 aF1 c5 s.2.2.1) (s.1, s.2.1, ([] : List Int), (0:Int), (0:Int))).map Sum.inr))
def f72_L1 (aP0 : Plan) (aF1 : Frame) (aWay2 : Int) (c5 : Way) : ((List Int) × Int × Int) → Option (((List Int) × Int × Int) ⊕ (Stays × Int)) := fun s =>
 (bif decide (s.2.2 < (aP0.Ways.length : Int)) then ((bif (s.2.2 != aWay2) then ((getI aF1.Ways s.2.2).bind fun c15 => some (c15.State != (0:Int))) else some false).bind fun t14 => ((bif t14 then ((getI aP0.Bars aWay2).bind fun c17 => ((getI c17 s.2.2).bind fun c18 => ((bif c18 then some true else ((getI aP0.Ways s.2.2).bind fun c20 => ((f76 c5.Sections c20.Over).bind fun v21 => some v21))).bind fun t19 => ((bif t19 then some true else ((getI aP0.Ways s.2.2).bind fun c23 => ((f76 c5.Over c23.Sections).bind fun v24 => some v24))).bind fun t22 => some t22)))) else some false).bind fun t16 => (bif t16 then ((appB 8 s.1 ([s.2.2] : List Int)).bind fun z25 => (f72_k2 s.2.2 z25 (3:Int))) else (f72_k2 s.2.2 s.1 s.2.1)))) else ((loopO (f72_L3 aP0 aF1 c5) (s.1, ([] : List Int), s.2.1, (0:Int))).map Sum.inr))
def f72 (aP0 : Plan) (aF1 : Frame) (aWay2 : Int) : Option (Stays × Int) :=
 ((getI aP0.Ways aWay2).bind fun c5 => (loopO (f72_L1 aP0 aF1 aWay2 c5) (([] : List Int), (0:Int), (0:Int))))
theorem f72_run {aP0 : Plan} {aF1 : Frame} {aWay2 : Int} {r : (Stays × Int)} {l1 l2 l3 l4 l5 l6 m7 : Nat} (hk : f72 aP0 aF1 aWay2 = some r) (hlk : 0 < lk.length := by simp) : runL Try.prog hh 72 [.agg (cPlan l1 0 l2 0 l3 0 aP0), .agg (cFrame l4 0 l5 0 l6 m7 aF1), iv aWay2] H lk = some (.tup [.agg [litL 0 0 r.1.Ways, litL 0 0 r.1.Sections, litL 0 0 r.1.Points], iv r.2], H) := by
 refine run_start Try.func72 rfl Try.ntmps72 Try.results72 rfl rfl fun hO => ?_
 unfold f72 at hk
 refine lsq (lrg (pBox (cs := [_, _, _, _, _]) hO tZ37 (fun b1 G hO => ?_)))
 refine pBox (cs := [_, _, _, _]) hO tZ42 (fun b2 G hO => pNew hO tZ107 t0107 (fun b3 G hO => ?_))
 refine pA (.int _ _) (pE (gn (lsq (lrg (pNew hO tZ107 t0107 (fun b4 G hO => pE (gn (lsq (lrg ?_)))))))))
 refine pA (.int _ _) (pE (gn (lsq (lrg ?_))))
 refine pFL tF37_2 hO 3 (.lit _ _ _) tA35 ?_
 refine pM (.int _ _) (bk hk fun c5 hc5 hk => ?_)
 refine pX hc5 tE35 tZ89 ?_
 refine pLp (.agg [_, _, _, _, _]) (rd2 (lm := 0) (off := 0) hc5 tA89 tZ89) (pNew hO tZ89 t089 (fun b6 G hO => ?_))
 refine pSt (xs := [_, _, _, _, _]) hO 0 tZ89 rfl (fun G hO => pE (gn (lsq (lsq (lrg ?_)))))
 refine pFL tF37_2 hO 4 (.lit _ _ _) tA35 ?_
 refine pLen tS35 ?_
 refine pM (.int _ _) (pE (gn (lbl ?_)))
 refine wpL_loopO (F := f72_L1 aP0 aF1 aWay2 c5) (fun s S' => ∃ (o7 : V) (J : Nat → V) (G : Heap), Owns H G [.blk b6 (.cells 5 (cWay 0 0 0 0 0 0 0 0 0 0 c5)), .own o7 lk.length 1 s.1.length (flatL 0 s.1), .blk b4 (.cells 3 [o7, (.tl 0 []), (.tl 0 [])]), .blk b3 (.cells 3 [(.tl 0 []), (.tl 0 []), (.tl 0 [])]), .blk b2 (.cells 4 (cFrame l4 0 l5 0 l6 m7 aF1)), .blk b1 (.cells 5 (cPlan l1 0 l2 0 l3 0 aP0))] ∧ S' = ⟨hav [(2, iv aWay2), (3, .ptr b1 0), (4, .ptr b2 0), (6, .ptr b3 0), (8, .ptr b4 0), (9, iv s.2.1), (10, .ptr b6 0), (27, iv (aP0.Ways.length : Int)), (28, iv s.2.2)] J, G⟩) hk ⟨(.tl 0 []), _, _, (Owns.pick (Owns.addTl hO lk.length ([] : List Int)) [1, 0, 2, 3, 4, 5] (by decide) rfl), sh⟩ ?_
 rintro ⟨x7, x9, x10⟩ _ y1 ⟨o7, J, G, hO, rfl⟩ hk hx1
 refine lsq (lrg (pBi (pE (gn (lsq (lck hk (fun hk => ?_) (fun hk => ?_)))))))
 ·refine lsk (gn (wpL_mid (fun S' => ∃ (x11 : List Int) (x13 : Int) (o11 : V) (J : Nat → V) (G : Heap), f72_k2 x10 x11 x13 = some y1 ∧ Owns H G [.blk b6 (.cells 5 (cWay 0 0 0 0 0 0 0 0 0 0 c5)), .own o11 lk.length 1 x11.length (flatL 0 x11), .blk b4 (.cells 3 [o11, (.tl 0 []), (.tl 0 [])]), .blk b3 (.cells 3 [(.tl 0 []), (.tl 0 []), (.tl 0 [])]), .blk b2 (.cells 4 (cFrame l4 0 l5 0 l6 m7 aF1)), .blk b1 (.cells 5 (cPlan l1 0 l2 0 l3 0 aP0))] ∧ S' = ⟨hav [(2, iv aWay2), (3, .ptr b1 0), (4, .ptr b2 0), (6, .ptr b3 0), (8, .ptr b4 0), (9, iv x13), (10, .ptr b6 0), (27, iv (aP0.Ways.length : Int)), (28, iv x10)] J, G⟩) ?_ ?_))
  ·refine lbl (lsq (lrg (pM (.int _ _) ?_)))
   refine pA (.int _ _) (pE (gn (lsq ?_)))
   refine wpL_drw [(0, false), (1, false), (2, false), (3, false), (4, false), (5, true), (6, true), (7, false), (8, false), (9, true), (10, false), (11, false), (12, false), (13, false), (14, true), (15, true), (16, false), (17, true), (18, true), (19, false), (20, true), (21, false), (22, true), (23, true), (24, true), (25, true), (26, true), (27, true), (28, true), (29, true), (30, false), (31, false), (32, false), (33, true), (34, true), (35, true), (36, true), (37, true), (38, true), (39, true), (40, true), (41, false), (42, false), (43, false)] [_, _, _, _, _, _, _, _, _, _, _, _, _, _, _, _, _, _, _, _, _, _, _, _, _, _, _, _, _, _, _, _, _, _, _, _, _, _, _, _, _, _, _, _] (by decide +kernel) (by rfl) ?_
   refine pM (.int _ _) ?_
   refine pM (.int _ _) ?_
   refine pBi ?_
   refine pM (.bool _) (bk hk fun t14 ht hk => ?_)
   refine wpR_mid (l1 := [_, _, _, _, _, _, _, _]) (fun S' => ∃ J, S' = ⟨hav [(2, iv aWay2), (3, .ptr b1 0), (4, .ptr b2 0), (6, .ptr b3 0), (8, .ptr b4 0), (9, iv x9), (10, .ptr b6 0), (11, iv x10), (27, iv (aP0.Ways.length : Int)), (28, iv x10), (42, .bool t14)] J, G⟩) ?_ ?_
   ·refine bc (b := (x10 != aWay2)) (fun hg => ?_) (fun hg => ?_)
    ·replace hk := ct hg ht
     refine pGy hg (pF tF42_3 (pGy hg ?_))
     refine pLo hO 4 (.lit _ _ _) tA40 (pGy hg ?_)
     refine pM (.int _ _) (pGy hg (bk hk fun c15 hc15 hk => ?_))
     refine pX hc15 tE40 tZ61 (pGy hg ?_)
     refine pF tF61_0 (pGy hg ?_)
     refine pLp (.int _ _) (rd1 (lm := m7) (off := 0) hc15 tA3) (pGy hg ?_)
     refine pBi ?_
     refine pPt hg (.bool _) ?_
     cases hk; exact pE ⟨_, sh⟩
    ·replace hk := cf hg ht
     refine pGn hg (pGn hg (pGn hg (pGn hg (pGn hg (pGn hg (pGn hg (pPf hg (.bool _) ?_)))))))
     cases hk; exact pE ⟨_, sh⟩
   ·rintro _ ⟨J, rfl⟩
    refine pM (.bool _) (bk hk fun t16 ht hk => ?_)
    refine wpR_mid (l1 := [_, _, _, _, _, _, _, _, _, _, _, _, _, _, _, _, _, _, _, _, _, _, _, _, _, _, _, _, _, _, _]) (fun S' => ∃ J, S' = ⟨hav [(2, iv aWay2), (3, .ptr b1 0), (4, .ptr b2 0), (6, .ptr b3 0), (8, .ptr b4 0), (9, iv x9), (10, .ptr b6 0), (11, iv x10), (27, iv (aP0.Ways.length : Int)), (28, iv x10), (74, .bool t16)] J, G⟩) ?_ ?_
    ·refine bc (b := t14) (fun hg => ?_) (fun hg => ?_)
     ·replace hk := ct hg ht
      refine pGy hg (pF tF37_3 (pGy hg ?_))
      refine pLo hO 5 (.lit _ _ _) tA24 (pGy hg ?_)
      refine pM (.int _ _) (pGy hg (bk hk fun c17 hc17 hk => ?_))
      refine pX hc17 tE24 tZ27 (pGy hg ?_)
      refine pLp (.lit _ _ _) (rd1 (lm := 0) (off := 0) hc17 tA27) (pGy hg ?_)
      refine pM (.int _ _) (pGy hg (bk hk fun c18 hc18 hk => ?_))
      refine pX hc18 tE27 tZ4 (pGy hg ?_)
      refine pLp (.bool _) (rd1 (lm := 0) (off := 0) hc18 tA4) (pGy hg ?_)
      refine pM (.bool _) (bk hk fun t19 ht hk => ?_)
      refine wpR_mid (l1 := [_, _, _, _, _, _, _, _, _, _]) (fun S' => ∃ J, S' = ⟨hav [(2, iv aWay2), (3, .ptr b1 0), (4, .ptr b2 0), (6, .ptr b3 0), (8, .ptr b4 0), (9, iv x9), (10, .ptr b6 0), (11, iv x10), (27, iv (aP0.Ways.length : Int)), (28, iv x10), (43, .bool t14), (62, .bool t19)] J, G⟩) ?_ ?_
      ·refine bc (b := c18) (fun hg2 => ?_) (fun hg2 => ?_)
       ·replace hk := ct hg2 ht
        refine pGn hg2 (pGn hg2 (pGn hg2 (pGn hg2 (pGn hg2 (pGn hg2 (pGn hg2 (pGn hg2 (pGn hg2 (pGy hg (pPt hg2 (.bool _) ?_))))))))))
        cases hk; exact pE ⟨_, sh⟩
       ·replace hk := cf hg2 ht
        refine pGy hg2 (pF tF89_0 (pGy hg2 ?_))
        refine pLo hO 0 (.lit _ _ _) tA22 (pGy hg2 ?_)
        refine pF tF37_2 (pGy hg2 ?_)
        refine pLo hO 5 (.lit _ _ _) tA35 (pGy hg2 ?_)
        refine pM (.int _ _) (pGy hg2 (bk hk fun c20 hc20 hk => ?_))
        refine pX hc20 tE35 tZ89 (pGy hg2 ?_)
        refine pF tF89_3 (pGy hg2 ?_)
        refine pLp (.lit _ _ _) (rd1 (lm := 0) (off := 3) hc20 tA22) (pGy hg2 (bk hk fun v21 hv21 hk => ?_))
        refine pCall (fun _ => f76_run hv21) (pGy hg ?_)
        refine pPf hg2 (.bool _) ?_
        cases hk; exact pE ⟨_, sh⟩
      ·rintro _ ⟨J, rfl⟩
       refine pGy hg (pM (.bool _) (bk hk fun t22 ht hk => ?_))
       refine wpR_mid (l1 := [_, _, _, _, _, _, _, _, _, _]) (fun S' => ∃ J, S' = ⟨hav [(2, iv aWay2), (3, .ptr b1 0), (4, .ptr b2 0), (6, .ptr b3 0), (8, .ptr b4 0), (9, iv x9), (10, .ptr b6 0), (11, iv x10), (27, iv (aP0.Ways.length : Int)), (28, iv x10), (43, .bool t14), (73, .bool t22)] J, G⟩) ?_ ?_
       ·refine bc (b := t19) (fun hg2 => ?_) (fun hg2 => ?_)
        ·replace hk := ct hg2 ht
         refine pGn hg2 (pGn hg2 (pGn hg2 (pGn hg2 (pGn hg2 (pGn hg2 (pGn hg2 (pGn hg2 (pGn hg2 (pGy hg (pPt hg2 (.bool _) ?_))))))))))
         cases hk; exact pE ⟨_, sh⟩
        ·replace hk := cf hg2 ht
         refine pGy hg2 (pF tF89_3 (pGy hg2 ?_))
         refine pLo hO 0 (.lit _ _ _) tA22 (pGy hg2 ?_)
         refine pF tF37_2 (pGy hg2 ?_)
         refine pLo hO 5 (.lit _ _ _) tA35 (pGy hg2 ?_)
         refine pM (.int _ _) (pGy hg2 (bk hk fun c23 hc23 hk => ?_))
         refine pX hc23 tE35 tZ89 (pGy hg2 ?_)
         refine pF tF89_0 (pGy hg2 ?_)
         refine pLp (.lit _ _ _) (rd1 (lm := 0) (off := 0) hc23 tA22) (pGy hg2 (bk hk fun v24 hv24 hk => ?_))
         refine pCall (fun _ => f76_run hv24) (pGy hg ?_)
         refine pPf hg2 (.bool _) ?_
         cases hk; exact pE ⟨_, sh⟩
       ·rintro _ ⟨J, rfl⟩
        refine pPt hg (.bool _) ?_
        cases hk; exact pE ⟨_, sh⟩
     ·replace hk := cf hg ht
      refine pGn hg (pGn hg (pGn hg (pGn hg (pGn hg (pGn hg (pGn hg (pGn hg (pGn hg (pGu (pGu (pGu (pGu (pGu (pGu (pGu (pGu (pGu (pGn hg (pGn hg (pGu (pGu (pGu (pGu (pGu (pGu (pGu (pGu (pGu (pGn hg (pPf hg (.bool _) ?_))))))))))))))))))))))))))))))
      cases hk; exact pE ⟨_, sh⟩
    ·rintro _ ⟨J, rfl⟩
     refine pE (gn (lck hk (fun hk => ?_) (fun hk => ?_)))
     ·refine lsq (lrg (pFL tF107_0 hO 2 o7 tA22 ?_))
      refine pM (.int _ _) ?_
      refine pBs (ps := [(0, (.int _ _))]) ([x10] : List Int) tE22 tZ3 t03 (emb_cons (embx_int _ _) (emb_nil)) (bk hk fun z25 hz25 hk => ?_)
      refine pAp (xs := x7) hO 1 hz25 (bears_tl ([x10] : List Int)) tE22 tZ3 tB3 t03 tE22 rfl (fun o25 G hno25 hO => ?_)
      refine pF tF107_0 ?_
      have hc26 := own_cells hO (j := 1) rfl
      refine pSt (xs := [_]) hO 2 tZ22 rfl (fun G hO => ?_) (h3 := hc26.1) (h6 := one_cell hc26.2)
      refine pE (gn (lrg (pA (.int _ _) (pE (bn (gn ?_))))))
      exact ⟨z25, (3:Int), o25, _, _, hk, hO, sh⟩
     ·exact lsk (bn (gn (⟨x7, x9, o7, _, _, hk, hO, sh⟩)))
  ·rintro _ ⟨x11, x13, o11, J, G, hk, hO, rfl⟩
   refine lrg (pBi ?_)
   refine pM (.int _ _) (pE (gn ?_))
   cases hk; exact ⟨_, rfl, o11, _, _, hO, sh⟩
 ·refine lex (ge (ge (be (gn (have hk := lx hx1 hk; lsq (lsq (lrg (pA (.int _ _) (pE (gn (lbl ?_)))))))))))
  refine wpL_loopO (F := f72_L3 aP0 aF1 c5) (fun s S' => ∃ (o27 : V) (o29 : V) (J : Nat → V) (G : Heap), Owns H G [.blk b6 (.cells 5 (cWay 0 0 0 0 0 0 0 0 0 0 c5)), .own o27 lk.length 1 s.1.length (flatL 0 s.1), .own o29 lk.length 1 s.2.1.length (flatL 0 s.2.1), .blk b4 (.cells 3 [o27, o29, (.tl 0 [])]), .blk b3 (.cells 3 [(.tl 0 []), (.tl 0 []), (.tl 0 [])]), .blk b2 (.cells 4 (cFrame l4 0 l5 0 l6 m7 aF1)), .blk b1 (.cells 5 (cPlan l1 0 l2 0 l3 0 aP0))] ∧ S' = ⟨hav [(3, .ptr b1 0), (4, .ptr b2 0), (6, .ptr b3 0), (8, .ptr b4 0), (9, iv s.2.2.1), (10, .ptr b6 0), (12, iv s.2.2.2)] J, G⟩) hk ⟨o7, (.tl 0 []), _, _, (Owns.pick (Owns.addTl hO lk.length ([] : List Int)) [1, 2, 0, 3, 4, 5, 6] (by decide) rfl), sh⟩ ?_
  rintro ⟨x27, x29, x31, x32⟩ _ y1 ⟨o27, o29, J, G, hO, rfl⟩ hk hx1
  refine lsq (lsq (lrg (pM (.int _ _) ?_)))
  refine pFL tF37_0 hO 6 (.int _ _) tA3 ?_
  refine pBi (pE (gn (lck hk (fun hk => ?_) (fun hk => ?_))))
  ·refine lsk (gn (wpL_mid (fun S' => ∃ (x33 : List Int) (x35 : List Int) (x37 : Int) (o33 : V) (o35 : V) (J : Nat → V) (G : Heap), f72_k4 x32 x33 x35 x37 = some y1 ∧ Owns H G [.blk b6 (.cells 5 (cWay 0 0 0 0 0 0 0 0 0 0 c5)), .own o33 lk.length 1 x33.length (flatL 0 x33), .own o35 lk.length 1 x35.length (flatL 0 x35), .blk b4 (.cells 3 [o33, o35, (.tl 0 [])]), .blk b3 (.cells 3 [(.tl 0 []), (.tl 0 []), (.tl 0 [])]), .blk b2 (.cells 4 (cFrame l4 0 l5 0 l6 m7 aF1)), .blk b1 (.cells 5 (cPlan l1 0 l2 0 l3 0 aP0))] ∧ S' = ⟨hav [(3, .ptr b1 0), (4, .ptr b2 0), (6, .ptr b3 0), (8, .ptr b4 0), (9, iv x37), (10, .ptr b6 0), (12, iv x32)] J, G⟩) ?_ ?_))
   ·refine lbl (lsq (lrg (pFL tF42_1 hO 5 (.lit _ _ _) tA27 ?_)))
    refine pM (.int _ _) (bk hk fun c38 hc38 hk => ?_)
    refine pX hc38 tE27 tZ4 ?_
    refine pLp (.bool _) (rd1 (lm := 0) (off := 0) hc38 tA4) ?_
    refine pM (.bool _) (bk hk fun t39 ht hk => ?_)
    refine wpR_mid (l1 := [_, _, _, _, _, _, _, _, _, _, _, _, _]) (fun S' => ∃ J, S' = ⟨hav [(3, .ptr b1 0), (4, .ptr b2 0), (6, .ptr b3 0), (8, .ptr b4 0), (9, iv x31), (10, .ptr b6 0), (12, iv x32), (106, .bool t39)] J, G⟩) ?_ ?_
    ·refine bc (b := c38) (fun hg => ?_) (fun hg => ?_)
     ·replace hk := ct hg ht
      refine pGy hg (pM (.int _ _) (pGy hg ?_))
      refine pBs (ps := [(0, (.int _ _))]) ([x32] : List Int) tE22 tZ3 t03 (emb_cons (embx_int _ _) (emb_nil)) (pGy hg ?_)
      refine pF tF89_0 (pGy hg ?_)
      refine pLo hO 0 (.lit _ _ _) tA22 (pGy hg (bk hk fun v40 hv40 hk => ?_))
      refine pCall (vs := [(.tl 1 (flatL 0 ([x32] : List Int))), (.lit _ _ _)]) (caps := []) (fun _ => f76_run hv40) ?_ (h3 := (la_cons (ld_tl ([x32] : List Int) 6) (la_cons rfl la_nil)))
      refine pGy hg (pM (.bool _) (bk hk fun t41 ht hk => ?_))
      refine wpR_mid (l1 := [_, _, _, _, _, _]) (fun S' => ∃ J, S' = ⟨hav [(3, .ptr b1 0), (4, .ptr b2 0), (6, .ptr b3 0), (8, .ptr b4 0), (9, iv x31), (10, .ptr b6 0), (12, iv x32), (93, .bool c38), (105, .bool t41)] J, G⟩) ?_ ?_
      ·refine bc (b := v40) (fun hg2 => ?_) (fun hg2 => ?_)
       ·replace hk := ct hg2 ht
        refine pGn hg2 (pGn hg2 (pGn hg2 (pGn hg2 (pGn hg2 (pGy hg (pPt hg2 (.bool _) ?_))))))
        cases hk; exact pE ⟨_, sh⟩
       ·replace hk := cf hg2 ht
        refine pGy hg2 (pM (.int _ _) (pGy hg2 ?_))
        refine pBs (ps := [(0, (.int _ _))]) ([x32] : List Int) tE22 tZ3 t03 (emb_cons (embx_int _ _) (emb_nil)) (pGy hg2 ?_)
        refine pF tF89_3 (pGy hg2 ?_)
        refine pLo hO 0 (.lit _ _ _) tA22 (pGy hg2 (bk hk fun v42 hv42 hk => ?_))
        refine pCall (vs := [(.tl 1 (flatL 0 ([x32] : List Int))), (.lit _ _ _)]) (caps := []) (fun _ => f76_run hv42) ?_ (h3 := (la_cons (ld_tl ([x32] : List Int) 6) (la_cons rfl la_nil)))
        refine pGy hg (pPf hg2 (.bool _) ?_)
        cases hk; exact pE ⟨_, sh⟩
      ·rintro _ ⟨J, rfl⟩
       refine pPt hg (.bool _) ?_
       cases hk; exact pE ⟨_, sh⟩
     ·replace hk := cf hg ht
      refine pGn hg (pGn hg (pGn hg (pGn hg (pGn hg (pGn hg (pGu (pGu (pGu (pGu (pGu (pGn hg (pPf hg (.bool _) ?_))))))))))))
      cases hk; exact pE ⟨_, sh⟩
    ·rintro _ ⟨J, rfl⟩
     refine pE (gn (lck hk (fun hk => ?_) (fun hk => ?_)))
     ·refine lsq (lrg (pFL tF107_1 hO 3 o29 tA22 ?_))
      refine pM (.int _ _) ?_
      refine pBs (ps := [(0, (.int _ _))]) ([x32] : List Int) tE22 tZ3 t03 (emb_cons (embx_int _ _) (emb_nil)) (bk hk fun z43 hz43 hk => ?_)
      refine pAp (xs := x29) hO 2 hz43 (bears_tl ([x32] : List Int)) tE22 tZ3 tB3 t03 tE22 rfl (fun o43 G hno43 hO => ?_)
      refine pF tF107_1 ?_
      have hc44 := own_cells hO (j := 2) rfl
      refine pSt (xs := [_]) hO 3 tZ22 rfl (fun G hO => ?_) (h3 := hc44.1) (h6 := one_cell hc44.2)
      refine pE (gn (lsq (lrg (pM (.int _ _) ?_))))
      refine pBi (pE (gn (lck hk (fun hk => ?_) (fun hk => ?_))))
      ·refine lrg (pA (.int _ _) (pE (bn (gn ?_))))
       exact ⟨x27, z43, (4:Int), o27, o43, _, _, hk, hO, sh⟩
      ·exact lsk (bn (gn (⟨x27, z43, x31, o27, o43, _, _, hk, hO, sh⟩)))
     ·exact lsk (bn (gn (⟨x27, x29, x31, o27, o29, _, _, hk, hO, sh⟩)))
   ·rintro _ ⟨x33, x35, x37, o33, o35, J, G, hk, hO, rfl⟩
    refine lrg (pM (.int _ _) ?_)
    refine pBi ?_
    refine pA (.int _ _) (pE (gn ?_))
    cases hk; exact ⟨_, rfl, o33, o35, _, _, hO, sh⟩
  ·refine lex (ge (ge (be (gn (have hk := lx hx1 hk; lsq (lrg (pA (.int _ _) (pE (gn (lsq (lsq (lrg ?_))))))))))))
   refine pFL tF37_1 hO 6 (.lit _ _ _) tA22 ?_
   refine pLen tS22 ?_
   refine pM (.int _ _) (pE (gn (lbl ?_)))
   refine wpL_loopO (F := f72_L5 aP0 aF1 c5 x31) (fun s S' => ∃ (o45 : V) (o47 : V) (o49 : V) (J : Nat → V) (G : Heap), Owns H G [.blk b6 (.cells 5 (cWay 0 0 0 0 0 0 0 0 0 0 c5)), .own o45 lk.length 1 s.1.length (flatL 0 s.1), .own o47 lk.length 1 s.2.1.length (flatL 0 s.2.1), .own o49 lk.length 1 s.2.2.1.length (flatL 0 s.2.2.1), .blk b4 (.cells 3 [o45, o47, o49]), .blk b3 (.cells 3 [(.tl 0 []), (.tl 0 []), (.tl 0 [])]), .blk b2 (.cells 4 (cFrame l4 0 l5 0 l6 m7 aF1)), .blk b1 (.cells 5 (cPlan l1 0 l2 0 l3 0 aP0))] ∧ S' = ⟨hav [(3, .ptr b1 0), (4, .ptr b2 0), (6, .ptr b3 0), (8, .ptr b4 0), (9, iv x31), (10, .ptr b6 0), (13, iv s.2.2.2.1), (117, iv (aP0.Switches.length : Int)), (118, iv s.2.2.2.2)] J, G⟩) hk ⟨o27, o29, (.tl 0 []), _, _, (Owns.pick (Owns.addTl hO lk.length ([] : List Int)) [1, 2, 3, 0, 4, 5, 6, 7] (by decide) rfl), sh⟩ ?_
   rintro ⟨x45, x47, x49, x51, x52⟩ _ y1 ⟨o45, o47, o49, J, G, hO, rfl⟩ hk hx1
   refine lsq (lrg (pBi (pE (gn (lsq (lck hk (fun hk => ?_) (fun hk => ?_)))))))
   ·refine lsk (gn (wpL_mid (fun S' => ∃ (x53 : List Int) (x55 : List Int) (x57 : List Int) (x59 : Int) (o53 : V) (o55 : V) (o57 : V) (J : Nat → V) (G : Heap), f72_k6 x52 x53 x55 x57 x59 = some y1 ∧ Owns H G [.blk b6 (.cells 5 (cWay 0 0 0 0 0 0 0 0 0 0 c5)), .own o53 lk.length 1 x53.length (flatL 0 x53), .own o55 lk.length 1 x55.length (flatL 0 x55), .own o57 lk.length 1 x57.length (flatL 0 x57), .blk b4 (.cells 3 [o53, o55, o57]), .blk b3 (.cells 3 [(.tl 0 []), (.tl 0 []), (.tl 0 [])]), .blk b2 (.cells 4 (cFrame l4 0 l5 0 l6 m7 aF1)), .blk b1 (.cells 5 (cPlan l1 0 l2 0 l3 0 aP0))] ∧ S' = ⟨hav [(3, .ptr b1 0), (4, .ptr b2 0), (6, .ptr b3 0), (8, .ptr b4 0), (9, iv x31), (10, .ptr b6 0), (13, iv x59), (117, iv (aP0.Switches.length : Int)), (118, iv x52)] J, G⟩) ?_ ?_))
    ·refine lbl (lsq (lrg (pM (.int _ _) ?_)))
     refine pA (.int _ _) (pE (gn (lsq (lrg ?_))))
     refine pA (.int _ _) (pE (gn (lsq (lsq (lrg ?_)))))
     refine pFL tF89_1 hO 0 (.lit _ _ _) tA87 ?_
     refine pFL tF89_2 hO 0 (.lit _ _ _) tA87 ?_
     refine pBs (ps := [(0, (.lit _ _ _)), (1, (.lit _ _ _))]) ([c5.Lies, c5.Flanks] : List (List Turn)) tE100 tZ87 t087 (emb_cons (embx_lit c5.Lies) (emb_cons (embx_lit c5.Flanks) (emb_nil))) ?_
     refine pLenO (bears_tl ([c5.Lies, c5.Flanks] : List (List Turn))) tS100 ?_
     refine pM (.int _ _) (pE (gn (lbl ?_)))
     refine wpL_loopO (F := f72_L7 aP0 aF1 c5 x51 x52) (fun s S' => ∃ (o60 : V) (o62 : V) (o64 : V) (J : Nat → V) (G : Heap), Owns H G [.blk b6 (.cells 5 (cWay 0 0 0 0 0 0 0 0 0 0 c5)), .own o60 lk.length 1 s.1.length (flatL 0 s.1), .own o62 lk.length 1 s.2.1.length (flatL 0 s.2.1), .own o64 lk.length 1 s.2.2.1.length (flatL 0 s.2.2.1), .blk b4 (.cells 3 [o60, o62, o64]), .blk b3 (.cells 3 [(.tl 0 []), (.tl 0 []), (.tl 0 [])]), .blk b2 (.cells 4 (cFrame l4 0 l5 0 l6 m7 aF1)), .blk b1 (.cells 5 (cPlan l1 0 l2 0 l3 0 aP0))] ∧ S' = ⟨hav [(3, .ptr b1 0), (4, .ptr b2 0), (6, .ptr b3 0), (8, .ptr b4 0), (9, iv x31), (10, .ptr b6 0), (13, iv x51), (14, iv x52), (15, iv s.2.2.2.1), (117, iv (aP0.Switches.length : Int)), (118, iv x52), (125, (.tl 2 (flatL 0 ([c5.Lies, c5.Flanks] : List (List Turn))))), (126, iv (([c5.Lies, c5.Flanks] : List (List Turn)).length : Int)), (127, iv s.2.2.2.2)] J, G⟩) hk ⟨o45, o47, o49, _, _, hO, sh⟩ ?_
     rintro ⟨x60, x62, x64, x66, x67⟩ _ y2 ⟨o60, o62, o64, J, G, hO, rfl⟩ hk hx2
     refine lsq (lrg (pBi (pE (gn (lsq (lck hk (fun hk => ?_) (fun hk => ?_)))))))
     ·refine lsk (gn (lsq (lbl (lsq (lrg (bk hk fun c68 hc68 hk => pXt hc68 tE100 tZ87 ?_))))))
      refine pLp (.lit _ _ _) (rd1 (lm := 0) (off := 0) hc68 tA87) ?_
      refine pA (.lit _ _ _) (pE (gn (lsq (lrg ?_))))
      refine pM (.lit _ _ _) ?_
      refine pLen tS87 ?_
      refine pM (.int _ _) (pE (gn (lbl ?_)))
      refine wpL_loopO (F := f72_L8 x52 x67 c68) (fun s S' => ∃ (o69 : V) (o71 : V) (o73 : V) (J : Nat → V) (G : Heap), Owns H G [.blk b6 (.cells 5 (cWay 0 0 0 0 0 0 0 0 0 0 c5)), .own o69 lk.length 1 s.1.length (flatL 0 s.1), .own o71 lk.length 1 s.2.1.length (flatL 0 s.2.1), .own o73 lk.length 1 s.2.2.1.length (flatL 0 s.2.2.1), .blk b4 (.cells 3 [o69, o71, o73]), .blk b3 (.cells 3 [(.tl 0 []), (.tl 0 []), (.tl 0 [])]), .blk b2 (.cells 4 (cFrame l4 0 l5 0 l6 m7 aF1)), .blk b1 (.cells 5 (cPlan l1 0 l2 0 l3 0 aP0))] ∧ S' = ⟨hav [(3, .ptr b1 0), (4, .ptr b2 0), (6, .ptr b3 0), (8, .ptr b4 0), (9, iv x31), (10, .ptr b6 0), (13, iv x51), (14, iv x52), (15, iv s.2.2.2.1), (117, iv (aP0.Switches.length : Int)), (118, iv x52), (125, (.tl 2 (flatL 0 ([c5.Lies, c5.Flanks] : List (List Turn))))), (126, iv (([c5.Lies, c5.Flanks] : List (List Turn)).length : Int)), (127, iv x67), (131, litL 0 0 c68), (132, iv (c68.length : Int)), (133, iv s.2.2.2.2)] J, G⟩) hk ⟨o60, o62, o64, _, _, hO, sh⟩ ?_
      rintro ⟨x69, x71, x73, x75, x76⟩ _ y3 ⟨o69, o71, o73, J, G, hO, rfl⟩ hk hx3
      refine lsq (lrg (pBi (pE (gn (lsq (lck hk (fun hk => ?_) (fun hk => ?_)))))))
      ·refine lsk (gn (wpL_mid (fun S' => ∃ (x77 : List Int) (x79 : List Int) (x81 : List Int) (x83 : Int) (o77 : V) (o79 : V) (o81 : V) (J : Nat → V) (G : Heap), f72_k9 x76 x77 x79 x81 x83 = some y3 ∧ Owns H G [.blk b6 (.cells 5 (cWay 0 0 0 0 0 0 0 0 0 0 c5)), .own o77 lk.length 1 x77.length (flatL 0 x77), .own o79 lk.length 1 x79.length (flatL 0 x79), .own o81 lk.length 1 x81.length (flatL 0 x81), .blk b4 (.cells 3 [o77, o79, o81]), .blk b3 (.cells 3 [(.tl 0 []), (.tl 0 []), (.tl 0 [])]), .blk b2 (.cells 4 (cFrame l4 0 l5 0 l6 m7 aF1)), .blk b1 (.cells 5 (cPlan l1 0 l2 0 l3 0 aP0))] ∧ S' = ⟨hav [(3, .ptr b1 0), (4, .ptr b2 0), (6, .ptr b3 0), (8, .ptr b4 0), (9, iv x31), (10, .ptr b6 0), (13, iv x51), (14, iv x52), (15, iv x83), (117, iv (aP0.Switches.length : Int)), (118, iv x52), (125, (.tl 2 (flatL 0 ([c5.Lies, c5.Flanks] : List (List Turn))))), (126, iv (([c5.Lies, c5.Flanks] : List (List Turn)).length : Int)), (127, iv x67), (131, litL 0 0 c68), (132, iv (c68.length : Int)), (133, iv x76)] J, G⟩) ?_ ?_))
       ·refine lbl (lsq (lrg (bk hk fun c84 hc84 hk => pX hc84 tE87 tZ102 ?_)))
        refine pLp (.agg [_, _]) (rd2 (lm := 0) (off := 0) hc84 tA102 tZ102) (pNew hO tZ102 t0102 (fun b85 G hO => ?_))
        refine pSt (xs := [_, _]) hO 0 tZ102 rfl (fun G hO => pE (gn (lsq (lrg ?_))))
        refine pFL tF102_0 hO 0 (.int _ _) tA3 ?_
        refine pM (.int _ _) ?_
        refine pBi (pE (gn (lck hk (fun hk => ?_) (fun hk => ?_))))
        ·refine lrg (pFL tF102_1 hO 0 (.int _ _) tA3 ?_)
         refine pA (.int _ _) (pE (bn (gn ?_)))
         exact ⟨x69, x71, x73, c84.Lie, o69, o71, o73, _, _, hk, (pk hO [1, 2, 3, 4, 5, 6, 7, 8]), sh⟩
        ·exact lsk (bn (gn (⟨x69, x71, x73, x75, o69, o71, o73, _, _, hk, (pk hO [1, 2, 3, 4, 5, 6, 7, 8]), sh⟩)))
       ·rintro _ ⟨x77, x79, x81, x83, o77, o79, o81, J, G, hk, hO, rfl⟩
        refine lrg (pBi ?_)
        refine pM (.int _ _) (pE (gn ?_))
        cases hk; exact ⟨_, rfl, o77, o79, o81, _, _, hO, sh⟩
      ·refine lex (ge (ge (be (bn (gn (have hk := lx hx3 hk; lrg (pBi ?_)))))))
       refine pM (.int _ _) (pE (gn ?_))
       cases hk; exact ⟨_, rfl, o69, o71, o73, _, _, hO, sh⟩
     ·refine lex (ge (ge (be (gn (have hk := lx hx2 hk; lsq (lsq (lrg (pM (.int _ _) ?_))))))))
      refine pBi ?_
      refine pM (.bool _) (bk hk fun t86 ht hk => ?_)
      refine wpR_mid (l1 := [_, _, _, _, _, _, _, _, _]) (fun S' => ∃ J, S' = ⟨hav [(3, .ptr b1 0), (4, .ptr b2 0), (6, .ptr b3 0), (8, .ptr b4 0), (9, iv x31), (10, .ptr b6 0), (13, iv x51), (14, iv x52), (117, iv (aP0.Switches.length : Int)), (118, iv x52), (156, .bool t86)] J, G⟩) ?_ ?_
      ·refine bc (b := (x66 == (0:Int))) (fun hg => ?_) (fun hg => ?_)
       ·replace hk := ct hg ht
        refine pGn hg (pGn hg (pGn hg (pGn hg (pGn hg (pGn hg (pGn hg (pGn hg (pPt hg (.bool _) ?_))))))))
        cases hk; exact pE ⟨_, sh⟩
       ·replace hk := cf hg ht
        refine pGy hg (pM (.int _ _) (pGy hg ?_))
        refine pF tF42_2 (pGy hg ?_)
        refine pLo hO 6 (.lit _ _ _) tA39 (pGy hg ?_)
        refine pM (.int _ _) (pGy hg (bk hk fun c87 hc87 hk => ?_))
        refine pX hc87 tE39 tZ58 (pGy hg ?_)
        refine pF tF58_0 (pGy hg ?_)
        refine pLp (.int _ _) (rd1 (lm := 0) (off := 0) hc87 tA3) (pGy hg ?_)
        refine pBi ?_
        refine pPf hg (.bool _) ?_
        cases hk; exact pE ⟨_, sh⟩
      ·rintro _ ⟨J, rfl⟩
       refine pE (gn (lck hk (fun hk => ?_) (fun hk => ?_)))
       ·exact lex (ge (be (gn (⟨x60, x62, x64, x51, o60, o62, o64, _, _, hk, hO, sh⟩))))
       ·refine lsk (gn (lsq (lrg (pLs hO 7 [_, _, _, _, _] tA37 tZ37 ?_))))
        refine pLs hO 6 [_, _, _, _] tA42 tZ42 ?_
        refine pM (.int _ _) (bk hk fun v88 hv88 hk => ?_)
        refine pCall (fun _ => f92_run hv88) ?_
        refine pLen tS22 ?_
        refine pBi (pE (gn (lck hk (fun hk => ?_) (fun hk => ?_))))
        ·refine lsq (lrg (pFL tF107_2 hO 4 o64 tA22 ?_))
         refine pM (.int _ _) ?_
         refine pBs (ps := [(0, (.int _ _))]) ([x52] : List Int) tE22 tZ3 t03 (emb_cons (embx_int _ _) (emb_nil)) (bk hk fun z89 hz89 hk => ?_)
         refine pAp (xs := x64) hO 3 hz89 (bears_tl ([x52] : List Int)) tE22 tZ3 tB3 t03 tE22 rfl (fun o89 G hno89 hO => ?_)
         refine pF tF107_2 ?_
         have hc90 := own_cells hO (j := 3) rfl
         refine pSt (xs := [_]) hO 4 tZ22 rfl (fun G hO => ?_) (h3 := hc90.1) (h6 := one_cell hc90.2)
         refine pE (gn (lrg (pA (.int _ _) (pE (bn (gn ?_))))))
         exact ⟨x60, x62, z89, (5:Int), o60, o62, o89, _, _, hk, hO, sh⟩
        ·refine lsq (wpL_drw [(0, true), (1, true), (2, true), (3, true), (4, true), (5, true), (6, true), (7, false), (8, true)] [_, _, _, _, _, _, _, _, _] (by decide +kernel) (by rfl) ?_)
         refine pFL tF42_1 hO 6 (.lit _ _ _) tA27 ?_
         refine pFL tF37_1 hO 7 (.lit _ _ _) tA22 ?_
         refine pM (.int _ _) (bk hk fun c91 hc91 hk => ?_)
         refine pX hc91 tE22 tZ3 ?_
         refine pLp (.int _ _) (rd1 (lm := 0) (off := 0) hc91 tA3) (bk hk fun c92 hc92 hk => ?_)
         refine pX hc92 tE27 tZ4 ?_
         refine pLp (.bool _) (rd1 (lm := 0) (off := 0) hc92 tA4) (pE (gn (lck hk (fun hk => ?_) (fun hk => ?_))))
         ·refine lsq (lrg (pFL tF107_2 hO 4 o64 tA22 ?_))
          refine pM (.int _ _) ?_
          refine pBs (ps := [(0, (.int _ _))]) ([x52] : List Int) tE22 tZ3 t03 (emb_cons (embx_int _ _) (emb_nil)) (bk hk fun z93 hz93 hk => ?_)
          refine pAp (xs := x64) hO 3 hz93 (bears_tl ([x52] : List Int)) tE22 tZ3 tB3 t03 tE22 rfl (fun o93 G hno93 hO => ?_)
          refine pF tF107_2 ?_
          have hc94 := own_cells hO (j := 3) rfl
          refine pSt (xs := [_]) hO 4 tZ22 rfl (fun G hO => ?_) (h3 := hc94.1) (h6 := one_cell hc94.2)
          refine pE (gn (lsq (lrg (pM (.int _ _) ?_))))
          refine pBi (pE (gn (lck hk (fun hk => ?_) (fun hk => ?_))))
          ·refine lrg (pA (.int _ _) (pE (bn (gn ?_))))
           exact ⟨x60, x62, z93, (6:Int), o60, o62, o93, _, _, hk, hO, sh⟩
          ·exact lsk (bn (gn (⟨x60, x62, z93, x51, o60, o62, o93, _, _, hk, hO, sh⟩)))
         ·exact lsk (bn (gn (⟨x60, x62, x64, x51, o60, o62, o64, _, _, hk, hO, sh⟩)))
    ·rintro _ ⟨x53, x55, x57, x59, o53, o55, o57, J, G, hk, hO, rfl⟩
     refine lrg (pBi ?_)
     refine pM (.int _ _) (pE (gn ?_))
     cases hk; exact ⟨_, rfl, o53, o55, o57, _, _, hO, sh⟩
   ·refine lex (ge (ge (be (gn (have hk := lx hx1 hk; wpL_mid (fun S' => ∃ (x95 : List Int) (x97 : List Int) (x99 : List Int) (x101 : Int) (o95 : V) (o97 : V) (o99 : V) (J : Nat → V) (G : Heap), f72_k10 x95 x97 x99 x101 = some r ∧ Owns H G [.own o95 lk.length 1 x95.length (flatL 0 x95), .own o97 lk.length 1 x97.length (flatL 0 x97), .own o99 lk.length 1 x99.length (flatL 0 x99), .blk b4 (.cells 3 [o95, o97, o99]), .blk b3 (.cells 3 [(.tl 0 []), (.tl 0 []), (.tl 0 [])])] ∧ S' = ⟨hav [(6, .ptr b3 0), (8, .ptr b4 0), (9, iv x101)] J, G⟩) ?_ ?_)))))
    ·refine lsq (lrg (pM (.int _ _) ?_))
     refine pBi (pE (gn (lck hk (fun hk => ?_) (fun hk => ?_))))
     ·refine lrg (pM (.int _ _) ?_)
      refine pA (.int _ _) (pE (gn ?_))
      exact ⟨x45, x47, x49, x51, o45, o47, o49, _, _, hk, (pk hO [1, 2, 3, 4, 5]), sh⟩
     ·exact lsk (gn (⟨x45, x47, x49, x31, o45, o47, o49, _, _, hk, (pk hO [1, 2, 3, 4, 5]), sh⟩))
    ·rintro _ ⟨x95, x97, x99, x101, o95, o97, o99, J, G, hk, hO, rfl⟩
     refine lsq (lrg (pLs hO 3 [_, _, _] tA107 tZ107 ?_))
     refine pM (.int _ _) ?_
     have hc102 := own_cells hO (j := 0) rfl
     have hc103 := own_cells hO (j := 1) rfl
     have hc104 := own_cells hO (j := 2) rfl
     refine pSt (xs := [_, _, _]) hO 4 tZ107 rfl (fun G hO => ?_) (h6 := (all_c hc102.2 (all_c hc103.2 (all_c hc104.2 all_n))))
     refine pA (.int _ _) (pE (gn (lrt ?_)))
     replace hk := Option.some.inj hk; subst hk; exact finZ hO (fz_tup (n := 3) (fz_c (fz_agg (n := 2) (fz_c (fz_own (xs := x95) hlk 0) (fz_c (fz_own (xs := x97) hlk 0) (fz_c (fz_own (xs := x99) hlk 0) (fz_n))))) (fz_c (fz_int _ _) (fz_n)))) (resS hO 4 [_, _, _] tA107 tZ107 (resT (.int _ _) resN))
def f52 (aP0 : Plan) (aF1 : Frame) (aWay2 : Int) : Option Int :=
 ((getI aF1.Ways aWay2).bind fun c3 => (bif (c3.State != (0:Int)) then some (2:Int) else ((f72 aP0 aF1 aWay2).bind fun v4 => some v4.2)))
theorem f52_run {aP0 : Plan} {aF1 : Frame} {aWay2 : Int} {r : Int} {l1 l2 l3 l4 l5 l6 m7 : Nat} (hk : f52 aP0 aF1 aWay2 = some r) (hlk : 0 < lk.length := by simp) : runL Try.prog hh 52 [.agg (cPlan l1 0 l2 0 l3 0 aP0), .agg (cFrame l4 0 l5 0 l6 m7 aF1), iv aWay2] H lk = some (iv r, H) := by
 refine run_start Try.func52 rfl Try.ntmps52 Try.results52 rfl rfl fun hO => ?_
 unfold f52 at hk
 refine lsq (lrg (pBox (cs := [_, _, _, _, _]) hO tZ37 (fun b1 G hO => ?_)))
 refine pBox (cs := [_, _, _, _]) hO tZ42 (fun b2 G hO => ?_)
 refine pA (.int _ _) (pE (gn (lsq (lsq (lrg ?_)))))
 refine pFL tF42_3 hO 0 (.lit _ _ _) tA40 ?_
 refine pM (.int _ _) (bk hk fun c3 hc3 hk => ?_)
 refine pX hc3 tE40 tZ61 ?_
 refine pF tF61_0 ?_
 refine pLp (.int _ _) (rd1 (lm := m7) (off := 0) hc3 tA3) ?_
 refine pBi (pE (gn (lck hk (fun hk => ?_) (fun hk => ?_))))
 ·refine lsq (lrg (pA (.int _ _) (pE (gn (lrt (gr ?_))))))
  cases hk; exact fin0 hO
 ·refine lsk (gn (lsq (lrg (pLs hO 1 [_, _, _, _, _] tA37 tZ37 ?_))))
  refine pLs hO 0 [_, _, _, _] tA42 tZ42 ?_
  refine pM (.int _ _) (bk hk fun v4 hv4 hk => ?_)
  refine pCall (fun _ => f72_run hv4) ?_
  refine pM (.tup [_, _]) ?_
  refine pEx (.agg [_, _, _]) ?_
  refine pEx (.int _ _) (pNew hO tZ107 t0107 (fun b5 G hO => ?_))
  refine pSt (xs := [_, _, _]) hO 0 tZ107 rfl (fun G hO => ?_)
  refine pA (.int _ _) (pE (gn (lsq (lrg ?_))))
  refine pM (.int _ _) ?_
  refine pA (.int _ _) (pE (gn (lrt ?_)))
  cases hk; exact fin0 hO
def f19 (aP0 : Plan) (aF1 : Frame) (aWay2 : Int) : Option Int :=
 ((f9 aP0 aF1).bind fun v3 => ((bif !v3 then some true else ((f28 aWay2 (0:Int) (w64 ((aP0.Ways.length : Int) - (1:Int)))).bind fun v5 => some (!v5))).bind fun t4 => (bif t4 then some (1:Int) else ((f52 aP0 aF1 aWay2).bind fun v6 => some v6))))
theorem f19_run {aP0 : Plan} {aF1 : Frame} {aWay2 : Int} {r : Int} {l1 l2 l3 l4 l5 l6 m7 : Nat} (hk : f19 aP0 aF1 aWay2 = some r) (hlk : 0 < lk.length := by simp) (hlo : LkOk lk H.length := by simp [LkOk]) : runL Try.prog hh 19 [.agg (cPlan l1 0 l2 0 l3 0 aP0), .agg (cFrame l4 0 l5 0 l6 m7 aF1), iv aWay2] H lk = some (iv r, H) := by
 refine run_start Try.func19 rfl Try.ntmps19 Try.results19 rfl rfl fun hO => ?_
 unfold f19 at hk
 refine lsq (lrg (pBox (cs := [_, _, _, _, _]) hO tZ37 (fun b1 G hO => ?_)))
 refine pBox (cs := [_, _, _, _]) hO tZ42 (fun b2 G hO => ?_)
 refine pA (.int _ _) (pE (gn (lsq (lsq (lrg ?_)))))
 refine pLs hO 1 [_, _, _, _, _] tA37 tZ37 ?_
 refine pLs hO 0 [_, _, _, _] tA42 tZ42 (bk hk fun v3 hv3 hk => ?_)
 refine pCallL hO hlo rfl (fun _ hl => f9_run hv3 (hlo := hl)) ?_
 refine pU ?_
 refine pM (.bool _) (bk hk fun t4 ht hk => ?_)
 refine wpR_mid (l1 := [_, _, _, _, _, _, _, _]) (fun S' => ∃ J, S' = ⟨hav [(2, iv aWay2), (3, .ptr b1 0), (4, .ptr b2 0), (19, .bool t4)] J, G⟩) ?_ ?_
 ·refine bc (b := !v3) (fun hg => ?_) (fun hg => ?_)
  ·replace hk := ct hg ht
   refine pGn hg (pGn hg (pGn hg (pGn hg (pGn hg (pGn hg (pGn hg (pPt hg (.bool _) ?_)))))))
   cases hk; exact pE ⟨_, sh⟩
  ·replace hk := cf hg ht
   refine pGy hg (pM (.int _ _) (pGy hg ?_))
   refine pF tF37_2 (pGy hg ?_)
   refine pLo hO 1 (.lit _ _ _) tA35 (pGy hg ?_)
   refine pLen tS35 (pGy hg ?_)
   refine pBi (pGy hg (bk hk fun v5 hv5 hk => ?_))
   refine pCall (fun _ => f28_run hv5) (pGy hg ?_)
   refine pU ?_
   refine pPf hg (.bool _) ?_
   cases hk; exact pE ⟨_, sh⟩
 ·rintro _ ⟨J, rfl⟩
  refine pE (gn (lck hk (fun hk => ?_) (fun hk => ?_)))
  ·refine lsq (lrg (pA (.int _ _) (pE (gn (lrt (gr ?_))))))
   cases hk; exact fin0 hO
  ·refine lsk (gn (lsq (lrg (pLs hO 1 [_, _, _, _, _] tA37 tZ37 ?_))))
   refine pLs hO 0 [_, _, _, _] tA42 tZ42 ?_
   refine pM (.int _ _) (bk hk fun v6 hv6 hk => ?_)
   refine pCall (fun _ => f52_run hv6) ?_
   refine pA (.int _ _) (pE (gn (lrt ?_)))
   cases hk; exact fin0 hO
def f48 (aX0 : Int) (aLo1 : Int) (aHi2 : Int) : Option Bool :=
 some (decide (aX0 ≥ aLo1) && decide (aX0 ≤ aHi2))
theorem f48_run {aX0 : Int} {aLo1 : Int} {aHi2 : Int} {r : Bool} (hk : f48 aX0 aLo1 aHi2 = some r) (hlk : 0 < lk.length := by simp) : runL Try.prog hh 48 [iv aX0, iv aLo1, iv aHi2] H lk = some (.bool r, H) := by
 refine run_start Try.func48 rfl Try.ntmps48 Try.results48 rfl rfl fun hO => ?_
 unfold f48 at hk
 refine lsq (lrg (pA (.bool _) (pE (gn (lsq (lrg ?_))))))
 refine pM (.int _ _) ?_
 refine pM (.int _ _) ?_
 refine pBi ?_
 refine pM (.bool _) ?_
 refine wpR_mid (l1 := [_, _, _, _]) (fun S' => ∃ J, S' = ⟨hav [(14, .bool (decide (aX0 ≥ aLo1) && decide (aX0 ≤ aHi2)))] J, H⟩) ?_ ?_
 ·refine bc (b := decide (aX0 ≥ aLo1)) (fun hg => ?_) (fun hg => ?_)
  ·refine pGy hg (pM (.int _ _) (pGy hg ?_))
   refine pM (.int _ _) (pGy hg ?_)
   refine pBi ?_
   refine pPt hg (.bool _) ?_
   exact pE ⟨_, St.hav _ ⟨by rw [hg]; rfl, trivial⟩⟩
  ·refine pGn hg (pGn hg (pGn hg (pPf hg (.bool _) ?_)))
   exact pE ⟨_, St.hav _ ⟨by rw [hg]; rfl, trivial⟩⟩
 ·rintro _ ⟨J, rfl⟩
  refine pA (.bool _) (pE (gn (lrt ?_)))
  cases hk; exact fin0 hO
def f71_L1 (aS0 : List Int) (aV1 : Int) : Int → Option (Int ⊕ Int) := fun s =>
 (bif decide (s < (aS0.length : Int)) then ((getI aS0 s).bind fun c2 => (bif (aV1 == c2) then ((some s).map Sum.inr) else some (.inl (w64 (s + (1:Int)))))) else ((some (-1:Int)).map Sum.inr))
def f71 (aS0 : List Int) (aV1 : Int) : Option Int :=
 (loopO (f71_L1 aS0 aV1) ((0:Int)))
theorem f71_run {aS0 : List Int} {aV1 : Int} {r : Int} {l1 : Nat} (hk : f71 aS0 aV1 = some r) (hlk : 0 < lk.length := by simp) : runL Try.prog hh 71 [litL l1 0 aS0, iv aV1] H lk = some (iv r, H) := by
 refine run_start Try.func71 rfl Try.ntmps71 Try.results71 rfl rfl fun hO => ?_
 unfold f71 at hk
 refine lsq (lrg (pA (.int _ _) (pE (gn (lsq (lsq (lrg ?_)))))))
 refine pM (.lit _ _ _) ?_
 refine pLen tS22 ?_
 refine pM (.int _ _) (pE (gn (lbl ?_)))
 refine wpL_loopO (F := f71_L1 aS0 aV1) (fun s S' => ∃ (J : Nat → V) (G : Heap), Owns H G [] ∧ S' = ⟨hav [(0, litL l1 0 aS0), (1, iv aV1), (7, iv (aS0.length : Int)), (8, iv s)] J, G⟩) hk ⟨_, _, hO, sh⟩ ?_
 rintro x1 _ y1 ⟨J, G, hO, rfl⟩ hk hx1
 refine lsq (lrg (pBi (pE (gn (lsq (lck hk (fun hk => ?_) (fun hk => ?_)))))))
 ·refine lsk (gn (lsq (lbl (lsq (lrg (pM (.int _ _) ?_))))))
  refine pA (.int _ _) (pE (gn (lsq (lrg ?_))))
  refine pM (.int _ _) ?_
  refine pM (.lit _ _ _) ?_
  refine pM (.int _ _) (bk hk fun c2 hc2 hk => ?_)
  refine pX hc2 tE22 tZ3 ?_
  refine pLp (.int _ _) (rd1 (lm := 0) (off := 0) hc2 tA3) ?_
  refine pBi (pE (gn (lck hk (fun hk => ?_) (fun hk => ?_))))
  ·refine lsq (lrg (pM (.int _ _) ?_))
   refine pA (.int _ _) (pE (gn (lrt (br (gr (gr (br (gr (have hk := lx hx1 hk; ?_)))))))))
   cases hk; exact fin0 hO
  ·refine lsk (bn (gn (lrg (pBi ?_))))
   refine pM (.int _ _) (pE (gn ?_))
   cases hk; exact ⟨_, rfl, _, _, hO, sh⟩
 ·refine lex (ge (ge (be (gn (have hk := lx hx1 hk; lsq (lrg (pA (.int _ _) (pE (gn (lrt ?_))))))))))
  cases hk; exact fin0 hO
def f93 (aS0 : List Int) (aV1 : Int) : Option Bool :=
 ((f71 aS0 aV1).bind fun v1 => some (decide (v1 ≥ (0:Int))))
theorem f93_run {aS0 : List Int} {aV1 : Int} {r : Bool} {l1 : Nat} (hk : f93 aS0 aV1 = some r) (hlk : 0 < lk.length := by simp) : runL Try.prog hh 93 [litL l1 0 aS0, iv aV1] H lk = some (.bool r, H) := by
 refine run_start Try.func93 rfl Try.ntmps93 Try.results93 rfl rfl fun hO => ?_
 unfold f93 at hk
 refine lsq (lrg (pA (.bool _) (pE (gn (lsq (lrg ?_))))))
 refine pM (.lit _ _ _) ?_
 refine pM (.int _ _) (bk hk fun v1 hv1 hk => ?_)
 refine pCall (fun _ => f71_run hv1) ?_
 refine pBi ?_
 refine pA (.bool _) (pE (gn (lrt ?_)))
 cases hk; exact fin0 hO
def f98_L1 (aL0 : List Int) (aN1 : Int) : Int → Option (Int ⊕ Bool) := fun s =>
 (bif decide (s < (aL0.length : Int)) then ((getI aL0 s).bind fun c2 => ((f48 c2 (0:Int) (w64 (aN1 - (1:Int)))).bind fun v3 => ((bif !v3 then some true else ((subB aL0 (0:Int) s).bind fun y5 => ((f93 y5 c2).bind fun v6 => some v6))).bind fun t4 => (bif t4 then ((some false).map Sum.inr) else some (.inl (w64 (s + (1:Int)))))))) else ((some (decide ((aL0.length : Int) ≤ (30:Int)))).map Sum.inr))
def f98 (aL0 : List Int) (aN1 : Int) : Option Bool :=
 (loopO (f98_L1 aL0 aN1) ((0:Int)))
theorem f98_run {aL0 : List Int} {aN1 : Int} {r : Bool} {l1 : Nat} (hk : f98 aL0 aN1 = some r) (hlk : 0 < lk.length := by simp) : runL Try.prog hh 98 [litL l1 0 aL0, iv aN1] H lk = some (.bool r, H) := by
 refine run_start Try.func98 rfl Try.ntmps98 Try.results98 rfl rfl fun hO => ?_
 unfold f98 at hk
 refine lsq (lrg (pA (.bool _) (pE (gn (lsq (lsq (lrg ?_)))))))
 refine pM (.lit _ _ _) ?_
 refine pLen tS22 ?_
 refine pM (.int _ _) (pE (gn (lbl ?_)))
 refine wpL_loopO (F := f98_L1 aL0 aN1) (fun s S' => ∃ (J : Nat → V) (G : Heap), Owns H G [] ∧ S' = ⟨hav [(0, litL l1 0 aL0), (1, iv aN1), (7, litL l1 0 aL0), (8, iv (aL0.length : Int)), (9, iv s)] J, G⟩) hk ⟨_, _, hO, sh⟩ ?_
 rintro x1 _ y1 ⟨J, G, hO, rfl⟩ hk hx1
 refine lsq (lrg (pBi (pE (gn (lsq (lck hk (fun hk => ?_) (fun hk => ?_)))))))
 ·refine lsk (gn (lsq (lbl (lsq (lrg (pM (.int _ _) (bk hk fun c2 hc2 hk => ?_)))))))
  refine pX hc2 tE22 tZ3 ?_
  refine pLp (.int _ _) (rd1 (lm := 0) (off := 0) hc2 tA3) ?_
  refine pA (.int _ _) ?_
  refine pA (.int _ _) (pE (gn (lsq (lrg ?_))))
  refine pM (.int _ _) ?_
  refine pM (.int _ _) ?_
  refine pBi (bk hk fun v3 hv3 hk => ?_)
  refine pCall (fun _ => f48_run hv3) ?_
  refine pU ?_
  refine pM (.bool _) (bk hk fun t4 ht hk => ?_)
  refine wpR_mid (l1 := [_, _, _, _, _, _]) (fun S' => ∃ J, S' = ⟨hav [(0, litL l1 0 aL0), (1, iv aN1), (7, litL l1 0 aL0), (8, iv (aL0.length : Int)), (9, iv x1), (25, .bool t4)] J, G⟩) ?_ ?_
  ·refine bc (b := !v3) (fun hg => ?_) (fun hg => ?_)
   ·replace hk := ct hg ht
    refine pGn hg (pGn hg (pGn hg (pGn hg (pGn hg (pPt hg (.bool _) ?_)))))
    cases hk; exact pE ⟨_, sh⟩
   ·replace hk := cf hg ht
    refine pGy hg (pM (.lit _ _ _) (pGy hg ?_))
    refine pM (.int _ _) (pGy hg (bk hk fun y5 hy5 hk => ?_))
    refine pSlH hy5 tE22 tZ3 (pGy hg ?_)
    refine pM (.int _ _) (pGy hg (bk hk fun v6 hv6 hk => ?_))
    refine pCall (fun _ => f93_run hv6) ?_
    refine pPf hg (.bool _) ?_
    cases hk; exact pE ⟨_, sh⟩
  ·rintro _ ⟨J, rfl⟩
   refine pE (gn (lck hk (fun hk => ?_) (fun hk => ?_)))
   ·refine lsq (lrg (pA (.bool _) (pE (gn (lrt (br (gr (gr (br (gr (have hk := lx hx1 hk; ?_)))))))))))
    cases hk; exact fin0 hO
   ·refine lsk (bn (gn (lrg (pBi ?_))))
    refine pM (.int _ _) (pE (gn ?_))
    cases hk; exact ⟨_, rfl, _, _, hO, sh⟩
 ·refine lex (ge (ge (be (gn (have hk := lx hx1 hk; lsq (lrg (pM (.lit _ _ _) ?_)))))))
  refine pLen tS22 ?_
  refine pBi ?_
  refine pA (.bool _) (pE (gn (lrt ?_)))
  cases hk; exact fin0 hO
def f99 (aX0 : Int) (aA1 : List Int) : Option Bool :=
 ((f93 aA1 aX0).bind fun v1 => some v1)
theorem f99_run {aX0 : Int} {aA1 : List Int} {r : Bool} {l1 : Nat} {q0 : Nat} (hk : f99 aX0 aA1 = some r) (hq0 : H[q0]? = some (.cells 1 [litL l1 0 aA1])) (hlk : 0 < lk.length := by simp) : runL Try.prog hh 99 [iv aX0, .ptr q0 0] H lk = some (.bool r, H) := by
 refine run_start Try.func99 rfl Try.ntmps99 Try.results99 rfl rfl fun hO => ?_
 unfold f99 at hk
 refine lsq (lrg (pA (.bool _) (pE (gn (lsq (lrg ?_))))))
 refine pLf (.lit _ _ _) hO hq0 tA22 ?_
 refine pM (.int _ _) (bk hk fun v1 hv1 hk => ?_)
 refine pCall (fun _ => f93_run hv1) ?_
 refine pA (.bool _) (pE (gn (lrt ?_)))
 cases hk; exact fin0 hO
def f102c99_L1 (aS0 : List Int) (aC1_0 : List Int) : Int → Option (Int ⊕ Int) := fun s =>
 (bif decide (s < (aS0.length : Int)) then ((getI aS0 s).bind fun c2 => ((f99 c2 aC1_0).bind fun v3 => (bif v3 then ((some s).map Sum.inr) else some (.inl (w64 (s + (1:Int))))))) else ((some (-1:Int)).map Sum.inr))
def f102c99 (aS0 : List Int) (aC1_0 : List Int) : Option Int :=
 (loopO (f102c99_L1 aS0 aC1_0) ((0:Int)))
theorem f102c99_run {aS0 : List Int} {aC1_0 : List Int} {r : Int} {l1 l2 : Nat} {q0 : Nat} (hk : f102c99 aS0 aC1_0 = some r) (hq0 : H[q0]? = some (.cells 1 [litL l2 0 aC1_0])) (hlk : 0 < lk.length := by simp) : runL Try.prog hh 102 [litL l1 0 aS0, .fn 99 [.ptr q0 0]] H lk = some (iv r, H) := by
 refine run_start Try.func102 rfl Try.ntmps102 Try.results102 rfl rfl fun hO => ?_
 unfold f102c99 at hk
 refine lsq (lrg (pA (.int _ _) (pE (gn (lsq (lsq (lrg ?_)))))))
 refine pM (.lit _ _ _) ?_
 refine pLen tS22 ?_
 refine pM (.int _ _) (pE (gn (lbl ?_)))
 refine wpL_loopO (F := f102c99_L1 aS0 aC1_0) (fun s S' => ∃ (J : Nat → V) (G : Heap), Owns H G [] ∧ S' = ⟨hav [(0, litL l1 0 aS0), (1, .fn 99 [.ptr q0 0]), (7, iv (aS0.length : Int)), (8, iv s)] J, G⟩) hk ⟨_, _, hO, sh⟩ ?_
 rintro x1 _ y1 ⟨J, G, hO, rfl⟩ hk hx1
 refine lsq (lrg (pBi (pE (gn (lsq (lck hk (fun hk => ?_) (fun hk => ?_)))))))
 ·refine lsk (gn (lsq (lbl (lsq (lrg (pM (.int _ _) ?_))))))
  refine pA (.int _ _) (pE (gn (lsq (lrg ?_))))
  refine pM (.fn _ _) ?_
  refine pM (.lit _ _ _) ?_
  refine pM (.int _ _) (bk hk fun c2 hc2 hk => ?_)
  refine pX hc2 tE22 tZ3 ?_
  refine pLp (.int _ _) (rd1 (lm := 0) (off := 0) hc2 tA3) (bk hk fun v3 hv3 hk => ?_)
  refine pCall (fun _ => f99_run hv3 (own_for hO hq0)) (pE (gn (lck hk (fun hk => ?_) (fun hk => ?_))))
  ·refine lsq (lrg (pM (.int _ _) ?_))
   refine pA (.int _ _) (pE (gn (lrt (br (gr (gr (br (gr (have hk := lx hx1 hk; ?_)))))))))
   cases hk; exact fin0 hO
  ·refine lsk (bn (gn (lrg (pBi ?_))))
   refine pM (.int _ _) (pE (gn ?_))
   cases hk; exact ⟨_, rfl, _, _, hO, sh⟩
 ·refine lex (ge (ge (be (gn (have hk := lx hx1 hk; lsq (lrg (pA (.int _ _) (pE (gn (lrt ?_))))))))))
  cases hk; exact fin0 hO
def f90c99 (aS0 : List Int) (aC1_0 : List Int) : Option Bool :=
 ((f102c99 aS0 aC1_0).bind fun v1 => some (decide (v1 ≥ (0:Int))))
theorem f90c99_run {aS0 : List Int} {aC1_0 : List Int} {r : Bool} {l1 l2 : Nat} {q0 : Nat} (hk : f90c99 aS0 aC1_0 = some r) (hq0 : H[q0]? = some (.cells 1 [litL l2 0 aC1_0])) (hlk : 0 < lk.length := by simp) : runL Try.prog hh 90 [litL l1 0 aS0, .fn 99 [.ptr q0 0]] H lk = some (.bool r, H) := by
 refine run_start Try.func90 rfl Try.ntmps90 Try.results90 rfl rfl fun hO => ?_
 unfold f90c99 at hk
 refine lsq (lrg (pA (.bool _) (pE (gn (lsq (lrg ?_))))))
 refine pM (.lit _ _ _) ?_
 refine pM (.fn _ _) (bk hk fun v1 hv1 hk => ?_)
 refine pCall (fun _ => f102c99_run hv1 (own_for hO hq0)) ?_
 refine pBi ?_
 refine pA (.bool _) (pE (gn (lrt ?_)))
 cases hk; exact fin0 hO
def f80 (aA0 : List Int) (aB1 : List Int) : Option Bool :=
 ((f90c99 aA0 aB1).bind fun v2 => some v2)
theorem f80_run {aA0 : List Int} {aB1 : List Int} {r : Bool} {l1 l2 : Nat} (hk : f80 aA0 aB1 = some r) (hlk : 0 < lk.length := by simp) : runL Try.prog hh 80 [litL l1 0 aA0, litL l2 0 aB1] H lk = some (.bool r, H) := by
 refine run_start Try.func80 rfl Try.ntmps80 Try.results80 rfl rfl fun hO => ?_
 unfold f80 at hk
 refine lsq (lrg (pBox (cs := [_]) hO tZ22 (fun b1 G hO => ?_)))
 refine pA (.bool _) (pE (gn (lsq (lrg ?_))))
 refine pM (.lit _ _ _) ?_
 refine pFn (vs := [_]) (bk hk fun v2 hv2 hk => ?_)
 refine pCall (fun _ => f90c99_run hv2 (hO.get (k := 0) rfl).1) ?_
 refine pA (.bool _) (pE (gn (lrt ?_)))
 cases hk; exact fin0 hO
def f79_L2 (aP0 : Plan) (aW1 : Way) : Int → Option (Int ⊕ Bool) := fun s =>
 (bif decide (s < (aW1.Lies.length : Int)) then ((getI aW1.Lies s).bind fun c24 => ((getI aP0.Switches c24.Switch).bind fun c26 => ((f93 aW1.Sections c26).bind fun v27 => (bif !v27 then ((some false).map Sum.inr) else some (.inl (w64 (s + (1:Int)))))))) else (((f80 aW1.Sections aW1.Over).bind fun v28 => some (!v28)).map Sum.inr))
def f79_L1 (aP0 : Plan) (aW1 : Way) (z12 : List Turn) : ((List (Int × Bool)) × (List Turn) × Int) → Option (((List (Int × Bool)) × (List Turn) × Int) ⊕ Bool) := fun s =>
 (bif decide (s.2.2 < (z12.length : Int)) then ((getI s.2.1 s.2.2).bind fun c17 => ((f48 c17.Switch (0:Int) (w64 ((aP0.Switches.length : Int) - (1:Int)))).bind fun v20 => ((bif !v20 then some true else ((f48 c17.Lie (1:Int) (2:Int)).bind fun v22 => some (!v22))).bind fun t21 => (bif (t21 || (mget c17.Switch s.1 false)) then ((some false).map Sum.inr) else some (.inl (mset c17.Switch true s.1, s.2.1, w64 (s.2.2 + (1:Int)))))))) else ((loopO (f79_L2 aP0 aW1) ((0:Int))).map Sum.inr))
def f79 (aP0 : Plan) (aW1 : Way) : Option Bool :=
 ((bif ((aW1.Sections.length : Int) == (0:Int)) then some true else ((f98 aW1.Sections aP0.Sections).bind fun v4 => some (!v4))).bind fun t3 => ((bif t3 then some true else ((f98 aW1.Over aP0.Sections).bind fun v6 => some (!v6))).bind fun t5 => ((bif t5 then some true else ((f98 aW1.Near aP0.Sections).bind fun v8 => some (!v8))).bind fun t7 => (bif ((t7 || decide ((aW1.Lies.length : Int) > (30:Int))) || decide ((aW1.Flanks.length : Int) > (30:Int))) then some false else ((appB 16 ([] : List Turn) aW1.Lies).bind fun z10 => ((appB 16 z10 aW1.Flanks).bind fun z12 => (loopO (f79_L1 aP0 aW1 z12) (([] : List (Int × Bool)), z12, (0:Int)))))))))
theorem f79_run {aP0 : Plan} {aW1 : Way} {r : Bool} {l1 l2 m3 l4 m5 l6 l7 l8 l9 l10 : Nat} (hk : f79 aP0 aW1 = some r) (hlk : 0 < lk.length := by simp) : runL Try.prog hh 79 [.agg (cPlan l1 0 l2 m3 l4 m5 aP0), .agg (cWay l6 0 l7 0 l8 0 l9 0 l10 0 aW1)] H lk = some (.bool r, H) := by
 refine run_start Try.func79 rfl Try.ntmps79 Try.results79 rfl rfl fun hO => ?_
 unfold f79 at hk
 refine lsq (lrg (pBox (cs := [_, _, _, _, _]) hO tZ37 (fun b1 G hO => ?_)))
 refine pBox (cs := [_, _, _, _, _]) hO tZ89 (fun b2 G hO => ?_)
 refine pA (.bool _) (pE (gn (lsq (lsq (lrg ?_)))))
 refine pFL tF89_0 hO 0 (.lit _ _ _) tA22 ?_
 refine pLen tS22 ?_
 refine pBi ?_
 refine pM (.bool _) (bk hk fun t3 ht hk => ?_)
 refine wpR_mid (l1 := [_, _, _, _, _, _, _]) (fun S' => ∃ J, S' = ⟨hav [(2, .ptr b1 0), (3, .ptr b2 0), (21, .bool t3)] J, G⟩) ?_ ?_
 ·refine bc (b := ((aW1.Sections.length : Int) == (0:Int))) (fun hg => ?_) (fun hg => ?_)
  ·replace hk := ct hg ht
   refine pGn hg (pGn hg (pGn hg (pGn hg (pGn hg (pGn hg (pPt hg (.bool _) ?_))))))
   cases hk; exact pE ⟨_, sh⟩
  ·replace hk := cf hg ht
   refine pGy hg (pF tF89_0 (pGy hg ?_))
   refine pLo hO 0 (.lit _ _ _) tA22 (pGy hg ?_)
   refine pF tF37_0 (pGy hg ?_)
   refine pLo hO 1 (.int _ _) tA3 (pGy hg (bk hk fun v4 hv4 hk => ?_))
   refine pCall (fun _ => f98_run hv4) (pGy hg ?_)
   refine pU ?_
   refine pPf hg (.bool _) ?_
   cases hk; exact pE ⟨_, sh⟩
 ·rintro _ ⟨J, rfl⟩
  refine pM (.bool _) (bk hk fun t5 ht hk => ?_)
  refine wpR_mid (l1 := [_, _, _, _, _, _, _]) (fun S' => ∃ J, S' = ⟨hav [(2, .ptr b1 0), (3, .ptr b2 0), (29, .bool t5)] J, G⟩) ?_ ?_
  ·refine bc (b := t3) (fun hg => ?_) (fun hg => ?_)
   ·replace hk := ct hg ht
    refine pGn hg (pGn hg (pGn hg (pGn hg (pGn hg (pGn hg (pPt hg (.bool _) ?_))))))
    cases hk; exact pE ⟨_, sh⟩
   ·replace hk := cf hg ht
    refine pGy hg (pF tF89_3 (pGy hg ?_))
    refine pLo hO 0 (.lit _ _ _) tA22 (pGy hg ?_)
    refine pF tF37_0 (pGy hg ?_)
    refine pLo hO 1 (.int _ _) tA3 (pGy hg (bk hk fun v6 hv6 hk => ?_))
    refine pCall (fun _ => f98_run hv6) (pGy hg ?_)
    refine pU ?_
    refine pPf hg (.bool _) ?_
    cases hk; exact pE ⟨_, sh⟩
  ·rintro _ ⟨J, rfl⟩
   refine pM (.bool _) (bk hk fun t7 ht hk => ?_)
   refine wpR_mid (l1 := [_, _, _, _, _, _, _]) (fun S' => ∃ J, S' = ⟨hav [(2, .ptr b1 0), (3, .ptr b2 0), (37, .bool t7)] J, G⟩) ?_ ?_
   ·refine bc (b := t5) (fun hg => ?_) (fun hg => ?_)
    ·replace hk := ct hg ht
     refine pGn hg (pGn hg (pGn hg (pGn hg (pGn hg (pGn hg (pPt hg (.bool _) ?_))))))
     cases hk; exact pE ⟨_, sh⟩
    ·replace hk := cf hg ht
     refine pGy hg (pF tF89_4 (pGy hg ?_))
     refine pLo hO 0 (.lit _ _ _) tA22 (pGy hg ?_)
     refine pF tF37_0 (pGy hg ?_)
     refine pLo hO 1 (.int _ _) tA3 (pGy hg (bk hk fun v8 hv8 hk => ?_))
     refine pCall (fun _ => f98_run hv8) (pGy hg ?_)
     refine pU ?_
     refine pPf hg (.bool _) ?_
     cases hk; exact pE ⟨_, sh⟩
   ·rintro _ ⟨J, rfl⟩
    refine pM (.bool _) ?_
    refine wpR_mid (l1 := [_, _, _, _, _]) (fun S' => ∃ J, S' = ⟨hav [(2, .ptr b1 0), (3, .ptr b2 0), (43, .bool (t7 || decide ((aW1.Lies.length : Int) > (30:Int))))] J, G⟩) ?_ ?_
    ·refine bc (b := t7) (fun hg => ?_) (fun hg => ?_)
     ·refine pGn hg (pGn hg (pGn hg (pGn hg (pPt hg (.bool _) ?_))))
      exact pE ⟨_, St.hav _ ⟨rfl, rfl, by rw [hg]; rfl, trivial⟩⟩
     ·refine pGy hg (pF tF89_1 (pGy hg ?_))
      refine pLo hO 0 (.lit _ _ _) tA87 (pGy hg ?_)
      refine pLen tS87 (pGy hg ?_)
      refine pBi ?_
      refine pPf hg (.bool _) ?_
      exact pE ⟨_, St.hav _ ⟨rfl, rfl, by rw [hg]; rfl, trivial⟩⟩
    ·rintro _ ⟨J, rfl⟩
     refine pM (.bool _) ?_
     refine wpR_mid (l1 := [_, _, _, _, _]) (fun S' => ∃ J, S' = ⟨hav [(2, .ptr b1 0), (3, .ptr b2 0), (49, .bool ((t7 || decide ((aW1.Lies.length : Int) > (30:Int))) || decide ((aW1.Flanks.length : Int) > (30:Int))))] J, G⟩) ?_ ?_
     ·refine bc (b := (t7 || decide ((aW1.Lies.length : Int) > (30:Int)))) (fun hg => ?_) (fun hg => ?_)
      ·refine pGn hg (pGn hg (pGn hg (pGn hg (pPt hg (.bool _) ?_))))
       exact pE ⟨_, St.hav _ ⟨rfl, rfl, by rw [hg]; rfl, trivial⟩⟩
      ·refine pGy hg (pF tF89_2 (pGy hg ?_))
       refine pLo hO 0 (.lit _ _ _) tA87 (pGy hg ?_)
       refine pLen tS87 (pGy hg ?_)
       refine pBi ?_
       refine pPf hg (.bool _) ?_
       exact pE ⟨_, St.hav _ ⟨rfl, rfl, by rw [hg]; rfl, trivial⟩⟩
     ·rintro _ ⟨J, rfl⟩
      refine pE (gn (lck hk (fun hk => ?_) (fun hk => ?_)))
      ·refine lsq (lrg (pA (.bool _) (pE (gn (lrt (gr ?_))))))
       cases hk; exact fin0 hO
      ·refine lsk (gn (lsq (lrg (pMm Int Bool hO (fun b9 G hO => ?_)))))
       refine pA (.mref _) (pE (gn (lsq (lsq ?_))))
       refine wpL_drw [(0, true), (1, true), (3, true), (4, true), (7, true), (2, true), (5, false), (6, false)] [_, _, _, _, _, _, _, _] (by decide +kernel) (by rfl) ?_
       refine pFL tF89_1 hO 1 (.lit _ _ _) tA87 ?_
       refine pFL tF89_2 hO 1 (.lit _ _ _) tA87 ?_
       refine pM (.int _ _) (bk hk fun z10 hz10 hk => ?_)
       refine pClone (xs := aW1.Lies) hO hz10 Try.func89 tC89 tE87 tZ102 tB102 t0102 (fun o10 G hno10 hO => bk hk fun z12 hz12 hk => ?_)
       refine pAp (xs := z10) hO 0 hz12 (bears_lit _ aW1.Flanks) tE87 tZ102 tB102 t0102 tE87 rfl (fun o12 G hno12 hO => ?_)
       refine pLenO (bears_own hO (j := 0) rfl) tS87 (pE (gn (lbl ?_)))
       refine wpL_loopO (F := f79_L1 aP0 aW1 z12) (fun s S' => ∃ (o14 : V) (J : Nat → V) (G : Heap), Owns H G [.blk b9 (.mp (kvs s.1)), .blk b2 (.cells 5 (cWay l6 0 l7 0 l8 0 l9 0 l10 0 aW1)), .blk b1 (.cells 5 (cPlan l1 0 l2 m3 l4 m5 aP0)), .own o14 lk.length 2 s.2.1.length (flatL 0 s.2.1)] ∧ S' = ⟨hav [(2, .ptr b1 0), (3, .ptr b2 0), (5, .mref b9), (56, o14), (57, iv (z12.length : Int)), (58, iv s.2.2)] J, G⟩) hk ⟨o12, _, _, (pk hO [1, 2, 3, 0]), sh⟩ ?_
       rintro ⟨x13, x14, x16⟩ _ y1 ⟨o14, J, G, hO, rfl⟩ hk hx1
       refine lsq (lrg (pBi (pE (gn (lsq (lck hk (fun hk => ?_) (fun hk => ?_)))))))
       ·refine lsk (gn (lsq (lbl (lsq (lrg (bk hk fun c17 hc17 hk => pXo hO 3 hc17 tE87 tZ102 (fun lv18 => ?_)))))))
        refine pLp (.agg [_, _]) (rd2 (lm := 0) (off := 0) hc17 tA102 tZ102) (pNew hO tZ102 t0102 (fun b19 G hO => ?_))
        refine pSt (xs := [_, _]) hO 0 tZ102 rfl (fun G hO => pE (gn (lsq (lsq (lrg ?_)))))
        refine pFL tF102_0 hO 0 (.int _ _) tA3 ?_
        refine pFL tF37_1 hO 3 (.lit _ _ _) tA22 ?_
        refine pLen tS22 ?_
        refine pBi (bk hk fun v20 hv20 hk => ?_)
        refine pCall (fun _ => f48_run hv20) ?_
        refine pU ?_
        refine pM (.bool _) (bk hk fun t21 ht hk => ?_)
        refine wpR_mid (l1 := [_, _, _, _, _]) (fun S' => ∃ J, S' = ⟨hav [(2, .ptr b1 0), (3, .ptr b2 0), (5, .mref b9), (7, .ptr b19 0), (56, o14), (57, iv (z12.length : Int)), (58, iv x16), (75, .bool t21)] J, G⟩) ?_ ?_
        ·refine bc (b := !v20) (fun hg => ?_) (fun hg => ?_)
         ·replace hk := ct hg ht
          refine pGn hg (pGn hg (pGn hg (pGn hg (pPt hg (.bool _) ?_))))
          cases hk; exact pE ⟨_, sh⟩
         ·replace hk := cf hg ht
          refine pGy hg (pF tF102_1 (pGy hg ?_))
          refine pLo hO 0 (.int _ _) tA3 (pGy hg (bk hk fun v22 hv22 hk => ?_))
          refine pCall (fun _ => f48_run hv22) (pGy hg ?_)
          refine pU ?_
          refine pPf hg (.bool _) ?_
          cases hk; exact pE ⟨_, sh⟩
        ·rintro _ ⟨J, rfl⟩
         refine pM (.bool _) ?_
         refine wpR_mid (l1 := [_, _, _, _, _]) (fun S' => ∃ J, S' = ⟨hav [(2, .ptr b1 0), (3, .ptr b2 0), (5, .mref b9), (7, .ptr b19 0), (56, o14), (57, iv (z12.length : Int)), (58, iv x16), (81, .bool (t21 || (mget c17.Switch x13 false)))] J, G⟩) ?_ ?_
         ·refine bc (b := t21) (fun hg => ?_) (fun hg => ?_)
          ·refine pGn hg (pGn hg (pGn hg (pGn hg (pPt hg (.bool _) ?_))))
           exact pE ⟨_, St.hav _ ⟨rfl, rfl, rfl, rfl, rfl, rfl, rfl, by rw [hg]; rfl, trivial⟩⟩
          ·refine pGy hg (pM (.mref _) (pGy hg ?_))
           refine pF tF102_0 (pGy hg ?_)
           refine pLo hO 0 (.int _ _) tA3 (pGy hg ?_)
           refine pLk c17.Switch (false : Bool) (hO.get (k := 1) rfl).1 tM129 fit_int tY4 ?_
           refine pPf hg (.bool _) ?_
           exact pE ⟨_, St.hav _ ⟨rfl, rfl, rfl, rfl, rfl, rfl, rfl, by rw [hg]; rfl, trivial⟩⟩
         ·rintro _ ⟨J, rfl⟩
          refine pE (gn (lck hk (fun hk => ?_) (fun hk => ?_)))
          ·refine lsq (lrg (pA (.bool _) (pE (gn (lrt (gr (br (gr (gr (br (gr (have hk := lx hx1 hk; ?_))))))))))))
           cases hk; exact fin0 hO
          ·refine lsk (gn (lrg (pM (.mref _) ?_)))
           refine pFL tF102_0 hO 0 (.int _ _) tA3 ?_
           refine pUp hO 1 c17.Switch true tM129 fit_int rfl (fun G hO => pE (bn (gn (lrg ?_))))
           refine pBi ?_
           refine pM (.int _ _) (pE (gn ?_))
           cases hk; exact ⟨_, rfl, o14, _, _, (pk hO [1, 2, 3, 4]), sh⟩
       ·refine lex (ge (ge (be (gn (have hk := lx hx1 hk; lsq (lsq (lrg (pFL tF89_1 hO 1 (.lit _ _ _) tA87 ?_))))))))
        refine pLen tS87 ?_
        refine pM (.int _ _) (pE (gn (lbl ?_)))
        refine wpL_loopO (F := f79_L2 aP0 aW1) (fun s S' => ∃ (J : Nat → V) (G : Heap), Owns H G [.blk b2 (.cells 5 (cWay l6 0 l7 0 l8 0 l9 0 l10 0 aW1)), .blk b1 (.cells 5 (cPlan l1 0 l2 m3 l4 m5 aP0))] ∧ S' = ⟨hav [(2, .ptr b1 0), (3, .ptr b2 0), (87, litL l7 0 aW1.Lies), (88, iv (aW1.Lies.length : Int)), (89, iv s)] J, G⟩) hk ⟨_, _, (pk hO [1, 2]), sh⟩ ?_
        rintro x23 _ y1 ⟨J, G, hO, rfl⟩ hk hx1
        refine lsq (lrg (pBi (pE (gn (lsq (lck hk (fun hk => ?_) (fun hk => ?_)))))))
        ·refine lsk (gn (lsq (lbl (lsq (lrg (bk hk fun c24 hc24 hk => pX hc24 tE87 tZ102 ?_))))))
         refine pLp (.agg [_, _]) (rd2 (lm := 0) (off := 0) hc24 tA102 tZ102) (pNew hO tZ102 t0102 (fun b25 G hO => ?_))
         refine pSt (xs := [_, _]) hO 0 tZ102 rfl (fun G hO => pE (gn (lsq ?_)))
         refine wpL_drw [(0, true), (1, true), (2, true), (3, true), (4, true), (5, true), (6, true), (7, true), (8, false), (9, false)] [_, _, _, _, _, _, _, _, _, _] (by decide +kernel) (by rfl) ?_
         refine pFL tF89_0 hO 1 (.lit _ _ _) tA22 ?_
         refine pFL tF37_1 hO 2 (.lit _ _ _) tA22 ?_
         refine pFL tF102_0 hO 0 (.int _ _) tA3 (bk hk fun c26 hc26 hk => ?_)
         refine pX hc26 tE22 tZ3 ?_
         refine pLp (.int _ _) (rd1 (lm := 0) (off := 0) hc26 tA3) (bk hk fun v27 hv27 hk => ?_)
         refine pCall (fun _ => f93_run hv27) ?_
         refine pU (pE (gn (lck hk (fun hk => ?_) (fun hk => ?_))))
         ·refine lsq (lrg (pA (.bool _) (pE (gn (lrt (br (gr (gr (br (gr (have hk := lx hx1 hk; ?_)))))))))))
          cases hk; exact fin0 hO
         ·refine lsk (bn (gn (lrg (pBi ?_))))
          refine pM (.int _ _) (pE (gn ?_))
          cases hk; exact ⟨_, rfl, _, _, (pk hO [1, 2]), sh⟩
        ·refine lex (ge (ge (be (gn (have hk := lx hx1 hk; lsq (lrg (pFL tF89_0 hO 0 (.lit _ _ _) tA22 ?_)))))))
         refine pFL tF89_3 hO 0 (.lit _ _ _) tA22 (bk hk fun v28 hv28 hk => ?_)
         refine pCall (fun _ => f80_run hv28) ?_
         refine pU ?_
         refine pA (.bool _) (pE (gn (lrt ?_)))
         cases hk; exact fin0 hO
def f61_L5 (aP0 : Plan) (x15 : Int) : Int → Option (Int ⊕ (Int ⊕ Fault)) := fun s =>
 (bif decide (s < (aP0.Ways.length : Int)) then ((getI aP0.Bars x15).bind fun c17 => ((getI c17 s).bind fun c18 => ((getI aP0.Bars s).bind fun c19 => ((getI c19 x15).bind fun c20 => ((bif !(c18 == c20) then some true else ((bif (x15 != s) then ((getI aP0.Bars x15).bind fun c23 => ((getI c23 s).bind fun c24 => some (!c24))) else some false).bind fun t22 => ((bif t22 then ((getI aP0.Ways x15).bind fun c26 => ((getI aP0.Ways s).bind fun c27 => ((f80 c26.Sections c27.Sections).bind fun v28 => some v28))) else some false).bind fun t25 => some t25))).bind fun t21 => (bif t21 then (((some ({ Code := (5:Int), At := x15 } : Fault)).map Sum.inr).map Sum.inr) else some (.inl (w64 (s + (1:Int)))))))))) else ((some (.inl (w64 (x15 + (1:Int))))).map Sum.inr))
def f61_L4 (aP0 : Plan) : Int → Option (Int ⊕ Fault) := fun s =>
 (bif decide (s < (aP0.Ways.length : Int)) then (loopO (f61_L5 aP0 s) ((0:Int))) else ((some ({ Code := 0, At := 0 } : Fault)).map Sum.inr))
def f61_L3 (aP0 : Plan) : Int → Option (Int ⊕ Fault) := fun s =>
 (bif decide (s < (aP0.Bars.length : Int)) then ((getI aP0.Bars s).bind fun c14 => (bif ((c14.length : Int) != (aP0.Ways.length : Int)) then ((some ({ Code := (4:Int), At := s } : Fault)).map Sum.inr) else some (.inl (w64 (s + (1:Int)))))) else ((loopO (f61_L4 aP0) ((0:Int))).map Sum.inr))
def f61_L2 (aP0 : Plan) : Int → Option (Int ⊕ Fault) := fun s =>
 (bif decide (s < (aP0.Ways.length : Int)) then ((getI aP0.Ways s).bind fun c10 => ((f79 aP0 c10).bind fun v12 => (bif !v12 then ((some ({ Code := (3:Int), At := s } : Fault)).map Sum.inr) else some (.inl (w64 (s + (1:Int))))))) else ((bif ((aP0.Bars.length : Int) != (aP0.Ways.length : Int)) then some ({ Code := (4:Int), At := (0:Int) } : Fault) else (loopO (f61_L3 aP0) ((0:Int)))).map Sum.inr))
def f61_L1 (aP0 : Plan) : Int → Option (Int ⊕ Fault) := fun s =>
 (bif decide (s < (aP0.Switches.length : Int)) then ((getI aP0.Switches s).bind fun c7 => ((f48 c7 (0:Int) (w64 (aP0.Sections - (1:Int)))).bind fun v8 => (bif !v8 then ((some ({ Code := (2:Int), At := s } : Fault)).map Sum.inr) else some (.inl (w64 (s + (1:Int))))))) else ((loopO (f61_L2 aP0) ((0:Int))).map Sum.inr))
def f61 (aP0 : Plan) : Option Fault :=
 ((f48 aP0.Sections (1:Int) (60:Int)).bind fun v3 => ((bif !v3 then some true else ((f48 aP0.Hold (1:Int) (300:Int)).bind fun v5 => some (!v5))).bind fun t4 => (bif ((t4 || decide ((aP0.Switches.length : Int) > (40:Int))) || decide ((aP0.Ways.length : Int) > (100:Int))) then some ({ Code := (1:Int), At := (0:Int) } : Fault) else (loopO (f61_L1 aP0) ((0:Int))))))
theorem f61_run {aP0 : Plan} {r : Fault} {l1 l2 m3 l4 m5 : Nat} (hk : f61 aP0 = some r) (hlk : 0 < lk.length := by simp) : runL Try.prog hh 61 [.agg (cPlan l1 0 l2 m3 l4 m5 aP0)] H lk = some (.agg [iv r.Code, iv r.At], H) := by
 refine run_start Try.func61 rfl Try.ntmps61 Try.results61 rfl rfl fun hO => ?_
 unfold f61 at hk
 refine lsq (lrg (pBox (cs := [_, _, _, _, _]) hO tZ37 (fun b1 G hO => pNew hO tZ85 t085 (fun b2 G hO => pE (gn (lsq (lsq (lrg ?_))))))))
 refine pFL tF37_0 hO 1 (.int _ _) tA3 (bk hk fun v3 hv3 hk => ?_)
 refine pCall (fun _ => f48_run hv3) ?_
 refine pU ?_
 refine pM (.bool _) (bk hk fun t4 ht hk => ?_)
 refine wpR_mid (l1 := [_, _, _, _, _]) (fun S' => ∃ J, S' = ⟨hav [(1, .ptr b1 0), (2, .ptr b2 0), (20, .bool t4)] J, G⟩) ?_ ?_
 ·refine bc (b := !v3) (fun hg => ?_) (fun hg => ?_)
  ·replace hk := ct hg ht
   refine pGn hg (pGn hg (pGn hg (pGn hg (pPt hg (.bool _) ?_))))
   cases hk; exact pE ⟨_, sh⟩
  ·replace hk := cf hg ht
   refine pGy hg (pF tF37_4 (pGy hg ?_))
   refine pLo hO 1 (.int _ _) tA3 (pGy hg (bk hk fun v5 hv5 hk => ?_))
   refine pCall (fun _ => f48_run hv5) (pGy hg ?_)
   refine pU ?_
   refine pPf hg (.bool _) ?_
   cases hk; exact pE ⟨_, sh⟩
 ·rintro _ ⟨J, rfl⟩
  refine pM (.bool _) ?_
  refine wpR_mid (l1 := [_, _, _, _, _]) (fun S' => ∃ J, S' = ⟨hav [(1, .ptr b1 0), (2, .ptr b2 0), (26, .bool (t4 || decide ((aP0.Switches.length : Int) > (40:Int))))] J, G⟩) ?_ ?_
  ·refine bc (b := t4) (fun hg => ?_) (fun hg => ?_)
   ·refine pGn hg (pGn hg (pGn hg (pGn hg (pPt hg (.bool _) ?_))))
    exact pE ⟨_, St.hav _ ⟨rfl, rfl, by rw [hg]; rfl, trivial⟩⟩
   ·refine pGy hg (pF tF37_1 (pGy hg ?_))
    refine pLo hO 1 (.lit _ _ _) tA22 (pGy hg ?_)
    refine pLen tS22 (pGy hg ?_)
    refine pBi ?_
    refine pPf hg (.bool _) ?_
    exact pE ⟨_, St.hav _ ⟨rfl, rfl, by rw [hg]; rfl, trivial⟩⟩
  ·rintro _ ⟨J, rfl⟩
   refine pM (.bool _) ?_
   refine wpR_mid (l1 := [_, _, _, _, _]) (fun S' => ∃ J, S' = ⟨hav [(1, .ptr b1 0), (2, .ptr b2 0), (32, .bool ((t4 || decide ((aP0.Switches.length : Int) > (40:Int))) || decide ((aP0.Ways.length : Int) > (100:Int))))] J, G⟩) ?_ ?_
   ·refine bc (b := (t4 || decide ((aP0.Switches.length : Int) > (40:Int)))) (fun hg => ?_) (fun hg => ?_)
    ·refine pGn hg (pGn hg (pGn hg (pGn hg (pPt hg (.bool _) ?_))))
     exact pE ⟨_, St.hav _ ⟨rfl, rfl, by rw [hg]; rfl, trivial⟩⟩
    ·refine pGy hg (pF tF37_2 (pGy hg ?_))
     refine pLo hO 1 (.lit _ _ _) tA35 (pGy hg ?_)
     refine pLen tS35 (pGy hg ?_)
     refine pBi ?_
     refine pPf hg (.bool _) ?_
     exact pE ⟨_, St.hav _ ⟨rfl, rfl, by rw [hg]; rfl, trivial⟩⟩
   ·rintro _ ⟨J, rfl⟩
    refine pE (gn (lck hk (fun hk => ?_) (fun hk => ?_)))
    ·refine lsq (lrg (pBd [_, _] t085 tP85 ?_))
     refine pSt (xs := [_, _]) hO 0 tZ85 rfl (fun G hO => pE (gn (lrt (gr ?_))))
     replace hk := Option.some.inj hk; subst hk; exact finZ hO (fz_agg (n := 2) (fz_c (fz_int _ _) (fz_c (fz_int _ _) (fz_n)))) (resS hO 0 [_, _] tA85 tZ85 resN)
    ·refine lsk (gn (lsq (lsq (lrg (pFL tF37_1 hO 1 (.lit _ _ _) tA22 ?_)))))
     refine pLen tS22 ?_
     refine pM (.int _ _) (pE (gn (lbl ?_)))
     refine wpL_loopO (F := f61_L1 aP0) (fun s S' => ∃ (J : Nat → V) (G : Heap), Owns H G [.blk b2 (.cells 2 [iv 0, iv 0]), .blk b1 (.cells 5 (cPlan l1 0 l2 m3 l4 m5 aP0))] ∧ S' = ⟨hav [(1, .ptr b1 0), (2, .ptr b2 0), (35, litL l1 0 aP0.Switches), (36, iv (aP0.Switches.length : Int)), (37, iv s)] J, G⟩) hk ⟨_, _, hO, sh⟩ ?_
     rintro x6 _ y1 ⟨J, G, hO, rfl⟩ hk hx1
     refine lsq (lrg (pBi (pE (gn (lsq (lck hk (fun hk => ?_) (fun hk => ?_)))))))
     ·refine lsk (gn (lsq (lbl (lsq (lrg (pM (.int _ _) (bk hk fun c7 hc7 hk => ?_)))))))
      refine pX hc7 tE22 tZ3 ?_
      refine pLp (.int _ _) (rd1 (lm := 0) (off := 0) hc7 tA3) ?_
      refine pA (.int _ _) ?_
      refine pA (.int _ _) (pE (gn (lsq (lrg ?_))))
      refine pM (.int _ _) ?_
      refine pFL tF37_0 hO 1 (.int _ _) tA3 ?_
      refine pBi (bk hk fun v8 hv8 hk => ?_)
      refine pCall (fun _ => f48_run hv8) ?_
      refine pU (pE (gn (lck hk (fun hk => ?_) (fun hk => ?_))))
      ·refine lsq (lrg (pM (.int _ _) ?_))
       refine pBd [_, _] t085 tP85 ?_
       refine pSt (xs := [_, _]) hO 0 tZ85 rfl (fun G hO => pE (gn (lrt (br (gr (gr (br (gr (have hk := lx hx1 hk; ?_)))))))))
       replace hk := Option.some.inj hk; subst hk; exact finZ hO (fz_agg (n := 2) (fz_c (fz_int _ _) (fz_c (fz_int _ _) (fz_n)))) (resS hO 0 [_, _] tA85 tZ85 resN)
      ·refine lsk (bn (gn (lrg (pBi ?_))))
       refine pM (.int _ _) (pE (gn ?_))
       cases hk; exact ⟨_, rfl, _, _, hO, sh⟩
     ·refine lex (ge (ge (be (gn (have hk := lx hx1 hk; lsq (lsq (lrg (pFL tF37_2 hO 1 (.lit _ _ _) tA35 ?_))))))))
      refine pLen tS35 ?_
      refine pM (.int _ _) (pE (gn (lbl ?_)))
      refine wpL_loopO (F := f61_L2 aP0) (fun s S' => ∃ (J : Nat → V) (G : Heap), Owns H G [.blk b2 (.cells 2 [iv 0, iv 0]), .blk b1 (.cells 5 (cPlan l1 0 l2 m3 l4 m5 aP0))] ∧ S' = ⟨hav [(1, .ptr b1 0), (2, .ptr b2 0), (52, litL l2 m3 aP0.Ways), (53, iv (aP0.Ways.length : Int)), (54, iv s)] J, G⟩) hk ⟨_, _, hO, sh⟩ ?_
      rintro x9 _ y1 ⟨J, G, hO, rfl⟩ hk hx1
      refine lsq (lrg (pBi (pE (gn (lsq (lck hk (fun hk => ?_) (fun hk => ?_)))))))
      ·refine lsk (gn (lsq (lbl (lsq (lrg (pM (.int _ _) (bk hk fun c10 hc10 hk => ?_)))))))
       refine pX hc10 tE35 tZ89 ?_
       refine pLp (.agg [_, _, _, _, _]) (rd2 (lm := m3) (off := 0) hc10 tA89 tZ89) (pNew hO tZ89 t089 (fun b11 G hO => ?_))
       refine pA (.int _ _) ?_
       refine pSt (xs := [_, _, _, _, _]) hO 0 tZ89 rfl (fun G hO => pE (gn (lsq (lrg ?_))))
       refine pLs hO 2 [_, _, _, _, _] tA37 tZ37 ?_
       refine pLs hO 0 [_, _, _, _, _] tA89 tZ89 (bk hk fun v12 hv12 hk => ?_)
       refine pCall (fun _ => f79_run hv12) ?_
       refine pU (pE (gn (lck hk (fun hk => ?_) (fun hk => ?_))))
       ·refine lsq (lrg (pM (.int _ _) ?_))
        refine pBd [_, _] t085 tP85 ?_
        refine pSt (xs := [_, _]) hO 1 tZ85 rfl (fun G hO => pE (gn (lrt (br (gr (gr (br (gr (have hk := lx hx1 hk; ?_)))))))))
        replace hk := Option.some.inj hk; subst hk; exact finZ hO (fz_agg (n := 2) (fz_c (fz_int _ _) (fz_c (fz_int _ _) (fz_n)))) (resS hO 1 [_, _] tA85 tZ85 resN)
       ·refine lsk (bn (gn (lrg (pBi ?_))))
        refine pM (.int _ _) (pE (gn ?_))
        cases hk; exact ⟨_, rfl, _, _, (pk hO [1, 2]), sh⟩
      ·refine lex (ge (ge (be (gn (have hk := lx hx1 hk; lsq (lsq (lrg (pFL tF37_3 hO 1 (.lit _ _ _) tA24 ?_))))))))
       refine pLen tS24 ?_
       refine pFL tF37_2 hO 1 (.lit _ _ _) tA35 ?_
       refine pLen tS35 ?_
       refine pBi (pE (gn (lck hk (fun hk => ?_) (fun hk => ?_))))
       ·refine lsq (lrg (pBd [_, _] t085 tP85 ?_))
        refine pSt (xs := [_, _]) hO 0 tZ85 rfl (fun G hO => pE (gn (lrt (gr ?_))))
        replace hk := Option.some.inj hk; subst hk; exact finZ hO (fz_agg (n := 2) (fz_c (fz_int _ _) (fz_c (fz_int _ _) (fz_n)))) (resS hO 0 [_, _] tA85 tZ85 resN)
       ·refine lsk (gn (lsq (lsq (lrg (pFL tF37_3 hO 1 (.lit _ _ _) tA24 ?_)))))
        refine pLen tS24 ?_
        refine pM (.int _ _) (pE (gn (lbl ?_)))
        refine wpL_loopO (F := f61_L3 aP0) (fun s S' => ∃ (J : Nat → V) (G : Heap), Owns H G [.blk b2 (.cells 2 [iv 0, iv 0]), .blk b1 (.cells 5 (cPlan l1 0 l2 m3 l4 m5 aP0))] ∧ S' = ⟨hav [(1, .ptr b1 0), (2, .ptr b2 0), (75, litL l4 m5 aP0.Bars), (76, iv (aP0.Bars.length : Int)), (77, iv s)] J, G⟩) hk ⟨_, _, hO, sh⟩ ?_
        rintro x13 _ y1 ⟨J, G, hO, rfl⟩ hk hx1
        refine lsq (lrg (pBi (pE (gn (lsq (lck hk (fun hk => ?_) (fun hk => ?_)))))))
        ·refine lsk (gn (lsq (lbl (lsq (lrg (pM (.int _ _) (bk hk fun c14 hc14 hk => ?_)))))))
         refine pX hc14 tE24 tZ27 ?_
         refine pLp (.lit _ _ _) (rd1 (lm := m5) (off := 0) hc14 tA27) ?_
         refine pA (.int _ _) ?_
         refine pA (.lit _ _ _) (pE (gn (lsq (lrg ?_))))
         refine pM (.lit _ _ _) ?_
         refine pLen tS27 ?_
         refine pFL tF37_2 hO 1 (.lit _ _ _) tA35 ?_
         refine pLen tS35 ?_
         refine pBi (pE (gn (lck hk (fun hk => ?_) (fun hk => ?_))))
         ·refine lsq (lrg (pM (.int _ _) ?_))
          refine pBd [_, _] t085 tP85 ?_
          refine pSt (xs := [_, _]) hO 0 tZ85 rfl (fun G hO => pE (gn (lrt (br (gr (gr (br (gr (have hk := lx hx1 hk; ?_)))))))))
          replace hk := Option.some.inj hk; subst hk; exact finZ hO (fz_agg (n := 2) (fz_c (fz_int _ _) (fz_c (fz_int _ _) (fz_n)))) (resS hO 0 [_, _] tA85 tZ85 resN)
         ·refine lsk (bn (gn (lrg (pBi ?_))))
          refine pM (.int _ _) (pE (gn ?_))
          cases hk; exact ⟨_, rfl, _, _, hO, sh⟩
        ·refine lex (ge (ge (be (gn (have hk := lx hx1 hk; lsq (lsq (lrg (pFL tF37_2 hO 1 (.lit _ _ _) tA35 ?_))))))))
         refine pLen tS35 ?_
         refine pM (.int _ _) (pE (gn (lbl ?_)))
         refine wpL_loopO (F := f61_L4 aP0) (fun s S' => ∃ (J : Nat → V) (G : Heap), Owns H G [.blk b2 (.cells 2 [iv 0, iv 0]), .blk b1 (.cells 5 (cPlan l1 0 l2 m3 l4 m5 aP0))] ∧ S' = ⟨hav [(1, .ptr b1 0), (2, .ptr b2 0), (93, iv (aP0.Ways.length : Int)), (94, iv s)] J, G⟩) hk ⟨_, _, hO, sh⟩ ?_
         rintro x15 _ y1 ⟨J, G, hO, rfl⟩ hk hx1
         refine lsq (lrg (pBi (pE (gn (lsq (lck hk (fun hk => ?_) (fun hk => ?_)))))))
         ·refine lsk (gn (lsq (lbl (lsq (lrg (pM (.int _ _) ?_))))))
          refine pA (.int _ _) (pE (gn (lsq (lrg ?_))))
          refine pFL tF37_2 hO 1 (.lit _ _ _) tA35 ?_
          refine pLen tS35 ?_
          refine pM (.int _ _) (pE (gn (lbl ?_)))
          refine wpL_loopO (F := f61_L5 aP0 x15) (fun s S' => ∃ (J : Nat → V) (G : Heap), Owns H G [.blk b2 (.cells 2 [iv 0, iv 0]), .blk b1 (.cells 5 (cPlan l1 0 l2 m3 l4 m5 aP0))] ∧ S' = ⟨hav [(1, .ptr b1 0), (2, .ptr b2 0), (9, iv x15), (93, iv (aP0.Ways.length : Int)), (94, iv x15), (99, iv (aP0.Ways.length : Int)), (100, iv s)] J, G⟩) hk ⟨_, _, hO, sh⟩ ?_
          rintro x16 _ y2 ⟨J, G, hO, rfl⟩ hk hx2
          refine lsq (lrg (pBi (pE (gn (lsq (lck hk (fun hk => ?_) (fun hk => ?_)))))))
          ·refine lsk (gn (lsq (lbl (lsq (lrg (pM (.int _ _) ?_))))))
           refine pA (.int _ _) (pE (gn (lsq ?_)))
           refine wpL_drw [(0, true), (1, true), (2, true), (3, true), (4, true), (5, true), (6, true), (7, true), (8, true), (9, true), (10, true), (11, true), (12, true), (13, true), (14, true), (15, true), (16, false), (17, false), (18, false), (19, false), (20, false), (21, false), (22, false), (23, true), (24, true), (25, false), (26, true), (27, true), (28, false), (29, true), (30, false), (31, false), (32, false), (33, true), (34, true), (35, true), (36, true), (37, true), (38, true), (39, true), (40, true), (41, true), (42, true), (43, true), (44, true), (45, false), (46, false), (47, false)] [_, _, _, _, _, _, _, _, _, _, _, _, _, _, _, _, _, _, _, _, _, _, _, _, _, _, _, _, _, _, _, _, _, _, _, _, _, _, _, _, _, _, _, _, _, _, _, _] (by decide +kernel) (by rfl) ?_
           refine pFL tF37_3 hO 1 (.lit _ _ _) tA24 ?_
           refine pM (.int _ _) (bk hk fun c17 hc17 hk => ?_)
           refine pX hc17 tE24 tZ27 ?_
           refine pLp (.lit _ _ _) (rd1 (lm := m5) (off := 0) hc17 tA27) ?_
           refine pM (.int _ _) (bk hk fun c18 hc18 hk => ?_)
           refine pX hc18 tE27 tZ4 ?_
           refine pLp (.bool _) (rd1 (lm := 0) (off := 0) hc18 tA4) ?_
           refine pFL tF37_3 hO 1 (.lit _ _ _) tA24 ?_
           refine pM (.int _ _) (bk hk fun c19 hc19 hk => ?_)
           refine pX hc19 tE24 tZ27 ?_
           refine pLp (.lit _ _ _) (rd1 (lm := m5) (off := 0) hc19 tA27) ?_
           refine pM (.int _ _) (bk hk fun c20 hc20 hk => ?_)
           refine pX hc20 tE27 tZ4 ?_
           refine pLp (.bool _) (rd1 (lm := 0) (off := 0) hc20 tA4) ?_
           refine pBn Try.underlying4 ?_
           refine pM (.bool _) (bk hk fun t21 ht hk => ?_)
           refine wpR_mid (l1 := [_, _, _, _, _, _, _, _, _, _, _, _, _, _, _, _, _, _, _, _, _, _, _, _, _, _, _, _, _, _]) (fun S' => ∃ J, S' = ⟨hav [(1, .ptr b1 0), (2, .ptr b2 0), (9, iv x15), (93, iv (aP0.Ways.length : Int)), (94, iv x15), (99, iv (aP0.Ways.length : Int)), (100, iv x16), (150, .bool t21)] J, G⟩) ?_ ?_
           ·refine bc (b := !(c18 == c20)) (fun hg => ?_) (fun hg => ?_)
            ·replace hk := ct hg ht
             refine pGn hg (pGn hg (pGn hg (pGn hg (pGu (pGu (pGu (pGu (pGu (pGu (pGu (pGu (pGu (pGn hg (pGn hg (pGu (pGu (pGu (pGu (pGu (pGu (pGu (pGu (pGu (pGu (pGu (pGu (pGu (pGn hg (pPt hg (.bool _) ?_)))))))))))))))))))))))))))))
             cases hk; exact pE ⟨_, sh⟩
            ·replace hk := cf hg ht
             refine pGy hg (pM (.int _ _) (pGy hg ?_))
             refine pM (.int _ _) (pGy hg ?_)
             refine pBi (pGy hg ?_)
             refine pM (.bool _) (bk hk fun t22 ht hk => ?_)
             refine wpR_mid (l1 := [_, _, _, _, _, _, _, _, _, _]) (fun S' => ∃ J, S' = ⟨hav [(1, .ptr b1 0), (2, .ptr b2 0), (9, iv x15), (10, iv x16), (93, iv (aP0.Ways.length : Int)), (94, iv x15), (99, iv (aP0.Ways.length : Int)), (100, iv x16), (120, .bool (!(c18 == c20))), (134, .bool t22)] J, G⟩) ?_ ?_
             ·refine bc (b := (x15 != x16)) (fun hg2 => ?_) (fun hg2 => ?_)
              ·replace hk := ct hg2 ht
               refine pGy hg2 (pF tF37_3 (pGy hg2 ?_))
               refine pLo hO 1 (.lit _ _ _) tA24 (pGy hg2 ?_)
               refine pM (.int _ _) (pGy hg2 (bk hk fun c23 hc23 hk => ?_))
               refine pX hc23 tE24 tZ27 (pGy hg2 ?_)
               refine pLp (.lit _ _ _) (rd1 (lm := m5) (off := 0) hc23 tA27) (pGy hg2 ?_)
               refine pM (.int _ _) (pGy hg2 (bk hk fun c24 hc24 hk => ?_))
               refine pX hc24 tE27 tZ4 (pGy hg2 ?_)
               refine pLp (.bool _) (rd1 (lm := 0) (off := 0) hc24 tA4) (pGy hg2 ?_)
               refine pU (pGy hg ?_)
               refine pPt hg2 (.bool _) ?_
               cases hk; exact pE ⟨_, sh⟩
              ·replace hk := cf hg2 ht
               refine pGn hg2 (pGn hg2 (pGn hg2 (pGn hg2 (pGn hg2 (pGn hg2 (pGn hg2 (pGn hg2 (pGn hg2 (pGy hg (pPf hg2 (.bool _) ?_))))))))))
               cases hk; exact pE ⟨_, sh⟩
             ·rintro _ ⟨J, rfl⟩
              refine pGy hg (pM (.bool _) (bk hk fun t25 ht hk => ?_))
              refine wpR_mid (l1 := [_, _, _, _, _, _, _, _, _, _, _, _, _, _]) (fun S' => ∃ J, S' = ⟨hav [(1, .ptr b1 0), (2, .ptr b2 0), (9, iv x15), (93, iv (aP0.Ways.length : Int)), (94, iv x15), (99, iv (aP0.Ways.length : Int)), (100, iv x16), (120, .bool (!(c18 == c20))), (149, .bool t25)] J, G⟩) ?_ ?_
              ·refine bc (b := t22) (fun hg2 => ?_) (fun hg2 => ?_)
               ·replace hk := ct hg2 ht
                refine pGy hg2 (pF tF37_2 (pGy hg2 ?_))
                refine pLo hO 1 (.lit _ _ _) tA35 (pGy hg2 ?_)
                refine pM (.int _ _) (pGy hg2 (bk hk fun c26 hc26 hk => ?_))
                refine pX hc26 tE35 tZ89 (pGy hg2 ?_)
                refine pF tF89_0 (pGy hg2 ?_)
                refine pLp (.lit _ _ _) (rd1 (lm := m3) (off := 0) hc26 tA22) (pGy hg2 ?_)
                refine pF tF37_2 (pGy hg2 ?_)
                refine pLo hO 1 (.lit _ _ _) tA35 (pGy hg2 ?_)
                refine pM (.int _ _) (pGy hg2 (bk hk fun c27 hc27 hk => ?_))
                refine pX hc27 tE35 tZ89 (pGy hg2 ?_)
                refine pF tF89_0 (pGy hg2 ?_)
                refine pLp (.lit _ _ _) (rd1 (lm := m3) (off := 0) hc27 tA22) (pGy hg2 (bk hk fun v28 hv28 hk => ?_))
                refine pCall (fun _ => f80_run hv28) (pGy hg ?_)
                refine pPt hg2 (.bool _) ?_
                cases hk; exact pE ⟨_, sh⟩
               ·replace hk := cf hg2 ht
                refine pGn hg2 (pGn hg2 (pGn hg2 (pGn hg2 (pGn hg2 (pGn hg2 (pGn hg2 (pGn hg2 (pGn hg2 (pGn hg2 (pGn hg2 (pGn hg2 (pGn hg2 (pGy hg (pPf hg2 (.bool _) ?_))))))))))))))
                cases hk; exact pE ⟨_, sh⟩
              ·rintro _ ⟨J, rfl⟩
               refine pPf hg (.bool _) ?_
               cases hk; exact pE ⟨_, sh⟩
           ·rintro _ ⟨J, rfl⟩
            refine pE (gn (lck hk (fun hk => ?_) (fun hk => ?_)))
            ·refine lsq (lrg (pM (.int _ _) ?_))
             refine pBd [_, _] t085 tP85 ?_
             refine pSt (xs := [_, _]) hO 0 tZ85 rfl (fun G hO => pE (gn (lrt (br (gr (gr (br (br (gr (gr (br (gr (have hk := lx hx2 hk; have hk := lx hx1 hk; ?_)))))))))))))
             replace hk := Option.some.inj hk; subst hk; exact finZ hO (fz_agg (n := 2) (fz_c (fz_int _ _) (fz_c (fz_int _ _) (fz_n)))) (resS hO 0 [_, _] tA85 tZ85 resN)
            ·refine lsk (bn (gn (lrg (pBi ?_))))
             refine pM (.int _ _) (pE (gn ?_))
             cases hk; exact ⟨_, rfl, _, _, hO, sh⟩
          ·refine lex (ge (ge (be (bn (gn (have hk := lx hx2 hk; lrg (pBi ?_)))))))
           refine pM (.int _ _) (pE (gn ?_))
           cases hk; exact ⟨_, rfl, _, _, hO, sh⟩
         ·refine lex (ge (ge (be (gn (have hk := lx hx1 hk; lsq (lrg (pBd [_, _] t085 tP85 ?_)))))))
          refine pSt (xs := [_, _]) hO 0 tZ85 rfl (fun G hO => pE (gn (lrt ?_)))
          replace hk := Option.some.inj hk; subst hk; exact finZ hO (fz_agg (n := 2) (fz_c (fz_int _ _) (fz_c (fz_int _ _) (fz_n)))) (resS hO 0 [_, _] tA85 tZ85 resN)
def f39 (aP0 : Plan) : Option Bool :=
 ((f61 aP0).bind fun v2 => some ((v2.Code == 0) && ((v2.At == 0) && true)))
theorem f39_run {aP0 : Plan} {r : Bool} {l1 l2 m3 l4 m5 : Nat} (hk : f39 aP0 = some r) (hlk : 0 < lk.length := by simp) : runL Try.prog hh 39 [.agg (cPlan l1 0 l2 m3 l4 m5 aP0)] H lk = some (.bool r, H) := by
 refine run_start Try.func39 rfl Try.ntmps39 Try.results39 rfl rfl fun hO => ?_
 unfold f39 at hk
 refine lsq (lrg (pBox (cs := [_, _, _, _, _]) hO tZ37 (fun b1 G hO => ?_)))
 refine pA (.bool _) (pE (gn (lsq (lrg ?_))))
 refine pLs hO 0 [_, _, _, _, _] tA37 tZ37 (bk hk fun v2 hv2 hk => ?_)
 refine pCall (fun _ => f61_run hv2) ?_
 refine pBd [_, _] t085 tP85 ?_
 refine pGq tG85 (eqc (eqi _ _ _) (eqc (eqi _ _ _) (rfl))) ?_
 refine pA (.bool _) (pE (gn (lrt ?_)))
 cases hk; exact fin0 hO
def f100_L1 (aS0 : List Bool) (aV1 : Bool) : Int → Option (Int ⊕ Int) := fun s =>
 (bif decide (s < (aS0.length : Int)) then ((getI aS0 s).bind fun c2 => (bif (aV1 == c2) then ((some s).map Sum.inr) else some (.inl (w64 (s + (1:Int)))))) else ((some (-1:Int)).map Sum.inr))
def f100 (aS0 : List Bool) (aV1 : Bool) : Option Int :=
 (loopO (f100_L1 aS0 aV1) ((0:Int)))
theorem f100_run {aS0 : List Bool} {aV1 : Bool} {r : Int} {l1 : Nat} (hk : f100 aS0 aV1 = some r) (hlk : 0 < lk.length := by simp) : runL Try.prog hh 100 [litL l1 0 aS0, .bool aV1] H lk = some (iv r, H) := by
 refine run_start Try.func100 rfl Try.ntmps100 Try.results100 rfl rfl fun hO => ?_
 unfold f100 at hk
 refine lsq (lrg (pA (.int _ _) (pE (gn (lsq (lsq (lrg ?_)))))))
 refine pM (.lit _ _ _) ?_
 refine pLen tS27 ?_
 refine pM (.int _ _) (pE (gn (lbl ?_)))
 refine wpL_loopO (F := f100_L1 aS0 aV1) (fun s S' => ∃ (J : Nat → V) (G : Heap), Owns H G [] ∧ S' = ⟨hav [(0, litL l1 0 aS0), (1, .bool aV1), (7, iv (aS0.length : Int)), (8, iv s)] J, G⟩) hk ⟨_, _, hO, sh⟩ ?_
 rintro x1 _ y1 ⟨J, G, hO, rfl⟩ hk hx1
 refine lsq (lrg (pBi (pE (gn (lsq (lck hk (fun hk => ?_) (fun hk => ?_)))))))
 ·refine lsk (gn (lsq (lbl (lsq (lrg (pM (.int _ _) ?_))))))
  refine pA (.int _ _) (pE (gn (lsq (lrg ?_))))
  refine pM (.bool _) ?_
  refine pM (.lit _ _ _) ?_
  refine pM (.int _ _) (bk hk fun c2 hc2 hk => ?_)
  refine pX hc2 tE27 tZ4 ?_
  refine pLp (.bool _) (rd1 (lm := 0) (off := 0) hc2 tA4) ?_
  refine pBq Try.underlying4 (pE (gn (lck hk (fun hk => ?_) (fun hk => ?_))))
  ·refine lsq (lrg (pM (.int _ _) ?_))
   refine pA (.int _ _) (pE (gn (lrt (br (gr (gr (br (gr (have hk := lx hx1 hk; ?_)))))))))
   cases hk; exact fin0 hO
  ·refine lsk (bn (gn (lrg (pBi ?_))))
   refine pM (.int _ _) (pE (gn ?_))
   cases hk; exact ⟨_, rfl, _, _, hO, sh⟩
 ·refine lex (ge (ge (be (gn (have hk := lx hx1 hk; lsq (lrg (pA (.int _ _) (pE (gn (lrt ?_))))))))))
  cases hk; exact fin0 hO
def f81 (aS0 : List Bool) (aV1 : Bool) : Option Bool :=
 ((f100 aS0 aV1).bind fun v1 => some (decide (v1 ≥ (0:Int))))
theorem f81_run {aS0 : List Bool} {aV1 : Bool} {r : Bool} {l1 : Nat} (hk : f81 aS0 aV1 = some r) (hlk : 0 < lk.length := by simp) : runL Try.prog hh 81 [litL l1 0 aS0, .bool aV1] H lk = some (.bool r, H) := by
 refine run_start Try.func81 rfl Try.ntmps81 Try.results81 rfl rfl fun hO => ?_
 unfold f81 at hk
 refine lsq (lrg (pA (.bool _) (pE (gn (lsq (lrg ?_))))))
 refine pM (.lit _ _ _) ?_
 refine pM (.bool _) (bk hk fun v1 hv1 hk => ?_)
 refine pCall (fun _ => f100_run hv1) ?_
 refine pBi ?_
 refine pA (.bool _) (pE (gn (lrt ?_)))
 cases hk; exact fin0 hO
def f62_k2 (aH1 : Held) : Option Bool :=
 some (!((aH1.State == (0:Int)) && aH1.Shown) && !(((aH1.State == (2:Int)) || (aH1.State == (3:Int))) && !aH1.Shown))
def f62_k1 (aP0 : Plan) (aH1 : Held) : Option Bool :=
 (bif (aH1.State == (3:Int)) then ((f48 aH1.Timer (1:Int) aP0.Hold).bind fun v7 => (bif !v7 then some false else (f62_k2 aH1))) else (bif (aH1.Timer != (0:Int)) then some false else (f62_k2 aH1)))
def f62 (aP0 : Plan) (aH1 : Held) (aW2 : Way) : Option Bool :=
 ((f48 aH1.State (0:Int) (4:Int)).bind fun v4 => ((bif (!v4 || ((aH1.Been.length : Int) != (aW2.Sections.length : Int))) then some true else ((f48 aH1.Gone (0:Int) (w64 ((aW2.Sections.length : Int) - (1:Int)))).bind fun v6 => some (!v6))).bind fun t5 => (bif t5 then some false else (bif (aH1.State != (4:Int)) then ((bif (aH1.Gone != (0:Int)) then some true else ((f81 aH1.Been true).bind fun v9 => some v9)).bind fun t8 => (bif t8 then some false else (f62_k1 aP0 aH1))) else ((subB aH1.Been (0:Int) aH1.Gone).bind fun y10 => ((f81 y10 false).bind fun v11 => (bif v11 then some false else (f62_k1 aP0 aH1))))))))
theorem f62_run {aP0 : Plan} {aH1 : Held} {aW2 : Way} {r : Bool} {l1 l2 m3 l4 m5 l6 l7 l8 l9 l10 l11 : Nat} (hk : f62 aP0 aH1 aW2 = some r) (hlk : 0 < lk.length := by simp) : runL Try.prog hh 62 [.agg (cPlan l1 0 l2 m3 l4 m5 aP0), .agg [iv aH1.State, iv aH1.Gone, litL l6 0 aH1.Been, .bool aH1.Shown, iv aH1.Timer], .agg (cWay l7 0 l8 0 l9 0 l10 0 l11 0 aW2)] H lk = some (.bool r, H) := by
 refine run_start Try.func62 rfl Try.ntmps62 Try.results62 rfl rfl fun hO => ?_
 unfold f62 at hk
 refine lsq (lrg (pBox (cs := [_, _, _, _, _]) hO tZ37 (fun b1 G hO => ?_)))
 refine pBox (cs := [_, _, _, _, _]) hO tZ61 (fun b2 G hO => ?_)
 refine pBox (cs := [_, _, _, _, _]) hO tZ89 (fun b3 G hO => ?_)
 refine pA (.bool _) (pE (gn (lsq (lrg ?_))))
 refine pFL tF89_0 hO 0 (.lit _ _ _) tA22 ?_
 refine pLen tS22 ?_
 refine pA (.int _ _) (pE (gn (lsq (lsq (lrg ?_)))))
 refine pFL tF61_0 hO 1 (.int _ _) tA3 (bk hk fun v4 hv4 hk => ?_)
 refine pCall (fun _ => f48_run hv4) ?_
 refine pU ?_
 refine pM (.bool _) ?_
 refine wpR_mid (l1 := [_, _, _, _, _, _]) (fun S' => ∃ J, S' = ⟨hav [(3, .ptr b1 0), (4, .ptr b2 0), (7, iv (aW2.Sections.length : Int)), (21, .bool (!v4 || ((aH1.Been.length : Int) != (aW2.Sections.length : Int))))] J, G⟩) ?_ ?_
 ·refine bc (b := !v4) (fun hg => ?_) (fun hg => ?_)
  ·refine pGn hg (pGn hg (pGn hg (pGn hg (pGn hg (pPt hg (.bool _) ?_)))))
   exact pE ⟨_, St.hav _ ⟨rfl, rfl, rfl, by rw [hg]; rfl, trivial⟩⟩
  ·refine pGy hg (pF tF61_2 (pGy hg ?_))
   refine pLo hO 1 (.lit _ _ _) tA27 (pGy hg ?_)
   refine pLen tS27 (pGy hg ?_)
   refine pM (.int _ _) (pGy hg ?_)
   refine pBi ?_
   refine pPf hg (.bool _) ?_
   exact pE ⟨_, St.hav _ ⟨rfl, rfl, rfl, by rw [hg]; rfl, trivial⟩⟩
 ·rintro _ ⟨J, rfl⟩
  refine pM (.bool _) (bk hk fun t5 ht hk => ?_)
  refine wpR_mid (l1 := [_, _, _, _, _, _, _]) (fun S' => ∃ J, S' = ⟨hav [(3, .ptr b1 0), (4, .ptr b2 0), (29, .bool t5)] J, G⟩) ?_ ?_
  ·refine bc (b := (!v4 || ((aH1.Been.length : Int) != (aW2.Sections.length : Int)))) (fun hg => ?_) (fun hg => ?_)
   ·replace hk := ct hg ht
    refine pGn hg (pGn hg (pGn hg (pGn hg (pGn hg (pGn hg (pPt hg (.bool _) ?_))))))
    cases hk; exact pE ⟨_, sh⟩
   ·replace hk := cf hg ht
    refine pGy hg (pF tF61_1 (pGy hg ?_))
    refine pLo hO 1 (.int _ _) tA3 (pGy hg ?_)
    refine pM (.int _ _) (pGy hg ?_)
    refine pBi (pGy hg (bk hk fun v6 hv6 hk => ?_))
    refine pCall (fun _ => f48_run hv6) (pGy hg ?_)
    refine pU ?_
    refine pPf hg (.bool _) ?_
    cases hk; exact pE ⟨_, sh⟩
  ·rintro _ ⟨J, rfl⟩
   refine pE (gn (lck hk (fun hk => ?_) (fun hk => ?_)))
   ·refine lsq (lrg (pA (.bool _) (pE (gn (lrt (gr ?_))))))
    cases hk; exact fin0 hO
   ·refine lsk (gn (wpL_mid (fun S' => ∃  (J : Nat → V) (G : Heap), f62_k1 aP0 aH1 = some r ∧ Owns H G [.blk b2 (.cells 5 [iv aH1.State, iv aH1.Gone, litL l6 0 aH1.Been, .bool aH1.Shown, iv aH1.Timer]), .blk b1 (.cells 5 (cPlan l1 0 l2 m3 l4 m5 aP0))] ∧ S' = ⟨hav [(3, .ptr b1 0), (4, .ptr b2 0)] J, G⟩) ?_ ?_))
    ·refine lsq (lrg (pFL tF61_0 hO 1 (.int _ _) tA3 ?_))
     refine pBi (pE (gn (lck hk (fun hk => ?_) (fun hk => ?_))))
     ·refine lsq (lrg (pFL tF61_1 hO 1 (.int _ _) tA3 ?_))
      refine pBi ?_
      refine pM (.bool _) (bk hk fun t8 ht hk => ?_)
      refine wpR_mid (l1 := [_, _, _, _]) (fun S' => ∃ J, S' = ⟨hav [(3, .ptr b1 0), (4, .ptr b2 0), (40, .bool t8)] J, G⟩) ?_ ?_
      ·refine bc (b := (aH1.Gone != (0:Int))) (fun hg => ?_) (fun hg => ?_)
       ·replace hk := ct hg ht
        refine pGn hg (pGn hg (pGn hg (pPt hg (.bool _) ?_)))
        cases hk; exact pE ⟨_, sh⟩
       ·replace hk := cf hg ht
        refine pGy hg (pF tF61_2 (pGy hg ?_))
        refine pLo hO 1 (.lit _ _ _) tA27 (pGy hg (bk hk fun v9 hv9 hk => ?_))
        refine pCall (fun _ => f81_run hv9) ?_
        refine pPf hg (.bool _) ?_
        cases hk; exact pE ⟨_, sh⟩
      ·rintro _ ⟨J, rfl⟩
       refine pE (gn (lck hk (fun hk => ?_) (fun hk => ?_)))
       ·refine lsq (lrg (pA (.bool _) (pE (gn (lrt (gr ?_))))))
        cases hk; exact fin0 hO
       ·exact lsk (gn (⟨_, _, hk, (pk hO [1, 2]), sh⟩))
     ·refine lsq (lrg (pFL tF61_2 hO 1 (.lit _ _ _) tA27 ?_))
      refine pFL tF61_1 hO 1 (.int _ _) tA3 (bk hk fun y10 hy10 hk => ?_)
      refine pSlH hy10 tE27 tZ4 (bk hk fun v11 hv11 hk => ?_)
      refine pCall (fun _ => f81_run hv11) (pE (gn (lck hk (fun hk => ?_) (fun hk => ?_))))
      ·refine lsq (lrg (pA (.bool _) (pE (gn (lrt (gr ?_))))))
       cases hk; exact fin0 hO
      ·exact lsk (gn (⟨_, _, hk, (pk hO [1, 2]), sh⟩))
    ·rintro _ ⟨J, G, hk, hO, rfl⟩
     refine wpL_mid (fun S' => ∃  (J : Nat → V) (G : Heap), f62_k2 aH1 = some r ∧ Owns H G [.blk b2 (.cells 5 [iv aH1.State, iv aH1.Gone, litL l6 0 aH1.Been, .bool aH1.Shown, iv aH1.Timer])] ∧ S' = ⟨hav [(4, .ptr b2 0)] J, G⟩) ?_ ?_
     ·refine lsq (lrg (pFL tF61_0 hO 0 (.int _ _) tA3 ?_))
      refine pBi (pE (gn (lck hk (fun hk => ?_) (fun hk => ?_))))
      ·refine lsq (lrg (pFL tF61_4 hO 0 (.int _ _) tA3 ?_))
       refine pFL tF37_4 hO 1 (.int _ _) tA3 (bk hk fun v7 hv7 hk => ?_)
       refine pCall (fun _ => f48_run hv7) ?_
       refine pU (pE (gn (lck hk (fun hk => ?_) (fun hk => ?_))))
       ·refine lsq (lrg (pA (.bool _) (pE (gn (lrt (gr ?_))))))
        cases hk; exact fin0 hO
       ·exact lsk (gn (⟨_, _, hk, (pk hO [0]), sh⟩))
      ·refine lsq (lrg (pFL tF61_4 hO 0 (.int _ _) tA3 ?_))
       refine pBi (pE (gn (lck hk (fun hk => ?_) (fun hk => ?_))))
       ·refine lsq (lrg (pA (.bool _) (pE (gn (lrt (gr ?_))))))
        cases hk; exact fin0 hO
       ·exact lsk (gn (⟨_, _, hk, (pk hO [0]), sh⟩))
     ·rintro _ ⟨J, G, hk, hO, rfl⟩
      refine lsq (lrg (pFL tF61_0 hO 0 (.int _ _) tA3 ?_))
      refine pBi ?_
      refine pM (.bool _) ?_
      refine wpR_mid (l1 := [_, _, _]) (fun S' => ∃ J, S' = ⟨hav [(4, .ptr b2 0), (65, .bool ((aH1.State == (0:Int)) && aH1.Shown))] J, G⟩) ?_ ?_
      ·refine bc (b := (aH1.State == (0:Int))) (fun hg => ?_) (fun hg => ?_)
       ·refine pGy hg (pF tF61_3 (pGy hg ?_))
        refine pLo hO 0 (.bool _) tA4 ?_
        refine pPt hg (.bool _) ?_
        exact pE ⟨_, St.hav _ ⟨rfl, by rw [hg]; rfl, trivial⟩⟩
       ·refine pGn hg (pGn hg (pPf hg (.bool _) ?_))
        exact pE ⟨_, St.hav _ ⟨rfl, by rw [hg]; rfl, trivial⟩⟩
      ·rintro _ ⟨J, rfl⟩
       refine pU ?_
       refine pM (.bool _) ?_
       refine wpR_mid (l1 := [_, _, _, _, _, _, _, _, _, _, _, _, _, _, _]) (fun S' => ∃ J, S' = ⟨hav [(82, .bool (!((aH1.State == (0:Int)) && aH1.Shown) && !(((aH1.State == (2:Int)) || (aH1.State == (3:Int))) && !aH1.Shown)))] J, G⟩) ?_ ?_
       ·refine bc (b := !((aH1.State == (0:Int)) && aH1.Shown)) (fun hg => ?_) (fun hg => ?_)
        ·refine pGy hg (pF tF61_0 (pGy hg ?_))
         refine pLo hO 0 (.int _ _) tA3 (pGy hg ?_)
         refine pBi (pGy hg ?_)
         refine pM (.bool _) ?_
         refine wpR_mid (l1 := [_, _, _, _]) (fun S' => ∃ J, S' = ⟨hav [(4, .ptr b2 0), (67, .bool (!((aH1.State == (0:Int)) && aH1.Shown))), (75, .bool ((aH1.State == (2:Int)) || (aH1.State == (3:Int))))] J, G⟩) ?_ ?_
         ·refine bc (b := (aH1.State == (2:Int))) (fun hg2 => ?_) (fun hg2 => ?_)
          ·refine pGn hg2 (pGn hg2 (pGn hg2 (pGy hg (pPt hg2 (.bool _) ?_))))
           exact pE ⟨_, St.hav _ ⟨rfl, rfl, by rw [hg2]; rfl, trivial⟩⟩
          ·refine pGy hg2 (pF tF61_0 (pGy hg2 ?_))
           refine pLo hO 0 (.int _ _) tA3 (pGy hg2 ?_)
           refine pBi (pGy hg ?_)
           refine pPf hg2 (.bool _) ?_
           exact pE ⟨_, St.hav _ ⟨rfl, rfl, by rw [hg2]; rfl, trivial⟩⟩
         ·rintro _ ⟨J, rfl⟩
          refine pGy hg (pM (.bool _) ?_)
          refine wpR_mid (l1 := [_, _, _, _]) (fun S' => ∃ J, S' = ⟨hav [(67, .bool (!((aH1.State == (0:Int)) && aH1.Shown))), (80, .bool (((aH1.State == (2:Int)) || (aH1.State == (3:Int))) && !aH1.Shown))] J, G⟩) ?_ ?_
          ·refine bc (b := ((aH1.State == (2:Int)) || (aH1.State == (3:Int)))) (fun hg2 => ?_) (fun hg2 => ?_)
           ·refine pGy hg2 (pF tF61_3 (pGy hg2 ?_))
            refine pLo hO 0 (.bool _) tA4 (pGy hg2 ?_)
            refine pU (pGy hg ?_)
            refine pPt hg2 (.bool _) ?_
            exact pE ⟨_, St.hav _ ⟨rfl, by rw [hg2]; rfl, trivial⟩⟩
           ·refine pGn hg2 (pGn hg2 (pGn hg2 (pGy hg (pPf hg2 (.bool _) ?_))))
            exact pE ⟨_, St.hav _ ⟨rfl, by rw [hg2]; rfl, trivial⟩⟩
          ·rintro _ ⟨J, rfl⟩
           refine pGy hg (pU ?_)
           refine pPt hg (.bool _) ?_
           exact pE ⟨_, St.hav _ ⟨by rw [hg]; rfl, trivial⟩⟩
        ·refine pGn hg (pGn hg (pGn hg (pGn hg (pGu (pGu (pGu (pGn hg (pGn hg (pGu (pGu (pGu (pGn hg (pGn hg (pPf hg (.bool _) ?_))))))))))))))
         exact pE ⟨_, St.hav _ ⟨by rw [hg]; rfl, trivial⟩⟩
       ·rintro _ ⟨J, rfl⟩
        refine pA (.bool _) (pE (gn (lrt ?_)))
        cases hk; exact fin0 hO
def f63_L1 (aF0 : Frame) (z3 : List Bool) (z5 : List Point) : Int → Option (Int ⊕ Frame) := fun s =>
 (bif decide (s < (aF0.Ways.length : Int)) then ((getI aF0.Ways s).bind fun c14 => ((appB 1 ([] : List Bool) c14.Been).bind fun z16 => ((getI aF0.Ways s).bind fun c18 => some (.inl (w64 (s + (1:Int))))))) else ((some ({ Ok := aF0.Ok, Occ := z3, Points := z5, Ways := aF0.Ways } : Frame)).map Sum.inr))
def f63 (aF0 : Frame) : Option Frame :=
 ((appB 1 ([] : List Bool) aF0.Occ).bind fun z3 => ((appB 16 ([] : List Point) aF0.Points).bind fun z5 => ((appB 56 ([] : List Held) aF0.Ways).bind fun z7 => (loopO (f63_L1 aF0 z3 z5) ((0:Int))))))
theorem f63_run {aF0 : Frame} {r : Frame} {l1 l2 l3 : Nat} (hk : f63 aF0 = some r) (hlk : 0 < lk.length := by simp) : ∃ v H1, runL Try.prog hh 63 [.agg (cFrame l1 0 l2 0 l3 0 aF0)] H lk = some (v, H1) ∧ FreshS H r v H1 := by
 refine run_startR Try.func63 rfl Try.ntmps63 Try.results63 rfl rfl ?_
 have hO := Owns.nil H
 unfold f63 at hk
 refine lsq (lrg (pBox (cs := [_, _, _, _]) hO tZ42 (fun b1 G hO => pNew hO tZ42 t042 (fun b2 G hO => pE (gn (lsq ?_))))))
 refine wpL_drw [(0, true), (1, true), (3, true), (4, true), (6, true), (7, true), (2, true), (9, false), (5, true), (8, false), (10, false), (11, false), (12, false), (13, false), (14, false)] [_, _, _, _, _, _, _, _, _, _, _, _, _, _, _] (by decide +kernel) (by rfl) ?_
 refine pFL tF42_1 hO 1 (.lit _ _ _) tA27 ?_
 refine pFL tF42_2 hO 1 (.lit _ _ _) tA39 ?_
 refine pFL tF42_3 hO 1 (.lit _ _ _) tA40 (bk hk fun z3 hz3 hk => ?_)
 refine pCloneT (xs := aF0.Occ) hO hz3 Try.func82 tC82 tE27 tZ4 tB4 t04 (fun u4 F4 G hO => ?_)
 refine pF tF42_1 (bk hk fun z5 hz5 hk => ?_)
 refine pCloneT (xs := aF0.Points) hO hz5 Try.func83 tC83 tE39 tZ58 tB58 t058 (fun u6 F6 G hO => bk hk fun z7 hz7 hk => ?_)
 refine pCloneH (xs := aF0.Ways) hO hz7 Try.func84 tC84 tE40 tZ61 tB61 t061 (fun u8 F8 G hO => ?_)
 have hc9 := tl_cells hO (j := 2) rfl
 refine pSt (xs := [_]) hO 4 tZ27 rfl (fun G hO => ?_) (h3 := hc9.1) (h6 := one_cell hc9.2)
 refine pF tF42_2 ?_
 have hc10 := tl_cells hO (j := 1) rfl
 refine pSt (xs := [_]) hO 4 tZ39 rfl (fun G hO => ?_) (h3 := hc10.1) (h6 := one_cell hc10.2)
 refine pF tF42_3 ?_
 have hc11 := mix_cells hO (j := 0) rfl
 refine pSt (xs := [_]) hO 4 tZ40 rfl (fun G hO => ?_) (h3 := hc11.1) (h6 := one_cell hc11.2)
 refine pE (gn (lsq (lsq (lrg (pFL tF42_3 hO 4 u8 tA40 ?_)))))
 refine pLenM hO 0 tS40 ?_
 refine pM (.int _ _) (pE (gn (lbl ?_)))
 refine wpL_loopO (F := f63_L1 aF0 z3 z5) (fun s S' => ∃ (F12 : List Nat) (J : Nat → V) (G : Heap), Owns H G [Mix F12 aF0.Ways u8 s.toNat, Tree [] F6 z5 [u6], Tree [] F4 z3 [u4], .blk b2 (.cells 4 [.bool false, (.tl 0 []), (.tl 0 []), (.tl 0 [])]), .blk b1 (.cells 4 [.bool aF0.Ok, u4, u6, u8])] ∧ S' = ⟨hav [(1, .ptr b1 0), (2, .ptr b2 0), (18, iv (aF0.Ways.length : Int)), (19, iv s)] J, G⟩) hk ⟨F8, _, _, hO, sh⟩ ?_
 rintro x13 _ y1 ⟨F12, J, G, hO, rfl⟩ hk hx1
 refine lsq (lrg (pBi (pE (gn (lsq ?_)))))
 refine lcd (b := decide (x13 < (aF0.Ways.length : Int))) (fun hb => ?_) (fun hb => ?_)
 ·replace hk := ct hb hk
  refine lsk (gn (lsq (lbl (lsq (lrg (pM (.int _ _) ?_))))))
  refine pA (.int _ _) (pE (gn ?_))
  refine wpL_drw [(0, true), (1, true), (2, true), (3, true), (4, true), (5, true), (6, true), (7, true), (8, true), (9, true), (10, false), (11, false), (12, false)] [_, _, _, _, _, _, _, _, _, _, _, _, _] (by decide +kernel) (by rfl) ?_
  refine pFL tF42_3 hO 4 u8 tA40 ?_
  refine pM (.int _ _) ?_
  refine pFL tF42_3 hO 4 u8 tA40 ?_
  refine pM (.int _ _) (bk hk fun c14 hc14 hk => ?_)
  refine pXH hO 0 hc14 tE40 tZ61 (fun b15 hb15 => ?_)
  refine pF tF61_2 ?_
  refine pLH (off := 2) hO 0 hb15 hc14 tA27 ?_ (w := litL 0 0 c14.Been)
  refine bk hk fun z16 hz16 hk => pCloneT (xs := c14.Been) hO hz16 Try.func82 tC82 tE27 tZ4 tB4 t04 (fun u17 F17 G hO => bk hk fun c18 hc18 hk => ?_)
  refine pXH hO 1 hc18 tE40 tZ61 (fun b19 hb19 => ?_)
  refine pF tF61_2 ?_
  have hqc : z16 = c18.Been := (appB_nil hz16).trans (congrArg Held.Been (Option.some.inj (hc14.symm.trans hc18)))
  rw [hqc] at hO
  replace hO : Owns H G (Tree [] F17 c18.Been [u17] :: [Mix F12 aF0.Ways u8 x13.toNat, Tree [] F6 z5 [u6], Tree [] F4 z3 [u4], .blk b2 (.cells 4 [.bool false, (.tl 0 []), (.tl 0 []), (.tl 0 [])]), .blk b1 (.cells 4 [.bool aF0.Ok, u4, u6, u8])]) := hO
  refine pSH hO 0 hb19 hc18 tZ27 rfl (fun G F h => TrE.pairL (c18.State : Int) (TrE.pairL (c18.Gone : Int) (TrE.pairR ((c18.Shown, c18.Timer) : Bool × Int) h))) rfl (fun G hO => pE (bn (gn (lrg ?_))))
  refine pBi ?_
  refine pM (.int _ _) (pE (gn ?_))
  replace hO := hO.mixTo (j := 0) rfl (w64_next hz7 hc18)
  cases hk; exact ⟨_, rfl, (F12 ++ F17), _, _, hO, sh⟩
 ·replace hk := cf hb hk
  refine lex (ge (ge (be (gn (have hk := lx hx1 hk; lsq (lrg ?_))))))
  replace hO := hO.mixDone (j := 0) rfl (mix_le hb)
  refine pLs hO 4 [_, _, _, _] tA42 tZ42 ?_
  have hc20 := tl_cells hO (j := 2) rfl
  have hc21 := tl_cells hO (j := 1) rfl
  have hc22 := tl_cells hO (j := 0) rfl
  refine pSt (xs := [_, _, _, _]) hO 3 tZ42 rfl (fun G hO => ?_) (h6 := (all_c rfl (all_c hc20.2 (all_c hc21.2 (all_c hc22.2 all_n)))))
  refine pE (gn (lrt ?_))
  replace hk := Option.some.inj hk; subst hk; exact finThS hO (th_Frame (x := ({ Ok := aF0.Ok, Occ := z3, Points := z5, Ways := aF0.Ways } : Frame)) (th_pair (c1 := [_]) (th_bool aF0.Ok) (th_pair (c1 := [_]) (th_tree (x := z3) 2) (th_pair (c1 := [_]) (th_tree (x := z5) 1) (th_tree (x := aF0.Ways) 0))))) (resS hO 3 [_, _, _, _] tA42 tZ42 resN)
def f69 (aW0 : Way) : Option (List Turn) :=
 ((appB 16 ([] : List Turn) aW0.Lies).bind fun z2 => ((appB 16 z2 aW0.Flanks).bind fun z4 => some z4))
theorem f69_run {aW0 : Way} {r : (List Turn)} {l1 l2 l3 l4 l5 : Nat} (hk : f69 aW0 = some r) (hlk : 0 < lk.length := by simp) : runL Try.prog hh 69 [.agg (cWay l1 0 l2 0 l3 0 l4 0 l5 0 aW0)] H lk = some (litL 0 0 r, H) := by
 refine run_start Try.func69 rfl Try.ntmps69 Try.results69 rfl rfl fun hO => ?_
 unfold f69 at hk
 refine lsq (lrg (pBox (cs := [_, _, _, _, _]) hO tZ89 (fun b1 G hO => ?_)))
 refine pA (.tl 0 []) (pE (gn (lsq ?_)))
 refine wpL_drw [(0, true), (1, true), (3, true), (4, true), (2, true), (5, false), (6, false)] [_, _, _, _, _, _, _] (by decide +kernel) (by rfl) ?_
 refine pFL tF89_1 hO 0 (.lit _ _ _) tA87 ?_
 refine pFL tF89_2 hO 0 (.lit _ _ _) tA87 (bk hk fun z2 hz2 hk => ?_)
 refine pClone (xs := aW0.Lies) hO hz2 Try.func89 tC89 tE87 tZ102 tB102 t0102 (fun o2 G hno2 hO => bk hk fun z4 hz4 hk => ?_)
 refine pAp (xs := z2) hO 0 hz4 (bears_lit _ aW0.Flanks) tE87 tZ102 tB102 t0102 tE87 rfl (fun o4 G hno4 hO => ?_)
 refine pA o4 (pE (gn (lrt ?_)))
 replace hk := Option.some.inj hk; subst hk; exact finZ hO (fz_own (xs := z4) hlk 0) (resT o4 resN)
def f91 (aS0 : Int) (aA1 : Frame) : Option Bool :=
 ((getI aA1.Occ aS0).bind fun c1 => some c1)
theorem f91_run {aS0 : Int} {aA1 : Frame} {r : Bool} {l1 l2 l3 m4 : Nat} {q0 : Nat} (hk : f91 aS0 aA1 = some r) (hq0 : H[q0]? = some (.cells 4 (cFrame l1 0 l2 0 l3 m4 aA1))) (hlk : 0 < lk.length := by simp) : runL Try.prog hh 91 [iv aS0, .ptr q0 0] H lk = some (.bool r, H) := by
 refine run_start Try.func91 rfl Try.ntmps91 Try.results91 rfl rfl fun hO => ?_
 unfold f91 at hk
 refine lsq (lrg (pA (.bool _) (pE (gn (lsq (lrg ?_))))))
 refine pF tF42_1 ?_
 refine pLf (.lit _ _ _) hO hq0 tA27 ?_
 refine pM (.int _ _) (bk hk fun c1 hc1 hk => ?_)
 refine pX hc1 tE27 tZ4 ?_
 refine pLp (.bool _) (rd1 (lm := 0) (off := 0) hc1 tA4) ?_
 refine pA (.bool _) (pE (gn (lrt ?_)))
 cases hk; exact fin0 hO
def f102c91_L1 (aS0 : List Int) (aC1_0 : Frame) : Int → Option (Int ⊕ Int) := fun s =>
 (bif decide (s < (aS0.length : Int)) then ((getI aS0 s).bind fun c2 => ((f91 c2 aC1_0).bind fun v3 => (bif v3 then ((some s).map Sum.inr) else some (.inl (w64 (s + (1:Int))))))) else ((some (-1:Int)).map Sum.inr))
def f102c91 (aS0 : List Int) (aC1_0 : Frame) : Option Int :=
 (loopO (f102c91_L1 aS0 aC1_0) ((0:Int)))
theorem f102c91_run {aS0 : List Int} {aC1_0 : Frame} {r : Int} {l1 l2 l3 l4 m5 : Nat} {q0 : Nat} (hk : f102c91 aS0 aC1_0 = some r) (hq0 : H[q0]? = some (.cells 4 (cFrame l2 0 l3 0 l4 m5 aC1_0))) (hlk : 0 < lk.length := by simp) : runL Try.prog hh 102 [litL l1 0 aS0, .fn 91 [.ptr q0 0]] H lk = some (iv r, H) := by
 refine run_start Try.func102 rfl Try.ntmps102 Try.results102 rfl rfl fun hO => ?_
 unfold f102c91 at hk
 refine lsq (lrg (pA (.int _ _) (pE (gn (lsq (lsq (lrg ?_)))))))
 refine pM (.lit _ _ _) ?_
 refine pLen tS22 ?_
 refine pM (.int _ _) (pE (gn (lbl ?_)))
 refine wpL_loopO (F := f102c91_L1 aS0 aC1_0) (fun s S' => ∃ (J : Nat → V) (G : Heap), Owns H G [] ∧ S' = ⟨hav [(0, litL l1 0 aS0), (1, .fn 91 [.ptr q0 0]), (7, iv (aS0.length : Int)), (8, iv s)] J, G⟩) hk ⟨_, _, hO, sh⟩ ?_
 rintro x1 _ y1 ⟨J, G, hO, rfl⟩ hk hx1
 refine lsq (lrg (pBi (pE (gn (lsq (lck hk (fun hk => ?_) (fun hk => ?_)))))))
 ·refine lsk (gn (lsq (lbl (lsq (lrg (pM (.int _ _) ?_))))))
  refine pA (.int _ _) (pE (gn (lsq (lrg ?_))))
  refine pM (.fn _ _) ?_
  refine pM (.lit _ _ _) ?_
  refine pM (.int _ _) (bk hk fun c2 hc2 hk => ?_)
  refine pX hc2 tE22 tZ3 ?_
  refine pLp (.int _ _) (rd1 (lm := 0) (off := 0) hc2 tA3) (bk hk fun v3 hv3 hk => ?_)
  refine pCall (fun _ => f91_run hv3 (own_for hO hq0)) (pE (gn (lck hk (fun hk => ?_) (fun hk => ?_))))
  ·refine lsq (lrg (pM (.int _ _) ?_))
   refine pA (.int _ _) (pE (gn (lrt (br (gr (gr (br (gr (have hk := lx hx1 hk; ?_)))))))))
   cases hk; exact fin0 hO
  ·refine lsk (bn (gn (lrg (pBi ?_))))
   refine pM (.int _ _) (pE (gn ?_))
   cases hk; exact ⟨_, rfl, _, _, hO, sh⟩
 ·refine lex (ge (ge (be (gn (have hk := lx hx1 hk; lsq (lrg (pA (.int _ _) (pE (gn (lrt ?_))))))))))
  cases hk; exact fin0 hO
def f90c91 (aS0 : List Int) (aC1_0 : Frame) : Option Bool :=
 ((f102c91 aS0 aC1_0).bind fun v1 => some (decide (v1 ≥ (0:Int))))
theorem f90c91_run {aS0 : List Int} {aC1_0 : Frame} {r : Bool} {l1 l2 l3 l4 m5 : Nat} {q0 : Nat} (hk : f90c91 aS0 aC1_0 = some r) (hq0 : H[q0]? = some (.cells 4 (cFrame l2 0 l3 0 l4 m5 aC1_0))) (hlk : 0 < lk.length := by simp) : runL Try.prog hh 90 [litL l1 0 aS0, .fn 91 [.ptr q0 0]] H lk = some (.bool r, H) := by
 refine run_start Try.func90 rfl Try.ntmps90 Try.results90 rfl rfl fun hO => ?_
 unfold f90c91 at hk
 refine lsq (lrg (pA (.bool _) (pE (gn (lsq (lrg ?_))))))
 refine pM (.lit _ _ _) ?_
 refine pM (.fn _ _) (bk hk fun v1 hv1 hk => ?_)
 refine pCall (fun _ => f102c91_run hv1 (own_for hO hq0)) ?_
 refine pBi ?_
 refine pA (.bool _) (pE (gn (lrt ?_)))
 cases hk; exact fin0 hO
def f70 (aF0 : Frame) (aL1 : List Int) : Option Bool :=
 ((f90c91 aL1 aF0).bind fun v2 => some v2)
theorem f70_run {aF0 : Frame} {aL1 : List Int} {r : Bool} {l1 l2 l3 m4 l5 : Nat} (hk : f70 aF0 aL1 = some r) (hlk : 0 < lk.length := by simp) : runL Try.prog hh 70 [.agg (cFrame l1 0 l2 0 l3 m4 aF0), litL l5 0 aL1] H lk = some (.bool r, H) := by
 refine run_start Try.func70 rfl Try.ntmps70 Try.results70 rfl rfl fun hO => ?_
 unfold f70 at hk
 refine lsq (lrg (pBox (cs := [_, _, _, _]) hO tZ42 (fun b1 G hO => ?_)))
 refine pA (.bool _) (pE (gn (lsq (lrg ?_))))
 refine pM (.lit _ _ _) ?_
 refine pFn (vs := [_]) (bk hk fun v2 hv2 hk => ?_)
 refine pCall (fun _ => f90c91_run hv2 (hO.get (k := 0) rfl).1) ?_
 refine pA (.bool _) (pE (gn (lrt ?_)))
 cases hk; exact fin0 hO
def f49_L1 (aF1 : Frame) (c3 : Way) (v5 : (List Turn)) : Int → Option (Int ⊕ Bool) := fun s =>
 (bif decide (s < (v5.length : Int)) then ((getI v5 s).bind fun c7 => ((getI aF1.Points c7.Switch).bind fun c9 => (bif !((c9.Want == c7.Lie) && ((c9.Lies == c7.Lie) && true)) then ((some false).map Sum.inr) else some (.inl (w64 (s + (1:Int))))))) else (((f70 aF1 c3.Sections).bind fun v10 => ((bif !v10 then ((f70 aF1 c3.Over).bind fun v12 => some (!v12)) else some false).bind fun t11 => some t11)).map Sum.inr))
def f49 (aP0 : Plan) (aF1 : Frame) (aWay2 : Int) : Option Bool :=
 ((getI aP0.Ways aWay2).bind fun c3 => ((f69 c3).bind fun v5 => (loopO (f49_L1 aF1 c3 v5) ((0:Int)))))
theorem f49_run {aP0 : Plan} {aF1 : Frame} {aWay2 : Int} {r : Bool} {l1 l2 m3 l4 m5 l6 l7 l8 m9 : Nat} (hk : f49 aP0 aF1 aWay2 = some r) (hlk : 0 < lk.length := by simp) : runL Try.prog hh 49 [.agg (cPlan l1 0 l2 m3 l4 m5 aP0), .agg (cFrame l6 0 l7 0 l8 m9 aF1), iv aWay2] H lk = some (.bool r, H) := by
 refine run_start Try.func49 rfl Try.ntmps49 Try.results49 rfl rfl fun hO => ?_
 unfold f49 at hk
 refine lsq (lrg (pBox (cs := [_, _, _, _, _]) hO tZ37 (fun b1 G hO => ?_)))
 refine pBox (cs := [_, _, _, _]) hO tZ42 (fun b2 G hO => ?_)
 refine pA (.bool _) (pE (gn (lsq (lrg ?_))))
 refine pFL tF37_2 hO 1 (.lit _ _ _) tA35 ?_
 refine pM (.int _ _) (bk hk fun c3 hc3 hk => ?_)
 refine pX hc3 tE35 tZ89 ?_
 refine pLp (.agg [_, _, _, _, _]) (rd2 (lm := m3) (off := 0) hc3 tA89 tZ89) (pNew hO tZ89 t089 (fun b4 G hO => ?_))
 refine pSt (xs := [_, _, _, _, _]) hO 0 tZ89 rfl (fun G hO => pE (gn (lsq (lsq (lrg ?_)))))
 refine pLs hO 0 [_, _, _, _, _] tA89 tZ89 (bk hk fun v5 hv5 hk => ?_)
 refine pCall (fun _ => f69_run hv5) ?_
 refine pLen tS87 ?_
 refine pM (.int _ _) (pE (gn (lbl ?_)))
 refine wpL_loopO (F := f49_L1 aF1 c3 v5) (fun s S' => ∃ (J : Nat → V) (G : Heap), Owns H G [.blk b4 (.cells 5 (cWay m3 0 m3 0 m3 0 m3 0 m3 0 c3)), .blk b2 (.cells 4 (cFrame l6 0 l7 0 l8 m9 aF1))] ∧ S' = ⟨hav [(4, .ptr b2 0), (7, .ptr b4 0), (16, litL 0 0 v5), (17, iv (v5.length : Int)), (18, iv s)] J, G⟩) hk ⟨_, _, (pk hO [0, 1]), sh⟩ ?_
 rintro x6 _ y1 ⟨J, G, hO, rfl⟩ hk hx1
 refine lsq (lrg (pBi (pE (gn (lsq (lck hk (fun hk => ?_) (fun hk => ?_)))))))
 ·refine lsk (gn (lsq (lbl (lsq (lrg (bk hk fun c7 hc7 hk => pX hc7 tE87 tZ102 ?_))))))
  refine pLp (.agg [_, _]) (rd2 (lm := 0) (off := 0) hc7 tA102 tZ102) (pNew hO tZ102 t0102 (fun b8 G hO => ?_))
  refine pSt (xs := [_, _]) hO 0 tZ102 rfl (fun G hO => pE (gn (lsq ?_)))
  refine wpL_drw [(0, true), (1, true), (2, true), (3, true), (4, true), (5, true), (6, true), (7, true), (8, true), (9, true), (10, true), (11, false)] [_, _, _, _, _, _, _, _, _, _, _, _] (by decide +kernel) (by rfl) ?_
  refine pFL tF42_2 hO 2 (.lit _ _ _) tA39 ?_
  refine pFL tF102_0 hO 0 (.int _ _) tA3 (bk hk fun c9 hc9 hk => ?_)
  refine pX hc9 tE39 tZ58 ?_
  refine pLp (.agg [_, _]) (rd2 (lm := 0) (off := 0) hc9 tA58 tZ58) ?_
  refine pFL tF102_1 hO 0 (.int _ _) tA3 ?_
  refine pFL tF102_1 hO 0 (.int _ _) tA3 ?_
  refine pBd [_, _] t058 tP58 ?_
  refine pGne tG58 (eqc (eqi _ _ _) (eqc (eqi _ _ _) (rfl))) (pE (gn (lck hk (fun hk => ?_) (fun hk => ?_))))
  ·refine lsq (lrg (pA (.bool _) (pE (gn (lrt (br (gr (gr (br (gr (have hk := lx hx1 hk; ?_)))))))))))
   cases hk; exact fin0 hO
  ·refine lsk (bn (gn (lrg (pBi ?_))))
   refine pM (.int _ _) (pE (gn ?_))
   cases hk; exact ⟨_, rfl, _, _, (pk hO [1, 2]), sh⟩
 ·refine lex (ge (ge (be (gn (have hk := lx hx1 hk; lsq (lrg (pLs hO 1 [_, _, _, _] tA42 tZ42 ?_)))))))
  refine pFL tF89_0 hO 0 (.lit _ _ _) tA22 (bk hk fun v10 hv10 hk => ?_)
  refine pCall (fun _ => f70_run hv10) ?_
  refine pU ?_
  refine pM (.bool _) (bk hk fun t11 ht hk => ?_)
  refine wpR_mid (l1 := [_, _, _, _, _, _]) (fun S' => ∃ J, S' = ⟨hav [(46, .bool t11)] J, G⟩) ?_ ?_
  ·refine bc (b := !v10) (fun hg => ?_) (fun hg => ?_)
   ·replace hk := ct hg ht
    refine pGy hg (pLs hO 1 [_, _, _, _] tA42 tZ42 (pGy hg ?_))
    refine pF tF89_3 (pGy hg ?_)
    refine pLo hO 0 (.lit _ _ _) tA22 (pGy hg (bk hk fun v12 hv12 hk => ?_))
    refine pCall (fun _ => f70_run hv12) (pGy hg ?_)
    refine pU ?_
    refine pPt hg (.bool _) ?_
    cases hk; exact pE ⟨_, sh⟩
   ·replace hk := cf hg ht
    refine pGn hg (pGn hg (pGn hg (pGn hg (pGn hg (pPf hg (.bool _) ?_)))))
    cases hk; exact pE ⟨_, sh⟩
  ·rintro _ ⟨J, rfl⟩
   refine pA (.bool _) (pE (gn (lrt ?_)))
   cases hk; exact fin0 hO
def f85 (aW0 : Way) : Option Held :=
 ((makeB 1 (aW0.Sections.length : Int)).bind fun m3 => some ({ State := 0, Gone := 0, Been := List.replicate m3 (false : Bool), Shown := false, Timer := 0 } : Held))
theorem f85_run {aW0 : Way} {r : Held} {l1 l2 l3 l4 l5 : Nat} (hk : f85 aW0 = some r) (hlk : 0 < lk.length := by simp) : ∃ v H1, runL Try.prog hh 85 [.agg (cWay l1 0 l2 0 l3 0 l4 0 l5 0 aW0)] H lk = some (v, H1) ∧ FreshS H r v H1 := by
 refine run_startR Try.func85 rfl Try.ntmps85 Try.results85 rfl rfl ?_
 have hO := Owns.nil H
 unfold f85 at hk
 refine lsq (lrg (pBox (cs := [_, _, _, _, _]) hO tZ89 (fun b1 G hO => pNew hO tZ61 t061 (fun b2 G hO => pE (gn (lsq (lrg ?_)))))))
 refine pFL tF89_0 hO 1 (.lit _ _ _) tA22 ?_
 refine pLen tS22 (bk hk fun m3 hm3 hk => ?_)
 refine pMk hO hm3 (false : Bool) tE27 tZ4 tB4 t04 (fun b4 G hO => ?_)
 refine pBd [_, _, _, _, _] t061 tP61 ?_
 refine pSt (xs := [_, _, _, _, _]) hO 1 tZ61 rfl (fun G hO => pE (gn (lrt ?_)))
 replace hk := Option.some.inj hk; subst hk; exact finThS hO (th_Held (x := ({ State := 0, Gone := 0, Been := List.replicate m3 (false : Bool), Shown := false, Timer := 0 } : Held)) (th_pair (c1 := [_]) (th_int 0) (th_pair (c1 := [_]) (th_int 0) (th_pair (c1 := [_]) (th_made (xs := (List.replicate m3 (false : Bool))) List.length_replicate hlk 0) (th_pair (c1 := [_]) (th_bool false) (th_int 0)))))) (resS hO 1 [_, _, _, _, _] tA61 tZ61 resN)
end
end Go.Proofs.Ytphpkphklegfeaa.K
