/-
 The functions that FnExactLockedBy reaches, as typed Lean functions, and that the interpreter computes them. Part 2 of 3. No conditions.
-/
import Derived.Test.YtphpkphklegfeaaDLba
set_option linter.unusedVariables false
set_option linter.unusedSimpArgs false
set_option maxRecDepth 100000
namespace Go.Proofs.Ytphpkphklegfeaa.K
noncomputable section
def f32_L2 (x3 : Int) (c4 : Held) (c6 : Held) : Int → Option (Int ⊕ (Int ⊕ Bool)) := fun s =>
 (bif decide (s < (c4.Been.length : Int)) then ((getI c4.Been s).bind fun c9 => ((getI c6.Been s).bind fun c10 => (bif !(c9 == c10) then (((some false).map Sum.inr).map Sum.inr) else some (.inl (w64 (s + (1:Int))))))) else ((some (.inl (w64 (x3 + (1:Int))))).map Sum.inr))
def f32_L1 (aA0 : Frame) (aB1 : Frame) : Int → Option (Int ⊕ Bool) := fun s =>
 (bif decide (s < (aA0.Ways.length : Int)) then ((getI aA0.Ways s).bind fun c4 => ((getI aB1.Ways s).bind fun c6 => (bif ((((c4.State != c6.State) || (c4.Gone != c6.Gone)) || !(c4.Shown == c6.Shown)) || (c4.Timer != c6.Timer)) then ((some false).map Sum.inr) else (loopO (f32_L2 s c4 c6) ((0:Int)))))) else ((some true).map Sum.inr))
def f32 (aA0 : Frame) (aB1 : Frame) : Option Bool :=
 (loopO (f32_L1 aA0 aB1) ((0:Int)))
theorem f32_run {aA0 : Frame} {aB1 : Frame} {r : Bool} {l1 l2 l3 m4 l5 l6 l7 m8 : Nat} {H : Heap} {lk : Lk} (hk : f32 aA0 aB1 = some r) (hlk : 0 < lk.length := by simp) : runL Try.prog hh 32 [.agg [.bool aA0.Ok, litL l1 0 aA0.Occ, litL l2 0 aA0.Points, litL l3 m4 aA0.Ways], .agg [.bool aB1.Ok, litL l5 0 aB1.Occ, litL l6 0 aB1.Points, litL l7 m8 aB1.Ways]] H lk = some (.bool r, H) := by
 refine run_start Try.func32 rfl Try.ntmps32 Try.results32 rfl rfl fun hO => ?_
 unfold f32 at hk
 refine lsq (lrg (pBox (cs := [_, _, _, _]) hO tZ42 (fun b1 G hO => ?_)))
 refine pBox (cs := [_, _, _, _]) hO tZ42 (fun b2 G hO => ?_)
 refine pA (.bool _) (pE (gn (lsq (lsq (lrg ?_)))))
 refine pFL tF42_3 hO 1 (.lit _ _ _) tA40 ?_
 refine pLen tS40 ?_
 refine pM (.int _ _) (pE (gn (lbl ?_)))
 refine wpL_loopO (F := f32_L1 aA0 aB1) (fun s S' => ∃ (J : Nat → V) (G : Heap), Owns H G [.blk b2 (.cells 4 [.bool aB1.Ok, litL l5 0 aB1.Occ, litL l6 0 aB1.Points, litL l7 m8 aB1.Ways]), .blk b1 (.cells 4 [.bool aA0.Ok, litL l1 0 aA0.Occ, litL l2 0 aA0.Points, litL l3 m4 aA0.Ways])] ∧ S' = ⟨hav [(2, .ptr b1 0), (3, .ptr b2 0), (11, .int .i64 (aA0.Ways.length : Int)), (12, .int .i64 s)] J, G⟩) hk ⟨_, _, hO, sh⟩ ?_
 rintro x3 _ y1 ⟨J, G, hO, rfl⟩ hk hx1
 refine lsq (lrg (pBi (pE (gn (lsq (lck hk (fun hk => ?_) (fun hk => ?_)))))))
 ·refine lsk (gn (lsq (lbl (lsq (lrg (pM (.int _ _) ?_))))))
  refine pA (.int _ _) (pE (gn (lsq (lrg ?_))))
  refine pFL tF42_3 hO 1 (.lit _ _ _) tA40 ?_
  refine pM (.int _ _) (bk hk fun c4 hc4 hk => ?_)
  refine pX hc4 tE40 tZ61 ?_
  refine pLp (.agg [_, _, _, _, _]) (rd2 (lm := m4) (off := 0) hc4 tA61 tZ61) (pNew hO tZ61 t061 (fun b5 G hO => ?_))
  refine pSt (xs := [_, _, _, _, _]) hO 0 tZ61 rfl (fun G hO => pE (gn (lsq (lrg ?_))))
  refine pFL tF42_3 hO 1 (.lit _ _ _) tA40 ?_
  refine pM (.int _ _) (bk hk fun c6 hc6 hk => ?_)
  refine pX hc6 tE40 tZ61 ?_
  refine pLp (.agg [_, _, _, _, _]) (rd2 (lm := m8) (off := 0) hc6 tA61 tZ61) (pNew hO tZ61 t061 (fun b7 G hO => ?_))
  refine pSt (xs := [_, _, _, _, _]) hO 0 tZ61 rfl (fun G hO => pE (gn (lsq (lsq (lrg ?_)))))
  refine pFL tF61_0 hO 1 (.int _ _) tA3 ?_
  refine pFL tF61_0 hO 0 (.int _ _) tA3 ?_
  refine pBi ?_
  refine pM (.bool _) ?_
  refine wpR_mid (l1 := [_, _, _, _, _, _]) (fun S' => ∃ J, S' = ⟨hav [(2, .ptr b1 0), (3, .ptr b2 0), (6, .ptr b5 0), (7, .ptr b7 0), (11, .int .i64 (aA0.Ways.length : Int)), (12, .int .i64 x3), (36, .bool ((c4.State != c6.State) || (c4.Gone != c6.Gone)))] J, G⟩) ?_ ?_
  ·refine bc (b := (c4.State != c6.State)) (fun hg1 => ?_) (fun hg1 => ?_)
   ·refine pGn hg1 (pGn hg1 (pGn hg1 (pGn hg1 (pGn hg1 (pPt hg1 (.bool _) ?_)))))
    exact pE ⟨_, St.hav _ ⟨rfl, rfl, rfl, rfl, rfl, rfl, by rw [hg1]; rfl, trivial⟩⟩
   ·refine pGy hg1 (pF tF61_1 (pGy hg1 ?_))
    refine pLo hO 1 (.int _ _) tA3 (pGy hg1 ?_)
    refine pF tF61_1 (pGy hg1 ?_)
    refine pLo hO 0 (.int _ _) tA3 (pGy hg1 ?_)
    refine pBi ?_
    refine pPf hg1 (.bool _) ?_
    exact pE ⟨_, St.hav _ ⟨rfl, rfl, rfl, rfl, rfl, rfl, by rw [hg1]; rfl, trivial⟩⟩
  ·rintro _ ⟨J, rfl⟩
   refine pM (.bool _) ?_
   refine wpR_mid (l1 := [_, _, _, _, _, _]) (fun S' => ∃ J, S' = ⟨hav [(2, .ptr b1 0), (3, .ptr b2 0), (6, .ptr b5 0), (7, .ptr b7 0), (11, .int .i64 (aA0.Ways.length : Int)), (12, .int .i64 x3), (43, .bool (((c4.State != c6.State) || (c4.Gone != c6.Gone)) || !(c4.Shown == c6.Shown)))] J, G⟩) ?_ ?_
   ·refine bc (b := ((c4.State != c6.State) || (c4.Gone != c6.Gone))) (fun hg1 => ?_) (fun hg1 => ?_)
    ·refine pGn hg1 (pGn hg1 (pGn hg1 (pGn hg1 (pGn hg1 (pPt hg1 (.bool _) ?_)))))
     exact pE ⟨_, St.hav _ ⟨rfl, rfl, rfl, rfl, rfl, rfl, by rw [hg1]; rfl, trivial⟩⟩
    ·refine pGy hg1 (pF tF61_3 (pGy hg1 ?_))
     refine pLo hO 1 (.bool _) tA4 (pGy hg1 ?_)
     refine pF tF61_3 (pGy hg1 ?_)
     refine pLo hO 0 (.bool _) tA4 (pGy hg1 ?_)
     refine pBn Try.underlying4 ?_
     refine pPf hg1 (.bool _) ?_
     exact pE ⟨_, St.hav _ ⟨rfl, rfl, rfl, rfl, rfl, rfl, by rw [hg1]; rfl, trivial⟩⟩
   ·rintro _ ⟨J, rfl⟩
    refine pM (.bool _) ?_
    refine wpR_mid (l1 := [_, _, _, _, _, _]) (fun S' => ∃ J, S' = ⟨hav [(2, .ptr b1 0), (3, .ptr b2 0), (6, .ptr b5 0), (7, .ptr b7 0), (11, .int .i64 (aA0.Ways.length : Int)), (12, .int .i64 x3), (50, .bool ((((c4.State != c6.State) || (c4.Gone != c6.Gone)) || !(c4.Shown == c6.Shown)) || (c4.Timer != c6.Timer)))] J, G⟩) ?_ ?_
    ·refine bc (b := (((c4.State != c6.State) || (c4.Gone != c6.Gone)) || !(c4.Shown == c6.Shown))) (fun hg1 => ?_) (fun hg1 => ?_)
     ·refine pGn hg1 (pGn hg1 (pGn hg1 (pGn hg1 (pGn hg1 (pPt hg1 (.bool _) ?_)))))
      exact pE ⟨_, St.hav _ ⟨rfl, rfl, rfl, rfl, rfl, rfl, by rw [hg1]; rfl, trivial⟩⟩
     ·refine pGy hg1 (pF tF61_4 (pGy hg1 ?_))
      refine pLo hO 1 (.int _ _) tA3 (pGy hg1 ?_)
      refine pF tF61_4 (pGy hg1 ?_)
      refine pLo hO 0 (.int _ _) tA3 (pGy hg1 ?_)
      refine pBi ?_
      refine pPf hg1 (.bool _) ?_
      exact pE ⟨_, St.hav _ ⟨rfl, rfl, rfl, rfl, rfl, rfl, by rw [hg1]; rfl, trivial⟩⟩
    ·rintro _ ⟨J, rfl⟩
     refine pE (gn (lck hk (fun hk => ?_) (fun hk => ?_)))
     ·refine lsq (lrg (pA (.bool _) (pE (gn (lrt (gr (br (gr (gr (br (gr (have hk := lx hx1 hk; ?_))))))))))))
      cases hk; exact fin0 hO
     ·refine lsk (gn (lsq (lrg (pFL tF61_2 hO 1 (.lit _ _ _) tA27 ?_))))
      refine pLen tS27 ?_
      refine pM (.int _ _) (pE (gn (lbl ?_)))
      refine wpL_loopO (F := f32_L2 x3 c4 c6) (fun s S' => ∃ (J : Nat → V) (G : Heap), Owns H G [.blk b7 (.cells 5 [.int .i64 c6.State, .int .i64 c6.Gone, litL m8 0 c6.Been, .bool c6.Shown, .int .i64 c6.Timer]), .blk b5 (.cells 5 [.int .i64 c4.State, .int .i64 c4.Gone, litL m4 0 c4.Been, .bool c4.Shown, .int .i64 c4.Timer]), .blk b2 (.cells 4 [.bool aB1.Ok, litL l5 0 aB1.Occ, litL l6 0 aB1.Points, litL l7 m8 aB1.Ways]), .blk b1 (.cells 4 [.bool aA0.Ok, litL l1 0 aA0.Occ, litL l2 0 aA0.Points, litL l3 m4 aA0.Ways])] ∧ S' = ⟨hav [(2, .ptr b1 0), (3, .ptr b2 0), (6, .ptr b5 0), (7, .ptr b7 0), (11, .int .i64 (aA0.Ways.length : Int)), (12, .int .i64 x3), (53, .int .i64 (c4.Been.length : Int)), (54, .int .i64 s)] J, G⟩) hk ⟨_, _, hO, sh⟩ ?_
      rintro x8 _ y2 ⟨J, G, hO, rfl⟩ hk hx2
      refine lsq (lrg (pBi (pE (gn (lsq (lck hk (fun hk => ?_) (fun hk => ?_)))))))
      ·refine lsk (gn (lsq (lbl (lsq (lrg (pM (.int _ _) ?_))))))
       refine pA (.int _ _) (pE (gn (lsq ?_)))
       refine wpL_drw [(0, true), (1, true), (2, true), (3, true), (4, true), (5, true), (6, true), (7, true), (8, true), (9, true), (10, false)] [_, _, _, _, _, _, _, _, _, _, _] (by decide +kernel) (by rfl) ?_
       refine pFL tF61_2 hO 1 (.lit _ _ _) tA27 ?_
       refine pM (.int _ _) (bk hk fun c9 hc9 hk => ?_)
       refine pX hc9 tE27 tZ4 ?_
       refine pLp (.bool _) (rd1 (lm := 0) (off := 0) hc9 tA4) ?_
       refine pFL tF61_2 hO 0 (.lit _ _ _) tA27 ?_
       refine pM (.int _ _) (bk hk fun c10 hc10 hk => ?_)
       refine pX hc10 tE27 tZ4 ?_
       refine pLp (.bool _) (rd1 (lm := 0) (off := 0) hc10 tA4) ?_
       refine pBn Try.underlying4 (pE (gn (lck hk (fun hk => ?_) (fun hk => ?_))))
       ·refine lsq (lrg (pA (.bool _) (pE (gn (lrt (br (gr (gr (br (br (gr (gr (br (gr (have hk := lx hx2 hk; have hk := lx hx1 hk; ?_)))))))))))))))
        cases hk; exact fin0 hO
       ·refine lsk (bn (gn (lrg (pBi ?_))))
        refine pM (.int _ _) (pE (gn ?_))
        cases hk; exact ⟨_, rfl, _, _, hO, sh⟩
      ·refine lex (ge (ge (be (bn (gn (have hk := lx hx2 hk; lrg (pBi ?_)))))))
       refine pM (.int _ _) (pE (gn ?_))
       cases hk; exact ⟨_, rfl, _, _, (pk hO [2, 3]), sh⟩
 ·refine lex (ge (ge (be (gn (have hk := lx hx1 hk; lsq (lrg (pA (.bool _) (pE (gn (lrt ?_))))))))))
  cases hk; exact fin0 hO
def f9_L3 (aP0 : Plan) (aF1 : Frame) (x10 : Int) : Int → Option (Int ⊕ (Int ⊕ Bool)) := fun s =>
 (bif decide (s < (aF1.Ways.length : Int)) then ((bif (x10 != s) then ((getI aP0.Bars x10).bind fun c14 => ((getI c14 s).bind fun c15 => some c15)) else some false).bind fun t13 => ((bif t13 then ((getI aF1.Ways x10).bind fun c17 => some (c17.State != (0:Int))) else some false).bind fun t16 => ((bif t16 then ((getI aF1.Ways s).bind fun c19 => some (c19.State != (0:Int))) else some false).bind fun t18 => (bif t18 then (((some false).map Sum.inr).map Sum.inr) else some (.inl (w64 (s + (1:Int)))))))) else ((some (.inl (w64 (x10 + (1:Int))))).map Sum.inr))
def f9_L2 (aP0 : Plan) (aF1 : Frame) : Int → Option (Int ⊕ Bool) := fun s =>
 (bif decide (s < (aF1.Ways.length : Int)) then ((f29 aP0 aF1 s).bind fun v11 => (bif !v11 then ((some false).map Sum.inr) else (loopO (f9_L3 aP0 aF1 s) ((0:Int))))) else (((f30 aF1).bind fun v20 => ((f31 aP0 v20).bind fun z33 => ((f32 aF1 z33).bind fun v35 => some v35))).map Sum.inr))
def f9_L1 (aP0 : Plan) (aF1 : Frame) : Int → Option (Int ⊕ Bool) := fun s =>
 (bif decide (s < (aF1.Points.length : Int)) then ((getI aF1.Points s).bind fun c5 => ((f28 c5.Want (1:Int) (2:Int)).bind fun v7 => ((bif !v7 then some true else ((f28 c5.Lies (0:Int) (2:Int)).bind fun v9 => some (!v9))).bind fun t8 => (bif t8 then ((some false).map Sum.inr) else some (.inl (w64 (s + (1:Int)))))))) else ((loopO (f9_L2 aP0 aF1) ((0:Int))).map Sum.inr))
def f9 (aP0 : Plan) (aF1 : Frame) : Option Bool :=
 ((f27 aP0).bind fun v3 => (bif ((((!v3 || !aF1.Ok) || ((aF1.Occ.length : Int) != aP0.Sections)) || ((aF1.Points.length : Int) != (aP0.Switches.length : Int))) || ((aF1.Ways.length : Int) != (aP0.Ways.length : Int))) then some false else (loopO (f9_L1 aP0 aF1) ((0:Int)))))
theorem f9_run {aP0 : Plan} {aF1 : Frame} {r : Bool} {l1 l2 l3 l4 l5 l6 m7 : Nat} {H : Heap} {lk : Lk} (hk : f9 aP0 aF1 = some r) (hlk : 0 < lk.length := by simp) (hlo : LkOk lk H.length := by simp [LkOk]) : runL Try.prog hh 9 [.agg [.int .i64 aP0.Sections, litL l1 0 aP0.Switches, litL l2 0 aP0.Ways, litL l3 0 aP0.Bars, .int .i64 aP0.Hold], .agg [.bool aF1.Ok, litL l4 0 aF1.Occ, litL l5 0 aF1.Points, litL l6 m7 aF1.Ways]] H lk = some (.bool r, H) := by
 refine run_start Try.func9 rfl Try.ntmps9 Try.results9 rfl rfl fun hO => ?_
 unfold f9 at hk
 refine lsq (lrg (pBox (cs := [_, _, _, _, _]) hO tZ37 (fun b1 G hO => ?_)))
 refine pBox (cs := [_, _, _, _]) hO tZ42 (fun b2 G hO => ?_)
 refine pA (.bool _) (pE (gn (lsq (lsq (lrg ?_)))))
 refine pLs hO 1 [_, _, _, _, _] tA37 tZ37 (bk hk fun v3 hv3 hk => ?_)
 refine pCall (fun _ => f27_run hv3) ?_
 refine pU ?_
 refine pM (.bool _) ?_
 refine wpR_mid (l1 := [_, _, _, _]) (fun S' => ∃ J, S' = ⟨hav [(2, .ptr b1 0), (3, .ptr b2 0), (17, .bool (!v3 || !aF1.Ok))] J, G⟩) ?_ ?_
 ·refine bc (b := !v3) (fun hg1 => ?_) (fun hg1 => ?_)
  ·refine pGn hg1 (pGn hg1 (pGn hg1 (pPt hg1 (.bool _) ?_)))
   exact pE ⟨_, St.hav _ ⟨rfl, rfl, by rw [hg1]; rfl, trivial⟩⟩
  ·refine pGy hg1 (pF tF42_0 (pGy hg1 ?_))
   refine pLo hO 0 (.bool _) tA4 (pGy hg1 ?_)
   refine pU ?_
   refine pPf hg1 (.bool _) ?_
   exact pE ⟨_, St.hav _ ⟨rfl, rfl, by rw [hg1]; rfl, trivial⟩⟩
 ·rintro _ ⟨J, rfl⟩
  refine pM (.bool _) ?_
  refine wpR_mid (l1 := [_, _, _, _, _, _, _]) (fun S' => ∃ J, S' = ⟨hav [(2, .ptr b1 0), (3, .ptr b2 0), (25, .bool ((!v3 || !aF1.Ok) || ((aF1.Occ.length : Int) != aP0.Sections)))] J, G⟩) ?_ ?_
  ·refine bc (b := (!v3 || !aF1.Ok)) (fun hg1 => ?_) (fun hg1 => ?_)
   ·refine pGn hg1 (pGn hg1 (pGn hg1 (pGn hg1 (pGn hg1 (pGn hg1 (pPt hg1 (.bool _) ?_))))))
    exact pE ⟨_, St.hav _ ⟨rfl, rfl, by rw [hg1]; rfl, trivial⟩⟩
   ·refine pGy hg1 (pF tF42_1 (pGy hg1 ?_))
    refine pLo hO 0 (.lit _ _ _) tA27 (pGy hg1 ?_)
    refine pLen tS27 (pGy hg1 ?_)
    refine pF tF37_0 (pGy hg1 ?_)
    refine pLo hO 1 (.int _ _) tA3 (pGy hg1 ?_)
    refine pBi ?_
    refine pPf hg1 (.bool _) ?_
    exact pE ⟨_, St.hav _ ⟨rfl, rfl, by rw [hg1]; rfl, trivial⟩⟩
  ·rintro _ ⟨J, rfl⟩
   refine pM (.bool _) ?_
   refine wpR_mid (l1 := [_, _, _, _, _, _, _, _]) (fun S' => ∃ J, S' = ⟨hav [(2, .ptr b1 0), (3, .ptr b2 0), (34, .bool (((!v3 || !aF1.Ok) || ((aF1.Occ.length : Int) != aP0.Sections)) || ((aF1.Points.length : Int) != (aP0.Switches.length : Int))))] J, G⟩) ?_ ?_
   ·refine bc (b := ((!v3 || !aF1.Ok) || ((aF1.Occ.length : Int) != aP0.Sections))) (fun hg1 => ?_) (fun hg1 => ?_)
    ·refine pGn hg1 (pGn hg1 (pGn hg1 (pGn hg1 (pGn hg1 (pGn hg1 (pGn hg1 (pPt hg1 (.bool _) ?_)))))))
     exact pE ⟨_, St.hav _ ⟨rfl, rfl, by rw [hg1]; rfl, trivial⟩⟩
    ·refine pGy hg1 (pF tF42_2 (pGy hg1 ?_))
     refine pLo hO 0 (.lit _ _ _) tA39 (pGy hg1 ?_)
     refine pLen tS39 (pGy hg1 ?_)
     refine pF tF37_1 (pGy hg1 ?_)
     refine pLo hO 1 (.lit _ _ _) tA22 (pGy hg1 ?_)
     refine pLen tS22 (pGy hg1 ?_)
     refine pBi ?_
     refine pPf hg1 (.bool _) ?_
     exact pE ⟨_, St.hav _ ⟨rfl, rfl, by rw [hg1]; rfl, trivial⟩⟩
   ·rintro _ ⟨J, rfl⟩
    refine pM (.bool _) ?_
    refine wpR_mid (l1 := [_, _, _, _, _, _, _, _]) (fun S' => ∃ J, S' = ⟨hav [(2, .ptr b1 0), (3, .ptr b2 0), (43, .bool ((((!v3 || !aF1.Ok) || ((aF1.Occ.length : Int) != aP0.Sections)) || ((aF1.Points.length : Int) != (aP0.Switches.length : Int))) || ((aF1.Ways.length : Int) != (aP0.Ways.length : Int))))] J, G⟩) ?_ ?_
    ·refine bc (b := (((!v3 || !aF1.Ok) || ((aF1.Occ.length : Int) != aP0.Sections)) || ((aF1.Points.length : Int) != (aP0.Switches.length : Int)))) (fun hg1 => ?_) (fun hg1 => ?_)
     ·refine pGn hg1 (pGn hg1 (pGn hg1 (pGn hg1 (pGn hg1 (pGn hg1 (pGn hg1 (pPt hg1 (.bool _) ?_)))))))
      exact pE ⟨_, St.hav _ ⟨rfl, rfl, by rw [hg1]; rfl, trivial⟩⟩
     ·refine pGy hg1 (pF tF42_3 (pGy hg1 ?_))
      refine pLo hO 0 (.lit _ _ _) tA40 (pGy hg1 ?_)
      refine pLen tS40 (pGy hg1 ?_)
      refine pF tF37_2 (pGy hg1 ?_)
      refine pLo hO 1 (.lit _ _ _) tA35 (pGy hg1 ?_)
      refine pLen tS35 (pGy hg1 ?_)
      refine pBi ?_
      refine pPf hg1 (.bool _) ?_
      exact pE ⟨_, St.hav _ ⟨rfl, rfl, by rw [hg1]; rfl, trivial⟩⟩
    ·rintro _ ⟨J, rfl⟩
     refine pE (gn (lck hk (fun hk => ?_) (fun hk => ?_)))
     ·refine lsq (lrg (pA (.bool _) (pE (gn (lrt (gr ?_))))))
      cases hk; exact fin0 hO
     ·refine lsk (gn (lsq (lsq (lrg (pFL tF42_2 hO 0 (.lit _ _ _) tA39 ?_)))))
      refine pLen tS39 ?_
      refine pM (.int _ _) (pE (gn (lbl ?_)))
      refine wpL_loopO (F := f9_L1 aP0 aF1) (fun s S' => ∃ (J : Nat → V) (G : Heap), Owns H G [.blk b2 (.cells 4 [.bool aF1.Ok, litL l4 0 aF1.Occ, litL l5 0 aF1.Points, litL l6 m7 aF1.Ways]), .blk b1 (.cells 5 [.int .i64 aP0.Sections, litL l1 0 aP0.Switches, litL l2 0 aP0.Ways, litL l3 0 aP0.Bars, .int .i64 aP0.Hold])] ∧ S' = ⟨hav [(2, .ptr b1 0), (3, .ptr b2 0), (45, litL l5 0 aF1.Points), (46, .int .i64 (aF1.Points.length : Int)), (47, .int .i64 s)] J, G⟩) hk ⟨_, _, hO, sh⟩ ?_
      rintro x4 _ y1 ⟨J, G, hO, rfl⟩ hk hx1
      refine lsq (lrg (pBi (pE (gn (lsq (lck hk (fun hk => ?_) (fun hk => ?_)))))))
      ·refine lsk (gn (lsq (lbl (lsq (lrg (bk hk fun c5 hc5 hk => pX hc5 tE39 tZ58 ?_))))))
       refine pLp (.agg [_, _]) (rd2 (lm := 0) (off := 0) hc5 tA58 tZ58) (pNew hO tZ58 t058 (fun b6 G hO => ?_))
       refine pSt (xs := [_, _]) hO 0 tZ58 rfl (fun G hO => pE (gn (lsq (lrg ?_))))
       refine pFL tF58_0 hO 0 (.int _ _) tA3 (bk hk fun v7 hv7 hk => ?_)
       refine pCall (fun _ => f28_run hv7) ?_
       refine pU ?_
       refine pM (.bool _) (bk hk fun t8 ht hk => ?_)
       refine wpR_mid (l1 := [_, _, _, _, _]) (fun S' => ∃ J, S' = ⟨hav [(2, .ptr b1 0), (3, .ptr b2 0), (45, litL l5 0 aF1.Points), (46, .int .i64 (aF1.Points.length : Int)), (47, .int .i64 x4), (60, .bool t8)] J, G⟩) ?_ ?_
       ·refine bc (b := !v7) (fun hg1 => ?_) (fun hg1 => ?_)
        ·replace hk := ct hg1 ht
         refine pGn hg1 (pGn hg1 (pGn hg1 (pGn hg1 (pPt hg1 (.bool _) ?_))))
         cases hk; exact pE ⟨_, sh⟩
        ·replace hk := cf hg1 ht
         refine pGy hg1 (pF tF58_1 (pGy hg1 ?_))
         refine pLo hO 0 (.int _ _) tA3 (pGy hg1 (bk hk fun v9 hv9 hk => ?_))
         refine pCall (fun _ => f28_run hv9) (pGy hg1 ?_)
         refine pU ?_
         refine pPf hg1 (.bool _) ?_
         cases hk; exact pE ⟨_, sh⟩
       ·rintro _ ⟨J, rfl⟩
        refine pE (gn (lck hk (fun hk => ?_) (fun hk => ?_)))
        ·refine lsq (lrg (pA (.bool _) (pE (gn (lrt (br (gr (gr (br (gr (have hk := lx hx1 hk; ?_)))))))))))
         cases hk; exact fin0 hO
        ·refine lsk (bn (gn (lrg (pBi ?_))))
         refine pM (.int _ _) (pE (gn ?_))
         cases hk; exact ⟨_, rfl, _, _, (pk hO [1, 2]), sh⟩
      ·refine lex (ge (ge (be (gn (have hk := lx hx1 hk; lsq (lsq (lrg (pFL tF42_3 hO 0 (.lit _ _ _) tA40 ?_))))))))
       refine pLen tS40 ?_
       refine pM (.int _ _) (pE (gn (lbl ?_)))
       refine wpL_loopO (F := f9_L2 aP0 aF1) (fun s S' => ∃ (J : Nat → V) (G : Heap), Owns H G [.blk b2 (.cells 4 [.bool aF1.Ok, litL l4 0 aF1.Occ, litL l5 0 aF1.Points, litL l6 m7 aF1.Ways]), .blk b1 (.cells 5 [.int .i64 aP0.Sections, litL l1 0 aP0.Switches, litL l2 0 aP0.Ways, litL l3 0 aP0.Bars, .int .i64 aP0.Hold])] ∧ S' = ⟨hav [(2, .ptr b1 0), (3, .ptr b2 0), (64, .int .i64 (aF1.Ways.length : Int)), (65, .int .i64 s)] J, G⟩) hk ⟨_, _, hO, sh⟩ ?_
       rintro x10 _ y1 ⟨J, G, hO, rfl⟩ hk hx1
       refine lsq (lrg (pBi (pE (gn (lsq (lck hk (fun hk => ?_) (fun hk => ?_)))))))
       ·refine lsk (gn (lsq (lbl (lsq (lrg (pM (.int _ _) ?_))))))
        refine pA (.int _ _) (pE (gn (lsq (lsq (lrg ?_)))))
        refine pLs hO 1 [_, _, _, _, _] tA37 tZ37 ?_
        refine pLs hO 0 [_, _, _, _] tA42 tZ42 ?_
        refine pM (.int _ _) (bk hk fun v11 hv11 hk => ?_)
        refine pCall (fun _ => f29_run hv11) ?_
        refine pU (pE (gn (lck hk (fun hk => ?_) (fun hk => ?_))))
        ·refine lsq (lrg (pA (.bool _) (pE (gn (lrt (gr (br (gr (gr (br (gr (have hk := lx hx1 hk; ?_))))))))))))
         cases hk; exact fin0 hO
        ·refine lsk (gn (lsq (lrg (pFL tF42_3 hO 0 (.lit _ _ _) tA40 ?_))))
         refine pLen tS40 ?_
         refine pM (.int _ _) (pE (gn (lbl ?_)))
         refine wpL_loopO (F := f9_L3 aP0 aF1 x10) (fun s S' => ∃ (J : Nat → V) (G : Heap), Owns H G [.blk b2 (.cells 4 [.bool aF1.Ok, litL l4 0 aF1.Occ, litL l5 0 aF1.Points, litL l6 m7 aF1.Ways]), .blk b1 (.cells 5 [.int .i64 aP0.Sections, litL l1 0 aP0.Switches, litL l2 0 aP0.Ways, litL l3 0 aP0.Bars, .int .i64 aP0.Hold])] ∧ S' = ⟨hav [(2, .ptr b1 0), (3, .ptr b2 0), (7, .int .i64 x10), (64, .int .i64 (aF1.Ways.length : Int)), (65, .int .i64 x10), (75, .int .i64 (aF1.Ways.length : Int)), (76, .int .i64 s)] J, G⟩) hk ⟨_, _, hO, sh⟩ ?_
         rintro x12 _ y2 ⟨J, G, hO, rfl⟩ hk hx2
         refine lsq (lrg (pBi (pE (gn (lsq (lck hk (fun hk => ?_) (fun hk => ?_)))))))
         ·refine lsk (gn (lsq (lbl (lsq (lrg (pM (.int _ _) ?_))))))
          refine pA (.int _ _) (pE (gn (lsq (lrg ?_))))
          refine pM (.int _ _) ?_
          refine pM (.int _ _) ?_
          refine pBi ?_
          refine pM (.bool _) (bk hk fun t13 ht hk => ?_)
          refine wpR_mid (l1 := [_, _, _, _, _, _, _, _, _]) (fun S' => ∃ J, S' = ⟨hav [(2, .ptr b1 0), (3, .ptr b2 0), (7, .int .i64 x10), (8, .int .i64 x12), (64, .int .i64 (aF1.Ways.length : Int)), (65, .int .i64 x10), (75, .int .i64 (aF1.Ways.length : Int)), (76, .int .i64 x12), (91, .bool t13)] J, G⟩) ?_ ?_
          ·refine bc (b := (x10 != x12)) (fun hg1 => ?_) (fun hg1 => ?_)
           ·replace hk := ct hg1 ht
            refine pGy hg1 (pF tF37_3 (pGy hg1 ?_))
            refine pLo hO 1 (.lit _ _ _) tA24 (pGy hg1 ?_)
            refine pM (.int _ _) (pGy hg1 (bk hk fun c14 hc14 hk => ?_))
            refine pX hc14 tE24 tZ27 (pGy hg1 ?_)
            refine pLp (.lit _ _ _) (rd1 (lm := 0) (off := 0) hc14 tA27) (pGy hg1 ?_)
            refine pM (.int _ _) (pGy hg1 (bk hk fun c15 hc15 hk => ?_))
            refine pX hc15 tE27 tZ4 (pGy hg1 ?_)
            refine pLp (.bool _) (rd1 (lm := 0) (off := 0) hc15 tA4) ?_
            refine pPt hg1 (.bool _) ?_
            cases hk; exact pE ⟨_, sh⟩
           ·replace hk := cf hg1 ht
            refine pGn hg1 (pGn hg1 (pGn hg1 (pGn hg1 (pGn hg1 (pGn hg1 (pGn hg1 (pGn hg1 (pPf hg1 (.bool _) ?_))))))))
            cases hk; exact pE ⟨_, sh⟩
          ·rintro _ ⟨J, rfl⟩
           refine pM (.bool _) (bk hk fun t16 ht hk => ?_)
           refine wpR_mid (l1 := [_, _, _, _, _, _, _, _]) (fun S' => ∃ J, S' = ⟨hav [(2, .ptr b1 0), (3, .ptr b2 0), (7, .int .i64 x10), (8, .int .i64 x12), (64, .int .i64 (aF1.Ways.length : Int)), (65, .int .i64 x10), (75, .int .i64 (aF1.Ways.length : Int)), (76, .int .i64 x12), (100, .bool t16)] J, G⟩) ?_ ?_
           ·refine bc (b := t13) (fun hg1 => ?_) (fun hg1 => ?_)
            ·replace hk := ct hg1 ht
             refine pGy hg1 (pF tF42_3 (pGy hg1 ?_))
             refine pLo hO 0 (.lit _ _ _) tA40 (pGy hg1 ?_)
             refine pM (.int _ _) (pGy hg1 (bk hk fun c17 hc17 hk => ?_))
             refine pX hc17 tE40 tZ61 (pGy hg1 ?_)
             refine pF tF61_0 (pGy hg1 ?_)
             refine pLp (.int _ _) (rd1 (lm := m7) (off := 0) hc17 tA3) (pGy hg1 ?_)
             refine pBi ?_
             refine pPt hg1 (.bool _) ?_
             cases hk; exact pE ⟨_, sh⟩
            ·replace hk := cf hg1 ht
             refine pGn hg1 (pGn hg1 (pGn hg1 (pGn hg1 (pGn hg1 (pGn hg1 (pGn hg1 (pPf hg1 (.bool _) ?_)))))))
             cases hk; exact pE ⟨_, sh⟩
           ·rintro _ ⟨J, rfl⟩
            refine pM (.bool _) (bk hk fun t18 ht hk => ?_)
            refine wpR_mid (l1 := [_, _, _, _, _, _, _, _]) (fun S' => ∃ J, S' = ⟨hav [(2, .ptr b1 0), (3, .ptr b2 0), (7, .int .i64 x10), (64, .int .i64 (aF1.Ways.length : Int)), (65, .int .i64 x10), (75, .int .i64 (aF1.Ways.length : Int)), (76, .int .i64 x12), (109, .bool t18)] J, G⟩) ?_ ?_
            ·refine bc (b := t16) (fun hg1 => ?_) (fun hg1 => ?_)
             ·replace hk := ct hg1 ht
              refine pGy hg1 (pF tF42_3 (pGy hg1 ?_))
              refine pLo hO 0 (.lit _ _ _) tA40 (pGy hg1 ?_)
              refine pM (.int _ _) (pGy hg1 (bk hk fun c19 hc19 hk => ?_))
              refine pX hc19 tE40 tZ61 (pGy hg1 ?_)
              refine pF tF61_0 (pGy hg1 ?_)
              refine pLp (.int _ _) (rd1 (lm := m7) (off := 0) hc19 tA3) (pGy hg1 ?_)
              refine pBi ?_
              refine pPt hg1 (.bool _) ?_
              cases hk; exact pE ⟨_, sh⟩
             ·replace hk := cf hg1 ht
              refine pGn hg1 (pGn hg1 (pGn hg1 (pGn hg1 (pGn hg1 (pGn hg1 (pGn hg1 (pPf hg1 (.bool _) ?_)))))))
              cases hk; exact pE ⟨_, sh⟩
            ·rintro _ ⟨J, rfl⟩
             refine pE (gn (lck hk (fun hk => ?_) (fun hk => ?_)))
             ·refine lsq (lrg (pA (.bool _) (pE (gn (lrt (br (gr (gr (br (br (gr (gr (br (gr (have hk := lx hx2 hk; have hk := lx hx1 hk; ?_)))))))))))))))
              cases hk; exact fin0 hO
             ·refine lsk (bn (gn (lrg (pBi ?_))))
              refine pM (.int _ _) (pE (gn ?_))
              cases hk; exact ⟨_, rfl, _, _, hO, sh⟩
         ·refine lex (ge (ge (be (bn (gn (have hk := lx hx2 hk; lrg (pBi ?_)))))))
          refine pM (.int _ _) (pE (gn ?_))
          cases hk; exact ⟨_, rfl, _, _, hO, sh⟩
       ·refine lex (ge (ge (be (gn (have hk := lx hx1 hk; lsq (lrg (pLs hO 0 [_, _, _, _] tA42 tZ42 (bk hk fun v20 hv20 hk => ?_))))))))
        refine pCNs hO (fun _ => f30_run hv20) (fun u21 F21 G hO => ?_)
        replace hO : Owns H G (Tree [] _ ((v20.Ok, v20.Occ, v20.Points, v20.Ways) : Bool × (List Bool) × (List Point) × (List Held)) _ :: [.blk b2 (.cells 4 [.bool aF1.Ok, litL l4 0 aF1.Occ, litL l5 0 aF1.Points, litL l6 m7 aF1.Ways]), .blk b1 (.cells 5 [.int .i64 aP0.Sections, litL l1 0 aP0.Switches, litL l2 0 aP0.Ways, litL l3 0 aP0.Bars, .int .i64 aP0.Hold])]) := hO
        obtain ⟨cs22, Fb22, he, hP⟩ := Owns.splitS hO
        clear hO; subst he; have hO := hP; clear hP
        obtain ⟨u23, cs23, F23, Fb23, he, hP⟩ := Owns.splitL hO
        clear hO; subst he; have hO := hP; clear hP
        obtain ⟨u25, cs25, F25, Fb25, he, hP⟩ := Owns.splitL hO
        clear hO; subst he; have hO := hP; clear hP
        obtain ⟨u27, rfl⟩ := Owns.lastL hO
        refine pNew hO tZ42 t042 (fun b29 G hO => ?_)
        have hc30 := tl_cells hO (j := 3) rfl
        have hc31 := tl_cells hO (j := 2) rfl
        have hc32 := tl_cells hO (j := 1) rfl
        refine pSt (xs := [_, _, _, _]) hO 0 tZ42 rfl (fun G hO => ?_) (h6 := (all_c rfl (all_c hc30.2 (all_c hc31.2 (all_c hc32.2 all_n)))))
        refine pE (gn (lsq (lrg (pLs hO 5 [_, _, _, _, _] tA37 tZ37 ?_))))
        replace hO := (Owns.pick hO [0, 3, 2, 1, 4, 5] (by decide) rfl : Owns H G ([.blk b29 (.cells 4 [.bool v20.Ok, u23, u25, u27]), Tree [] F23 v20.Occ [u23], Tree [] F25 v20.Points [u25], Tree [] Fb25 v20.Ways [u27]] ++ [.blk b2 (.cells 4 [.bool aF1.Ok, litL l4 0 aF1.Occ, litL l5 0 aF1.Points, litL l6 m7 aF1.Ways]), .blk b1 (.cells 5 [.int .i64 aP0.Sections, litL l1 0 aP0.Switches, litL l2 0 aP0.Ways, litL l3 0 aP0.Bars, .int .i64 aP0.Hold])]))
        refine bk hk fun z33 hz33 hk => pCGd (rs0 := [.blk b29 (.cells 4 [.bool v20.Ok, u23, u25, u27]), Tree [] F23 v20.Occ [u23], Tree [] F25 v20.Points [u25], Tree [] Fb25 v20.Ways [u27]]) (rs1 := fun (Fs34 : List Nat × List Nat × List Nat) => [.blk b29 (.cells 4 [.bool z33.Ok, u23, u25, u27]), Tree [] Fs34.1 z33.Occ [u23], Tree [] Fs34.2.1 z33.Points [u25], Tree [] Fs34.2.2 z33.Ways [u27]]) (rest := [.blk b2 (.cells 4 [.bool aF1.Ok, litL l4 0 aF1.Occ, litL l5 0 aF1.Points, litL l6 m7 aF1.Ways]), .blk b1 (.cells 5 [.int .i64 aP0.Sections, litL l1 0 aP0.Switches, litL l2 0 aP0.Ways, litL l3 0 aP0.Bars, .int .i64 aP0.Hold])]) (S := (b29 :: (F23 ++ (F25 ++ (Fb25 ++ []))))) hO hlo rfl (nums_S rfl) (nums_S' rfl) (Owns.lo hO) (fun _ hl1 hlt1 hun1 ho1 => f31_run hz33 ho1 hun1 hlt1 hl1) (fun _ => (inC rfl (inC rfl (inC rfl (inC rfl inN))))) (fun Fs34 G hO => pE (gn (lsq (lrg ?_))))
        refine pLs hO 4 [_, _, _, _] tA42 tZ42 ?_
        refine pLs hO 0 [_, _, _, _] tA42 tZ42 (bk hk fun v35 hv35 hk => ?_)
        obtain ⟨_, hm36⟩ := ld_tr hO (j := 3) rfl (lk.length + 1) 7
        obtain ⟨_, hm37⟩ := ld_trF hO (j := 2) rfl (lk.length + 1) 7
        obtain ⟨_, hm38⟩ := ld_trF hO (j := 1) rfl (lk.length + 1) 7
        refine pCall (vs := [(.agg [_, _, _, _]), (.agg [_, _, _, _])]) (caps := []) (fun _ => f32_run hv35) ?_ (h3 := (la_cons rfl (la_cons (ld_agg (ll_cons rfl (ll_cons hm38 (ll_cons hm37 (ll_cons hm36 ll_nil))))) la_nil)))
        refine pA (.bool _) (pE (gn (lrt ?_)))
        cases hk; exact fin0 hO
def f50_L1 (aF1 : Frame) (aI2 : Int) (aSection3 : Int) (c4 : Way) : Int → Option (Int ⊕ Bool) := fun s =>
 (bif decide (s < (c4.Sections.length : Int)) then ((getI c4.Sections s).bind fun c6 => ((bif (c6 == aSection3) then ((getI aF1.Ways aI2).bind fun c8 => some (decide (s ≥ c8.Gone))) else some false).bind fun t7 => (bif t7 then ((some true).map Sum.inr) else some (.inl (w64 (s + (1:Int))))))) else ((some false).map Sum.inr))
def f50 (aP0 : Plan) (aF1 : Frame) (aI2 : Int) (aSection3 : Int) : Option Bool :=
 ((getI aF1.Ways aI2).bind fun c3 => (bif (c3.State == (0:Int)) then some false else ((getI aP0.Ways aI2).bind fun c4 => (loopO (f50_L1 aF1 aI2 aSection3 c4) ((0:Int))))))
theorem f50_run {aP0 : Plan} {aF1 : Frame} {aI2 : Int} {aSection3 : Int} {r : Bool} {l1 l2 m3 l4 m5 l6 l7 l8 m9 : Nat} {H : Heap} {lk : Lk} (hk : f50 aP0 aF1 aI2 aSection3 = some r) (hlk : 0 < lk.length := by simp) : runL Try.prog hh 50 [.agg [.int .i64 aP0.Sections, litL l1 0 aP0.Switches, litL l2 m3 aP0.Ways, litL l4 m5 aP0.Bars, .int .i64 aP0.Hold], .agg [.bool aF1.Ok, litL l6 0 aF1.Occ, litL l7 0 aF1.Points, litL l8 m9 aF1.Ways], .int .i64 aI2, .int .i64 aSection3] H lk = some (.bool r, H) := by
 refine run_start Try.func50 rfl Try.ntmps50 Try.results50 rfl rfl fun hO => ?_
 unfold f50 at hk
 refine lsq (lrg (pBox (cs := [_, _, _, _, _]) hO tZ37 (fun b1 G hO => ?_)))
 refine pBox (cs := [_, _, _, _]) hO tZ42 (fun b2 G hO => ?_)
 refine pA (.bool _) (pE (gn (lsq (lsq (lrg ?_)))))
 refine pFL tF42_3 hO 0 (.lit _ _ _) tA40 ?_
 refine pM (.int _ _) (bk hk fun c3 hc3 hk => ?_)
 refine pX hc3 tE40 tZ61 ?_
 refine pF tF61_0 ?_
 refine pLp (.int _ _) (rd1 (lm := m9) (off := 0) hc3 tA3) ?_
 refine pBi (pE (gn (lck hk (fun hk => ?_) (fun hk => ?_))))
 ·refine lsq (lrg (pA (.bool _) (pE (gn (lrt (gr ?_))))))
  cases hk; exact fin0 hO
 ·refine lsk (gn (lsq (lsq (lrg (pFL tF37_2 hO 1 (.lit _ _ _) tA35 ?_)))))
  refine pM (.int _ _) (bk hk fun c4 hc4 hk => ?_)
  refine pX hc4 tE35 tZ89 ?_
  refine pF tF89_0 ?_
  refine pLp (.lit _ _ _) (rd1 (lm := m3) (off := 0) hc4 tA22) ?_
  refine pLen tS22 ?_
  refine pM (.int _ _) (pE (gn (lbl ?_)))
  refine wpL_loopO (F := f50_L1 aF1 aI2 aSection3 c4) (fun s S' => ∃ (J : Nat → V) (G : Heap), Owns H G [.blk b2 (.cells 4 [.bool aF1.Ok, litL l6 0 aF1.Occ, litL l7 0 aF1.Points, litL l8 m9 aF1.Ways])] ∧ S' = ⟨hav [(2, .int .i64 aI2), (3, .int .i64 aSection3), (5, .ptr b2 0), (23, litL m3 0 c4.Sections), (24, .int .i64 (c4.Sections.length : Int)), (25, .int .i64 s)] J, G⟩) hk ⟨_, _, (pk hO [0]), sh⟩ ?_
  rintro x5 _ y1 ⟨J, G, hO, rfl⟩ hk hx1
  refine lsq (lrg (pBi (pE (gn (lsq (lck hk (fun hk => ?_) (fun hk => ?_)))))))
  ·refine lsk (gn (lsq (lbl (lsq (lrg (pM (.int _ _) (bk hk fun c6 hc6 hk => ?_)))))))
   refine pX hc6 tE22 tZ3 ?_
   refine pLp (.int _ _) (rd1 (lm := 0) (off := 0) hc6 tA3) ?_
   refine pA (.int _ _) ?_
   refine pA (.int _ _) (pE (gn (lsq (lrg ?_))))
   refine pM (.int _ _) ?_
   refine pM (.int _ _) ?_
   refine pBi ?_
   refine pM (.bool _) (bk hk fun t7 ht hk => ?_)
   refine wpR_mid (l1 := [_, _, _, _, _, _, _, _, _]) (fun S' => ∃ J, S' = ⟨hav [(2, .int .i64 aI2), (3, .int .i64 aSection3), (5, .ptr b2 0), (23, litL m3 0 c4.Sections), (24, .int .i64 (c4.Sections.length : Int)), (25, .int .i64 x5), (42, .bool t7)] J, G⟩) ?_ ?_
   ·refine bc (b := (c6 == aSection3)) (fun hg1 => ?_) (fun hg1 => ?_)
    ·replace hk := ct hg1 ht
     refine pGy hg1 (pM (.int _ _) (pGy hg1 ?_))
     refine pF tF42_3 (pGy hg1 ?_)
     refine pLo hO 0 (.lit _ _ _) tA40 (pGy hg1 ?_)
     refine pM (.int _ _) (pGy hg1 (bk hk fun c8 hc8 hk => ?_))
     refine pX hc8 tE40 tZ61 (pGy hg1 ?_)
     refine pF tF61_1 (pGy hg1 ?_)
     refine pLp (.int _ _) (rd1 (lm := m9) (off := 1) hc8 tA3) (pGy hg1 ?_)
     refine pBi ?_
     refine pPt hg1 (.bool _) ?_
     cases hk; exact pE ⟨_, sh⟩
    ·replace hk := cf hg1 ht
     refine pGn hg1 (pGn hg1 (pGn hg1 (pGn hg1 (pGn hg1 (pGn hg1 (pGn hg1 (pGn hg1 (pPf hg1 (.bool _) ?_))))))))
     cases hk; exact pE ⟨_, sh⟩
   ·rintro _ ⟨J, rfl⟩
    refine pE (gn (lck hk (fun hk => ?_) (fun hk => ?_)))
    ·refine lsq (lrg (pA (.bool _) (pE (gn (lrt (br (gr (gr (br (gr (have hk := lx hx1 hk; ?_)))))))))))
     cases hk; exact fin0 hO
    ·refine lsk (bn (gn (lrg (pBi ?_))))
     refine pM (.int _ _) (pE (gn ?_))
     cases hk; exact ⟨_, rfl, _, _, hO, sh⟩
  ·refine lex (ge (ge (be (gn (have hk := lx hx1 hk; lsq (lrg (pA (.bool _) (pE (gn (lrt ?_))))))))))
   cases hk; exact fin0 hO
def f17_L1 (aP0 : Plan) (aF1 : Frame) (aSection2 : Int) : Int → Option (Int ⊕ Int) := fun s =>
 (bif decide (s < (aP0.Ways.length : Int)) then ((f50 aP0 aF1 s aSection2).bind fun v7 => (bif v7 then ((some s).map Sum.inr) else some (.inl (w64 (s + (1:Int)))))) else ((some (-1:Int)).map Sum.inr))
def f17 (aP0 : Plan) (aF1 : Frame) (aSection2 : Int) : Option Int :=
 ((f9 aP0 aF1).bind fun v3 => ((bif !v3 then some true else ((f28 aSection2 (0:Int) (w64 (aP0.Sections - (1:Int)))).bind fun v5 => some (!v5))).bind fun t4 => (bif t4 then some (-1:Int) else (loopO (f17_L1 aP0 aF1 aSection2) ((0:Int))))))
theorem f17_run {aP0 : Plan} {aF1 : Frame} {aSection2 : Int} {r : Int} {l1 l2 l3 l4 l5 l6 m7 : Nat} {H : Heap} {lk : Lk} (hk : f17 aP0 aF1 aSection2 = some r) (hlk : 0 < lk.length := by simp) (hlo : LkOk lk H.length := by simp [LkOk]) : runL Try.prog hh 17 [.agg [.int .i64 aP0.Sections, litL l1 0 aP0.Switches, litL l2 0 aP0.Ways, litL l3 0 aP0.Bars, .int .i64 aP0.Hold], .agg [.bool aF1.Ok, litL l4 0 aF1.Occ, litL l5 0 aF1.Points, litL l6 m7 aF1.Ways], .int .i64 aSection2] H lk = some (.int .i64 r, H) := by
 refine run_start Try.func17 rfl Try.ntmps17 Try.results17 rfl rfl fun hO => ?_
 unfold f17 at hk
 refine lsq (lrg (pBox (cs := [_, _, _, _, _]) hO tZ37 (fun b1 G hO => ?_)))
 refine pBox (cs := [_, _, _, _]) hO tZ42 (fun b2 G hO => ?_)
 refine pA (.int _ _) (pE (gn (lsq (lsq (lrg ?_)))))
 refine pLs hO 1 [_, _, _, _, _] tA37 tZ37 ?_
 refine pLs hO 0 [_, _, _, _] tA42 tZ42 (bk hk fun v3 hv3 hk => ?_)
 refine pCallL hO hlo rfl (fun _ hl => f9_run hv3 (hlo := hl)) ?_
 refine pU ?_
 refine pM (.bool _) (bk hk fun t4 ht hk => ?_)
 refine wpR_mid (l1 := [_, _, _, _, _, _, _]) (fun S' => ∃ J, S' = ⟨hav [(2, .int .i64 aSection2), (3, .ptr b1 0), (4, .ptr b2 0), (19, .bool t4)] J, G⟩) ?_ ?_
 ·refine bc (b := !v3) (fun hg1 => ?_) (fun hg1 => ?_)
  ·replace hk := ct hg1 ht
   refine pGn hg1 (pGn hg1 (pGn hg1 (pGn hg1 (pGn hg1 (pGn hg1 (pPt hg1 (.bool _) ?_))))))
   cases hk; exact pE ⟨_, sh⟩
  ·replace hk := cf hg1 ht
   refine pGy hg1 (pM (.int _ _) (pGy hg1 ?_))
   refine pF tF37_0 (pGy hg1 ?_)
   refine pLo hO 1 (.int _ _) tA3 (pGy hg1 ?_)
   refine pBi (pGy hg1 (bk hk fun v5 hv5 hk => ?_))
   refine pCall (fun _ => f28_run hv5) (pGy hg1 ?_)
   refine pU ?_
   refine pPf hg1 (.bool _) ?_
   cases hk; exact pE ⟨_, sh⟩
 ·rintro _ ⟨J, rfl⟩
  refine pE (gn (lck hk (fun hk => ?_) (fun hk => ?_)))
  ·refine lsq (lrg (pA (.int _ _) (pE (gn (lrt (gr ?_))))))
   cases hk; exact fin0 hO
  ·refine lsk (gn (lsq (lsq (lrg (pFL tF37_2 hO 1 (.lit _ _ _) tA35 ?_)))))
   refine pLen tS35 ?_
   refine pM (.int _ _) (pE (gn (lbl ?_)))
   refine wpL_loopO (F := f17_L1 aP0 aF1 aSection2) (fun s S' => ∃ (J : Nat → V) (G : Heap), Owns H G [.blk b2 (.cells 4 [.bool aF1.Ok, litL l4 0 aF1.Occ, litL l5 0 aF1.Points, litL l6 m7 aF1.Ways]), .blk b1 (.cells 5 [.int .i64 aP0.Sections, litL l1 0 aP0.Switches, litL l2 0 aP0.Ways, litL l3 0 aP0.Bars, .int .i64 aP0.Hold])] ∧ S' = ⟨hav [(2, .int .i64 aSection2), (3, .ptr b1 0), (4, .ptr b2 0), (22, .int .i64 (aP0.Ways.length : Int)), (23, .int .i64 s)] J, G⟩) hk ⟨_, _, hO, sh⟩ ?_
   rintro x6 _ y1 ⟨J, G, hO, rfl⟩ hk hx1
   refine lsq (lrg (pBi (pE (gn (lsq (lck hk (fun hk => ?_) (fun hk => ?_)))))))
   ·refine lsk (gn (lsq (lbl (lsq (lrg (pM (.int _ _) ?_))))))
    refine pA (.int _ _) (pE (gn (lsq (lrg ?_))))
    refine pLs hO 1 [_, _, _, _, _] tA37 tZ37 ?_
    refine pLs hO 0 [_, _, _, _] tA42 tZ42 ?_
    refine pM (.int _ _) ?_
    refine pM (.int _ _) (bk hk fun v7 hv7 hk => ?_)
    refine pCall (fun _ => f50_run hv7) (pE (gn (lck hk (fun hk => ?_) (fun hk => ?_))))
    ·refine lsq (lrg (pM (.int _ _) ?_))
     refine pA (.int _ _) (pE (gn (lrt (br (gr (gr (br (gr (have hk := lx hx1 hk; ?_)))))))))
     cases hk; exact fin0 hO
    ·refine lsk (bn (gn (lrg (pBi ?_))))
     refine pM (.int _ _) (pE (gn ?_))
     cases hk; exact ⟨_, rfl, _, _, hO, sh⟩
   ·refine lex (ge (ge (be (gn (have hk := lx hx1 hk; lsq (lrg (pA (.int _ _) (pE (gn (lrt ?_))))))))))
    cases hk; exact fin0 hO
def f48 (aX0 : Int) (aLo1 : Int) (aHi2 : Int) : Option Bool :=
 some (decide (aX0 ≥ aLo1) && decide (aX0 ≤ aHi2))
theorem f48_run {aX0 : Int} {aLo1 : Int} {aHi2 : Int} {r : Bool} {H : Heap} {lk : Lk} (hk : f48 aX0 aLo1 aHi2 = some r) (hlk : 0 < lk.length := by simp) : runL Try.prog hh 48 [.int .i64 aX0, .int .i64 aLo1, .int .i64 aHi2] H lk = some (.bool r, H) := by
 refine run_start Try.func48 rfl Try.ntmps48 Try.results48 rfl rfl fun hO => ?_
 unfold f48 at hk
 refine lsq (lrg (pA (.bool _) (pE (gn (lsq (lrg ?_))))))
 refine pM (.int _ _) ?_
 refine pM (.int _ _) ?_
 refine pBi ?_
 refine pM (.bool _) ?_
 refine wpR_mid (l1 := [_, _, _, _]) (fun S' => ∃ J, S' = ⟨hav [(14, .bool (decide (aX0 ≥ aLo1) && decide (aX0 ≤ aHi2)))] J, H⟩) ?_ ?_
 ·refine bc (b := decide (aX0 ≥ aLo1)) (fun hg1 => ?_) (fun hg1 => ?_)
  ·refine pGy hg1 (pM (.int _ _) (pGy hg1 ?_))
   refine pM (.int _ _) (pGy hg1 ?_)
   refine pBi ?_
   refine pPt hg1 (.bool _) ?_
   exact pE ⟨_, St.hav _ ⟨by rw [hg1]; rfl, trivial⟩⟩
  ·refine pGn hg1 (pGn hg1 (pGn hg1 (pPf hg1 (.bool _) ?_)))
   exact pE ⟨_, St.hav _ ⟨by rw [hg1]; rfl, trivial⟩⟩
 ·rintro _ ⟨J, rfl⟩
  refine pA (.bool _) (pE (gn (lrt ?_)))
  cases hk; exact fin0 hO
def f71_L1 (aS0 : List Int) (aV1 : Int) : Int → Option (Int ⊕ Int) := fun s =>
 (bif decide (s < (aS0.length : Int)) then ((getI aS0 s).bind fun c2 => (bif (aV1 == c2) then ((some s).map Sum.inr) else some (.inl (w64 (s + (1:Int)))))) else ((some (-1:Int)).map Sum.inr))
def f71 (aS0 : List Int) (aV1 : Int) : Option Int :=
 (loopO (f71_L1 aS0 aV1) ((0:Int)))
theorem f71_run {aS0 : List Int} {aV1 : Int} {r : Int} {l1 : Nat} {H : Heap} {lk : Lk} (hk : f71 aS0 aV1 = some r) (hlk : 0 < lk.length := by simp) : runL Try.prog hh 71 [litL l1 0 aS0, .int .i64 aV1] H lk = some (.int .i64 r, H) := by
 refine run_start Try.func71 rfl Try.ntmps71 Try.results71 rfl rfl fun hO => ?_
 unfold f71 at hk
 refine lsq (lrg (pA (.int _ _) (pE (gn (lsq (lsq (lrg ?_)))))))
 refine pM (.lit _ _ _) ?_
 refine pLen tS22 ?_
 refine pM (.int _ _) (pE (gn (lbl ?_)))
 refine wpL_loopO (F := f71_L1 aS0 aV1) (fun s S' => ∃ (J : Nat → V) (G : Heap), Owns H G [] ∧ S' = ⟨hav [(0, litL l1 0 aS0), (1, .int .i64 aV1), (7, .int .i64 (aS0.length : Int)), (8, .int .i64 s)] J, G⟩) hk ⟨_, _, hO, sh⟩ ?_
 rintro x1 _ y1 ⟨J, G, hO, rfl⟩ hk hx1
 refine lsq (lrg (pBi (pE (gn (lsq (lck hk (fun hk => ?_) (fun hk => ?_)))))))
 ·refine lsk (gn (lsq (lbl (lsq (lrg (pM (.int _ _) ?_))))))
  refine pA (.int _ _) (pE (gn (lsq (lrg ?_))))
  refine pM (.int _ _) ?_
  refine pM (.lit _ _ _) ?_
  refine pM (.int _ _) (bk hk fun c2 hc2 hk => ?_)
  refine pX hc2 tE22 tZ3 ?_
  refine pLp (.int _ _) (rd1 (lm := 0) (off := 0) hc2 tA3) ?_
  refine pBi (pE (gn (lck hk (fun hk => ?_) (fun hk => ?_))))
  ·refine lsq (lrg (pM (.int _ _) ?_))
   refine pA (.int _ _) (pE (gn (lrt (br (gr (gr (br (gr (have hk := lx hx1 hk; ?_)))))))))
   cases hk; exact fin0 hO
  ·refine lsk (bn (gn (lrg (pBi ?_))))
   refine pM (.int _ _) (pE (gn ?_))
   cases hk; exact ⟨_, rfl, _, _, hO, sh⟩
 ·refine lex (ge (ge (be (gn (have hk := lx hx1 hk; lsq (lrg (pA (.int _ _) (pE (gn (lrt ?_))))))))))
  cases hk; exact fin0 hO
def f93 (aS0 : List Int) (aV1 : Int) : Option Bool :=
 ((f71 aS0 aV1).bind fun v1 => some (decide (v1 ≥ (0:Int))))
theorem f93_run {aS0 : List Int} {aV1 : Int} {r : Bool} {l1 : Nat} {H : Heap} {lk : Lk} (hk : f93 aS0 aV1 = some r) (hlk : 0 < lk.length := by simp) : runL Try.prog hh 93 [litL l1 0 aS0, .int .i64 aV1] H lk = some (.bool r, H) := by
 refine run_start Try.func93 rfl Try.ntmps93 Try.results93 rfl rfl fun hO => ?_
 unfold f93 at hk
 refine lsq (lrg (pA (.bool _) (pE (gn (lsq (lrg ?_))))))
 refine pM (.lit _ _ _) ?_
 refine pM (.int _ _) (bk hk fun v1 hv1 hk => ?_)
 refine pCall (fun _ => f71_run hv1) ?_
 refine pBi ?_
 refine pA (.bool _) (pE (gn (lrt ?_)))
 cases hk; exact fin0 hO
def f98_L1 (aL0 : List Int) (aN1 : Int) : Int → Option (Int ⊕ Bool) := fun s =>
 (bif decide (s < (aL0.length : Int)) then ((getI aL0 s).bind fun c2 => ((f48 c2 (0:Int) (w64 (aN1 - (1:Int)))).bind fun v3 => ((bif !v3 then some true else ((subB aL0 (0:Int) s).bind fun y5 => ((f93 y5 c2).bind fun v6 => some v6))).bind fun t4 => (bif t4 then ((some false).map Sum.inr) else some (.inl (w64 (s + (1:Int)))))))) else ((some (decide ((aL0.length : Int) ≤ (30:Int)))).map Sum.inr))
def f98 (aL0 : List Int) (aN1 : Int) : Option Bool :=
 (loopO (f98_L1 aL0 aN1) ((0:Int)))
theorem f98_run {aL0 : List Int} {aN1 : Int} {r : Bool} {l1 : Nat} {H : Heap} {lk : Lk} (hk : f98 aL0 aN1 = some r) (hlk : 0 < lk.length := by simp) : runL Try.prog hh 98 [litL l1 0 aL0, .int .i64 aN1] H lk = some (.bool r, H) := by
 refine run_start Try.func98 rfl Try.ntmps98 Try.results98 rfl rfl fun hO => ?_
 unfold f98 at hk
 refine lsq (lrg (pA (.bool _) (pE (gn (lsq (lsq (lrg ?_)))))))
 refine pM (.lit _ _ _) ?_
 refine pLen tS22 ?_
 refine pM (.int _ _) (pE (gn (lbl ?_)))
 refine wpL_loopO (F := f98_L1 aL0 aN1) (fun s S' => ∃ (J : Nat → V) (G : Heap), Owns H G [] ∧ S' = ⟨hav [(0, litL l1 0 aL0), (1, .int .i64 aN1), (7, litL l1 0 aL0), (8, .int .i64 (aL0.length : Int)), (9, .int .i64 s)] J, G⟩) hk ⟨_, _, hO, sh⟩ ?_
 rintro x1 _ y1 ⟨J, G, hO, rfl⟩ hk hx1
 refine lsq (lrg (pBi (pE (gn (lsq (lck hk (fun hk => ?_) (fun hk => ?_)))))))
 ·refine lsk (gn (lsq (lbl (lsq (lrg (pM (.int _ _) (bk hk fun c2 hc2 hk => ?_)))))))
  refine pX hc2 tE22 tZ3 ?_
  refine pLp (.int _ _) (rd1 (lm := 0) (off := 0) hc2 tA3) ?_
  refine pA (.int _ _) ?_
  refine pA (.int _ _) (pE (gn (lsq (lrg ?_))))
  refine pM (.int _ _) ?_
  refine pM (.int _ _) ?_
  refine pBi (bk hk fun v3 hv3 hk => ?_)
  refine pCall (fun _ => f48_run hv3) ?_
  refine pU ?_
  refine pM (.bool _) (bk hk fun t4 ht hk => ?_)
  refine wpR_mid (l1 := [_, _, _, _, _, _]) (fun S' => ∃ J, S' = ⟨hav [(0, litL l1 0 aL0), (1, .int .i64 aN1), (7, litL l1 0 aL0), (8, .int .i64 (aL0.length : Int)), (9, .int .i64 x1), (25, .bool t4)] J, G⟩) ?_ ?_
  ·refine bc (b := !v3) (fun hg1 => ?_) (fun hg1 => ?_)
   ·replace hk := ct hg1 ht
    refine pGn hg1 (pGn hg1 (pGn hg1 (pGn hg1 (pGn hg1 (pPt hg1 (.bool _) ?_)))))
    cases hk; exact pE ⟨_, sh⟩
   ·replace hk := cf hg1 ht
    refine pGy hg1 (pM (.lit _ _ _) (pGy hg1 ?_))
    refine pM (.int _ _) (pGy hg1 (bk hk fun y5 hy5 hk => ?_))
    refine pSlH hy5 tE22 tZ3 (pGy hg1 ?_)
    refine pM (.int _ _) (pGy hg1 (bk hk fun v6 hv6 hk => ?_))
    refine pCall (fun _ => f93_run hv6) ?_
    refine pPf hg1 (.bool _) ?_
    cases hk; exact pE ⟨_, sh⟩
  ·rintro _ ⟨J, rfl⟩
   refine pE (gn (lck hk (fun hk => ?_) (fun hk => ?_)))
   ·refine lsq (lrg (pA (.bool _) (pE (gn (lrt (br (gr (gr (br (gr (have hk := lx hx1 hk; ?_)))))))))))
    cases hk; exact fin0 hO
   ·refine lsk (bn (gn (lrg (pBi ?_))))
    refine pM (.int _ _) (pE (gn ?_))
    cases hk; exact ⟨_, rfl, _, _, hO, sh⟩
 ·refine lex (ge (ge (be (gn (have hk := lx hx1 hk; lsq (lrg (pM (.lit _ _ _) ?_)))))))
  refine pLen tS22 ?_
  refine pBi ?_
  refine pA (.bool _) (pE (gn (lrt ?_)))
  cases hk; exact fin0 hO
def f99 (aX0 : Int) (aA1 : List Int) : Option Bool :=
 ((f93 aA1 aX0).bind fun v1 => some v1)
theorem f99_run {aX0 : Int} {aA1 : List Int} {r : Bool} {l1 : Nat} {H : Heap} {lk : Lk} {q0 : Nat} (hk : f99 aX0 aA1 = some r) (hq0 : H[q0]? = some (.cells 1 [litL l1 0 aA1])) (hlk : 0 < lk.length := by simp) : runL Try.prog hh 99 [.int .i64 aX0, .ptr q0 0] H lk = some (.bool r, H) := by
 refine run_start Try.func99 rfl Try.ntmps99 Try.results99 rfl rfl fun hO => ?_
 unfold f99 at hk
 refine lsq (lrg (pA (.bool _) (pE (gn (lsq (lrg ?_))))))
 refine pLf (.lit _ _ _) hO hq0 tA22 ?_
 refine pM (.int _ _) (bk hk fun v1 hv1 hk => ?_)
 refine pCall (fun _ => f93_run hv1) ?_
 refine pA (.bool _) (pE (gn (lrt ?_)))
 cases hk; exact fin0 hO
def f102c99_L1 (aS0 : List Int) (aC1_0 : List Int) : Int → Option (Int ⊕ Int) := fun s =>
 (bif decide (s < (aS0.length : Int)) then ((getI aS0 s).bind fun c2 => ((f99 c2 aC1_0).bind fun v3 => (bif v3 then ((some s).map Sum.inr) else some (.inl (w64 (s + (1:Int))))))) else ((some (-1:Int)).map Sum.inr))
def f102c99 (aS0 : List Int) (aC1_0 : List Int) : Option Int :=
 (loopO (f102c99_L1 aS0 aC1_0) ((0:Int)))
theorem f102c99_run {aS0 : List Int} {aC1_0 : List Int} {r : Int} {l1 l2 : Nat} {H : Heap} {lk : Lk} {q0 : Nat} (hk : f102c99 aS0 aC1_0 = some r) (hq0 : H[q0]? = some (.cells 1 [litL l2 0 aC1_0])) (hlk : 0 < lk.length := by simp) : runL Try.prog hh 102 [litL l1 0 aS0, .fn 99 [.ptr q0 0]] H lk = some (.int .i64 r, H) := by
 refine run_start Try.func102 rfl Try.ntmps102 Try.results102 rfl rfl fun hO => ?_
 unfold f102c99 at hk
 refine lsq (lrg (pA (.int _ _) (pE (gn (lsq (lsq (lrg ?_)))))))
 refine pM (.lit _ _ _) ?_
 refine pLen tS22 ?_
 refine pM (.int _ _) (pE (gn (lbl ?_)))
 refine wpL_loopO (F := f102c99_L1 aS0 aC1_0) (fun s S' => ∃ (J : Nat → V) (G : Heap), Owns H G [] ∧ S' = ⟨hav [(0, litL l1 0 aS0), (1, .fn 99 [.ptr q0 0]), (7, .int .i64 (aS0.length : Int)), (8, .int .i64 s)] J, G⟩) hk ⟨_, _, hO, sh⟩ ?_
 rintro x1 _ y1 ⟨J, G, hO, rfl⟩ hk hx1
 refine lsq (lrg (pBi (pE (gn (lsq (lck hk (fun hk => ?_) (fun hk => ?_)))))))
 ·refine lsk (gn (lsq (lbl (lsq (lrg (pM (.int _ _) ?_))))))
  refine pA (.int _ _) (pE (gn (lsq (lrg ?_))))
  refine pM (.fn _ _) ?_
  refine pM (.lit _ _ _) ?_
  refine pM (.int _ _) (bk hk fun c2 hc2 hk => ?_)
  refine pX hc2 tE22 tZ3 ?_
  refine pLp (.int _ _) (rd1 (lm := 0) (off := 0) hc2 tA3) (bk hk fun v3 hv3 hk => ?_)
  refine pCall (fun _ => f99_run hv3 (own_for hO hq0)) (pE (gn (lck hk (fun hk => ?_) (fun hk => ?_))))
  ·refine lsq (lrg (pM (.int _ _) ?_))
   refine pA (.int _ _) (pE (gn (lrt (br (gr (gr (br (gr (have hk := lx hx1 hk; ?_)))))))))
   cases hk; exact fin0 hO
  ·refine lsk (bn (gn (lrg (pBi ?_))))
   refine pM (.int _ _) (pE (gn ?_))
   cases hk; exact ⟨_, rfl, _, _, hO, sh⟩
 ·refine lex (ge (ge (be (gn (have hk := lx hx1 hk; lsq (lrg (pA (.int _ _) (pE (gn (lrt ?_))))))))))
  cases hk; exact fin0 hO
def f90c99 (aS0 : List Int) (aC1_0 : List Int) : Option Bool :=
 ((f102c99 aS0 aC1_0).bind fun v1 => some (decide (v1 ≥ (0:Int))))
theorem f90c99_run {aS0 : List Int} {aC1_0 : List Int} {r : Bool} {l1 l2 : Nat} {H : Heap} {lk : Lk} {q0 : Nat} (hk : f90c99 aS0 aC1_0 = some r) (hq0 : H[q0]? = some (.cells 1 [litL l2 0 aC1_0])) (hlk : 0 < lk.length := by simp) : runL Try.prog hh 90 [litL l1 0 aS0, .fn 99 [.ptr q0 0]] H lk = some (.bool r, H) := by
 refine run_start Try.func90 rfl Try.ntmps90 Try.results90 rfl rfl fun hO => ?_
 unfold f90c99 at hk
 refine lsq (lrg (pA (.bool _) (pE (gn (lsq (lrg ?_))))))
 refine pM (.lit _ _ _) ?_
 refine pM (.fn _ _) (bk hk fun v1 hv1 hk => ?_)
 refine pCall (fun _ => f102c99_run hv1 (own_for hO hq0)) ?_
 refine pBi ?_
 refine pA (.bool _) (pE (gn (lrt ?_)))
 cases hk; exact fin0 hO
def f80 (aA0 : List Int) (aB1 : List Int) : Option Bool :=
 ((f90c99 aA0 aB1).bind fun v2 => some v2)
theorem f80_run {aA0 : List Int} {aB1 : List Int} {r : Bool} {l1 l2 : Nat} {H : Heap} {lk : Lk} (hk : f80 aA0 aB1 = some r) (hlk : 0 < lk.length := by simp) : runL Try.prog hh 80 [litL l1 0 aA0, litL l2 0 aB1] H lk = some (.bool r, H) := by
 refine run_start Try.func80 rfl Try.ntmps80 Try.results80 rfl rfl fun hO => ?_
 unfold f80 at hk
 refine lsq (lrg (pBox (cs := [_]) hO tZ22 (fun b1 G hO => ?_)))
 refine pA (.bool _) (pE (gn (lsq (lrg ?_))))
 refine pM (.lit _ _ _) ?_
 refine pFn (vs := [_]) (bk hk fun v2 hv2 hk => ?_)
 refine pCall (fun _ => f90c99_run hv2 (hO.get (k := 0) rfl).1) ?_
 refine pA (.bool _) (pE (gn (lrt ?_)))
 cases hk; exact fin0 hO
def f79_L2 (aP0 : Plan) (aW1 : Way) : Int → Option (Int ⊕ Bool) := fun s =>
 (bif decide (s < (aW1.Lies.length : Int)) then ((getI aW1.Lies s).bind fun c24 => ((getI aP0.Switches c24.Switch).bind fun c26 => ((f93 aW1.Sections c26).bind fun v27 => (bif !v27 then ((some false).map Sum.inr) else some (.inl (w64 (s + (1:Int)))))))) else (((f80 aW1.Sections aW1.Over).bind fun v28 => some (!v28)).map Sum.inr))
def f79_L1 (aP0 : Plan) (aW1 : Way) (z12 : List Turn) : ((List (Int × Bool)) × (List Turn) × Int) → Option (((List (Int × Bool)) × (List Turn) × Int) ⊕ Bool) := fun s =>
 (bif decide (s.2.2 < (z12.length : Int)) then ((getI s.2.1 s.2.2).bind fun c17 => ((f48 c17.Switch (0:Int) (w64 ((aP0.Switches.length : Int) - (1:Int)))).bind fun v20 => ((bif !v20 then some true else ((f48 c17.Lie (1:Int) (2:Int)).bind fun v22 => some (!v22))).bind fun t21 => (bif (t21 || (mget c17.Switch s.1 false)) then ((some false).map Sum.inr) else some (.inl (mset c17.Switch true s.1, s.2.1, w64 (s.2.2 + (1:Int)))))))) else ((loopO (f79_L2 aP0 aW1) ((0:Int))).map Sum.inr))
def f79 (aP0 : Plan) (aW1 : Way) : Option Bool :=
 ((bif ((aW1.Sections.length : Int) == (0:Int)) then some true else ((f98 aW1.Sections aP0.Sections).bind fun v4 => some (!v4))).bind fun t3 => ((bif t3 then some true else ((f98 aW1.Over aP0.Sections).bind fun v6 => some (!v6))).bind fun t5 => ((bif t5 then some true else ((f98 aW1.Near aP0.Sections).bind fun v8 => some (!v8))).bind fun t7 => (bif ((t7 || decide ((aW1.Lies.length : Int) > (30:Int))) || decide ((aW1.Flanks.length : Int) > (30:Int))) then some false else ((appB 16 ([] : List Turn) aW1.Lies).bind fun z10 => ((appB 16 z10 aW1.Flanks).bind fun z12 => (loopO (f79_L1 aP0 aW1 z12) (([] : List (Int × Bool)), z12, (0:Int)))))))))
theorem f79_run {aP0 : Plan} {aW1 : Way} {r : Bool} {l1 l2 m3 l4 m5 l6 l7 l8 l9 l10 : Nat} {H : Heap} {lk : Lk} (hk : f79 aP0 aW1 = some r) (hlk : 0 < lk.length := by simp) : runL Try.prog hh 79 [.agg [.int .i64 aP0.Sections, litL l1 0 aP0.Switches, litL l2 m3 aP0.Ways, litL l4 m5 aP0.Bars, .int .i64 aP0.Hold], .agg [litL l6 0 aW1.Sections, litL l7 0 aW1.Lies, litL l8 0 aW1.Flanks, litL l9 0 aW1.Over, litL l10 0 aW1.Near]] H lk = some (.bool r, H) := by
 refine run_start Try.func79 rfl Try.ntmps79 Try.results79 rfl rfl fun hO => ?_
 unfold f79 at hk
 refine lsq (lrg (pBox (cs := [_, _, _, _, _]) hO tZ37 (fun b1 G hO => ?_)))
 refine pBox (cs := [_, _, _, _, _]) hO tZ89 (fun b2 G hO => ?_)
 refine pA (.bool _) (pE (gn (lsq (lsq (lrg ?_)))))
 refine pFL tF89_0 hO 0 (.lit _ _ _) tA22 ?_
 refine pLen tS22 ?_
 refine pBi ?_
 refine pM (.bool _) (bk hk fun t3 ht hk => ?_)
 refine wpR_mid (l1 := [_, _, _, _, _, _, _]) (fun S' => ∃ J, S' = ⟨hav [(2, .ptr b1 0), (3, .ptr b2 0), (21, .bool t3)] J, G⟩) ?_ ?_
 ·refine bc (b := ((aW1.Sections.length : Int) == (0:Int))) (fun hg1 => ?_) (fun hg1 => ?_)
  ·replace hk := ct hg1 ht
   refine pGn hg1 (pGn hg1 (pGn hg1 (pGn hg1 (pGn hg1 (pGn hg1 (pPt hg1 (.bool _) ?_))))))
   cases hk; exact pE ⟨_, sh⟩
  ·replace hk := cf hg1 ht
   refine pGy hg1 (pF tF89_0 (pGy hg1 ?_))
   refine pLo hO 0 (.lit _ _ _) tA22 (pGy hg1 ?_)
   refine pF tF37_0 (pGy hg1 ?_)
   refine pLo hO 1 (.int _ _) tA3 (pGy hg1 (bk hk fun v4 hv4 hk => ?_))
   refine pCall (fun _ => f98_run hv4) (pGy hg1 ?_)
   refine pU ?_
   refine pPf hg1 (.bool _) ?_
   cases hk; exact pE ⟨_, sh⟩
 ·rintro _ ⟨J, rfl⟩
  refine pM (.bool _) (bk hk fun t5 ht hk => ?_)
  refine wpR_mid (l1 := [_, _, _, _, _, _, _]) (fun S' => ∃ J, S' = ⟨hav [(2, .ptr b1 0), (3, .ptr b2 0), (29, .bool t5)] J, G⟩) ?_ ?_
  ·refine bc (b := t3) (fun hg1 => ?_) (fun hg1 => ?_)
   ·replace hk := ct hg1 ht
    refine pGn hg1 (pGn hg1 (pGn hg1 (pGn hg1 (pGn hg1 (pGn hg1 (pPt hg1 (.bool _) ?_))))))
    cases hk; exact pE ⟨_, sh⟩
   ·replace hk := cf hg1 ht
    refine pGy hg1 (pF tF89_3 (pGy hg1 ?_))
    refine pLo hO 0 (.lit _ _ _) tA22 (pGy hg1 ?_)
    refine pF tF37_0 (pGy hg1 ?_)
    refine pLo hO 1 (.int _ _) tA3 (pGy hg1 (bk hk fun v6 hv6 hk => ?_))
    refine pCall (fun _ => f98_run hv6) (pGy hg1 ?_)
    refine pU ?_
    refine pPf hg1 (.bool _) ?_
    cases hk; exact pE ⟨_, sh⟩
  ·rintro _ ⟨J, rfl⟩
   refine pM (.bool _) (bk hk fun t7 ht hk => ?_)
   refine wpR_mid (l1 := [_, _, _, _, _, _, _]) (fun S' => ∃ J, S' = ⟨hav [(2, .ptr b1 0), (3, .ptr b2 0), (37, .bool t7)] J, G⟩) ?_ ?_
   ·refine bc (b := t5) (fun hg1 => ?_) (fun hg1 => ?_)
    ·replace hk := ct hg1 ht
     refine pGn hg1 (pGn hg1 (pGn hg1 (pGn hg1 (pGn hg1 (pGn hg1 (pPt hg1 (.bool _) ?_))))))
     cases hk; exact pE ⟨_, sh⟩
    ·replace hk := cf hg1 ht
     refine pGy hg1 (pF tF89_4 (pGy hg1 ?_))
     refine pLo hO 0 (.lit _ _ _) tA22 (pGy hg1 ?_)
     refine pF tF37_0 (pGy hg1 ?_)
     refine pLo hO 1 (.int _ _) tA3 (pGy hg1 (bk hk fun v8 hv8 hk => ?_))
     refine pCall (fun _ => f98_run hv8) (pGy hg1 ?_)
     refine pU ?_
     refine pPf hg1 (.bool _) ?_
     cases hk; exact pE ⟨_, sh⟩
   ·rintro _ ⟨J, rfl⟩
    refine pM (.bool _) ?_
    refine wpR_mid (l1 := [_, _, _, _, _]) (fun S' => ∃ J, S' = ⟨hav [(2, .ptr b1 0), (3, .ptr b2 0), (43, .bool (t7 || decide ((aW1.Lies.length : Int) > (30:Int))))] J, G⟩) ?_ ?_
    ·refine bc (b := t7) (fun hg1 => ?_) (fun hg1 => ?_)
     ·refine pGn hg1 (pGn hg1 (pGn hg1 (pGn hg1 (pPt hg1 (.bool _) ?_))))
      exact pE ⟨_, St.hav _ ⟨rfl, rfl, by rw [hg1]; rfl, trivial⟩⟩
     ·refine pGy hg1 (pF tF89_1 (pGy hg1 ?_))
      refine pLo hO 0 (.lit _ _ _) tA87 (pGy hg1 ?_)
      refine pLen tS87 (pGy hg1 ?_)
      refine pBi ?_
      refine pPf hg1 (.bool _) ?_
      exact pE ⟨_, St.hav _ ⟨rfl, rfl, by rw [hg1]; rfl, trivial⟩⟩
    ·rintro _ ⟨J, rfl⟩
     refine pM (.bool _) ?_
     refine wpR_mid (l1 := [_, _, _, _, _]) (fun S' => ∃ J, S' = ⟨hav [(2, .ptr b1 0), (3, .ptr b2 0), (49, .bool ((t7 || decide ((aW1.Lies.length : Int) > (30:Int))) || decide ((aW1.Flanks.length : Int) > (30:Int))))] J, G⟩) ?_ ?_
     ·refine bc (b := (t7 || decide ((aW1.Lies.length : Int) > (30:Int)))) (fun hg1 => ?_) (fun hg1 => ?_)
      ·refine pGn hg1 (pGn hg1 (pGn hg1 (pGn hg1 (pPt hg1 (.bool _) ?_))))
       exact pE ⟨_, St.hav _ ⟨rfl, rfl, by rw [hg1]; rfl, trivial⟩⟩
      ·refine pGy hg1 (pF tF89_2 (pGy hg1 ?_))
       refine pLo hO 0 (.lit _ _ _) tA87 (pGy hg1 ?_)
       refine pLen tS87 (pGy hg1 ?_)
       refine pBi ?_
       refine pPf hg1 (.bool _) ?_
       exact pE ⟨_, St.hav _ ⟨rfl, rfl, by rw [hg1]; rfl, trivial⟩⟩
     ·rintro _ ⟨J, rfl⟩
      refine pE (gn (lck hk (fun hk => ?_) (fun hk => ?_)))
      ·refine lsq (lrg (pA (.bool _) (pE (gn (lrt (gr ?_))))))
       cases hk; exact fin0 hO
      ·refine lsk (gn (lsq (lrg (pMm Int Bool hO (fun b9 G hO => ?_)))))
       refine pA (.mref _) (pE (gn (lsq (lsq ?_))))
       refine wpL_drw [(0, true), (1, true), (3, true), (4, true), (7, true), (2, true), (5, false), (6, false)] [_, _, _, _, _, _, _, _] (by decide +kernel) (by rfl) ?_
       refine pFL tF89_1 hO 1 (.lit _ _ _) tA87 ?_
       refine pFL tF89_2 hO 1 (.lit _ _ _) tA87 ?_
       refine pM (.int _ _) (bk hk fun z10 hz10 hk => ?_)
       refine pClone (xs := aW1.Lies) hO hz10 Try.func89 tC89 tE87 tZ102 tB102 t0102 (fun o10 G hno10 hO => bk hk fun z12 hz12 hk => ?_)
       refine pAp (xs := z10) hO 0 hz12 (bears_lit _ aW1.Flanks) tE87 tZ102 tB102 t0102 tE87 rfl (fun o12 G hno12 hO => ?_)
       refine pLenO (bears_own hO (j := 0) rfl) tS87 (pE (gn (lbl ?_)))
       refine wpL_loopO (F := f79_L1 aP0 aW1 z12) (fun s S' => ∃ (o14 : V) (J : Nat → V) (G : Heap), Owns H G [.blk b9 (.mp (kvs s.1)), .blk b2 (.cells 5 [litL l6 0 aW1.Sections, litL l7 0 aW1.Lies, litL l8 0 aW1.Flanks, litL l9 0 aW1.Over, litL l10 0 aW1.Near]), .blk b1 (.cells 5 [.int .i64 aP0.Sections, litL l1 0 aP0.Switches, litL l2 m3 aP0.Ways, litL l4 m5 aP0.Bars, .int .i64 aP0.Hold]), .own o14 lk.length 2 s.2.1.length (flatL 0 s.2.1)] ∧ S' = ⟨hav [(2, .ptr b1 0), (3, .ptr b2 0), (5, .mref b9), (56, o14), (57, .int .i64 (z12.length : Int)), (58, .int .i64 s.2.2)] J, G⟩) hk ⟨o12, _, _, (pk hO [1, 2, 3, 0]), sh⟩ ?_
       rintro ⟨x13, x14, x16⟩ _ y1 ⟨o14, J, G, hO, rfl⟩ hk hx1
       refine lsq (lrg (pBi (pE (gn (lsq (lck hk (fun hk => ?_) (fun hk => ?_)))))))
       ·refine lsk (gn (lsq (lbl (lsq (lrg (bk hk fun c17 hc17 hk => pXo hO 3 hc17 tE87 tZ102 (fun lv18 => ?_)))))))
        refine pLp (.agg [_, _]) (rd2 (lm := 0) (off := 0) hc17 tA102 tZ102) (pNew hO tZ102 t0102 (fun b19 G hO => ?_))
        refine pSt (xs := [_, _]) hO 0 tZ102 rfl (fun G hO => pE (gn (lsq (lsq (lrg ?_)))))
        refine pFL tF102_0 hO 0 (.int _ _) tA3 ?_
        refine pFL tF37_1 hO 3 (.lit _ _ _) tA22 ?_
        refine pLen tS22 ?_
        refine pBi (bk hk fun v20 hv20 hk => ?_)
        refine pCall (fun _ => f48_run hv20) ?_
        refine pU ?_
        refine pM (.bool _) (bk hk fun t21 ht hk => ?_)
        refine wpR_mid (l1 := [_, _, _, _, _]) (fun S' => ∃ J, S' = ⟨hav [(2, .ptr b1 0), (3, .ptr b2 0), (5, .mref b9), (7, .ptr b19 0), (56, o14), (57, .int .i64 (z12.length : Int)), (58, .int .i64 x16), (75, .bool t21)] J, G⟩) ?_ ?_
        ·refine bc (b := !v20) (fun hg1 => ?_) (fun hg1 => ?_)
         ·replace hk := ct hg1 ht
          refine pGn hg1 (pGn hg1 (pGn hg1 (pGn hg1 (pPt hg1 (.bool _) ?_))))
          cases hk; exact pE ⟨_, sh⟩
         ·replace hk := cf hg1 ht
          refine pGy hg1 (pF tF102_1 (pGy hg1 ?_))
          refine pLo hO 0 (.int _ _) tA3 (pGy hg1 (bk hk fun v22 hv22 hk => ?_))
          refine pCall (fun _ => f48_run hv22) (pGy hg1 ?_)
          refine pU ?_
          refine pPf hg1 (.bool _) ?_
          cases hk; exact pE ⟨_, sh⟩
        ·rintro _ ⟨J, rfl⟩
         refine pM (.bool _) ?_
         refine wpR_mid (l1 := [_, _, _, _, _]) (fun S' => ∃ J, S' = ⟨hav [(2, .ptr b1 0), (3, .ptr b2 0), (5, .mref b9), (7, .ptr b19 0), (56, o14), (57, .int .i64 (z12.length : Int)), (58, .int .i64 x16), (81, .bool (t21 || (mget c17.Switch x13 false)))] J, G⟩) ?_ ?_
         ·refine bc (b := t21) (fun hg1 => ?_) (fun hg1 => ?_)
          ·refine pGn hg1 (pGn hg1 (pGn hg1 (pGn hg1 (pPt hg1 (.bool _) ?_))))
           exact pE ⟨_, St.hav _ ⟨rfl, rfl, rfl, rfl, rfl, rfl, rfl, by rw [hg1]; rfl, trivial⟩⟩
          ·refine pGy hg1 (pM (.mref _) (pGy hg1 ?_))
           refine pF tF102_0 (pGy hg1 ?_)
           refine pLo hO 0 (.int _ _) tA3 (pGy hg1 ?_)
           refine pLk c17.Switch (false : Bool) (hO.get (k := 1) rfl).1 tM129 fit_int tY4 ?_
           refine pPf hg1 (.bool _) ?_
           exact pE ⟨_, St.hav _ ⟨rfl, rfl, rfl, rfl, rfl, rfl, rfl, by rw [hg1]; rfl, trivial⟩⟩
         ·rintro _ ⟨J, rfl⟩
          refine pE (gn (lck hk (fun hk => ?_) (fun hk => ?_)))
          ·refine lsq (lrg (pA (.bool _) (pE (gn (lrt (gr (br (gr (gr (br (gr (have hk := lx hx1 hk; ?_))))))))))))
           cases hk; exact fin0 hO
          ·refine lsk (gn (lrg (pM (.mref _) ?_)))
           refine pFL tF102_0 hO 0 (.int _ _) tA3 ?_
           refine pUp hO 1 c17.Switch true tM129 fit_int rfl (fun G hO => pE (bn (gn (lrg ?_))))
           refine pBi ?_
           refine pM (.int _ _) (pE (gn ?_))
           cases hk; exact ⟨_, rfl, o14, _, _, (pk hO [1, 2, 3, 4]), sh⟩
       ·refine lex (ge (ge (be (gn (have hk := lx hx1 hk; lsq (lsq (lrg (pFL tF89_1 hO 1 (.lit _ _ _) tA87 ?_))))))))
        refine pLen tS87 ?_
        refine pM (.int _ _) (pE (gn (lbl ?_)))
        refine wpL_loopO (F := f79_L2 aP0 aW1) (fun s S' => ∃ (J : Nat → V) (G : Heap), Owns H G [.blk b2 (.cells 5 [litL l6 0 aW1.Sections, litL l7 0 aW1.Lies, litL l8 0 aW1.Flanks, litL l9 0 aW1.Over, litL l10 0 aW1.Near]), .blk b1 (.cells 5 [.int .i64 aP0.Sections, litL l1 0 aP0.Switches, litL l2 m3 aP0.Ways, litL l4 m5 aP0.Bars, .int .i64 aP0.Hold])] ∧ S' = ⟨hav [(2, .ptr b1 0), (3, .ptr b2 0), (87, litL l7 0 aW1.Lies), (88, .int .i64 (aW1.Lies.length : Int)), (89, .int .i64 s)] J, G⟩) hk ⟨_, _, (pk hO [1, 2]), sh⟩ ?_
        rintro x23 _ y1 ⟨J, G, hO, rfl⟩ hk hx1
        refine lsq (lrg (pBi (pE (gn (lsq (lck hk (fun hk => ?_) (fun hk => ?_)))))))
        ·refine lsk (gn (lsq (lbl (lsq (lrg (bk hk fun c24 hc24 hk => pX hc24 tE87 tZ102 ?_))))))
         refine pLp (.agg [_, _]) (rd2 (lm := 0) (off := 0) hc24 tA102 tZ102) (pNew hO tZ102 t0102 (fun b25 G hO => ?_))
         refine pSt (xs := [_, _]) hO 0 tZ102 rfl (fun G hO => pE (gn (lsq ?_)))
         refine wpL_drw [(0, true), (1, true), (2, true), (3, true), (4, true), (5, true), (6, true), (7, true), (8, false), (9, false)] [_, _, _, _, _, _, _, _, _, _] (by decide +kernel) (by rfl) ?_
         refine pFL tF89_0 hO 1 (.lit _ _ _) tA22 ?_
         refine pFL tF37_1 hO 2 (.lit _ _ _) tA22 ?_
         refine pFL tF102_0 hO 0 (.int _ _) tA3 (bk hk fun c26 hc26 hk => ?_)
         refine pX hc26 tE22 tZ3 ?_
         refine pLp (.int _ _) (rd1 (lm := 0) (off := 0) hc26 tA3) (bk hk fun v27 hv27 hk => ?_)
         refine pCall (fun _ => f93_run hv27) ?_
         refine pU (pE (gn (lck hk (fun hk => ?_) (fun hk => ?_))))
         ·refine lsq (lrg (pA (.bool _) (pE (gn (lrt (br (gr (gr (br (gr (have hk := lx hx1 hk; ?_)))))))))))
          cases hk; exact fin0 hO
         ·refine lsk (bn (gn (lrg (pBi ?_))))
          refine pM (.int _ _) (pE (gn ?_))
          cases hk; exact ⟨_, rfl, _, _, (pk hO [1, 2]), sh⟩
        ·refine lex (ge (ge (be (gn (have hk := lx hx1 hk; lsq (lrg (pFL tF89_0 hO 0 (.lit _ _ _) tA22 ?_)))))))
         refine pFL tF89_3 hO 0 (.lit _ _ _) tA22 (bk hk fun v28 hv28 hk => ?_)
         refine pCall (fun _ => f80_run hv28) ?_
         refine pU ?_
         refine pA (.bool _) (pE (gn (lrt ?_)))
         cases hk; exact fin0 hO
def f61_L5 (aP0 : Plan) (x15 : Int) : Int → Option (Int ⊕ (Int ⊕ Fault)) := fun s =>
 (bif decide (s < (aP0.Ways.length : Int)) then ((getI aP0.Bars x15).bind fun c17 => ((getI c17 s).bind fun c18 => ((getI aP0.Bars s).bind fun c19 => ((getI c19 x15).bind fun c20 => ((bif !(c18 == c20) then some true else ((bif (x15 != s) then ((getI aP0.Bars x15).bind fun c23 => ((getI c23 s).bind fun c24 => some (!c24))) else some false).bind fun t22 => ((bif t22 then ((getI aP0.Ways x15).bind fun c26 => ((getI aP0.Ways s).bind fun c27 => ((f80 c26.Sections c27.Sections).bind fun v28 => some v28))) else some false).bind fun t25 => some t25))).bind fun t21 => (bif t21 then (((some ({ Code := (5:Int), At := x15 } : Fault)).map Sum.inr).map Sum.inr) else some (.inl (w64 (s + (1:Int)))))))))) else ((some (.inl (w64 (x15 + (1:Int))))).map Sum.inr))
def f61_L4 (aP0 : Plan) : Int → Option (Int ⊕ Fault) := fun s =>
 (bif decide (s < (aP0.Ways.length : Int)) then (loopO (f61_L5 aP0 s) ((0:Int))) else ((some ({ Code := 0, At := 0 } : Fault)).map Sum.inr))
def f61_L3 (aP0 : Plan) : Int → Option (Int ⊕ Fault) := fun s =>
 (bif decide (s < (aP0.Bars.length : Int)) then ((getI aP0.Bars s).bind fun c14 => (bif ((c14.length : Int) != (aP0.Ways.length : Int)) then ((some ({ Code := (4:Int), At := s } : Fault)).map Sum.inr) else some (.inl (w64 (s + (1:Int)))))) else ((loopO (f61_L4 aP0) ((0:Int))).map Sum.inr))
def f61_L2 (aP0 : Plan) : Int → Option (Int ⊕ Fault) := fun s =>
 (bif decide (s < (aP0.Ways.length : Int)) then ((getI aP0.Ways s).bind fun c10 => ((f79 aP0 c10).bind fun v12 => (bif !v12 then ((some ({ Code := (3:Int), At := s } : Fault)).map Sum.inr) else some (.inl (w64 (s + (1:Int))))))) else ((bif ((aP0.Bars.length : Int) != (aP0.Ways.length : Int)) then some ({ Code := (4:Int), At := (0:Int) } : Fault) else (loopO (f61_L3 aP0) ((0:Int)))).map Sum.inr))
def f61_L1 (aP0 : Plan) : Int → Option (Int ⊕ Fault) := fun s =>
 (bif decide (s < (aP0.Switches.length : Int)) then ((getI aP0.Switches s).bind fun c7 => ((f48 c7 (0:Int) (w64 (aP0.Sections - (1:Int)))).bind fun v8 => (bif !v8 then ((some ({ Code := (2:Int), At := s } : Fault)).map Sum.inr) else some (.inl (w64 (s + (1:Int))))))) else ((loopO (f61_L2 aP0) ((0:Int))).map Sum.inr))
def f61 (aP0 : Plan) : Option Fault :=
 ((f48 aP0.Sections (1:Int) (60:Int)).bind fun v3 => ((bif !v3 then some true else ((f48 aP0.Hold (1:Int) (300:Int)).bind fun v5 => some (!v5))).bind fun t4 => (bif ((t4 || decide ((aP0.Switches.length : Int) > (40:Int))) || decide ((aP0.Ways.length : Int) > (100:Int))) then some ({ Code := (1:Int), At := (0:Int) } : Fault) else (loopO (f61_L1 aP0) ((0:Int))))))
theorem f61_run {aP0 : Plan} {r : Fault} {l1 l2 m3 l4 m5 : Nat} {H : Heap} {lk : Lk} (hk : f61 aP0 = some r) (hlk : 0 < lk.length := by simp) : runL Try.prog hh 61 [.agg [.int .i64 aP0.Sections, litL l1 0 aP0.Switches, litL l2 m3 aP0.Ways, litL l4 m5 aP0.Bars, .int .i64 aP0.Hold]] H lk = some (.agg [.int .i64 r.Code, .int .i64 r.At], H) := by
 refine run_start Try.func61 rfl Try.ntmps61 Try.results61 rfl rfl fun hO => ?_
 unfold f61 at hk
 refine lsq (lrg (pBox (cs := [_, _, _, _, _]) hO tZ37 (fun b1 G hO => pNew hO tZ85 t085 (fun b2 G hO => pE (gn (lsq (lsq (lrg ?_))))))))
 refine pFL tF37_0 hO 1 (.int _ _) tA3 (bk hk fun v3 hv3 hk => ?_)
 refine pCall (fun _ => f48_run hv3) ?_
 refine pU ?_
 refine pM (.bool _) (bk hk fun t4 ht hk => ?_)
 refine wpR_mid (l1 := [_, _, _, _, _]) (fun S' => ∃ J, S' = ⟨hav [(1, .ptr b1 0), (2, .ptr b2 0), (20, .bool t4)] J, G⟩) ?_ ?_
 ·refine bc (b := !v3) (fun hg1 => ?_) (fun hg1 => ?_)
  ·replace hk := ct hg1 ht
   refine pGn hg1 (pGn hg1 (pGn hg1 (pGn hg1 (pPt hg1 (.bool _) ?_))))
   cases hk; exact pE ⟨_, sh⟩
  ·replace hk := cf hg1 ht
   refine pGy hg1 (pF tF37_4 (pGy hg1 ?_))
   refine pLo hO 1 (.int _ _) tA3 (pGy hg1 (bk hk fun v5 hv5 hk => ?_))
   refine pCall (fun _ => f48_run hv5) (pGy hg1 ?_)
   refine pU ?_
   refine pPf hg1 (.bool _) ?_
   cases hk; exact pE ⟨_, sh⟩
 ·rintro _ ⟨J, rfl⟩
  refine pM (.bool _) ?_
  refine wpR_mid (l1 := [_, _, _, _, _]) (fun S' => ∃ J, S' = ⟨hav [(1, .ptr b1 0), (2, .ptr b2 0), (26, .bool (t4 || decide ((aP0.Switches.length : Int) > (40:Int))))] J, G⟩) ?_ ?_
  ·refine bc (b := t4) (fun hg1 => ?_) (fun hg1 => ?_)
   ·refine pGn hg1 (pGn hg1 (pGn hg1 (pGn hg1 (pPt hg1 (.bool _) ?_))))
    exact pE ⟨_, St.hav _ ⟨rfl, rfl, by rw [hg1]; rfl, trivial⟩⟩
   ·refine pGy hg1 (pF tF37_1 (pGy hg1 ?_))
    refine pLo hO 1 (.lit _ _ _) tA22 (pGy hg1 ?_)
    refine pLen tS22 (pGy hg1 ?_)
    refine pBi ?_
    refine pPf hg1 (.bool _) ?_
    exact pE ⟨_, St.hav _ ⟨rfl, rfl, by rw [hg1]; rfl, trivial⟩⟩
  ·rintro _ ⟨J, rfl⟩
   refine pM (.bool _) ?_
   refine wpR_mid (l1 := [_, _, _, _, _]) (fun S' => ∃ J, S' = ⟨hav [(1, .ptr b1 0), (2, .ptr b2 0), (32, .bool ((t4 || decide ((aP0.Switches.length : Int) > (40:Int))) || decide ((aP0.Ways.length : Int) > (100:Int))))] J, G⟩) ?_ ?_
   ·refine bc (b := (t4 || decide ((aP0.Switches.length : Int) > (40:Int)))) (fun hg1 => ?_) (fun hg1 => ?_)
    ·refine pGn hg1 (pGn hg1 (pGn hg1 (pGn hg1 (pPt hg1 (.bool _) ?_))))
     exact pE ⟨_, St.hav _ ⟨rfl, rfl, by rw [hg1]; rfl, trivial⟩⟩
    ·refine pGy hg1 (pF tF37_2 (pGy hg1 ?_))
     refine pLo hO 1 (.lit _ _ _) tA35 (pGy hg1 ?_)
     refine pLen tS35 (pGy hg1 ?_)
     refine pBi ?_
     refine pPf hg1 (.bool _) ?_
     exact pE ⟨_, St.hav _ ⟨rfl, rfl, by rw [hg1]; rfl, trivial⟩⟩
   ·rintro _ ⟨J, rfl⟩
    refine pE (gn (lck hk (fun hk => ?_) (fun hk => ?_)))
    ·refine lsq (lrg (pBd [_, _] t085 tP85 ?_))
     refine pSt (xs := [_, _]) hO 0 tZ85 rfl (fun G hO => pE (gn (lrt (gr ?_))))
     replace hk := Option.some.inj hk; subst hk; exact finZ hO (fz_agg (n := 2) (fz_c (fz_int _ _) (fz_c (fz_int _ _) (fz_n)))) (resS hO 0 [_, _] tA85 tZ85 resN)
    ·refine lsk (gn (lsq (lsq (lrg (pFL tF37_1 hO 1 (.lit _ _ _) tA22 ?_)))))
     refine pLen tS22 ?_
     refine pM (.int _ _) (pE (gn (lbl ?_)))
     refine wpL_loopO (F := f61_L1 aP0) (fun s S' => ∃ (J : Nat → V) (G : Heap), Owns H G [.blk b2 (.cells 2 [.int .i64 0, .int .i64 0]), .blk b1 (.cells 5 [.int .i64 aP0.Sections, litL l1 0 aP0.Switches, litL l2 m3 aP0.Ways, litL l4 m5 aP0.Bars, .int .i64 aP0.Hold])] ∧ S' = ⟨hav [(1, .ptr b1 0), (2, .ptr b2 0), (35, litL l1 0 aP0.Switches), (36, .int .i64 (aP0.Switches.length : Int)), (37, .int .i64 s)] J, G⟩) hk ⟨_, _, hO, sh⟩ ?_
     rintro x6 _ y1 ⟨J, G, hO, rfl⟩ hk hx1
     refine lsq (lrg (pBi (pE (gn (lsq (lck hk (fun hk => ?_) (fun hk => ?_)))))))
     ·refine lsk (gn (lsq (lbl (lsq (lrg (pM (.int _ _) (bk hk fun c7 hc7 hk => ?_)))))))
      refine pX hc7 tE22 tZ3 ?_
      refine pLp (.int _ _) (rd1 (lm := 0) (off := 0) hc7 tA3) ?_
      refine pA (.int _ _) ?_
      refine pA (.int _ _) (pE (gn (lsq (lrg ?_))))
      refine pM (.int _ _) ?_
      refine pFL tF37_0 hO 1 (.int _ _) tA3 ?_
      refine pBi (bk hk fun v8 hv8 hk => ?_)
      refine pCall (fun _ => f48_run hv8) ?_
      refine pU (pE (gn (lck hk (fun hk => ?_) (fun hk => ?_))))
      ·refine lsq (lrg (pM (.int _ _) ?_))
       refine pBd [_, _] t085 tP85 ?_
       refine pSt (xs := [_, _]) hO 0 tZ85 rfl (fun G hO => pE (gn (lrt (br (gr (gr (br (gr (have hk := lx hx1 hk; ?_)))))))))
       replace hk := Option.some.inj hk; subst hk; exact finZ hO (fz_agg (n := 2) (fz_c (fz_int _ _) (fz_c (fz_int _ _) (fz_n)))) (resS hO 0 [_, _] tA85 tZ85 resN)
      ·refine lsk (bn (gn (lrg (pBi ?_))))
       refine pM (.int _ _) (pE (gn ?_))
       cases hk; exact ⟨_, rfl, _, _, hO, sh⟩
     ·refine lex (ge (ge (be (gn (have hk := lx hx1 hk; lsq (lsq (lrg (pFL tF37_2 hO 1 (.lit _ _ _) tA35 ?_))))))))
      refine pLen tS35 ?_
      refine pM (.int _ _) (pE (gn (lbl ?_)))
      refine wpL_loopO (F := f61_L2 aP0) (fun s S' => ∃ (J : Nat → V) (G : Heap), Owns H G [.blk b2 (.cells 2 [.int .i64 0, .int .i64 0]), .blk b1 (.cells 5 [.int .i64 aP0.Sections, litL l1 0 aP0.Switches, litL l2 m3 aP0.Ways, litL l4 m5 aP0.Bars, .int .i64 aP0.Hold])] ∧ S' = ⟨hav [(1, .ptr b1 0), (2, .ptr b2 0), (52, litL l2 m3 aP0.Ways), (53, .int .i64 (aP0.Ways.length : Int)), (54, .int .i64 s)] J, G⟩) hk ⟨_, _, hO, sh⟩ ?_
      rintro x9 _ y1 ⟨J, G, hO, rfl⟩ hk hx1
      refine lsq (lrg (pBi (pE (gn (lsq (lck hk (fun hk => ?_) (fun hk => ?_)))))))
      ·refine lsk (gn (lsq (lbl (lsq (lrg (pM (.int _ _) (bk hk fun c10 hc10 hk => ?_)))))))
       refine pX hc10 tE35 tZ89 ?_
       refine pLp (.agg [_, _, _, _, _]) (rd2 (lm := m3) (off := 0) hc10 tA89 tZ89) (pNew hO tZ89 t089 (fun b11 G hO => ?_))
       refine pA (.int _ _) ?_
       refine pSt (xs := [_, _, _, _, _]) hO 0 tZ89 rfl (fun G hO => pE (gn (lsq (lrg ?_))))
       refine pLs hO 2 [_, _, _, _, _] tA37 tZ37 ?_
       refine pLs hO 0 [_, _, _, _, _] tA89 tZ89 (bk hk fun v12 hv12 hk => ?_)
       refine pCall (fun _ => f79_run hv12) ?_
       refine pU (pE (gn (lck hk (fun hk => ?_) (fun hk => ?_))))
       ·refine lsq (lrg (pM (.int _ _) ?_))
        refine pBd [_, _] t085 tP85 ?_
        refine pSt (xs := [_, _]) hO 1 tZ85 rfl (fun G hO => pE (gn (lrt (br (gr (gr (br (gr (have hk := lx hx1 hk; ?_)))))))))
        replace hk := Option.some.inj hk; subst hk; exact finZ hO (fz_agg (n := 2) (fz_c (fz_int _ _) (fz_c (fz_int _ _) (fz_n)))) (resS hO 1 [_, _] tA85 tZ85 resN)
       ·refine lsk (bn (gn (lrg (pBi ?_))))
        refine pM (.int _ _) (pE (gn ?_))
        cases hk; exact ⟨_, rfl, _, _, (pk hO [1, 2]), sh⟩
      ·refine lex (ge (ge (be (gn (have hk := lx hx1 hk; lsq (lsq (lrg (pFL tF37_3 hO 1 (.lit _ _ _) tA24 ?_))))))))
       refine pLen tS24 ?_
       refine pFL tF37_2 hO 1 (.lit _ _ _) tA35 ?_
       refine pLen tS35 ?_
       refine pBi (pE (gn (lck hk (fun hk => ?_) (fun hk => ?_))))
       ·refine lsq (lrg (pBd [_, _] t085 tP85 ?_))
        refine pSt (xs := [_, _]) hO 0 tZ85 rfl (fun G hO => pE (gn (lrt (gr ?_))))
        replace hk := Option.some.inj hk; subst hk; exact finZ hO (fz_agg (n := 2) (fz_c (fz_int _ _) (fz_c (fz_int _ _) (fz_n)))) (resS hO 0 [_, _] tA85 tZ85 resN)
       ·refine lsk (gn (lsq (lsq (lrg (pFL tF37_3 hO 1 (.lit _ _ _) tA24 ?_)))))
        refine pLen tS24 ?_
        refine pM (.int _ _) (pE (gn (lbl ?_)))
        refine wpL_loopO (F := f61_L3 aP0) (fun s S' => ∃ (J : Nat → V) (G : Heap), Owns H G [.blk b2 (.cells 2 [.int .i64 0, .int .i64 0]), .blk b1 (.cells 5 [.int .i64 aP0.Sections, litL l1 0 aP0.Switches, litL l2 m3 aP0.Ways, litL l4 m5 aP0.Bars, .int .i64 aP0.Hold])] ∧ S' = ⟨hav [(1, .ptr b1 0), (2, .ptr b2 0), (75, litL l4 m5 aP0.Bars), (76, .int .i64 (aP0.Bars.length : Int)), (77, .int .i64 s)] J, G⟩) hk ⟨_, _, hO, sh⟩ ?_
        rintro x13 _ y1 ⟨J, G, hO, rfl⟩ hk hx1
        refine lsq (lrg (pBi (pE (gn (lsq (lck hk (fun hk => ?_) (fun hk => ?_)))))))
        ·refine lsk (gn (lsq (lbl (lsq (lrg (pM (.int _ _) (bk hk fun c14 hc14 hk => ?_)))))))
         refine pX hc14 tE24 tZ27 ?_
         refine pLp (.lit _ _ _) (rd1 (lm := m5) (off := 0) hc14 tA27) ?_
         refine pA (.int _ _) ?_
         refine pA (.lit _ _ _) (pE (gn (lsq (lrg ?_))))
         refine pM (.lit _ _ _) ?_
         refine pLen tS27 ?_
         refine pFL tF37_2 hO 1 (.lit _ _ _) tA35 ?_
         refine pLen tS35 ?_
         refine pBi (pE (gn (lck hk (fun hk => ?_) (fun hk => ?_))))
         ·refine lsq (lrg (pM (.int _ _) ?_))
          refine pBd [_, _] t085 tP85 ?_
          refine pSt (xs := [_, _]) hO 0 tZ85 rfl (fun G hO => pE (gn (lrt (br (gr (gr (br (gr (have hk := lx hx1 hk; ?_)))))))))
          replace hk := Option.some.inj hk; subst hk; exact finZ hO (fz_agg (n := 2) (fz_c (fz_int _ _) (fz_c (fz_int _ _) (fz_n)))) (resS hO 0 [_, _] tA85 tZ85 resN)
         ·refine lsk (bn (gn (lrg (pBi ?_))))
          refine pM (.int _ _) (pE (gn ?_))
          cases hk; exact ⟨_, rfl, _, _, hO, sh⟩
        ·refine lex (ge (ge (be (gn (have hk := lx hx1 hk; lsq (lsq (lrg (pFL tF37_2 hO 1 (.lit _ _ _) tA35 ?_))))))))
         refine pLen tS35 ?_
         refine pM (.int _ _) (pE (gn (lbl ?_)))
         refine wpL_loopO (F := f61_L4 aP0) (fun s S' => ∃ (J : Nat → V) (G : Heap), Owns H G [.blk b2 (.cells 2 [.int .i64 0, .int .i64 0]), .blk b1 (.cells 5 [.int .i64 aP0.Sections, litL l1 0 aP0.Switches, litL l2 m3 aP0.Ways, litL l4 m5 aP0.Bars, .int .i64 aP0.Hold])] ∧ S' = ⟨hav [(1, .ptr b1 0), (2, .ptr b2 0), (93, .int .i64 (aP0.Ways.length : Int)), (94, .int .i64 s)] J, G⟩) hk ⟨_, _, hO, sh⟩ ?_
         rintro x15 _ y1 ⟨J, G, hO, rfl⟩ hk hx1
         refine lsq (lrg (pBi (pE (gn (lsq (lck hk (fun hk => ?_) (fun hk => ?_)))))))
         ·refine lsk (gn (lsq (lbl (lsq (lrg (pM (.int _ _) ?_))))))
          refine pA (.int _ _) (pE (gn (lsq (lrg ?_))))
          refine pFL tF37_2 hO 1 (.lit _ _ _) tA35 ?_
          refine pLen tS35 ?_
          refine pM (.int _ _) (pE (gn (lbl ?_)))
          refine wpL_loopO (F := f61_L5 aP0 x15) (fun s S' => ∃ (J : Nat → V) (G : Heap), Owns H G [.blk b2 (.cells 2 [.int .i64 0, .int .i64 0]), .blk b1 (.cells 5 [.int .i64 aP0.Sections, litL l1 0 aP0.Switches, litL l2 m3 aP0.Ways, litL l4 m5 aP0.Bars, .int .i64 aP0.Hold])] ∧ S' = ⟨hav [(1, .ptr b1 0), (2, .ptr b2 0), (9, .int .i64 x15), (93, .int .i64 (aP0.Ways.length : Int)), (94, .int .i64 x15), (99, .int .i64 (aP0.Ways.length : Int)), (100, .int .i64 s)] J, G⟩) hk ⟨_, _, hO, sh⟩ ?_
          rintro x16 _ y2 ⟨J, G, hO, rfl⟩ hk hx2
          refine lsq (lrg (pBi (pE (gn (lsq (lck hk (fun hk => ?_) (fun hk => ?_)))))))
          ·refine lsk (gn (lsq (lbl (lsq (lrg (pM (.int _ _) ?_))))))
           refine pA (.int _ _) (pE (gn (lsq ?_)))
           refine wpL_drw [(0, true), (1, true), (2, true), (3, true), (4, true), (5, true), (6, true), (7, true), (8, true), (9, true), (10, true), (11, true), (12, true), (13, true), (14, true), (15, true), (16, false), (17, false), (18, false), (19, false), (20, false), (21, false), (22, false), (23, true), (24, true), (25, false), (26, true), (27, true), (28, false), (29, true), (30, false), (31, false), (32, false), (33, true), (34, true), (35, true), (36, true), (37, true), (38, true), (39, true), (40, true), (41, true), (42, true), (43, true), (44, true), (45, false), (46, false), (47, false)] [_, _, _, _, _, _, _, _, _, _, _, _, _, _, _, _, _, _, _, _, _, _, _, _, _, _, _, _, _, _, _, _, _, _, _, _, _, _, _, _, _, _, _, _, _, _, _, _] (by decide +kernel) (by rfl) ?_
           refine pFL tF37_3 hO 1 (.lit _ _ _) tA24 ?_
           refine pM (.int _ _) (bk hk fun c17 hc17 hk => ?_)
           refine pX hc17 tE24 tZ27 ?_
           refine pLp (.lit _ _ _) (rd1 (lm := m5) (off := 0) hc17 tA27) ?_
           refine pM (.int _ _) (bk hk fun c18 hc18 hk => ?_)
           refine pX hc18 tE27 tZ4 ?_
           refine pLp (.bool _) (rd1 (lm := 0) (off := 0) hc18 tA4) ?_
           refine pFL tF37_3 hO 1 (.lit _ _ _) tA24 ?_
           refine pM (.int _ _) (bk hk fun c19 hc19 hk => ?_)
           refine pX hc19 tE24 tZ27 ?_
           refine pLp (.lit _ _ _) (rd1 (lm := m5) (off := 0) hc19 tA27) ?_
           refine pM (.int _ _) (bk hk fun c20 hc20 hk => ?_)
           refine pX hc20 tE27 tZ4 ?_
           refine pLp (.bool _) (rd1 (lm := 0) (off := 0) hc20 tA4) ?_
           refine pBn Try.underlying4 ?_
           refine pM (.bool _) (bk hk fun t21 ht hk => ?_)
           refine wpR_mid (l1 := [_, _, _, _, _, _, _, _, _, _, _, _, _, _, _, _, _, _, _, _, _, _, _, _, _, _, _, _, _, _]) (fun S' => ∃ J, S' = ⟨hav [(1, .ptr b1 0), (2, .ptr b2 0), (9, .int .i64 x15), (93, .int .i64 (aP0.Ways.length : Int)), (94, .int .i64 x15), (99, .int .i64 (aP0.Ways.length : Int)), (100, .int .i64 x16), (150, .bool t21)] J, G⟩) ?_ ?_
           ·refine bc (b := !(c18 == c20)) (fun hg1 => ?_) (fun hg1 => ?_)
            ·replace hk := ct hg1 ht
             refine pGn hg1 (pGn hg1 (pGn hg1 (pGn hg1 (pGu (pGu (pGu (pGu (pGu (pGu (pGu (pGu (pGu (pGn hg1 (pGn hg1 (pGu (pGu (pGu (pGu (pGu (pGu (pGu (pGu (pGu (pGu (pGu (pGu (pGu (pGn hg1 (pPt hg1 (.bool _) ?_)))))))))))))))))))))))))))))
             cases hk; exact pE ⟨_, sh⟩
            ·replace hk := cf hg1 ht
             refine pGy hg1 (pM (.int _ _) (pGy hg1 ?_))
             refine pM (.int _ _) (pGy hg1 ?_)
             refine pBi (pGy hg1 ?_)
             refine pM (.bool _) (bk hk fun t22 ht hk => ?_)
             refine wpR_mid (l1 := [_, _, _, _, _, _, _, _, _, _]) (fun S' => ∃ J, S' = ⟨hav [(1, .ptr b1 0), (2, .ptr b2 0), (9, .int .i64 x15), (10, .int .i64 x16), (93, .int .i64 (aP0.Ways.length : Int)), (94, .int .i64 x15), (99, .int .i64 (aP0.Ways.length : Int)), (100, .int .i64 x16), (120, .bool (!(c18 == c20))), (134, .bool t22)] J, G⟩) ?_ ?_
             ·refine bc (b := (x15 != x16)) (fun hg2 => ?_) (fun hg2 => ?_)
              ·replace hk := ct hg2 ht
               refine pGy hg2 (pF tF37_3 (pGy hg2 ?_))
               refine pLo hO 1 (.lit _ _ _) tA24 (pGy hg2 ?_)
               refine pM (.int _ _) (pGy hg2 (bk hk fun c23 hc23 hk => ?_))
               refine pX hc23 tE24 tZ27 (pGy hg2 ?_)
               refine pLp (.lit _ _ _) (rd1 (lm := m5) (off := 0) hc23 tA27) (pGy hg2 ?_)
               refine pM (.int _ _) (pGy hg2 (bk hk fun c24 hc24 hk => ?_))
               refine pX hc24 tE27 tZ4 (pGy hg2 ?_)
               refine pLp (.bool _) (rd1 (lm := 0) (off := 0) hc24 tA4) (pGy hg2 ?_)
               refine pU (pGy hg1 ?_)
               refine pPt hg2 (.bool _) ?_
               cases hk; exact pE ⟨_, sh⟩
              ·replace hk := cf hg2 ht
               refine pGn hg2 (pGn hg2 (pGn hg2 (pGn hg2 (pGn hg2 (pGn hg2 (pGn hg2 (pGn hg2 (pGn hg2 (pGy hg1 (pPf hg2 (.bool _) ?_))))))))))
               cases hk; exact pE ⟨_, sh⟩
             ·rintro _ ⟨J, rfl⟩
              refine pGy hg1 (pM (.bool _) (bk hk fun t25 ht hk => ?_))
              refine wpR_mid (l1 := [_, _, _, _, _, _, _, _, _, _, _, _, _, _]) (fun S' => ∃ J, S' = ⟨hav [(1, .ptr b1 0), (2, .ptr b2 0), (9, .int .i64 x15), (93, .int .i64 (aP0.Ways.length : Int)), (94, .int .i64 x15), (99, .int .i64 (aP0.Ways.length : Int)), (100, .int .i64 x16), (120, .bool (!(c18 == c20))), (149, .bool t25)] J, G⟩) ?_ ?_
              ·refine bc (b := t22) (fun hg2 => ?_) (fun hg2 => ?_)
               ·replace hk := ct hg2 ht
                refine pGy hg2 (pF tF37_2 (pGy hg2 ?_))
                refine pLo hO 1 (.lit _ _ _) tA35 (pGy hg2 ?_)
                refine pM (.int _ _) (pGy hg2 (bk hk fun c26 hc26 hk => ?_))
                refine pX hc26 tE35 tZ89 (pGy hg2 ?_)
                refine pF tF89_0 (pGy hg2 ?_)
                refine pLp (.lit _ _ _) (rd1 (lm := m3) (off := 0) hc26 tA22) (pGy hg2 ?_)
                refine pF tF37_2 (pGy hg2 ?_)
                refine pLo hO 1 (.lit _ _ _) tA35 (pGy hg2 ?_)
                refine pM (.int _ _) (pGy hg2 (bk hk fun c27 hc27 hk => ?_))
                refine pX hc27 tE35 tZ89 (pGy hg2 ?_)
                refine pF tF89_0 (pGy hg2 ?_)
                refine pLp (.lit _ _ _) (rd1 (lm := m3) (off := 0) hc27 tA22) (pGy hg2 (bk hk fun v28 hv28 hk => ?_))
                refine pCall (fun _ => f80_run hv28) (pGy hg1 ?_)
                refine pPt hg2 (.bool _) ?_
                cases hk; exact pE ⟨_, sh⟩
               ·replace hk := cf hg2 ht
                refine pGn hg2 (pGn hg2 (pGn hg2 (pGn hg2 (pGn hg2 (pGn hg2 (pGn hg2 (pGn hg2 (pGn hg2 (pGn hg2 (pGn hg2 (pGn hg2 (pGn hg2 (pGy hg1 (pPf hg2 (.bool _) ?_))))))))))))))
                cases hk; exact pE ⟨_, sh⟩
              ·rintro _ ⟨J, rfl⟩
               refine pPf hg1 (.bool _) ?_
               cases hk; exact pE ⟨_, sh⟩
           ·rintro _ ⟨J, rfl⟩
            refine pE (gn (lck hk (fun hk => ?_) (fun hk => ?_)))
            ·refine lsq (lrg (pM (.int _ _) ?_))
             refine pBd [_, _] t085 tP85 ?_
             refine pSt (xs := [_, _]) hO 0 tZ85 rfl (fun G hO => pE (gn (lrt (br (gr (gr (br (br (gr (gr (br (gr (have hk := lx hx2 hk; have hk := lx hx1 hk; ?_)))))))))))))
             replace hk := Option.some.inj hk; subst hk; exact finZ hO (fz_agg (n := 2) (fz_c (fz_int _ _) (fz_c (fz_int _ _) (fz_n)))) (resS hO 0 [_, _] tA85 tZ85 resN)
            ·refine lsk (bn (gn (lrg (pBi ?_))))
             refine pM (.int _ _) (pE (gn ?_))
             cases hk; exact ⟨_, rfl, _, _, hO, sh⟩
          ·refine lex (ge (ge (be (bn (gn (have hk := lx hx2 hk; lrg (pBi ?_)))))))
           refine pM (.int _ _) (pE (gn ?_))
           cases hk; exact ⟨_, rfl, _, _, hO, sh⟩
         ·refine lex (ge (ge (be (gn (have hk := lx hx1 hk; lsq (lrg (pBd [_, _] t085 tP85 ?_)))))))
          refine pSt (xs := [_, _]) hO 0 tZ85 rfl (fun G hO => pE (gn (lrt ?_)))
          replace hk := Option.some.inj hk; subst hk; exact finZ hO (fz_agg (n := 2) (fz_c (fz_int _ _) (fz_c (fz_int _ _) (fz_n)))) (resS hO 0 [_, _] tA85 tZ85 resN)
def f39 (aP0 : Plan) : Option Bool :=
 ((f61 aP0).bind fun v2 => some ((v2.Code == 0) && ((v2.At == 0) && true)))
theorem f39_run {aP0 : Plan} {r : Bool} {l1 l2 m3 l4 m5 : Nat} {H : Heap} {lk : Lk} (hk : f39 aP0 = some r) (hlk : 0 < lk.length := by simp) : runL Try.prog hh 39 [.agg [.int .i64 aP0.Sections, litL l1 0 aP0.Switches, litL l2 m3 aP0.Ways, litL l4 m5 aP0.Bars, .int .i64 aP0.Hold]] H lk = some (.bool r, H) := by
 refine run_start Try.func39 rfl Try.ntmps39 Try.results39 rfl rfl fun hO => ?_
 unfold f39 at hk
 refine lsq (lrg (pBox (cs := [_, _, _, _, _]) hO tZ37 (fun b1 G hO => ?_)))
 refine pA (.bool _) (pE (gn (lsq (lrg ?_))))
 refine pLs hO 0 [_, _, _, _, _] tA37 tZ37 (bk hk fun v2 hv2 hk => ?_)
 refine pCall (fun _ => f61_run hv2) ?_
 refine pBd [_, _] t085 tP85 ?_
 refine pGq tG85 (eqc (eqi _ _ _) (eqc (eqi _ _ _) (rfl))) ?_
 refine pA (.bool _) (pE (gn (lrt ?_)))
 cases hk; exact fin0 hO
def f100_L1 (aS0 : List Bool) (aV1 : Bool) : Int → Option (Int ⊕ Int) := fun s =>
 (bif decide (s < (aS0.length : Int)) then ((getI aS0 s).bind fun c2 => (bif (aV1 == c2) then ((some s).map Sum.inr) else some (.inl (w64 (s + (1:Int)))))) else ((some (-1:Int)).map Sum.inr))
def f100 (aS0 : List Bool) (aV1 : Bool) : Option Int :=
 (loopO (f100_L1 aS0 aV1) ((0:Int)))
theorem f100_run {aS0 : List Bool} {aV1 : Bool} {r : Int} {l1 : Nat} {H : Heap} {lk : Lk} (hk : f100 aS0 aV1 = some r) (hlk : 0 < lk.length := by simp) : runL Try.prog hh 100 [litL l1 0 aS0, .bool aV1] H lk = some (.int .i64 r, H) := by
 refine run_start Try.func100 rfl Try.ntmps100 Try.results100 rfl rfl fun hO => ?_
 unfold f100 at hk
 refine lsq (lrg (pA (.int _ _) (pE (gn (lsq (lsq (lrg ?_)))))))
 refine pM (.lit _ _ _) ?_
 refine pLen tS27 ?_
 refine pM (.int _ _) (pE (gn (lbl ?_)))
 refine wpL_loopO (F := f100_L1 aS0 aV1) (fun s S' => ∃ (J : Nat → V) (G : Heap), Owns H G [] ∧ S' = ⟨hav [(0, litL l1 0 aS0), (1, .bool aV1), (7, .int .i64 (aS0.length : Int)), (8, .int .i64 s)] J, G⟩) hk ⟨_, _, hO, sh⟩ ?_
 rintro x1 _ y1 ⟨J, G, hO, rfl⟩ hk hx1
 refine lsq (lrg (pBi (pE (gn (lsq (lck hk (fun hk => ?_) (fun hk => ?_)))))))
 ·refine lsk (gn (lsq (lbl (lsq (lrg (pM (.int _ _) ?_))))))
  refine pA (.int _ _) (pE (gn (lsq (lrg ?_))))
  refine pM (.bool _) ?_
  refine pM (.lit _ _ _) ?_
  refine pM (.int _ _) (bk hk fun c2 hc2 hk => ?_)
  refine pX hc2 tE27 tZ4 ?_
  refine pLp (.bool _) (rd1 (lm := 0) (off := 0) hc2 tA4) ?_
  refine pBq Try.underlying4 (pE (gn (lck hk (fun hk => ?_) (fun hk => ?_))))
  ·refine lsq (lrg (pM (.int _ _) ?_))
   refine pA (.int _ _) (pE (gn (lrt (br (gr (gr (br (gr (have hk := lx hx1 hk; ?_)))))))))
   cases hk; exact fin0 hO
  ·refine lsk (bn (gn (lrg (pBi ?_))))
   refine pM (.int _ _) (pE (gn ?_))
   cases hk; exact ⟨_, rfl, _, _, hO, sh⟩
 ·refine lex (ge (ge (be (gn (have hk := lx hx1 hk; lsq (lrg (pA (.int _ _) (pE (gn (lrt ?_))))))))))
  cases hk; exact fin0 hO
def f81 (aS0 : List Bool) (aV1 : Bool) : Option Bool :=
 ((f100 aS0 aV1).bind fun v1 => some (decide (v1 ≥ (0:Int))))
theorem f81_run {aS0 : List Bool} {aV1 : Bool} {r : Bool} {l1 : Nat} {H : Heap} {lk : Lk} (hk : f81 aS0 aV1 = some r) (hlk : 0 < lk.length := by simp) : runL Try.prog hh 81 [litL l1 0 aS0, .bool aV1] H lk = some (.bool r, H) := by
 refine run_start Try.func81 rfl Try.ntmps81 Try.results81 rfl rfl fun hO => ?_
 unfold f81 at hk
 refine lsq (lrg (pA (.bool _) (pE (gn (lsq (lrg ?_))))))
 refine pM (.lit _ _ _) ?_
 refine pM (.bool _) (bk hk fun v1 hv1 hk => ?_)
 refine pCall (fun _ => f100_run hv1) ?_
 refine pBi ?_
 refine pA (.bool _) (pE (gn (lrt ?_)))
 cases hk; exact fin0 hO
def f62_k2 (aH1 : Held) : Option Bool :=
 some (!((aH1.State == (0:Int)) && aH1.Shown) && !(((aH1.State == (2:Int)) || (aH1.State == (3:Int))) && !aH1.Shown))
def f62_k1 (aP0 : Plan) (aH1 : Held) : Option Bool :=
 (bif (aH1.State == (3:Int)) then ((f48 aH1.Timer (1:Int) aP0.Hold).bind fun v7 => (bif !v7 then some false else (f62_k2 aH1))) else (bif (aH1.Timer != (0:Int)) then some false else (f62_k2 aH1)))
def f62 (aP0 : Plan) (aH1 : Held) (aW2 : Way) : Option Bool :=
 ((f48 aH1.State (0:Int) (4:Int)).bind fun v4 => ((bif (!v4 || ((aH1.Been.length : Int) != (aW2.Sections.length : Int))) then some true else ((f48 aH1.Gone (0:Int) (w64 ((aW2.Sections.length : Int) - (1:Int)))).bind fun v6 => some (!v6))).bind fun t5 => (bif t5 then some false else (bif (aH1.State != (4:Int)) then ((bif (aH1.Gone != (0:Int)) then some true else ((f81 aH1.Been true).bind fun v9 => some v9)).bind fun t8 => (bif t8 then some false else (f62_k1 aP0 aH1))) else ((subB aH1.Been (0:Int) aH1.Gone).bind fun y10 => ((f81 y10 false).bind fun v11 => (bif v11 then some false else (f62_k1 aP0 aH1))))))))
theorem f62_run {aP0 : Plan} {aH1 : Held} {aW2 : Way} {r : Bool} {l1 l2 m3 l4 m5 l6 l7 l8 l9 l10 l11 : Nat} {H : Heap} {lk : Lk} (hk : f62 aP0 aH1 aW2 = some r) (hlk : 0 < lk.length := by simp) : runL Try.prog hh 62 [.agg [.int .i64 aP0.Sections, litL l1 0 aP0.Switches, litL l2 m3 aP0.Ways, litL l4 m5 aP0.Bars, .int .i64 aP0.Hold], .agg [.int .i64 aH1.State, .int .i64 aH1.Gone, litL l6 0 aH1.Been, .bool aH1.Shown, .int .i64 aH1.Timer], .agg [litL l7 0 aW2.Sections, litL l8 0 aW2.Lies, litL l9 0 aW2.Flanks, litL l10 0 aW2.Over, litL l11 0 aW2.Near]] H lk = some (.bool r, H) := by
 refine run_start Try.func62 rfl Try.ntmps62 Try.results62 rfl rfl fun hO => ?_
 unfold f62 at hk
 refine lsq (lrg (pBox (cs := [_, _, _, _, _]) hO tZ37 (fun b1 G hO => ?_)))
 refine pBox (cs := [_, _, _, _, _]) hO tZ61 (fun b2 G hO => ?_)
 refine pBox (cs := [_, _, _, _, _]) hO tZ89 (fun b3 G hO => ?_)
 refine pA (.bool _) (pE (gn (lsq (lrg ?_))))
 refine pFL tF89_0 hO 0 (.lit _ _ _) tA22 ?_
 refine pLen tS22 ?_
 refine pA (.int _ _) (pE (gn (lsq (lsq (lrg ?_)))))
 refine pFL tF61_0 hO 1 (.int _ _) tA3 (bk hk fun v4 hv4 hk => ?_)
 refine pCall (fun _ => f48_run hv4) ?_
 refine pU ?_
 refine pM (.bool _) ?_
 refine wpR_mid (l1 := [_, _, _, _, _, _]) (fun S' => ∃ J, S' = ⟨hav [(3, .ptr b1 0), (4, .ptr b2 0), (7, .int .i64 (aW2.Sections.length : Int)), (21, .bool (!v4 || ((aH1.Been.length : Int) != (aW2.Sections.length : Int))))] J, G⟩) ?_ ?_
 ·refine bc (b := !v4) (fun hg1 => ?_) (fun hg1 => ?_)
  ·refine pGn hg1 (pGn hg1 (pGn hg1 (pGn hg1 (pGn hg1 (pPt hg1 (.bool _) ?_)))))
   exact pE ⟨_, St.hav _ ⟨rfl, rfl, rfl, by rw [hg1]; rfl, trivial⟩⟩
  ·refine pGy hg1 (pF tF61_2 (pGy hg1 ?_))
   refine pLo hO 1 (.lit _ _ _) tA27 (pGy hg1 ?_)
   refine pLen tS27 (pGy hg1 ?_)
   refine pM (.int _ _) (pGy hg1 ?_)
   refine pBi ?_
   refine pPf hg1 (.bool _) ?_
   exact pE ⟨_, St.hav _ ⟨rfl, rfl, rfl, by rw [hg1]; rfl, trivial⟩⟩
 ·rintro _ ⟨J, rfl⟩
  refine pM (.bool _) (bk hk fun t5 ht hk => ?_)
  refine wpR_mid (l1 := [_, _, _, _, _, _, _]) (fun S' => ∃ J, S' = ⟨hav [(3, .ptr b1 0), (4, .ptr b2 0), (29, .bool t5)] J, G⟩) ?_ ?_
  ·refine bc (b := (!v4 || ((aH1.Been.length : Int) != (aW2.Sections.length : Int)))) (fun hg1 => ?_) (fun hg1 => ?_)
   ·replace hk := ct hg1 ht
    refine pGn hg1 (pGn hg1 (pGn hg1 (pGn hg1 (pGn hg1 (pGn hg1 (pPt hg1 (.bool _) ?_))))))
    cases hk; exact pE ⟨_, sh⟩
   ·replace hk := cf hg1 ht
    refine pGy hg1 (pF tF61_1 (pGy hg1 ?_))
    refine pLo hO 1 (.int _ _) tA3 (pGy hg1 ?_)
    refine pM (.int _ _) (pGy hg1 ?_)
    refine pBi (pGy hg1 (bk hk fun v6 hv6 hk => ?_))
    refine pCall (fun _ => f48_run hv6) (pGy hg1 ?_)
    refine pU ?_
    refine pPf hg1 (.bool _) ?_
    cases hk; exact pE ⟨_, sh⟩
  ·rintro _ ⟨J, rfl⟩
   refine pE (gn (lck hk (fun hk => ?_) (fun hk => ?_)))
   ·refine lsq (lrg (pA (.bool _) (pE (gn (lrt (gr ?_))))))
    cases hk; exact fin0 hO
   ·refine lsk (gn (wpL_mid (fun S' => ∃  (J : Nat → V) (G : Heap), f62_k1 aP0 aH1 = some r ∧ Owns H G [.blk b2 (.cells 5 [.int .i64 aH1.State, .int .i64 aH1.Gone, litL l6 0 aH1.Been, .bool aH1.Shown, .int .i64 aH1.Timer]), .blk b1 (.cells 5 [.int .i64 aP0.Sections, litL l1 0 aP0.Switches, litL l2 m3 aP0.Ways, litL l4 m5 aP0.Bars, .int .i64 aP0.Hold])] ∧ S' = ⟨hav [(3, .ptr b1 0), (4, .ptr b2 0)] J, G⟩) ?_ ?_))
    ·refine lsq (lrg (pFL tF61_0 hO 1 (.int _ _) tA3 ?_))
     refine pBi (pE (gn (lck hk (fun hk => ?_) (fun hk => ?_))))
     ·refine lsq (lrg (pFL tF61_1 hO 1 (.int _ _) tA3 ?_))
      refine pBi ?_
      refine pM (.bool _) (bk hk fun t8 ht hk => ?_)
      refine wpR_mid (l1 := [_, _, _, _]) (fun S' => ∃ J, S' = ⟨hav [(3, .ptr b1 0), (4, .ptr b2 0), (40, .bool t8)] J, G⟩) ?_ ?_
      ·refine bc (b := (aH1.Gone != (0:Int))) (fun hg1 => ?_) (fun hg1 => ?_)
       ·replace hk := ct hg1 ht
        refine pGn hg1 (pGn hg1 (pGn hg1 (pPt hg1 (.bool _) ?_)))
        cases hk; exact pE ⟨_, sh⟩
       ·replace hk := cf hg1 ht
        refine pGy hg1 (pF tF61_2 (pGy hg1 ?_))
        refine pLo hO 1 (.lit _ _ _) tA27 (pGy hg1 (bk hk fun v9 hv9 hk => ?_))
        refine pCall (fun _ => f81_run hv9) ?_
        refine pPf hg1 (.bool _) ?_
        cases hk; exact pE ⟨_, sh⟩
      ·rintro _ ⟨J, rfl⟩
       refine pE (gn (lck hk (fun hk => ?_) (fun hk => ?_)))
       ·refine lsq (lrg (pA (.bool _) (pE (gn (lrt (gr ?_))))))
        cases hk; exact fin0 hO
       ·exact lsk (gn (⟨_, _, hk, (pk hO [1, 2]), sh⟩))
     ·refine lsq (lrg (pFL tF61_2 hO 1 (.lit _ _ _) tA27 ?_))
      refine pFL tF61_1 hO 1 (.int _ _) tA3 (bk hk fun y10 hy10 hk => ?_)
      refine pSlH hy10 tE27 tZ4 (bk hk fun v11 hv11 hk => ?_)
      refine pCall (fun _ => f81_run hv11) (pE (gn (lck hk (fun hk => ?_) (fun hk => ?_))))
      ·refine lsq (lrg (pA (.bool _) (pE (gn (lrt (gr ?_))))))
       cases hk; exact fin0 hO
      ·exact lsk (gn (⟨_, _, hk, (pk hO [1, 2]), sh⟩))
    ·rintro _ ⟨J, G, hk, hO, rfl⟩
     refine wpL_mid (fun S' => ∃  (J : Nat → V) (G : Heap), f62_k2 aH1 = some r ∧ Owns H G [.blk b2 (.cells 5 [.int .i64 aH1.State, .int .i64 aH1.Gone, litL l6 0 aH1.Been, .bool aH1.Shown, .int .i64 aH1.Timer])] ∧ S' = ⟨hav [(4, .ptr b2 0)] J, G⟩) ?_ ?_
     ·refine lsq (lrg (pFL tF61_0 hO 0 (.int _ _) tA3 ?_))
      refine pBi (pE (gn (lck hk (fun hk => ?_) (fun hk => ?_))))
      ·refine lsq (lrg (pFL tF61_4 hO 0 (.int _ _) tA3 ?_))
       refine pFL tF37_4 hO 1 (.int _ _) tA3 (bk hk fun v7 hv7 hk => ?_)
       refine pCall (fun _ => f48_run hv7) ?_
       refine pU (pE (gn (lck hk (fun hk => ?_) (fun hk => ?_))))
       ·refine lsq (lrg (pA (.bool _) (pE (gn (lrt (gr ?_))))))
        cases hk; exact fin0 hO
       ·exact lsk (gn (⟨_, _, hk, (pk hO [0]), sh⟩))
      ·refine lsq (lrg (pFL tF61_4 hO 0 (.int _ _) tA3 ?_))
       refine pBi (pE (gn (lck hk (fun hk => ?_) (fun hk => ?_))))
       ·refine lsq (lrg (pA (.bool _) (pE (gn (lrt (gr ?_))))))
        cases hk; exact fin0 hO
       ·exact lsk (gn (⟨_, _, hk, (pk hO [0]), sh⟩))
     ·rintro _ ⟨J, G, hk, hO, rfl⟩
      refine lsq (lrg (pFL tF61_0 hO 0 (.int _ _) tA3 ?_))
      refine pBi ?_
      refine pM (.bool _) ?_
      refine wpR_mid (l1 := [_, _, _]) (fun S' => ∃ J, S' = ⟨hav [(4, .ptr b2 0), (65, .bool ((aH1.State == (0:Int)) && aH1.Shown))] J, G⟩) ?_ ?_
      ·refine bc (b := (aH1.State == (0:Int))) (fun hg1 => ?_) (fun hg1 => ?_)
       ·refine pGy hg1 (pF tF61_3 (pGy hg1 ?_))
        refine pLo hO 0 (.bool _) tA4 ?_
        refine pPt hg1 (.bool _) ?_
        exact pE ⟨_, St.hav _ ⟨rfl, by rw [hg1]; rfl, trivial⟩⟩
       ·refine pGn hg1 (pGn hg1 (pPf hg1 (.bool _) ?_))
        exact pE ⟨_, St.hav _ ⟨rfl, by rw [hg1]; rfl, trivial⟩⟩
      ·rintro _ ⟨J, rfl⟩
       refine pU ?_
       refine pM (.bool _) ?_
       refine wpR_mid (l1 := [_, _, _, _, _, _, _, _, _, _, _, _, _, _, _]) (fun S' => ∃ J, S' = ⟨hav [(82, .bool (!((aH1.State == (0:Int)) && aH1.Shown) && !(((aH1.State == (2:Int)) || (aH1.State == (3:Int))) && !aH1.Shown)))] J, G⟩) ?_ ?_
       ·refine bc (b := !((aH1.State == (0:Int)) && aH1.Shown)) (fun hg1 => ?_) (fun hg1 => ?_)
        ·refine pGy hg1 (pF tF61_0 (pGy hg1 ?_))
         refine pLo hO 0 (.int _ _) tA3 (pGy hg1 ?_)
         refine pBi (pGy hg1 ?_)
         refine pM (.bool _) ?_
         refine wpR_mid (l1 := [_, _, _, _]) (fun S' => ∃ J, S' = ⟨hav [(4, .ptr b2 0), (67, .bool (!((aH1.State == (0:Int)) && aH1.Shown))), (75, .bool ((aH1.State == (2:Int)) || (aH1.State == (3:Int))))] J, G⟩) ?_ ?_
         ·refine bc (b := (aH1.State == (2:Int))) (fun hg2 => ?_) (fun hg2 => ?_)
          ·refine pGn hg2 (pGn hg2 (pGn hg2 (pGy hg1 (pPt hg2 (.bool _) ?_))))
           exact pE ⟨_, St.hav _ ⟨rfl, rfl, by rw [hg2]; rfl, trivial⟩⟩
          ·refine pGy hg2 (pF tF61_0 (pGy hg2 ?_))
           refine pLo hO 0 (.int _ _) tA3 (pGy hg2 ?_)
           refine pBi (pGy hg1 ?_)
           refine pPf hg2 (.bool _) ?_
           exact pE ⟨_, St.hav _ ⟨rfl, rfl, by rw [hg2]; rfl, trivial⟩⟩
         ·rintro _ ⟨J, rfl⟩
          refine pGy hg1 (pM (.bool _) ?_)
          refine wpR_mid (l1 := [_, _, _, _]) (fun S' => ∃ J, S' = ⟨hav [(67, .bool (!((aH1.State == (0:Int)) && aH1.Shown))), (80, .bool (((aH1.State == (2:Int)) || (aH1.State == (3:Int))) && !aH1.Shown))] J, G⟩) ?_ ?_
          ·refine bc (b := ((aH1.State == (2:Int)) || (aH1.State == (3:Int)))) (fun hg2 => ?_) (fun hg2 => ?_)
           ·refine pGy hg2 (pF tF61_3 (pGy hg2 ?_))
            refine pLo hO 0 (.bool _) tA4 (pGy hg2 ?_)
            refine pU (pGy hg1 ?_)
            refine pPt hg2 (.bool _) ?_
            exact pE ⟨_, St.hav _ ⟨rfl, by rw [hg2]; rfl, trivial⟩⟩
           ·refine pGn hg2 (pGn hg2 (pGn hg2 (pGy hg1 (pPf hg2 (.bool _) ?_))))
            exact pE ⟨_, St.hav _ ⟨rfl, by rw [hg2]; rfl, trivial⟩⟩
          ·rintro _ ⟨J, rfl⟩
           refine pGy hg1 (pU ?_)
           refine pPt hg1 (.bool _) ?_
           exact pE ⟨_, St.hav _ ⟨by rw [hg1]; rfl, trivial⟩⟩
        ·refine pGn hg1 (pGn hg1 (pGn hg1 (pGn hg1 (pGu (pGu (pGu (pGn hg1 (pGn hg1 (pGu (pGu (pGu (pGn hg1 (pGn hg1 (pPf hg1 (.bool _) ?_))))))))))))))
         exact pE ⟨_, St.hav _ ⟨by rw [hg1]; rfl, trivial⟩⟩
       ·rintro _ ⟨J, rfl⟩
        refine pA (.bool _) (pE (gn (lrt ?_)))
        cases hk; exact fin0 hO
def f63_L1 (aF0 : Frame) (z3 : List Bool) (z5 : List Point) : Int → Option (Int ⊕ Frame) := fun s =>
 (bif decide (s < (aF0.Ways.length : Int)) then ((getI aF0.Ways s).bind fun c14 => ((appB 1 ([] : List Bool) c14.Been).bind fun z16 => ((getI aF0.Ways s).bind fun c18 => some (.inl (w64 (s + (1:Int))))))) else ((some ({ Ok := aF0.Ok, Occ := z3, Points := z5, Ways := aF0.Ways } : Frame)).map Sum.inr))
def f63 (aF0 : Frame) : Option Frame :=
 ((appB 1 ([] : List Bool) aF0.Occ).bind fun z3 => ((appB 16 ([] : List Point) aF0.Points).bind fun z5 => ((appB 56 ([] : List Held) aF0.Ways).bind fun z7 => (loopO (f63_L1 aF0 z3 z5) ((0:Int))))))
theorem f63_run {aF0 : Frame} {r : Frame} {l1 l2 l3 : Nat} {H : Heap} {lk : Lk} (hk : f63 aF0 = some r) (hlk : 0 < lk.length := by simp) : ∃ v H1, runL Try.prog hh 63 [.agg [.bool aF0.Ok, litL l1 0 aF0.Occ, litL l2 0 aF0.Points, litL l3 0 aF0.Ways]] H lk = some (v, H1) ∧ FreshS H r v H1 := by
 refine run_startR Try.func63 rfl Try.ntmps63 Try.results63 rfl rfl ?_
 have hO := Owns.nil H
 unfold f63 at hk
 refine lsq (lrg (pBox (cs := [_, _, _, _]) hO tZ42 (fun b1 G hO => pNew hO tZ42 t042 (fun b2 G hO => pE (gn (lsq ?_))))))
 refine wpL_drw [(0, true), (1, true), (3, true), (4, true), (6, true), (7, true), (2, true), (9, false), (5, true), (8, false), (10, false), (11, false), (12, false), (13, false), (14, false)] [_, _, _, _, _, _, _, _, _, _, _, _, _, _, _] (by decide +kernel) (by rfl) ?_
 refine pFL tF42_1 hO 1 (.lit _ _ _) tA27 ?_
 refine pFL tF42_2 hO 1 (.lit _ _ _) tA39 ?_
 refine pFL tF42_3 hO 1 (.lit _ _ _) tA40 (bk hk fun z3 hz3 hk => ?_)
 refine pCloneT (xs := aF0.Occ) hO hz3 Try.func82 tC82 tE27 tZ4 tB4 t04 (fun u4 F4 G hO => ?_)
 refine pF tF42_1 (bk hk fun z5 hz5 hk => ?_)
 refine pCloneT (xs := aF0.Points) hO hz5 Try.func83 tC83 tE39 tZ58 tB58 t058 (fun u6 F6 G hO => bk hk fun z7 hz7 hk => ?_)
 refine pCloneH (xs := aF0.Ways) hO hz7 Try.func84 tC84 tE40 tZ61 tB61 t061 (fun u8 F8 G hO => ?_)
 have hc9 := tl_cells hO (j := 2) rfl
 refine pSt (xs := [_]) hO 4 tZ27 rfl (fun G hO => ?_) (h3 := hc9.1) (h6 := one_cell hc9.2)
 refine pF tF42_2 ?_
 have hc10 := tl_cells hO (j := 1) rfl
 refine pSt (xs := [_]) hO 4 tZ39 rfl (fun G hO => ?_) (h3 := hc10.1) (h6 := one_cell hc10.2)
 refine pF tF42_3 ?_
 have hc11 := mix_cells hO (j := 0) rfl
 refine pSt (xs := [_]) hO 4 tZ40 rfl (fun G hO => ?_) (h3 := hc11.1) (h6 := one_cell hc11.2)
 refine pE (gn (lsq (lsq (lrg (pFL tF42_3 hO 4 u8 tA40 ?_)))))
 refine pLenM hO 0 tS40 ?_
 refine pM (.int _ _) (pE (gn (lbl ?_)))
 refine wpL_loopO (F := f63_L1 aF0 z3 z5) (fun s S' => ∃ (F12 : List Nat) (J : Nat → V) (G : Heap), Owns H G [Mix F12 aF0.Ways u8 s.toNat, Tree [] F6 z5 [u6], Tree [] F4 z3 [u4], .blk b2 (.cells 4 [.bool false, (.tl 0 []), (.tl 0 []), (.tl 0 [])]), .blk b1 (.cells 4 [.bool aF0.Ok, u4, u6, u8])] ∧ S' = ⟨hav [(1, .ptr b1 0), (2, .ptr b2 0), (18, .int .i64 (aF0.Ways.length : Int)), (19, .int .i64 s)] J, G⟩) hk ⟨F8, _, _, hO, sh⟩ ?_
 rintro x13 _ y1 ⟨F12, J, G, hO, rfl⟩ hk hx1
 refine lsq (lrg (pBi (pE (gn (lsq ?_)))))
 refine lcd (b := decide (x13 < (aF0.Ways.length : Int))) (fun hb => ?_) (fun hb => ?_)
 ·replace hk := ct hb hk
  refine lsk (gn (lsq (lbl (lsq (lrg (pM (.int _ _) ?_))))))
  refine pA (.int _ _) (pE (gn ?_))
  refine wpL_drw [(0, true), (1, true), (2, true), (3, true), (4, true), (5, true), (6, true), (7, true), (8, true), (9, true), (10, false), (11, false), (12, false)] [_, _, _, _, _, _, _, _, _, _, _, _, _] (by decide +kernel) (by rfl) ?_
  refine pFL tF42_3 hO 4 u8 tA40 ?_
  refine pM (.int _ _) ?_
  refine pFL tF42_3 hO 4 u8 tA40 ?_
  refine pM (.int _ _) (bk hk fun c14 hc14 hk => ?_)
  refine pXH hO 0 hc14 tE40 tZ61 (fun b15 hb15 => ?_)
  refine pF tF61_2 ?_
  refine pLH (off := 2) hO 0 hb15 hc14 tA27 ?_ (w := litL 0 0 c14.Been)
  refine bk hk fun z16 hz16 hk => pCloneT (xs := c14.Been) hO hz16 Try.func82 tC82 tE27 tZ4 tB4 t04 (fun u17 F17 G hO => bk hk fun c18 hc18 hk => ?_)
  refine pXH hO 1 hc18 tE40 tZ61 (fun b19 hb19 => ?_)
  refine pF tF61_2 ?_
  have hqc : z16 = c18.Been := (appB_nil hz16).trans (congrArg Held.Been (Option.some.inj (hc14.symm.trans hc18)))
  rw [hqc] at hO
  replace hO : Owns H G (Tree [] F17 c18.Been [u17] :: [Mix F12 aF0.Ways u8 x13.toNat, Tree [] F6 z5 [u6], Tree [] F4 z3 [u4], .blk b2 (.cells 4 [.bool false, (.tl 0 []), (.tl 0 []), (.tl 0 [])]), .blk b1 (.cells 4 [.bool aF0.Ok, u4, u6, u8])]) := hO
  refine pSH hO 0 hb19 hc18 tZ27 rfl (fun G F h => TrE.pairL (c18.State : Int) (TrE.pairL (c18.Gone : Int) (TrE.pairR ((c18.Shown, c18.Timer) : Bool × Int) h))) rfl (fun G hO => pE (bn (gn (lrg ?_))))
  refine pBi ?_
  refine pM (.int _ _) (pE (gn ?_))
  replace hO := hO.mixTo (j := 0) rfl (w64_next hz7 hc18)
  cases hk; exact ⟨_, rfl, (F12 ++ F17), _, _, hO, sh⟩
 ·replace hk := cf hb hk
  refine lex (ge (ge (be (gn (have hk := lx hx1 hk; lsq (lrg ?_))))))
  replace hO := hO.mixDone (j := 0) rfl (mix_le hb)
  refine pLs hO 4 [_, _, _, _] tA42 tZ42 ?_
  have hc20 := tl_cells hO (j := 2) rfl
  have hc21 := tl_cells hO (j := 1) rfl
  have hc22 := tl_cells hO (j := 0) rfl
  refine pSt (xs := [_, _, _, _]) hO 3 tZ42 rfl (fun G hO => ?_) (h6 := (all_c rfl (all_c hc20.2 (all_c hc21.2 (all_c hc22.2 all_n)))))
  refine pE (gn (lrt ?_))
  replace hk := Option.some.inj hk; subst hk; exact finThS hO (th_Frame (x := ({ Ok := aF0.Ok, Occ := z3, Points := z5, Ways := aF0.Ways } : Frame)) (th_pair (c1 := [_]) (th_bool aF0.Ok) (th_pair (c1 := [_]) (th_tree (x := z3) 2) (th_pair (c1 := [_]) (th_tree (x := z5) 1) (th_tree (x := aF0.Ways) 0))))) (resS hO 3 [_, _, _, _] tA42 tZ42 resN)
def f69 (aW0 : Way) : Option (List Turn) :=
 ((appB 16 ([] : List Turn) aW0.Lies).bind fun z2 => ((appB 16 z2 aW0.Flanks).bind fun z4 => some z4))
theorem f69_run {aW0 : Way} {r : (List Turn)} {l1 l2 l3 l4 l5 : Nat} {H : Heap} {lk : Lk} (hk : f69 aW0 = some r) (hlk : 0 < lk.length := by simp) : runL Try.prog hh 69 [.agg [litL l1 0 aW0.Sections, litL l2 0 aW0.Lies, litL l3 0 aW0.Flanks, litL l4 0 aW0.Over, litL l5 0 aW0.Near]] H lk = some (litL 0 0 r, H) := by
 refine run_start Try.func69 rfl Try.ntmps69 Try.results69 rfl rfl fun hO => ?_
 unfold f69 at hk
 refine lsq (lrg (pBox (cs := [_, _, _, _, _]) hO tZ89 (fun b1 G hO => ?_)))
 refine pA (.tl 0 []) (pE (gn (lsq ?_)))
 refine wpL_drw [(0, true), (1, true), (3, true), (4, true), (2, true), (5, false), (6, false)] [_, _, _, _, _, _, _] (by decide +kernel) (by rfl) ?_
 refine pFL tF89_1 hO 0 (.lit _ _ _) tA87 ?_
 refine pFL tF89_2 hO 0 (.lit _ _ _) tA87 (bk hk fun z2 hz2 hk => ?_)
 refine pClone (xs := aW0.Lies) hO hz2 Try.func89 tC89 tE87 tZ102 tB102 t0102 (fun o2 G hno2 hO => bk hk fun z4 hz4 hk => ?_)
 refine pAp (xs := z2) hO 0 hz4 (bears_lit _ aW0.Flanks) tE87 tZ102 tB102 t0102 tE87 rfl (fun o4 G hno4 hO => ?_)
 refine pA o4 (pE (gn (lrt ?_)))
 replace hk := Option.some.inj hk; subst hk; exact finZ hO (fz_own (xs := z4) hlk 0) (resT o4 resN)
def f91 (aS0 : Int) (aA1 : Frame) : Option Bool :=
 ((getI aA1.Occ aS0).bind fun c1 => some c1)
theorem f91_run {aS0 : Int} {aA1 : Frame} {r : Bool} {l1 l2 l3 m4 : Nat} {H : Heap} {lk : Lk} {q0 : Nat} (hk : f91 aS0 aA1 = some r) (hq0 : H[q0]? = some (.cells 4 [.bool aA1.Ok, litL l1 0 aA1.Occ, litL l2 0 aA1.Points, litL l3 m4 aA1.Ways])) (hlk : 0 < lk.length := by simp) : runL Try.prog hh 91 [.int .i64 aS0, .ptr q0 0] H lk = some (.bool r, H) := by
 refine run_start Try.func91 rfl Try.ntmps91 Try.results91 rfl rfl fun hO => ?_
 unfold f91 at hk
 refine lsq (lrg (pA (.bool _) (pE (gn (lsq (lrg ?_))))))
 refine pF tF42_1 ?_
 refine pLf (.lit _ _ _) hO hq0 tA27 ?_
 refine pM (.int _ _) (bk hk fun c1 hc1 hk => ?_)
 refine pX hc1 tE27 tZ4 ?_
 refine pLp (.bool _) (rd1 (lm := 0) (off := 0) hc1 tA4) ?_
 refine pA (.bool _) (pE (gn (lrt ?_)))
 cases hk; exact fin0 hO
def f102c91_L1 (aS0 : List Int) (aC1_0 : Frame) : Int → Option (Int ⊕ Int) := fun s =>
 (bif decide (s < (aS0.length : Int)) then ((getI aS0 s).bind fun c2 => ((f91 c2 aC1_0).bind fun v3 => (bif v3 then ((some s).map Sum.inr) else some (.inl (w64 (s + (1:Int))))))) else ((some (-1:Int)).map Sum.inr))
def f102c91 (aS0 : List Int) (aC1_0 : Frame) : Option Int :=
 (loopO (f102c91_L1 aS0 aC1_0) ((0:Int)))
theorem f102c91_run {aS0 : List Int} {aC1_0 : Frame} {r : Int} {l1 l2 l3 l4 m5 : Nat} {H : Heap} {lk : Lk} {q0 : Nat} (hk : f102c91 aS0 aC1_0 = some r) (hq0 : H[q0]? = some (.cells 4 [.bool aC1_0.Ok, litL l2 0 aC1_0.Occ, litL l3 0 aC1_0.Points, litL l4 m5 aC1_0.Ways])) (hlk : 0 < lk.length := by simp) : runL Try.prog hh 102 [litL l1 0 aS0, .fn 91 [.ptr q0 0]] H lk = some (.int .i64 r, H) := by
 refine run_start Try.func102 rfl Try.ntmps102 Try.results102 rfl rfl fun hO => ?_
 unfold f102c91 at hk
 refine lsq (lrg (pA (.int _ _) (pE (gn (lsq (lsq (lrg ?_)))))))
 refine pM (.lit _ _ _) ?_
 refine pLen tS22 ?_
 refine pM (.int _ _) (pE (gn (lbl ?_)))
 refine wpL_loopO (F := f102c91_L1 aS0 aC1_0) (fun s S' => ∃ (J : Nat → V) (G : Heap), Owns H G [] ∧ S' = ⟨hav [(0, litL l1 0 aS0), (1, .fn 91 [.ptr q0 0]), (7, .int .i64 (aS0.length : Int)), (8, .int .i64 s)] J, G⟩) hk ⟨_, _, hO, sh⟩ ?_
 rintro x1 _ y1 ⟨J, G, hO, rfl⟩ hk hx1
 refine lsq (lrg (pBi (pE (gn (lsq (lck hk (fun hk => ?_) (fun hk => ?_)))))))
 ·refine lsk (gn (lsq (lbl (lsq (lrg (pM (.int _ _) ?_))))))
  refine pA (.int _ _) (pE (gn (lsq (lrg ?_))))
  refine pM (.fn _ _) ?_
  refine pM (.lit _ _ _) ?_
  refine pM (.int _ _) (bk hk fun c2 hc2 hk => ?_)
  refine pX hc2 tE22 tZ3 ?_
  refine pLp (.int _ _) (rd1 (lm := 0) (off := 0) hc2 tA3) (bk hk fun v3 hv3 hk => ?_)
  refine pCall (fun _ => f91_run hv3 (own_for hO hq0)) (pE (gn (lck hk (fun hk => ?_) (fun hk => ?_))))
  ·refine lsq (lrg (pM (.int _ _) ?_))
   refine pA (.int _ _) (pE (gn (lrt (br (gr (gr (br (gr (have hk := lx hx1 hk; ?_)))))))))
   cases hk; exact fin0 hO
  ·refine lsk (bn (gn (lrg (pBi ?_))))
   refine pM (.int _ _) (pE (gn ?_))
   cases hk; exact ⟨_, rfl, _, _, hO, sh⟩
 ·refine lex (ge (ge (be (gn (have hk := lx hx1 hk; lsq (lrg (pA (.int _ _) (pE (gn (lrt ?_))))))))))
  cases hk; exact fin0 hO
def f90c91 (aS0 : List Int) (aC1_0 : Frame) : Option Bool :=
 ((f102c91 aS0 aC1_0).bind fun v1 => some (decide (v1 ≥ (0:Int))))
theorem f90c91_run {aS0 : List Int} {aC1_0 : Frame} {r : Bool} {l1 l2 l3 l4 m5 : Nat} {H : Heap} {lk : Lk} {q0 : Nat} (hk : f90c91 aS0 aC1_0 = some r) (hq0 : H[q0]? = some (.cells 4 [.bool aC1_0.Ok, litL l2 0 aC1_0.Occ, litL l3 0 aC1_0.Points, litL l4 m5 aC1_0.Ways])) (hlk : 0 < lk.length := by simp) : runL Try.prog hh 90 [litL l1 0 aS0, .fn 91 [.ptr q0 0]] H lk = some (.bool r, H) := by
 refine run_start Try.func90 rfl Try.ntmps90 Try.results90 rfl rfl fun hO => ?_
 unfold f90c91 at hk
 refine lsq (lrg (pA (.bool _) (pE (gn (lsq (lrg ?_))))))
 refine pM (.lit _ _ _) ?_
 refine pM (.fn _ _) (bk hk fun v1 hv1 hk => ?_)
 refine pCall (fun _ => f102c91_run hv1 (own_for hO hq0)) ?_
 refine pBi ?_
 refine pA (.bool _) (pE (gn (lrt ?_)))
 cases hk; exact fin0 hO
def f70 (aF0 : Frame) (aL1 : List Int) : Option Bool :=
 ((f90c91 aL1 aF0).bind fun v2 => some v2)
theorem f70_run {aF0 : Frame} {aL1 : List Int} {r : Bool} {l1 l2 l3 m4 l5 : Nat} {H : Heap} {lk : Lk} (hk : f70 aF0 aL1 = some r) (hlk : 0 < lk.length := by simp) : runL Try.prog hh 70 [.agg [.bool aF0.Ok, litL l1 0 aF0.Occ, litL l2 0 aF0.Points, litL l3 m4 aF0.Ways], litL l5 0 aL1] H lk = some (.bool r, H) := by
 refine run_start Try.func70 rfl Try.ntmps70 Try.results70 rfl rfl fun hO => ?_
 unfold f70 at hk
 refine lsq (lrg (pBox (cs := [_, _, _, _]) hO tZ42 (fun b1 G hO => ?_)))
 refine pA (.bool _) (pE (gn (lsq (lrg ?_))))
 refine pM (.lit _ _ _) ?_
 refine pFn (vs := [_]) (bk hk fun v2 hv2 hk => ?_)
 refine pCall (fun _ => f90c91_run hv2 (hO.get (k := 0) rfl).1) ?_
 refine pA (.bool _) (pE (gn (lrt ?_)))
 cases hk; exact fin0 hO
def f49_L1 (aF1 : Frame) (c3 : Way) (v5 : (List Turn)) : Int → Option (Int ⊕ Bool) := fun s =>
 (bif decide (s < (v5.length : Int)) then ((getI v5 s).bind fun c7 => ((getI aF1.Points c7.Switch).bind fun c9 => (bif !((c9.Want == c7.Lie) && ((c9.Lies == c7.Lie) && true)) then ((some false).map Sum.inr) else some (.inl (w64 (s + (1:Int))))))) else (((f70 aF1 c3.Sections).bind fun v10 => ((bif !v10 then ((f70 aF1 c3.Over).bind fun v12 => some (!v12)) else some false).bind fun t11 => some t11)).map Sum.inr))
def f49 (aP0 : Plan) (aF1 : Frame) (aWay2 : Int) : Option Bool :=
 ((getI aP0.Ways aWay2).bind fun c3 => ((f69 c3).bind fun v5 => (loopO (f49_L1 aF1 c3 v5) ((0:Int)))))
theorem f49_run {aP0 : Plan} {aF1 : Frame} {aWay2 : Int} {r : Bool} {l1 l2 m3 l4 m5 l6 l7 l8 m9 : Nat} {H : Heap} {lk : Lk} (hk : f49 aP0 aF1 aWay2 = some r) (hlk : 0 < lk.length := by simp) : runL Try.prog hh 49 [.agg [.int .i64 aP0.Sections, litL l1 0 aP0.Switches, litL l2 m3 aP0.Ways, litL l4 m5 aP0.Bars, .int .i64 aP0.Hold], .agg [.bool aF1.Ok, litL l6 0 aF1.Occ, litL l7 0 aF1.Points, litL l8 m9 aF1.Ways], .int .i64 aWay2] H lk = some (.bool r, H) := by
 refine run_start Try.func49 rfl Try.ntmps49 Try.results49 rfl rfl fun hO => ?_
 unfold f49 at hk
 refine lsq (lrg (pBox (cs := [_, _, _, _, _]) hO tZ37 (fun b1 G hO => ?_)))
 refine pBox (cs := [_, _, _, _]) hO tZ42 (fun b2 G hO => ?_)
 refine pA (.bool _) (pE (gn (lsq (lrg ?_))))
 refine pFL tF37_2 hO 1 (.lit _ _ _) tA35 ?_
 refine pM (.int _ _) (bk hk fun c3 hc3 hk => ?_)
 refine pX hc3 tE35 tZ89 ?_
 refine pLp (.agg [_, _, _, _, _]) (rd2 (lm := m3) (off := 0) hc3 tA89 tZ89) (pNew hO tZ89 t089 (fun b4 G hO => ?_))
 refine pSt (xs := [_, _, _, _, _]) hO 0 tZ89 rfl (fun G hO => pE (gn (lsq (lsq (lrg ?_)))))
 refine pLs hO 0 [_, _, _, _, _] tA89 tZ89 (bk hk fun v5 hv5 hk => ?_)
 refine pCall (fun _ => f69_run hv5) ?_
 refine pLen tS87 ?_
 refine pM (.int _ _) (pE (gn (lbl ?_)))
 refine wpL_loopO (F := f49_L1 aF1 c3 v5) (fun s S' => ∃ (J : Nat → V) (G : Heap), Owns H G [.blk b4 (.cells 5 [litL m3 0 c3.Sections, litL m3 0 c3.Lies, litL m3 0 c3.Flanks, litL m3 0 c3.Over, litL m3 0 c3.Near]), .blk b2 (.cells 4 [.bool aF1.Ok, litL l6 0 aF1.Occ, litL l7 0 aF1.Points, litL l8 m9 aF1.Ways])] ∧ S' = ⟨hav [(4, .ptr b2 0), (7, .ptr b4 0), (16, litL 0 0 v5), (17, .int .i64 (v5.length : Int)), (18, .int .i64 s)] J, G⟩) hk ⟨_, _, (pk hO [0, 1]), sh⟩ ?_
 rintro x6 _ y1 ⟨J, G, hO, rfl⟩ hk hx1
 refine lsq (lrg (pBi (pE (gn (lsq (lck hk (fun hk => ?_) (fun hk => ?_)))))))
 ·refine lsk (gn (lsq (lbl (lsq (lrg (bk hk fun c7 hc7 hk => pX hc7 tE87 tZ102 ?_))))))
  refine pLp (.agg [_, _]) (rd2 (lm := 0) (off := 0) hc7 tA102 tZ102) (pNew hO tZ102 t0102 (fun b8 G hO => ?_))
  refine pSt (xs := [_, _]) hO 0 tZ102 rfl (fun G hO => pE (gn (lsq ?_)))
  refine wpL_drw [(0, true), (1, true), (2, true), (3, true), (4, true), (5, true), (6, true), (7, true), (8, true), (9, true), (10, true), (11, false)] [_, _, _, _, _, _, _, _, _, _, _, _] (by decide +kernel) (by rfl) ?_
  refine pFL tF42_2 hO 2 (.lit _ _ _) tA39 ?_
  refine pFL tF102_0 hO 0 (.int _ _) tA3 (bk hk fun c9 hc9 hk => ?_)
  refine pX hc9 tE39 tZ58 ?_
  refine pLp (.agg [_, _]) (rd2 (lm := 0) (off := 0) hc9 tA58 tZ58) ?_
  refine pFL tF102_1 hO 0 (.int _ _) tA3 ?_
  refine pFL tF102_1 hO 0 (.int _ _) tA3 ?_
  refine pBd [_, _] t058 tP58 ?_
  refine pGne tG58 (eqc (eqi _ _ _) (eqc (eqi _ _ _) (rfl))) (pE (gn (lck hk (fun hk => ?_) (fun hk => ?_))))
  ·refine lsq (lrg (pA (.bool _) (pE (gn (lrt (br (gr (gr (br (gr (have hk := lx hx1 hk; ?_)))))))))))
   cases hk; exact fin0 hO
  ·refine lsk (bn (gn (lrg (pBi ?_))))
   refine pM (.int _ _) (pE (gn ?_))
   cases hk; exact ⟨_, rfl, _, _, (pk hO [1, 2]), sh⟩
 ·refine lex (ge (ge (be (gn (have hk := lx hx1 hk; lsq (lrg (pLs hO 1 [_, _, _, _] tA42 tZ42 ?_)))))))
  refine pFL tF89_0 hO 0 (.lit _ _ _) tA22 (bk hk fun v10 hv10 hk => ?_)
  refine pCall (fun _ => f70_run hv10) ?_
  refine pU ?_
  refine pM (.bool _) (bk hk fun t11 ht hk => ?_)
  refine wpR_mid (l1 := [_, _, _, _, _, _]) (fun S' => ∃ J, S' = ⟨hav [(46, .bool t11)] J, G⟩) ?_ ?_
  ·refine bc (b := !v10) (fun hg1 => ?_) (fun hg1 => ?_)
   ·replace hk := ct hg1 ht
    refine pGy hg1 (pLs hO 1 [_, _, _, _] tA42 tZ42 (pGy hg1 ?_))
    refine pF tF89_3 (pGy hg1 ?_)
    refine pLo hO 0 (.lit _ _ _) tA22 (pGy hg1 (bk hk fun v12 hv12 hk => ?_))
    refine pCall (fun _ => f70_run hv12) (pGy hg1 ?_)
    refine pU ?_
    refine pPt hg1 (.bool _) ?_
    cases hk; exact pE ⟨_, sh⟩
   ·replace hk := cf hg1 ht
    refine pGn hg1 (pGn hg1 (pGn hg1 (pGn hg1 (pGn hg1 (pPf hg1 (.bool _) ?_)))))
    cases hk; exact pE ⟨_, sh⟩
  ·rintro _ ⟨J, rfl⟩
   refine pA (.bool _) (pE (gn (lrt ?_)))
   cases hk; exact fin0 hO
def f85 (aW0 : Way) : Option Held :=
 ((makeB 1 (aW0.Sections.length : Int)).bind fun m3 => some ({ State := 0, Gone := 0, Been := List.replicate m3 (false : Bool), Shown := false, Timer := 0 } : Held))
theorem f85_run {aW0 : Way} {r : Held} {l1 l2 l3 l4 l5 : Nat} {H : Heap} {lk : Lk} (hk : f85 aW0 = some r) (hlk : 0 < lk.length := by simp) : ∃ v H1, runL Try.prog hh 85 [.agg [litL l1 0 aW0.Sections, litL l2 0 aW0.Lies, litL l3 0 aW0.Flanks, litL l4 0 aW0.Over, litL l5 0 aW0.Near]] H lk = some (v, H1) ∧ FreshS H r v H1 := by
 refine run_startR Try.func85 rfl Try.ntmps85 Try.results85 rfl rfl ?_
 have hO := Owns.nil H
 unfold f85 at hk
 refine lsq (lrg (pBox (cs := [_, _, _, _, _]) hO tZ89 (fun b1 G hO => pNew hO tZ61 t061 (fun b2 G hO => pE (gn (lsq (lrg ?_)))))))
 refine pFL tF89_0 hO 1 (.lit _ _ _) tA22 ?_
 refine pLen tS22 (bk hk fun m3 hm3 hk => ?_)
 refine pMk hO hm3 (false : Bool) tE27 tZ4 tB4 t04 (fun b4 G hO => ?_)
 refine pBd [_, _, _, _, _] t061 tP61 ?_
 refine pSt (xs := [_, _, _, _, _]) hO 1 tZ61 rfl (fun G hO => pE (gn (lrt ?_)))
 replace hk := Option.some.inj hk; subst hk; exact finThS hO (th_Held (x := ({ State := 0, Gone := 0, Been := List.replicate m3 (false : Bool), Shown := false, Timer := 0 } : Held)) (th_pair (c1 := [_]) (th_int 0) (th_pair (c1 := [_]) (th_int 0) (th_pair (c1 := [_]) (th_made (xs := (List.replicate m3 (false : Bool))) List.length_replicate hlk 0) (th_pair (c1 := [_]) (th_bool false) (th_int 0)))))) (resS hO 1 [_, _, _, _, _] tA61 tZ61 resN)
def f64_k2 (x4 : Int) (x5 : List Held) : Option (((List Held) × Int) ⊕ Frame) :=
 some (.inl (x5, w64 (x4 + (1:Int))))
def f64_L6 (aF1 : Frame) (x4 : Int) (c9 : Way) : ((List Held) × Held) → Option (((List Held) × Held) ⊕ (((List Held) × Int) ⊕ Frame)) := fun s =>
 ((bif decide (s.2.Gone < (c9.Sections.length : Int)) then ((getI s.2.Been s.2.Gone).bind fun c46 => some c46) else some false).bind fun t44 => ((bif t44 then ((getI c9.Sections s.2.Gone).bind fun c49 => ((getI aF1.Occ c49).bind fun c50 => some (!c50))) else some false).bind fun t48 => ((bif t48 then ((bif (s.2.Gone == (w64 ((c9.Sections.length : Int) - (1:Int)))) then some true else ((getI s.2.Been (w64 (s.2.Gone + (1:Int)))).bind fun c55 => some c55)).bind fun t53 => some t53) else some false).bind fun t52 => (bif t52 then some (.inl (s.1.set x4.toNat ({ s.2 with Gone := w64 (s.2.Gone + (1:Int)) }), ({ s.2 with Gone := w64 (s.2.Gone + (1:Int)) } : Held))) else ((bif (s.2.Gone == (c9.Sections.length : Int)) then ((f85 c9).bind fun v58 => (f64_k2 x4 (s.1.set x4.toNat v58))) else (f64_k2 x4 s.1)).map Sum.inr)))))
def f64_L5 (aF1 : Frame) (x4 : Int) (c9 : Way) : ((List Held) × Held × Int) → Option (((List Held) × Held × Int) ⊕ (((List Held) × Int) ⊕ Frame)) := fun s =>
 (bif decide (s.2.2 < (c9.Sections.length : Int)) then ((getI c9.Sections s.2.2).bind fun c29 => ((getI s.2.1.Been s.2.2).bind fun c32 => ((bif c32 then some true else ((getI aF1.Occ c29).bind fun c35 => some c35)).bind fun t34 => ((getI s.2.1.Been s.2.2).bind fun c37 => some (.inl (s.1.set x4.toNat ({ s.2.1 with Been := s.2.1.Been.set s.2.2.toNat t34 }), ({ s.2.1 with Been := s.2.1.Been.set s.2.2.toNat t34 } : Held), w64 (s.2.2 + (1:Int)))))))) else ((loopO (f64_L6 aF1 x4 c9) (s.1, s.2.1)).map Sum.inr))
def f64_k4 (aP0 : Plan) (aF1 : Frame) (x4 : Int) (c9 : Way) (x11 : List Held) (c13 : Held) (x16 : Bool) : Option (((List Held) × Int) ⊕ Frame) :=
 (bif x16 then ((f49 aP0 ({ Ok := aF1.Ok, Occ := aF1.Occ, Points := aF1.Points, Ways := x11.set x4.toNat ({ c13 with State := (1:Int) }) } : Frame) x4).bind fun v18 => (bif v18 then (f64_k2 x4 (((x11.set x4.toNat ({ c13 with State := (1:Int) })).set x4.toNat ({ ({ c13 with State := (1:Int) } : Held) with State := (2:Int) })).set x4.toNat ({ ({ ({ c13 with State := (1:Int) } : Held) with State := (2:Int) } : Held) with Shown := true }))) else (f64_k2 x4 (x11.set x4.toNat ({ c13 with State := (1:Int) }))))) else (bif (c13.State == (4:Int)) then (loopO (f64_L5 aF1 x4 c9) (x11, c13, (0:Int))) else (f64_k2 x4 x11)))
def f64_k3 (aP0 : Plan) (aF1 : Frame) (x4 : Int) (c9 : Way) (x11 : List Held) (c13 : Held) : Option (((List Held) × Int) ⊕ Frame) :=
 (bif (c13.State == (1:Int)) then (f64_k4 aP0 aF1 x4 c9 x11 c13 (c13.State == (1:Int))) else (f64_k4 aP0 aF1 x4 c9 x11 c13 (c13.State == (2:Int))))
def f64_L1 (aP0 : Plan) (aF1 : Frame) : ((List Held) × Int) → Option (((List Held) × Int) ⊕ Frame) := fun s =>
 (bif decide (s.2 < (aF1.Ways.length : Int)) then ((getI s.1 s.2).bind fun c7 => ((getI aP0.Ways s.2).bind fun c9 => (bif (c7.State == (0:Int)) then (f64_k2 s.2 s.1) else ((bif (c7.State != (4:Int)) then ((getI c9.Sections (0:Int)).bind fun c61 => ((getI aF1.Occ c61).bind fun c62 => some c62)) else some false).bind fun t60 => (bif t60 then (f64_k3 aP0 aF1 s.2 c9 ((s.1.set s.2.toNat ({ c7 with State := (4:Int) })).set s.2.toNat ({ ({ c7 with State := (4:Int) } : Held) with Timer := (0:Int) })) ({ ({ c7 with State := (4:Int) } : Held) with Timer := (0:Int) } : Held)) else (f64_k3 aP0 aF1 s.2 c9 s.1 c7)))))) else ((some ({ Ok := aF1.Ok, Occ := aF1.Occ, Points := aF1.Points, Ways := s.1 } : Frame)).map Sum.inr))
def f64 (aP0 : Plan) (aF1 : Frame) : Option Frame :=
 (loopO (f64_L1 aP0 aF1) (aF1.Ways, (0:Int)))
theorem f64_run {aP0 : Plan} {aF1 : Frame} {r : Frame} {l1 l2 m3 l4 m5 : Nat} {q0 : Nat} {vp1 vp2 vp3 : V} {S0 Fp1 Fp2 Fp3 : List Nat} {H : Heap} {lk : Lk} (hk : f64 aP0 aF1 = some r) (hO : Owns H H [.fblk S0 q0 (.cells 4 [.bool aF1.Ok, vp1, vp2, vp3]), Tree S0 Fp1 aF1.Occ [vp1], Tree S0 Fp2 aF1.Points [vp2], Tree S0 Fp3 aF1.Ways [vp3]]) (hS : ∀ b ∈ S0, unlocked lk b = true) (hlt : ∀ b ∈ S0, b < H.length) (hlo : LkOk lk H.length) (hlk : 0 < lk.length := by simp) : ∃ v H1, runL Try.prog hh 64 [.agg [.int .i64 aP0.Sections, litL l1 0 aP0.Switches, litL l2 m3 aP0.Ways, litL l4 m5 aP0.Bars, .int .i64 aP0.Hold], .ptr q0 0] H lk = some (v, H1) ∧ v = .tup [] ∧ ∃ (Fs : List Nat × List Nat × List Nat) (Hm : Heap), Sees H Hm (S0) ∧ Owns Hm H1 [.fblk S0 q0 (.cells 4 [.bool r.Ok, vp1, vp2, vp3]), Tree S0 Fs.1 r.Occ [vp1], Tree S0 Fs.2.1 r.Points [vp2], Tree S0 Fs.2.2 r.Ways [vp3]] := by
 refine run_startR Try.func64 rfl Try.ntmps64 Try.results64 rfl rfl ?_
 have hFr := Sees.refl H (S0)
 unfold f64 at hk
 have hq := (List.getElem?_eq_some_iff.1 (hO.getF (k := 0) rfl).1).1
 refine lsq (lrg (pBox (cs := [_, _, _, _, _]) hO tZ37 (fun b1 G hO => pE (gn (lsq (lrg ?_))))))
 refine pM (.ptr _ _) ?_
 refine pNil ?_
 refine pF tF42_3 ?_
 refine pLr hO 1 vp3 tA40 ?_
 refine pLenT hO 4 tS40 ?_
 refine pM (.int _ _) (pE (gn (lbl ?_)))
 refine wpL_loopO (F := f64_L1 aP0 aF1) (fun s S' => ∃ (F3 : List Nat) (J : Nat → V) (G : Heap) (H1 : Heap), Sees H H1 S0 ∧ Owns H1 G [.blk b1 (.cells 5 [.int .i64 aP0.Sections, litL l1 0 aP0.Switches, litL l2 m3 aP0.Ways, litL l4 m5 aP0.Bars, .int .i64 aP0.Hold]), .fblk S0 q0 (.cells 4 [.bool aF1.Ok, vp1, vp2, vp3]), Tree S0 Fp1 aF1.Occ [vp1], Tree S0 Fp2 aF1.Points [vp2], Tree S0 F3 s.1 [vp3]] ∧ S' = ⟨hav [(1, .ptr q0 0), (2, .ptr b1 0), (13, .int .i64 (aF1.Ways.length : Int)), (14, .int .i64 s.2)] J, G⟩) hk ⟨Fp3, _, _, _, hFr, hO, sh⟩ ?_
 rintro ⟨x2, x4⟩ _ y1 ⟨F3, J, G, H1, hFr, hO, rfl⟩ hk hx1
 refine lsq (lrg (pBi (pE (gn (lsq (lck hk (fun hk => ?_) (fun hk => ?_)))))))
 ·refine lsk (gn (wpL_mid (fun S' => ∃ (x5 : List Held) (F6 : List Nat) (J : Nat → V) (G : Heap) (H1 : Heap), f64_k2 x4 x5 = some y1 ∧ Sees H H1 S0 ∧ Owns H1 G [.blk b1 (.cells 5 [.int .i64 aP0.Sections, litL l1 0 aP0.Switches, litL l2 m3 aP0.Ways, litL l4 m5 aP0.Bars, .int .i64 aP0.Hold]), .fblk S0 q0 (.cells 4 [.bool aF1.Ok, vp1, vp2, vp3]), Tree S0 Fp1 aF1.Occ [vp1], Tree S0 Fp2 aF1.Points [vp2], Tree S0 F6 x5 [vp3]] ∧ S' = ⟨hav [(1, .ptr q0 0), (2, .ptr b1 0), (13, .int .i64 (aF1.Ways.length : Int)), (14, .int .i64 x4)] J, G⟩) ?_ ?_))
  ·refine lbl (lsq (lrg (pM (.int _ _) ?_)))
   refine pA (.int _ _) (pE (gn (lsq (lrg ?_))))
   refine pM (.ptr _ _) ?_
   refine pNil ?_
   refine pF tF42_3 ?_
   refine pLr hO 1 vp3 tA40 ?_
   refine pM (.int _ _) (bk hk fun c7 hc7 hk => ?_)
   refine pXT hO 4 hc7 tE40 tZ61 (fun b8 hb8 => ?_)
   refine pA (.ptr _ _) (pE (gn (lsq (lrg ?_))))
   refine pFL tF37_2 hO 0 (.lit _ _ _) tA35 ?_
   refine pM (.int _ _) (bk hk fun c9 hc9 hk => ?_)
   refine pX hc9 tE35 tZ89 ?_
   refine pLp (.agg [_, _, _, _, _]) (rd2 (lm := m3) (off := 0) hc9 tA89 tZ89) (pNew hO tZ89 t089 (fun b10 G hO => ?_))
   refine pSt (xs := [_, _, _, _, _]) hO 0 tZ89 hFr.1.symm (fun G hO => pE (gn (lsq (lsq (lrg ?_)))))
   refine pM (.ptr _ _) ?_
   refine pNil ?_
   refine pF tF61_0 ?_
   refine pLTv foc_Held_State (.int _ _) hO 5 hb8 hc7 tA3 ?_
   refine pBi (pE (gn (lck hk (fun hk => ?_) (fun hk => ?_))))
   ·exact lex (ge (be (gn (⟨x2, F3, _, _, _, hk, hFr, (pk hO [1, 2, 3, 4, 5]), sh⟩))))
   ·refine lsk (gn (wpL_mid (fun S' => ∃ (x11 : List Held) (c13 : Held) (F12 : List Nat) (J : Nat → V) (G : Heap) (H1 : Heap), f64_k3 aP0 aF1 x4 c9 x11 c13 = some y1 ∧ getI x11 x4 = some c13 ∧ vp3 = .sl b8 0 x11.length ∧ Sees H H1 S0 ∧ Owns H1 G [.blk b10 (.cells 5 [litL m3 0 c9.Sections, litL m3 0 c9.Lies, litL m3 0 c9.Flanks, litL m3 0 c9.Over, litL m3 0 c9.Near]), .blk b1 (.cells 5 [.int .i64 aP0.Sections, litL l1 0 aP0.Switches, litL l2 m3 aP0.Ways, litL l4 m5 aP0.Bars, .int .i64 aP0.Hold]), .fblk S0 q0 (.cells 4 [.bool aF1.Ok, vp1, vp2, vp3]), Tree S0 Fp1 aF1.Occ [vp1], Tree S0 Fp2 aF1.Points [vp2], Tree S0 F12 x11 [vp3]] ∧ S' = ⟨hav [(1, .ptr q0 0), (2, .ptr b1 0), (4, .int .i64 x4), (5, .ptr b8 (x4.toNat * 5)), (6, .ptr b10 0), (13, .int .i64 (aF1.Ways.length : Int)), (14, .int .i64 x4)] J, G⟩) ?_ ?_))
    ·refine lsq (wpL_drw [(0, false), (1, false), (2, false), (3, true), (4, false), (5, false), (6, true), (7, true), (8, true), (9, true), (10, true), (11, true), (12, true), (13, true), (14, false), (15, true), (16, false)] [_, _, _, _, _, _, _, _, _, _, _, _, _, _, _, _, _] (by decide +kernel) (by rfl) ?_)
     refine pM (.ptr _ _) ?_
     refine pNil ?_
     refine pF tF61_0 ?_
     refine pLTv foc_Held_State (.int _ _) hO 5 hb8 hc7 tA3 ?_
     refine pBi ?_
     refine pM (.bool _) (bk hk fun t60 ht hk => ?_)
     refine wpR_mid (l1 := [_, _, _, _, _, _, _, _, _, _, _]) (fun S' => ∃ J, S' = ⟨hav [(1, .ptr q0 0), (2, .ptr b1 0), (4, .int .i64 x4), (5, .ptr b8 (x4.toNat * 5)), (6, .ptr b10 0), (13, .int .i64 (aF1.Ways.length : Int)), (14, .int .i64 x4), (49, .bool t60)] J, G⟩) ?_ ?_
     ·refine bc (b := (c7.State != (4:Int))) (fun hg1 => ?_) (fun hg1 => ?_)
      ·replace hk := ct hg1 ht
       refine pGy hg1 (pM (.ptr _ _) (pGy hg1 ?_))
       refine pNil (pGy hg1 ?_)
       refine pF tF42_1 (pGy hg1 ?_)
       refine pLr hO 2 vp1 tA27 (pGy hg1 ?_)
       refine pF tF89_0 (pGy hg1 ?_)
       refine pLo hO 0 (.lit _ _ _) tA22 (pGy hg1 (bk hk fun c61 hc61 hk => ?_))
       refine pX hc61 tE22 tZ3 (pGy hg1 ?_)
       refine pLp (.int _ _) (rd1 (lm := 0) (off := 0) hc61 tA3) (pGy hg1 (bk hk fun c62 hc62 hk => ?_))
       refine pXT hO 3 hc62 tE27 tZ4 (fun b63 hb63 => pGy hg1 ?_)
       refine pLTv (Foc.all (α := Bool)) (.bool _) hO 3 hb63 hc62 tA4 ?_
       refine pPt hg1 (.bool _) ?_
       cases hk; exact pE ⟨_, sh⟩
      ·replace hk := cf hg1 ht
       refine pGn hg1 (pGn hg1 (pGn hg1 (pGn hg1 (pGn hg1 (pGn hg1 (pGn hg1 (pGn hg1 (pGn hg1 (pGn hg1 (pPf hg1 (.bool _) ?_))))))))))
       cases hk; exact pE ⟨_, sh⟩
     ·rintro _ ⟨J, rfl⟩
      refine pE (gn (lck hk (fun hk => ?_) (fun hk => ?_)))
      ·refine lrg (pM (.ptr _ _) ?_)
       refine pM (.ptr _ _) ?_
       refine pNil ?_
       refine pF tF61_0 ?_
       refine pSTr foc_Held_State (y' := (4:Int)) hO 5 hb8 hc7 tZ3 (fun _ => ⟨rfl, rfl⟩) hFr hS rfl (fun H1 G hFr hO => ?_)
       have hc_64 := getI_set hc7 ({ c7 with State := (4:Int) } : Held)
       have hv_64 := sl_set (j := x4.toNat) (y := ({ c7 with State := (4:Int) } : Held)) hb8
       refine pNil ?_
       refine pF tF61_4 ?_
       refine pSTr foc_Held_Timer (y' := (0:Int)) hO 5 hv_64 hc_64 tZ3 (fun _ => ⟨rfl, rfl⟩) hFr hS rfl (fun H1 G hFr hO => ?_)
       have hc_65 := getI_set hc_64 ({ ({ c7 with State := (4:Int) } : Held) with Timer := (0:Int) } : Held)
       have hv_65 := sl_set (j := x4.toNat) (y := ({ ({ c7 with State := (4:Int) } : Held) with Timer := (0:Int) } : Held)) hv_64
       exact pE (gn (⟨(x2.set x4.toNat ({ c7 with State := (4:Int) })).set x4.toNat ({ ({ c7 with State := (4:Int) } : Held) with Timer := (0:Int) }), ({ ({ c7 with State := (4:Int) } : Held) with Timer := (0:Int) } : Held), F3, _, _, _, hk, hc_65, hv_65, hFr, hO, sh⟩))
      ·exact lsk (gn (⟨x2, c7, F3, _, _, _, hk, hc7, hb8, hFr, hO, sh⟩))
    ·rintro _ ⟨x11, c13, F12, J, G, H1, hk, hc13, hv14, hFr, hO, rfl⟩
     refine lsq (lrg (pM (.ptr _ _) ?_))
     refine pNil ?_
     refine pF tF61_0 ?_
     refine pLTv foc_Held_State (.int _ _) hO 5 hv14 hc13 tA3 (pE (gn (lbl ?_)))
     refine wpL_mid (fun S' => ∃ (x16 : Bool) (F15 : List Nat) (J : Nat → V) (G : Heap) (H1 : Heap), f64_k4 aP0 aF1 x4 c9 x11 c13 x16 = some y1 ∧ getI x11 x4 = some c13 ∧ vp3 = .sl b8 0 x11.length ∧ Sees H H1 S0 ∧ Owns H1 G [.blk b10 (.cells 5 [litL m3 0 c9.Sections, litL m3 0 c9.Lies, litL m3 0 c9.Flanks, litL m3 0 c9.Over, litL m3 0 c9.Near]), .blk b1 (.cells 5 [.int .i64 aP0.Sections, litL l1 0 aP0.Switches, litL l2 m3 aP0.Ways, litL l4 m5 aP0.Bars, .int .i64 aP0.Hold]), .fblk S0 q0 (.cells 4 [.bool aF1.Ok, vp1, vp2, vp3]), Tree S0 Fp1 aF1.Occ [vp1], Tree S0 Fp2 aF1.Points [vp2], Tree S0 F15 x11 [vp3]] ∧ S' = ⟨hav [(1, .ptr q0 0), (2, .ptr b1 0), (4, .int .i64 x4), (5, .ptr b8 (x4.toNat * 5)), (6, .ptr b10 0), (13, .int .i64 (aF1.Ways.length : Int)), (14, .int .i64 x4), (59, .int .i64 c13.State), (60, .bool x16)] J, G⟩) ?_ ?_
     ·refine lsq (lrg (pBi ?_))
      refine pA (.bool _) (pE (gn (lck hk (fun hk => ?_) (fun hk => ?_))))
      ·exact lsk (gn (⟨(c13.State == (1:Int)), F12, _, _, _, hk, hc13, hv14, hFr, hO, sh⟩))
      ·refine lrg (pBi ?_)
       refine pA (.bool _) (pE (gn ?_))
       exact ⟨(c13.State == (2:Int)), F12, _, _, _, hk, hc13, hv14, hFr, hO, sh⟩
     ·rintro _ ⟨x16, F15, J, G, H1, hk, hc13, hv14, hFr, hO, rfl⟩
      refine lck hk (fun hk => ?_) (fun hk => ?_)
      ·refine lsq (lrg (pM (.ptr _ _) ?_))
       refine pNil ?_
       refine pF tF61_0 ?_
       refine pSTr foc_Held_State (y' := (1:Int)) hO 5 hv14 hc13 tZ3 (fun _ => ⟨rfl, rfl⟩) hFr hS rfl (fun H1 G hFr hO => ?_)
       have hc_17 := getI_set hc13 ({ c13 with State := (1:Int) } : Held)
       have hv_17 := sl_set (j := x4.toNat) (y := ({ c13 with State := (1:Int) } : Held)) hv14
       refine pE (gn (lsq (wpL_drw [(0, true), (1, true), (2, true), (3, true), (4, true), (5, false)] [_, _, _, _, _, _] (by decide +kernel) (by rfl) ?_)))
       refine pLs hO 1 [_, _, _, _, _] tA37 tZ37 ?_
       refine pM (.ptr _ _) ?_
       refine pNil ?_
       refine pLrS hO 2 tA42 tZ42 ?_
       refine pM (.int _ _) (bk hk fun v18 hv18 hk => ?_)
       obtain ⟨_, hm19⟩ := ld_tr hO (j := 5) rfl (lk.length + 1) 7
       obtain ⟨_, hm20⟩ := ld_trF hO (j := 4) rfl (lk.length + 1) 7
       obtain ⟨_, hm21⟩ := ld_trF hO (j := 3) rfl (lk.length + 1) 7
       refine pCall (vs := [(.agg [_, _, _, _, _]), (.agg [_, _, _, _]), (.int _ _)]) (caps := []) (fun _ => f49_run hv18) ?_ (h3 := (la_cons rfl (la_cons (ld_agg (ll_cons rfl (ll_cons hm21 (ll_cons hm20 (ll_cons hm19 ll_nil))))) (la_cons rfl la_nil))))
       refine pE (gn (lck hk (fun hk => ?_) (fun hk => ?_)))
       ·refine lrg (pM (.ptr _ _) ?_)
        refine pM (.ptr _ _) ?_
        refine pNil ?_
        refine pF tF61_0 ?_
        refine pSTr foc_Held_State (y' := (2:Int)) hO 5 hv_17 hc_17 tZ3 (fun _ => ⟨rfl, rfl⟩) hFr hS rfl (fun H1 G hFr hO => ?_)
        have hc_22 := getI_set hc_17 ({ ({ c13 with State := (1:Int) } : Held) with State := (2:Int) } : Held)
        have hv_22 := sl_set (j := x4.toNat) (y := ({ ({ c13 with State := (1:Int) } : Held) with State := (2:Int) } : Held)) hv_17
        refine pNil ?_
        refine pF tF61_3 ?_
        refine pSTr foc_Held_Shown (y' := true) hO 5 hv_22 hc_22 tZ4 (fun _ => ⟨rfl, rfl⟩) hFr hS rfl (fun H1 G hFr hO => ?_)
        have hc_23 := getI_set hc_22 ({ ({ ({ c13 with State := (1:Int) } : Held) with State := (2:Int) } : Held) with Shown := true } : Held)
        have hv_23 := sl_set (j := x4.toNat) (y := ({ ({ ({ c13 with State := (1:Int) } : Held) with State := (2:Int) } : Held) with Shown := true } : Held)) hv_22
        exact pE (bn (bn (gn (⟨((x11.set x4.toNat ({ c13 with State := (1:Int) })).set x4.toNat ({ ({ c13 with State := (1:Int) } : Held) with State := (2:Int) })).set x4.toNat ({ ({ ({ c13 with State := (1:Int) } : Held) with State := (2:Int) } : Held) with Shown := true }), F15, _, _, _, hk, hFr, (pk hO [1, 2, 3, 4, 5]), sh⟩))))
       ·exact lsk (bn (bn (gn (⟨x11.set x4.toNat ({ c13 with State := (1:Int) }), F15, _, _, _, hk, hFr, (pk hO [1, 2, 3, 4, 5]), sh⟩))))
      ·refine lsq (lrg (pBi ?_))
       refine pA (.bool _) (pE (gn (lck hk (fun hk => ?_) (fun hk => ?_))))
       ·refine lsq (lsq (lrg (pFL tF89_0 hO 0 (.lit _ _ _) tA22 ?_)))
        refine pLen tS22 ?_
        refine pM (.int _ _) (pE (gn (lbl ?_)))
        refine wpL_loopO (F := f64_L5 aF1 x4 c9) (fun s S' => ∃ (F25 : List Nat) (J : Nat → V) (G : Heap) (H1 : Heap), getI s.1 x4 = some s.2.1 ∧ vp3 = .sl b8 0 s.1.length ∧ Sees H H1 S0 ∧ Owns H1 G [.blk b10 (.cells 5 [litL m3 0 c9.Sections, litL m3 0 c9.Lies, litL m3 0 c9.Flanks, litL m3 0 c9.Over, litL m3 0 c9.Near]), .blk b1 (.cells 5 [.int .i64 aP0.Sections, litL l1 0 aP0.Switches, litL l2 m3 aP0.Ways, litL l4 m5 aP0.Bars, .int .i64 aP0.Hold]), .fblk S0 q0 (.cells 4 [.bool aF1.Ok, vp1, vp2, vp3]), Tree S0 Fp1 aF1.Occ [vp1], Tree S0 Fp2 aF1.Points [vp2], Tree S0 F25 s.1 [vp3]] ∧ S' = ⟨hav [(1, .ptr q0 0), (2, .ptr b1 0), (5, .ptr b8 (x4.toNat * 5)), (6, .ptr b10 0), (13, .int .i64 (aF1.Ways.length : Int)), (14, .int .i64 x4), (81, litL m3 0 c9.Sections), (82, .int .i64 (c9.Sections.length : Int)), (83, .int .i64 s.2.2)] J, G⟩) hk ⟨F15, _, _, _, hc13, hv14, hFr, hO, sh⟩ ?_
        rintro ⟨x24, c26, x28⟩ _ y2 ⟨F25, J, G, H1, hc26, hv27, hFr, hO, rfl⟩ hk hx2
        refine lsq (lrg (pBi (pE (gn (lsq (lck hk (fun hk => ?_) (fun hk => ?_)))))))
        ·refine lsk (gn (lsq (lbl (lsq (lrg (pM (.int _ _) (bk hk fun c29 hc29 hk => ?_)))))))
         refine pX hc29 tE22 tZ3 ?_
         refine pLp (.int _ _) (rd1 (lm := 0) (off := 0) hc29 tA3) ?_
         refine pA (.int _ _) ?_
         refine pA (.int _ _) (pE (gn ?_))
         refine wpL_drw [(0, true), (1, true), (2, true), (3, true), (4, true), (5, true), (6, true), (7, true), (8, true), (9, true), (10, true), (11, true), (12, true), (13, true), (14, true), (15, true), (16, true), (17, true), (18, true), (19, true), (20, true), (21, false), (22, false)] [_, _, _, _, _, _, _, _, _, _, _, _, _, _, _, _, _, _, _, _, _, _, _] (by decide +kernel) (by rfl) ?_
         refine pM (.ptr _ _) ?_
         refine pNil ?_
         refine pF tF61_2 ?_
         refine pLT foc_Held_Been hO 5 hv27 hc26 tA27 (fun u30 fs30 hs30 => ?_)
         refine pM (.int _ _) ?_
         refine pM (.ptr _ _) ?_
         refine pNil ?_
         refine pF tF61_2 ?_
         refine pLT foc_Held_Been hO 5 hv27 hc26 tA27 (fun u31 fs31 hs31 => ?_)
         refine pM (.int _ _) (bk hk fun c32 hc32 hk => ?_)
         refine pXS hs31 hc32 tE27 tZ4 (fun b33 hb33 => ?_)
         refine pLXS (.bool _) hs31 hb33 hc32 tA4 ?_
         refine pM (.bool _) (bk hk fun t34 ht hk => ?_)
         refine wpR_mid (l1 := [_, _, _, _, _, _, _, _]) (fun S' => ∃ J, S' = ⟨hav [(1, .ptr q0 0), (2, .ptr b1 0), (5, .ptr b8 (x4.toNat * 5)), (6, .ptr b10 0), (13, .int .i64 (aF1.Ways.length : Int)), (14, .int .i64 x4), (81, litL m3 0 c9.Sections), (82, .int .i64 (c9.Sections.length : Int)), (83, .int .i64 x28), (91, u30), (92, .int .i64 x28), (108, .bool t34)] J, G⟩) ?_ ?_
         ·refine bc (b := c32) (fun hg1 => ?_) (fun hg1 => ?_)
          ·replace hk := ct hg1 ht
           refine pGn hg1 (pGn hg1 (pGn hg1 (pGn hg1 (pGn hg1 (pGn hg1 (pGn hg1 (pPt hg1 (.bool _) ?_)))))))
           cases hk; exact pE ⟨_, sh⟩
          ·replace hk := cf hg1 ht
           refine pGy hg1 (pM (.ptr _ _) (pGy hg1 ?_))
           refine pNil (pGy hg1 ?_)
           refine pF tF42_1 (pGy hg1 ?_)
           refine pLr hO 2 vp1 tA27 (pGy hg1 ?_)
           refine pM (.int _ _) (pGy hg1 (bk hk fun c35 hc35 hk => ?_))
           refine pXT hO 3 hc35 tE27 tZ4 (fun b36 hb36 => pGy hg1 ?_)
           refine pLTv (Foc.all (α := Bool)) (.bool _) hO 3 hb36 hc35 tA4 ?_
           refine pPf hg1 (.bool _) ?_
           cases hk; exact pE ⟨_, sh⟩
         ·rintro _ ⟨J, rfl⟩
          refine bk hk fun c37 hc37 hk => pXS hs30 hc37 tE27 tZ4 (fun b38 hb38 => ?_)
          refine pSXr (y' := t34) hO 5 hs30 hb38 hc37 tZ4 (fun _ => ⟨rfl, rfl⟩) hFr hS rfl (fun H1 G hFr hO => ?_)
          replace hO : Owns H1 G [.blk b10 (.cells 5 [litL m3 0 c9.Sections, litL m3 0 c9.Lies, litL m3 0 c9.Flanks, litL m3 0 c9.Over, litL m3 0 c9.Near]), .blk b1 (.cells 5 [.int .i64 aP0.Sections, litL l1 0 aP0.Switches, litL l2 m3 aP0.Ways, litL l4 m5 aP0.Bars, .int .i64 aP0.Hold]), .fblk S0 q0 (.cells 4 [.bool aF1.Ok, vp1, vp2, vp3]), Tree S0 Fp1 aF1.Occ [vp1], Tree S0 Fp2 aF1.Points [vp2], Tree S0 F25 (x24.set x4.toNat ({ c26 with Been := c26.Been.set x28.toNat t34 })) [vp3]] := hO
          have hc_39 := getI_set hc26 ({ c26 with Been := c26.Been.set x28.toNat t34 } : Held)
          have hv_39 := sl_set (j := x4.toNat) (y := ({ c26 with Been := c26.Been.set x28.toNat t34 } : Held)) hv27
          refine pE (bn (gn (lrg (pBi ?_))))
          refine pM (.int _ _) (pE (gn ?_))
          cases hk; exact ⟨_, rfl, F25, _, _, _, hc_39, hv_39, hFr, hO, sh⟩
        ·refine lex (ge (ge (be (gn (have hk := lx hx2 hk; lsq (lbl (wpL_loopO (F := f64_L6 aF1 x4 c9) (fun s S' => ∃ (F41 : List Nat) (J : Nat → V) (G : Heap) (H1 : Heap), getI s.1 x4 = some s.2 ∧ vp3 = .sl b8 0 s.1.length ∧ Sees H H1 S0 ∧ Owns H1 G [.blk b10 (.cells 5 [litL m3 0 c9.Sections, litL m3 0 c9.Lies, litL m3 0 c9.Flanks, litL m3 0 c9.Over, litL m3 0 c9.Near]), .blk b1 (.cells 5 [.int .i64 aP0.Sections, litL l1 0 aP0.Switches, litL l2 m3 aP0.Ways, litL l4 m5 aP0.Bars, .int .i64 aP0.Hold]), .fblk S0 q0 (.cells 4 [.bool aF1.Ok, vp1, vp2, vp3]), Tree S0 Fp1 aF1.Occ [vp1], Tree S0 Fp2 aF1.Points [vp2], Tree S0 F41 s.1 [vp3]] ∧ S' = ⟨hav [(1, .ptr q0 0), (2, .ptr b1 0), (5, .ptr b8 (x4.toNat * 5)), (6, .ptr b10 0), (13, .int .i64 (aF1.Ways.length : Int)), (14, .int .i64 x4)] J, G⟩) hk ⟨F25, _, _, _, hc26, hv27, hFr, hO, sh⟩ ?_)))))))
         rintro ⟨x40, c42⟩ _ y2 ⟨F41, J, G, H1, hc42, hv43, hFr, hO, rfl⟩ hk hx2
         refine lsq (lsq (wpL_drw [(0, true), (1, true), (2, true), (3, true), (4, true), (5, true), (6, true), (7, false), (8, false), (9, true), (10, true), (11, true), (12, true), (13, true), (14, true), (15, true), (16, true), (17, false), (18, true), (19, false), (20, false), (21, true), (22, true), (23, true), (24, true), (25, true), (26, true), (27, true), (28, true), (29, true), (30, true), (31, true), (32, true), (33, false), (34, true), (35, false), (36, false), (37, false), (38, true), (39, true), (40, true), (41, true), (42, true), (43, true), (44, true), (45, true), (46, false), (47, false), (48, true), (49, true), (50, true), (51, true), (52, true), (53, true), (54, true), (55, true), (56, true), (57, false), (58, true), (59, false), (60, false)] [_, _, _, _, _, _, _, _, _, _, _, _, _, _, _, _, _, _, _, _, _, _, _, _, _, _, _, _, _, _, _, _, _, _, _, _, _, _, _, _, _, _, _, _, _, _, _, _, _, _, _, _, _, _, _, _, _, _, _, _, _] (by decide +kernel) (by rfl) ?_))
         refine pM (.ptr _ _) ?_
         refine pNil ?_
         refine pF tF61_1 ?_
         refine pLTv foc_Held_Gone (.int _ _) hO 5 hv43 hc42 tA3 ?_
         refine pFL tF89_0 hO 0 (.lit _ _ _) tA22 ?_
         refine pLen tS22 ?_
         refine pBi ?_
         refine pM (.bool _) (bk hk fun t44 ht hk => ?_)
         refine wpR_mid (l1 := [_, _, _, _, _, _, _, _, _, _, _]) (fun S' => ∃ J, S' = ⟨hav [(1, .ptr q0 0), (2, .ptr b1 0), (5, .ptr b8 (x4.toNat * 5)), (6, .ptr b10 0), (13, .int .i64 (aF1.Ways.length : Int)), (14, .int .i64 x4), (130, .bool t44)] J, G⟩) ?_ ?_
         ·refine bc (b := decide (c42.Gone < (c9.Sections.length : Int))) (fun hg1 => ?_) (fun hg1 => ?_)
          ·replace hk := ct hg1 ht
           refine pGy hg1 (pM (.ptr _ _) (pGy hg1 ?_))
           refine pNil (pGy hg1 ?_)
           refine pF tF61_2 (pGy hg1 ?_)
           refine pLT foc_Held_Been hO 5 hv43 hc42 tA27 (fun u45 fs45 hs45 => pGy hg1 ?_)
           refine pM (.ptr _ _) (pGy hg1 ?_)
           refine pNil (pGy hg1 ?_)
           refine pF tF61_1 (pGy hg1 ?_)
           refine pLTv foc_Held_Gone (.int _ _) hO 5 hv43 hc42 tA3 (pGy hg1 (bk hk fun c46 hc46 hk => ?_))
           refine pXS hs45 hc46 tE27 tZ4 (fun b47 hb47 => pGy hg1 ?_)
           refine pLXS (.bool _) hs45 hb47 hc46 tA4 ?_
           refine pPt hg1 (.bool _) ?_
           cases hk; exact pE ⟨_, sh⟩
          ·replace hk := cf hg1 ht
           refine pGn hg1 (pGn hg1 (pGn hg1 (pGn hg1 (pGn hg1 (pGn hg1 (pGn hg1 (pGn hg1 (pGn hg1 (pGn hg1 (pPf hg1 (.bool _) ?_))))))))))
           cases hk; exact pE ⟨_, sh⟩
         ·rintro _ ⟨J, rfl⟩
          refine pM (.bool _) (bk hk fun t48 ht hk => ?_)
          refine wpR_mid (l1 := [_, _, _, _, _, _, _, _, _, _, _, _, _, _, _, _]) (fun S' => ∃ J, S' = ⟨hav [(1, .ptr q0 0), (2, .ptr b1 0), (5, .ptr b8 (x4.toNat * 5)), (6, .ptr b10 0), (13, .int .i64 (aF1.Ways.length : Int)), (14, .int .i64 x4), (147, .bool t48)] J, G⟩) ?_ ?_
          ·refine bc (b := t44) (fun hg1 => ?_) (fun hg1 => ?_)
           ·replace hk := ct hg1 ht
            refine pGy hg1 (pM (.ptr _ _) (pGy hg1 ?_))
            refine pNil (pGy hg1 ?_)
            refine pF tF42_1 (pGy hg1 ?_)
            refine pLr hO 2 vp1 tA27 (pGy hg1 ?_)
            refine pF tF89_0 (pGy hg1 ?_)
            refine pLo hO 0 (.lit _ _ _) tA22 (pGy hg1 ?_)
            refine pM (.ptr _ _) (pGy hg1 ?_)
            refine pNil (pGy hg1 ?_)
            refine pF tF61_1 (pGy hg1 ?_)
            refine pLTv foc_Held_Gone (.int _ _) hO 5 hv43 hc42 tA3 (pGy hg1 (bk hk fun c49 hc49 hk => ?_))
            refine pX hc49 tE22 tZ3 (pGy hg1 ?_)
            refine pLp (.int _ _) (rd1 (lm := 0) (off := 0) hc49 tA3) (pGy hg1 (bk hk fun c50 hc50 hk => ?_))
            refine pXT hO 3 hc50 tE27 tZ4 (fun b51 hb51 => pGy hg1 ?_)
            refine pLTv (Foc.all (α := Bool)) (.bool _) hO 3 hb51 hc50 tA4 (pGy hg1 ?_)
            refine pU ?_
            refine pPt hg1 (.bool _) ?_
            cases hk; exact pE ⟨_, sh⟩
           ·replace hk := cf hg1 ht
            refine pGn hg1 (pGn hg1 (pGn hg1 (pGn hg1 (pGn hg1 (pGn hg1 (pGn hg1 (pGn hg1 (pGn hg1 (pGn hg1 (pGn hg1 (pGn hg1 (pGn hg1 (pGn hg1 (pGn hg1 (pPf hg1 (.bool _) ?_)))))))))))))))
            cases hk; exact pE ⟨_, sh⟩
          ·rintro _ ⟨J, rfl⟩
           refine pM (.bool _) (bk hk fun t52 ht hk => ?_)
           refine wpR_mid (l1 := [_, _, _, _, _, _, _, _, _, _, _, _, _, _, _, _, _, _, _, _, _, _, _]) (fun S' => ∃ J, S' = ⟨hav [(1, .ptr q0 0), (2, .ptr b1 0), (5, .ptr b8 (x4.toNat * 5)), (6, .ptr b10 0), (13, .int .i64 (aF1.Ways.length : Int)), (14, .int .i64 x4), (171, .bool t52)] J, G⟩) ?_ ?_
           ·refine bc (b := t48) (fun hg1 => ?_) (fun hg1 => ?_)
            ·replace hk := ct hg1 ht
             refine pGy hg1 (pM (.ptr _ _) (pGy hg1 ?_))
             refine pNil (pGy hg1 ?_)
             refine pF tF61_1 (pGy hg1 ?_)
             refine pLTv foc_Held_Gone (.int _ _) hO 5 hv43 hc42 tA3 (pGy hg1 ?_)
             refine pF tF89_0 (pGy hg1 ?_)
             refine pLo hO 0 (.lit _ _ _) tA22 (pGy hg1 ?_)
             refine pLen tS22 (pGy hg1 ?_)
             refine pBi (pGy hg1 ?_)
             refine pBi (pGy hg1 ?_)
             refine pM (.bool _) (bk hk fun t53 ht hk => ?_)
             refine wpR_mid (l1 := [_, _, _, _, _, _, _, _, _, _, _, _]) (fun S' => ∃ J, S' = ⟨hav [(1, .ptr q0 0), (2, .ptr b1 0), (5, .ptr b8 (x4.toNat * 5)), (6, .ptr b10 0), (13, .int .i64 (aF1.Ways.length : Int)), (14, .int .i64 x4), (148, .bool t48), (170, .bool t53)] J, G⟩) ?_ ?_
             ·refine bc (b := (c42.Gone == (w64 ((c9.Sections.length : Int) - (1:Int))))) (fun hg2 => ?_) (fun hg2 => ?_)
              ·replace hk := ct hg2 ht
               refine pGn hg2 (pGn hg2 (pGn hg2 (pGn hg2 (pGn hg2 (pGn hg2 (pGn hg2 (pGn hg2 (pGn hg2 (pGn hg2 (pGn hg2 (pGy hg1 (pPt hg2 (.bool _) ?_))))))))))))
               cases hk; exact pE ⟨_, sh⟩
              ·replace hk := cf hg2 ht
               refine pGy hg2 (pM (.ptr _ _) (pGy hg2 ?_))
               refine pNil (pGy hg2 ?_)
               refine pF tF61_2 (pGy hg2 ?_)
               refine pLT foc_Held_Been hO 5 hv43 hc42 tA27 (fun u54 fs54 hs54 => pGy hg2 ?_)
               refine pM (.ptr _ _) (pGy hg2 ?_)
               refine pNil (pGy hg2 ?_)
               refine pF tF61_1 (pGy hg2 ?_)
               refine pLTv foc_Held_Gone (.int _ _) hO 5 hv43 hc42 tA3 (pGy hg2 ?_)
               refine pBi (pGy hg2 (bk hk fun c55 hc55 hk => ?_))
               refine pXS hs54 hc55 tE27 tZ4 (fun b56 hb56 => pGy hg2 ?_)
               refine pLXS (.bool _) hs54 hb56 hc55 tA4 (pGy hg1 ?_)
               refine pPf hg2 (.bool _) ?_
               cases hk; exact pE ⟨_, sh⟩
             ·rintro _ ⟨J, rfl⟩
              refine pPt hg1 (.bool _) ?_
              cases hk; exact pE ⟨_, sh⟩
            ·replace hk := cf hg1 ht
             refine pGn hg1 (pGn hg1 (pGn hg1 (pGn hg1 (pGn hg1 (pGn hg1 (pGn hg1 (pGn hg1 (pGn hg1 (pGn hg1 (pGu (pGu (pGu (pGu (pGu (pGu (pGu (pGu (pGu (pGu (pGu (pGn hg1 (pPf hg1 (.bool _) ?_))))))))))))))))))))))
             cases hk; exact pE ⟨_, sh⟩
           ·rintro _ ⟨J, rfl⟩
            refine pE (gn (lck hk (fun hk => ?_) (fun hk => ?_)))
            ·refine lsk (gn (lbl (lrg (pM (.ptr _ _) ?_))))
             refine pNil ?_
             refine pF tF61_1 ?_
             refine pLTv foc_Held_Gone (.int _ _) hO 5 hv43 hc42 tA3 ?_
             refine pBi ?_
             refine pNil ?_
             refine pF tF61_1 ?_
             refine pSTr foc_Held_Gone (y' := (w64 (c42.Gone + (1:Int)))) hO 5 hv43 hc42 tZ3 (fun _ => ⟨rfl, rfl⟩) hFr hS rfl (fun H1 G hFr hO => ?_)
             have hc_57 := getI_set hc42 ({ c42 with Gone := w64 (c42.Gone + (1:Int)) } : Held)
             have hv_57 := sl_set (j := x4.toNat) (y := ({ c42 with Gone := w64 (c42.Gone + (1:Int)) } : Held)) hv43
             refine pE (bn (gn ?_))
             cases hk; exact ⟨_, rfl, F41, _, _, _, hc_57, hv_57, hFr, hO, sh⟩
            ·refine lex (ge (ge (be (gn (have hk := lx hx2 hk; lsq (wpL_drw [(0, true), (1, true), (2, true), (3, true), (4, true), (5, true), (6, true), (7, false)] [_, _, _, _, _, _, _, _] (by decide +kernel) (by rfl) ?_))))))
             refine pM (.ptr _ _) ?_
             refine pNil ?_
             refine pF tF61_1 ?_
             refine pLTv foc_Held_Gone (.int _ _) hO 5 hv43 hc42 tA3 ?_
             refine pFL tF89_0 hO 0 (.lit _ _ _) tA22 ?_
             refine pLen tS22 ?_
             refine pBi (pE (gn (lck hk (fun hk => ?_) (fun hk => ?_))))
             ·refine lrg (pM (.ptr _ _) ?_)
              refine pLs hO 0 [_, _, _, _, _] tA89 tZ89 (bk hk fun v58 hv58 hk => ?_)
              refine pCNs hO (fun _ => f85_run hv58) (fun u59 F59 G hO => ?_)
              refine pNil ?_
              refine pSTTr hO 5 hv43 hc42 tZ61 hFr hS rfl (fun H1 G hFr hO => pE (bn (bn (gn ?_))))
              exact ⟨x40.set x4.toNat v58, (F41 ++ F59), _, _, _, hk, hFr, (pk hO [1, 2, 3, 4, 5]), sh⟩
             ·exact lsk (bn (bn (gn (⟨x40, F41, _, _, _, hk, hFr, (pk hO [1, 2, 3, 4, 5]), sh⟩))))
       ·exact lsk (bn (bn (gn (⟨x11, F15, _, _, _, hk, hFr, (pk hO [1, 2, 3, 4, 5]), sh⟩))))
  ·rintro _ ⟨x5, F6, J, G, H1, hk, hFr, hO, rfl⟩
   refine lrg (pBi ?_)
   refine pM (.int _ _) (pE (gn ?_))
   cases hk; exact ⟨_, rfl, F6, _, _, _, hFr, hO, sh⟩
 ·refine lex (ge (ge (be (have hk := lx hx1 hk; ?_))))
  replace hk := Option.some.inj hk; subst hk; exact finG (Fp1, Fp2, F3) (pk hO [1, 2, 3, 4]) hFr (relC (relB hq) (relC relT (relC relT (relC relT relN)))) rfl rfl rfl rfl (by first | exact Or.inl rfl | exact Or.inr rfl)
def f86_L1 (aS10 : List Bool) (aS21 : List Bool) : Int → Option (Int ⊕ Bool) := fun s =>
 (bif decide (s < (aS10.length : Int)) then ((getI aS10 s).bind fun c2 => ((getI aS21 s).bind fun c3 => (bif !(c2 == c3) then ((some false).map Sum.inr) else some (.inl (w64 (s + (1:Int))))))) else ((some true).map Sum.inr))
def f86 (aS10 : List Bool) (aS21 : List Bool) : Option Bool :=
 (bif ((aS10.length : Int) != (aS21.length : Int)) then some false else (loopO (f86_L1 aS10 aS21) ((0:Int))))
theorem f86_run {aS10 : List Bool} {aS21 : List Bool} {r : Bool} {l1 l2 : Nat} {H : Heap} {lk : Lk} (hk : f86 aS10 aS21 = some r) (hlk : 0 < lk.length := by simp) : runL Try.prog hh 86 [litL l1 0 aS10, litL l2 0 aS21] H lk = some (.bool r, H) := by
 refine run_start Try.func86 rfl Try.ntmps86 Try.results86 rfl rfl fun hO => ?_
 unfold f86 at hk
 refine lsq (lrg (pA (.bool _) (pE (gn (lsq (lsq (lrg ?_)))))))
 refine pM (.lit _ _ _) ?_
 refine pLen tS27 ?_
 refine pM (.lit _ _ _) ?_
 refine pLen tS27 ?_
 refine pBi (pE (gn (lck hk (fun hk => ?_) (fun hk => ?_))))
 ·refine lsq (lrg (pA (.bool _) (pE (gn (lrt (gr ?_))))))
  cases hk; exact fin0 hO
 ·refine lsk (gn (lsq (lsq (lrg (pM (.lit _ _ _) ?_)))))
  refine pLen tS27 ?_
  refine pM (.int _ _) (pE (gn (lbl ?_)))
  refine wpL_loopO (F := f86_L1 aS10 aS21) (fun s S' => ∃ (J : Nat → V) (G : Heap), Owns H G [] ∧ S' = ⟨hav [(0, litL l1 0 aS10), (1, litL l2 0 aS21), (12, .int .i64 (aS10.length : Int)), (13, .int .i64 s)] J, G⟩) hk ⟨_, _, hO, sh⟩ ?_
  rintro x1 _ y1 ⟨J, G, hO, rfl⟩ hk hx1
  refine lsq (lrg (pBi (pE (gn (lsq (lck hk (fun hk => ?_) (fun hk => ?_)))))))
  ·refine lsk (gn (lsq (lbl (lsq (lrg (pM (.int _ _) ?_))))))
   refine pA (.int _ _) (pE (gn (lsq ?_)))
   refine wpL_drw [(0, true), (1, true), (2, true), (3, true), (4, true), (5, true), (6, true), (7, true), (8, false)] [_, _, _, _, _, _, _, _, _] (by decide +kernel) (by rfl) ?_
   refine pM (.lit _ _ _) ?_
   refine pM (.int _ _) (bk hk fun c2 hc2 hk => ?_)
   refine pX hc2 tE27 tZ4 ?_
   refine pLp (.bool _) (rd1 (lm := 0) (off := 0) hc2 tA4) ?_
   refine pM (.lit _ _ _) ?_
   refine pM (.int _ _) (bk hk fun c3 hc3 hk => ?_)
   refine pX hc3 tE27 tZ4 ?_
   refine pLp (.bool _) (rd1 (lm := 0) (off := 0) hc3 tA4) ?_
   refine pBn Try.underlying4 (pE (gn (lck hk (fun hk => ?_) (fun hk => ?_))))
   ·refine lsq (lrg (pA (.bool _) (pE (gn (lrt (br (gr (gr (br (gr (have hk := lx hx1 hk; ?_)))))))))))
    cases hk; exact fin0 hO
   ·refine lsk (bn (gn (lrg (pBi ?_))))
    refine pM (.int _ _) (pE (gn ?_))
    cases hk; exact ⟨_, rfl, _, _, hO, sh⟩
  ·refine lex (ge (ge (be (gn (have hk := lx hx1 hk; lsq (lrg (pA (.bool _) (pE (gn (lrt ?_))))))))))
   cases hk; exact fin0 hO
def f87_L1 (aS10 : List Point) (aS21 : List Point) : Int → Option (Int ⊕ Bool) := fun s =>
 (bif decide (s < (aS10.length : Int)) then ((getI aS10 s).bind fun c2 => ((getI aS21 s).bind fun c3 => (bif !((c2.Want == c3.Want) && ((c2.Lies == c3.Lies) && true)) then ((some false).map Sum.inr) else some (.inl (w64 (s + (1:Int))))))) else ((some true).map Sum.inr))
def f87 (aS10 : List Point) (aS21 : List Point) : Option Bool :=
 (bif ((aS10.length : Int) != (aS21.length : Int)) then some false else (loopO (f87_L1 aS10 aS21) ((0:Int))))
theorem f87_run {aS10 : List Point} {aS21 : List Point} {r : Bool} {l1 l2 : Nat} {H : Heap} {lk : Lk} (hk : f87 aS10 aS21 = some r) (hlk : 0 < lk.length := by simp) : runL Try.prog hh 87 [litL l1 0 aS10, litL l2 0 aS21] H lk = some (.bool r, H) := by
 refine run_start Try.func87 rfl Try.ntmps87 Try.results87 rfl rfl fun hO => ?_
 unfold f87 at hk
 refine lsq (lrg (pA (.bool _) (pE (gn (lsq (lsq (lrg ?_)))))))
 refine pM (.lit _ _ _) ?_
 refine pLen tS39 ?_
 refine pM (.lit _ _ _) ?_
 refine pLen tS39 ?_
 refine pBi (pE (gn (lck hk (fun hk => ?_) (fun hk => ?_))))
 ·refine lsq (lrg (pA (.bool _) (pE (gn (lrt (gr ?_))))))
  cases hk; exact fin0 hO
 ·refine lsk (gn (lsq (lsq (lrg (pM (.lit _ _ _) ?_)))))
  refine pLen tS39 ?_
  refine pM (.int _ _) (pE (gn (lbl ?_)))
  refine wpL_loopO (F := f87_L1 aS10 aS21) (fun s S' => ∃ (J : Nat → V) (G : Heap), Owns H G [] ∧ S' = ⟨hav [(0, litL l1 0 aS10), (1, litL l2 0 aS21), (12, .int .i64 (aS10.length : Int)), (13, .int .i64 s)] J, G⟩) hk ⟨_, _, hO, sh⟩ ?_
  rintro x1 _ y1 ⟨J, G, hO, rfl⟩ hk hx1
  refine lsq (lrg (pBi (pE (gn (lsq (lck hk (fun hk => ?_) (fun hk => ?_)))))))
  ·refine lsk (gn (lsq (lbl (lsq (lrg (pM (.int _ _) ?_))))))
   refine pA (.int _ _) (pE (gn (lsq ?_)))
   refine wpL_drw [(0, true), (1, true), (2, true), (3, true), (4, true), (5, true), (6, true), (7, true), (8, false)] [_, _, _, _, _, _, _, _, _] (by decide +kernel) (by rfl) ?_
   refine pM (.lit _ _ _) ?_
   refine pM (.int _ _) (bk hk fun c2 hc2 hk => ?_)
   refine pX hc2 tE39 tZ58 ?_
   refine pLp (.agg [_, _]) (rd2 (lm := 0) (off := 0) hc2 tA58 tZ58) ?_
   refine pM (.lit _ _ _) ?_
   refine pM (.int _ _) (bk hk fun c3 hc3 hk => ?_)
   refine pX hc3 tE39 tZ58 ?_
   refine pLp (.agg [_, _]) (rd2 (lm := 0) (off := 0) hc3 tA58 tZ58) ?_
   refine pGne tG58 (eqc (eqi _ _ _) (eqc (eqi _ _ _) (rfl))) (pE (gn (lck hk (fun hk => ?_) (fun hk => ?_))))
   ·refine lsq (lrg (pA (.bool _) (pE (gn (lrt (br (gr (gr (br (gr (have hk := lx hx1 hk; ?_)))))))))))
    cases hk; exact fin0 hO
   ·refine lsk (bn (gn (lrg (pBi ?_))))
    refine pM (.int _ _) (pE (gn ?_))
    cases hk; exact ⟨_, rfl, _, _, hO, sh⟩
  ·refine lex (ge (ge (be (gn (have hk := lx hx1 hk; lsq (lrg (pA (.bool _) (pE (gn (lrt ?_))))))))))
   cases hk; exact fin0 hO
def f65_L1 (aA0 : Frame) (aB1 : Frame) : Int → Option (Int ⊕ Bool) := fun s =>
 (bif decide (s < (aA0.Ways.length : Int)) then ((getI aA0.Ways s).bind fun c7 => ((getI aB1.Ways s).bind fun c9 => ((bif ((((c7.State != c9.State) || (c7.Gone != c9.Gone)) || !(c7.Shown == c9.Shown)) || (c7.Timer != c9.Timer)) then some true else ((f86 c7.Been c9.Been).bind fun v12 => some (!v12))).bind fun t11 => (bif t11 then ((some false).map Sum.inr) else some (.inl (w64 (s + (1:Int)))))))) else ((some true).map Sum.inr))
def f65 (aA0 : Frame) (aB1 : Frame) : Option Bool :=
 ((f86 aA0.Occ aB1.Occ).bind fun v3 => ((bif !v3 then some true else ((f87 aA0.Points aB1.Points).bind fun v5 => some (!v5))).bind fun t4 => (bif (t4 || ((aA0.Ways.length : Int) != (aB1.Ways.length : Int))) then some false else (loopO (f65_L1 aA0 aB1) ((0:Int))))))
theorem f65_run {aA0 : Frame} {aB1 : Frame} {r : Bool} {l1 l2 l3 m4 l5 l6 l7 m8 : Nat} {H : Heap} {lk : Lk} (hk : f65 aA0 aB1 = some r) (hlk : 0 < lk.length := by simp) : runL Try.prog hh 65 [.agg [.bool aA0.Ok, litL l1 0 aA0.Occ, litL l2 0 aA0.Points, litL l3 m4 aA0.Ways], .agg [.bool aB1.Ok, litL l5 0 aB1.Occ, litL l6 0 aB1.Points, litL l7 m8 aB1.Ways]] H lk = some (.bool r, H) := by
 refine run_start Try.func65 rfl Try.ntmps65 Try.results65 rfl rfl fun hO => ?_
 unfold f65 at hk
 refine lsq (lrg (pBox (cs := [_, _, _, _]) hO tZ42 (fun b1 G hO => ?_)))
 refine pBox (cs := [_, _, _, _]) hO tZ42 (fun b2 G hO => ?_)
 refine pA (.bool _) (pE (gn (lsq (lsq (lrg ?_)))))
 refine pFL tF42_1 hO 1 (.lit _ _ _) tA27 ?_
 refine pFL tF42_1 hO 0 (.lit _ _ _) tA27 (bk hk fun v3 hv3 hk => ?_)
 refine pCall (fun _ => f86_run hv3) ?_
 refine pU ?_
 refine pM (.bool _) (bk hk fun t4 ht hk => ?_)
 refine wpR_mid (l1 := [_, _, _, _, _, _, _]) (fun S' => ∃ J, S' = ⟨hav [(2, .ptr b1 0), (3, .ptr b2 0), (21, .bool t4)] J, G⟩) ?_ ?_
 ·refine bc (b := !v3) (fun hg1 => ?_) (fun hg1 => ?_)
  ·replace hk := ct hg1 ht
   refine pGn hg1 (pGn hg1 (pGn hg1 (pGn hg1 (pGn hg1 (pGn hg1 (pPt hg1 (.bool _) ?_))))))
   cases hk; exact pE ⟨_, sh⟩
  ·replace hk := cf hg1 ht
   refine pGy hg1 (pF tF42_2 (pGy hg1 ?_))
   refine pLo hO 1 (.lit _ _ _) tA39 (pGy hg1 ?_)
   refine pF tF42_2 (pGy hg1 ?_)
   refine pLo hO 0 (.lit _ _ _) tA39 (pGy hg1 (bk hk fun v5 hv5 hk => ?_))
   refine pCall (fun _ => f87_run hv5) (pGy hg1 ?_)
   refine pU ?_
   refine pPf hg1 (.bool _) ?_
   cases hk; exact pE ⟨_, sh⟩
 ·rintro _ ⟨J, rfl⟩
  refine pM (.bool _) ?_
  refine wpR_mid (l1 := [_, _, _, _, _, _, _, _]) (fun S' => ∃ J, S' = ⟨hav [(2, .ptr b1 0), (3, .ptr b2 0), (30, .bool (t4 || ((aA0.Ways.length : Int) != (aB1.Ways.length : Int))))] J, G⟩) ?_ ?_
  ·refine bc (b := t4) (fun hg1 => ?_) (fun hg1 => ?_)
   ·refine pGn hg1 (pGn hg1 (pGn hg1 (pGn hg1 (pGn hg1 (pGn hg1 (pGn hg1 (pPt hg1 (.bool _) ?_)))))))
    exact pE ⟨_, St.hav _ ⟨rfl, rfl, by rw [hg1]; rfl, trivial⟩⟩
   ·refine pGy hg1 (pF tF42_3 (pGy hg1 ?_))
    refine pLo hO 1 (.lit _ _ _) tA40 (pGy hg1 ?_)
    refine pLen tS40 (pGy hg1 ?_)
    refine pF tF42_3 (pGy hg1 ?_)
    refine pLo hO 0 (.lit _ _ _) tA40 (pGy hg1 ?_)
    refine pLen tS40 (pGy hg1 ?_)
    refine pBi ?_
    refine pPf hg1 (.bool _) ?_
    exact pE ⟨_, St.hav _ ⟨rfl, rfl, by rw [hg1]; rfl, trivial⟩⟩
  ·rintro _ ⟨J, rfl⟩
   refine pE (gn (lck hk (fun hk => ?_) (fun hk => ?_)))
   ·refine lsq (lrg (pA (.bool _) (pE (gn (lrt (gr ?_))))))
    cases hk; exact fin0 hO
   ·refine lsk (gn (lsq (lsq (lrg (pFL tF42_3 hO 1 (.lit _ _ _) tA40 ?_)))))
    refine pLen tS40 ?_
    refine pM (.int _ _) (pE (gn (lbl ?_)))
    refine wpL_loopO (F := f65_L1 aA0 aB1) (fun s S' => ∃ (J : Nat → V) (G : Heap), Owns H G [.blk b2 (.cells 4 [.bool aB1.Ok, litL l5 0 aB1.Occ, litL l6 0 aB1.Points, litL l7 m8 aB1.Ways])] ∧ S' = ⟨hav [(3, .ptr b2 0), (32, litL l3 m4 aA0.Ways), (33, .int .i64 (aA0.Ways.length : Int)), (34, .int .i64 s)] J, G⟩) hk ⟨_, _, (pk hO [0]), sh⟩ ?_
    rintro x6 _ y1 ⟨J, G, hO, rfl⟩ hk hx1
    refine lsq (lrg (pBi (pE (gn (lsq (lck hk (fun hk => ?_) (fun hk => ?_)))))))
    ·refine lsk (gn (lsq (lbl (lsq (lrg (pM (.int _ _) (bk hk fun c7 hc7 hk => ?_)))))))
     refine pX hc7 tE40 tZ61 ?_
     refine pLp (.agg [_, _, _, _, _]) (rd2 (lm := m4) (off := 0) hc7 tA61 tZ61) (pNew hO tZ61 t061 (fun b8 G hO => ?_))
     refine pA (.int _ _) ?_
     refine pSt (xs := [_, _, _, _, _]) hO 0 tZ61 rfl (fun G hO => pE (gn (lsq (lrg ?_))))
     refine pFL tF42_3 hO 1 (.lit _ _ _) tA40 ?_
     refine pM (.int _ _) (bk hk fun c9 hc9 hk => ?_)
     refine pX hc9 tE40 tZ61 ?_
     refine pLp (.agg [_, _, _, _, _]) (rd2 (lm := m8) (off := 0) hc9 tA61 tZ61) (pNew hO tZ61 t061 (fun b10 G hO => ?_))
     refine pSt (xs := [_, _, _, _, _]) hO 0 tZ61 rfl (fun G hO => pE (gn (lsq (lrg ?_))))
     refine pFL tF61_0 hO 1 (.int _ _) tA3 ?_
     refine pFL tF61_0 hO 0 (.int _ _) tA3 ?_
     refine pBi ?_
     refine pM (.bool _) ?_
     refine wpR_mid (l1 := [_, _, _, _, _, _]) (fun S' => ∃ J, S' = ⟨hav [(3, .ptr b2 0), (6, .ptr b8 0), (7, .ptr b10 0), (32, litL l3 m4 aA0.Ways), (33, .int .i64 (aA0.Ways.length : Int)), (34, .int .i64 x6), (55, .bool ((c7.State != c9.State) || (c7.Gone != c9.Gone)))] J, G⟩) ?_ ?_
     ·refine bc (b := (c7.State != c9.State)) (fun hg1 => ?_) (fun hg1 => ?_)
      ·refine pGn hg1 (pGn hg1 (pGn hg1 (pGn hg1 (pGn hg1 (pPt hg1 (.bool _) ?_)))))
       exact pE ⟨_, St.hav _ ⟨rfl, rfl, rfl, rfl, rfl, rfl, by rw [hg1]; rfl, trivial⟩⟩
      ·refine pGy hg1 (pF tF61_1 (pGy hg1 ?_))
       refine pLo hO 1 (.int _ _) tA3 (pGy hg1 ?_)
       refine pF tF61_1 (pGy hg1 ?_)
       refine pLo hO 0 (.int _ _) tA3 (pGy hg1 ?_)
       refine pBi ?_
       refine pPf hg1 (.bool _) ?_
       exact pE ⟨_, St.hav _ ⟨rfl, rfl, rfl, rfl, rfl, rfl, by rw [hg1]; rfl, trivial⟩⟩
     ·rintro _ ⟨J, rfl⟩
      refine pM (.bool _) ?_
      refine wpR_mid (l1 := [_, _, _, _, _, _]) (fun S' => ∃ J, S' = ⟨hav [(3, .ptr b2 0), (6, .ptr b8 0), (7, .ptr b10 0), (32, litL l3 m4 aA0.Ways), (33, .int .i64 (aA0.Ways.length : Int)), (34, .int .i64 x6), (62, .bool (((c7.State != c9.State) || (c7.Gone != c9.Gone)) || !(c7.Shown == c9.Shown)))] J, G⟩) ?_ ?_
      ·refine bc (b := ((c7.State != c9.State) || (c7.Gone != c9.Gone))) (fun hg1 => ?_) (fun hg1 => ?_)
       ·refine pGn hg1 (pGn hg1 (pGn hg1 (pGn hg1 (pGn hg1 (pPt hg1 (.bool _) ?_)))))
        exact pE ⟨_, St.hav _ ⟨rfl, rfl, rfl, rfl, rfl, rfl, by rw [hg1]; rfl, trivial⟩⟩
       ·refine pGy hg1 (pF tF61_3 (pGy hg1 ?_))
        refine pLo hO 1 (.bool _) tA4 (pGy hg1 ?_)
        refine pF tF61_3 (pGy hg1 ?_)
        refine pLo hO 0 (.bool _) tA4 (pGy hg1 ?_)
        refine pBn Try.underlying4 ?_
        refine pPf hg1 (.bool _) ?_
        exact pE ⟨_, St.hav _ ⟨rfl, rfl, rfl, rfl, rfl, rfl, by rw [hg1]; rfl, trivial⟩⟩
      ·rintro _ ⟨J, rfl⟩
       refine pM (.bool _) ?_
       refine wpR_mid (l1 := [_, _, _, _, _, _]) (fun S' => ∃ J, S' = ⟨hav [(3, .ptr b2 0), (6, .ptr b8 0), (7, .ptr b10 0), (32, litL l3 m4 aA0.Ways), (33, .int .i64 (aA0.Ways.length : Int)), (34, .int .i64 x6), (69, .bool ((((c7.State != c9.State) || (c7.Gone != c9.Gone)) || !(c7.Shown == c9.Shown)) || (c7.Timer != c9.Timer)))] J, G⟩) ?_ ?_
       ·refine bc (b := (((c7.State != c9.State) || (c7.Gone != c9.Gone)) || !(c7.Shown == c9.Shown))) (fun hg1 => ?_) (fun hg1 => ?_)
        ·refine pGn hg1 (pGn hg1 (pGn hg1 (pGn hg1 (pGn hg1 (pPt hg1 (.bool _) ?_)))))
         exact pE ⟨_, St.hav _ ⟨rfl, rfl, rfl, rfl, rfl, rfl, by rw [hg1]; rfl, trivial⟩⟩
        ·refine pGy hg1 (pF tF61_4 (pGy hg1 ?_))
         refine pLo hO 1 (.int _ _) tA3 (pGy hg1 ?_)
         refine pF tF61_4 (pGy hg1 ?_)
         refine pLo hO 0 (.int _ _) tA3 (pGy hg1 ?_)
         refine pBi ?_
         refine pPf hg1 (.bool _) ?_
         exact pE ⟨_, St.hav _ ⟨rfl, rfl, rfl, rfl, rfl, rfl, by rw [hg1]; rfl, trivial⟩⟩
       ·rintro _ ⟨J, rfl⟩
        refine pM (.bool _) (bk hk fun t11 ht hk => ?_)
        refine wpR_mid (l1 := [_, _, _, _, _, _, _]) (fun S' => ∃ J, S' = ⟨hav [(3, .ptr b2 0), (32, litL l3 m4 aA0.Ways), (33, .int .i64 (aA0.Ways.length : Int)), (34, .int .i64 x6), (77, .bool t11)] J, G⟩) ?_ ?_
        ·refine bc (b := ((((c7.State != c9.State) || (c7.Gone != c9.Gone)) || !(c7.Shown == c9.Shown)) || (c7.Timer != c9.Timer))) (fun hg1 => ?_) (fun hg1 => ?_)
         ·replace hk := ct hg1 ht
          refine pGn hg1 (pGn hg1 (pGn hg1 (pGn hg1 (pGn hg1 (pGn hg1 (pPt hg1 (.bool _) ?_))))))
          cases hk; exact pE ⟨_, sh⟩
         ·replace hk := cf hg1 ht
          refine pGy hg1 (pF tF61_2 (pGy hg1 ?_))
          refine pLo hO 1 (.lit _ _ _) tA27 (pGy hg1 ?_)
          refine pF tF61_2 (pGy hg1 ?_)
          refine pLo hO 0 (.lit _ _ _) tA27 (pGy hg1 (bk hk fun v12 hv12 hk => ?_))
          refine pCall (fun _ => f86_run hv12) (pGy hg1 ?_)
          refine pU ?_
          refine pPf hg1 (.bool _) ?_
          cases hk; exact pE ⟨_, sh⟩
        ·rintro _ ⟨J, rfl⟩
         refine pE (gn (lck hk (fun hk => ?_) (fun hk => ?_)))
         ·refine lsq (lrg (pA (.bool _) (pE (gn (lrt (br (gr (gr (br (gr (have hk := lx hx1 hk; ?_)))))))))))
          cases hk; exact fin0 hO
         ·refine lsk (bn (gn (lrg (pBi ?_))))
          refine pM (.int _ _) (pE (gn ?_))
          cases hk; exact ⟨_, rfl, _, _, (pk hO [2]), sh⟩
    ·refine lex (ge (ge (be (gn (have hk := lx hx1 hk; lsq (lrg (pA (.bool _) (pE (gn (lrt ?_))))))))))
     cases hk; exact fin0 hO
end
end Go.Proofs.Ytphpkphklegfeaa.K
