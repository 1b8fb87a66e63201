/-
 The functions that FnExactTurned reaches, as typed Lean functions, and that the interpreter computes them. Part 2 of 2. No conditions.
-/
import Derived.Test.YtblodpbcinkehaaDTua
set_option linter.unusedVariables false
set_option linter.unusedSimpArgs false
set_option maxRecDepth 100000
namespace Go.Proofs.Ytblodpbcinkehaa.K
noncomputable section
variable {H : Heap} {lk : Lk}
def f62 (aX0 : Int) (aLo1 : Int) (aHi2 : Int) : Option Bool :=
 some (decide (aX0 ≥ aLo1) && decide (aX0 ≤ aHi2))
theorem f62_run {aX0 : Int} {aLo1 : Int} {aHi2 : Int} {r : Bool} (hk : f62 aX0 aLo1 aHi2 = some r) (hlk : 0 < lk.length := by simp) : runL Try.prog hh 62 [iv aX0, iv aLo1, iv aHi2] H lk = some (.bool r, H) := by
 refine run_start Try.func62 rfl Try.ntmps62 Try.results62 rfl rfl fun hO => ?_
 unfold f62 at hk
 refine lsq (lrg (pA (.bool _) (pE (gn (lsq (lrg ?_))))))
 refine pM (.int _ _) ?_
 refine pM (.int _ _) ?_
 refine pBi ?_
 refine pM (.bool _) ?_
 refine wpR_mid (l1 := [_, _, _, _]) (fun S' => ∃ J, S' = ⟨hav [(14, .bool (decide (aX0 ≥ aLo1) && decide (aX0 ≤ aHi2)))] J, H⟩) ?_ ?_
 ·refine bc (b := decide (aX0 ≥ aLo1)) (fun hg => ?_) (fun hg => ?_)
  ·refine pGy hg (pM (.int _ _) (pGy hg ?_))
   refine pM (.int _ _) (pGy hg ?_)
   refine pBi ?_
   refine pPt hg (.bool _) ?_
   exact pE ⟨_, St.hav _ ⟨by rw [hg]; rfl, trivial⟩⟩
  ·refine pGn hg (pGn hg (pGn hg (pPf hg (.bool _) ?_)))
   exact pE ⟨_, St.hav _ ⟨by rw [hg]; rfl, trivial⟩⟩
 ·rintro _ ⟨J, rfl⟩
  refine pA (.bool _) (pE (gn (lrt ?_)))
  cases hk; exact fin0 hO
def f61 (aN0 : Net) (aS1 : Spot) : Option Bool :=
 ((f62 aS1.Piece (0:Int) (w64 ((aN0.Pieces.length : Int) - (1:Int)))).bind fun v3 => ((bif v3 then ((getI aN0.Pieces aS1.Piece).bind fun c5 => ((f62 aS1.At (0:Int) c5.Len).bind fun v6 => some v6)) else some false).bind fun t4 => some (t4 && ((aS1.Way == (1:Int)) || (aS1.Way == (-1:Int))))))
theorem f61_run {aN0 : Net} {aS1 : Spot} {r : Bool} {l1 l2 m3 : Nat} (hk : f61 aN0 aS1 = some r) (hlk : 0 < lk.length := by simp) : runL Try.prog hh 61 [.agg [litL l1 0 aN0.Pieces, litL l2 m3 aN0.Joints], .agg [iv aS1.Piece, iv aS1.At, iv aS1.Way]] H lk = some (.bool r, H) := by
 refine run_start Try.func61 rfl Try.ntmps61 Try.results61 rfl rfl fun hO => ?_
 unfold f61 at hk
 refine lsq (lrg (pBox (cs := [_, _]) hO tZ41 (fun b1 G hO => ?_)))
 refine pBox (cs := [_, _, _]) hO tZ33 (fun b2 G hO => ?_)
 refine pA (.bool _) (pE (gn (lsq ?_)))
 refine wpL_drw [(0, true), (1, true), (2, true), (3, true), (4, true), (5, true), (6, false), (7, false), (8, true), (9, true), (10, true), (11, true), (12, true), (13, true), (14, true), (15, true), (16, true), (17, false), (18, false), (19, false), (20, false), (21, true), (22, false), (23, false), (24, false), (25, true), (26, false), (27, false), (28, false), (29, false)] [_, _, _, _, _, _, _, _, _, _, _, _, _, _, _, _, _, _, _, _, _, _, _, _, _, _, _, _, _, _] (by decide +kernel) (by rfl) ?_
 refine pFL tF33_0 hO 0 (.int _ _) tA3 ?_
 refine pFL tF41_0 hO 1 (.lit _ _ _) tA38 ?_
 refine pLen tS38 ?_
 refine pBi (bk hk fun v3 hv3 hk => ?_)
 refine pCall (fun _ => f62_run hv3) ?_
 refine pM (.bool _) (bk hk fun t4 ht hk => ?_)
 refine wpR_mid (l1 := [_, _, _, _, _, _, _, _, _, _, _]) (fun S' => ∃ J, S' = ⟨hav [(3, .ptr b2 0), (23, .bool t4)] J, G⟩) ?_ ?_
 ·refine bc (b := v3) (fun hg => ?_) (fun hg => ?_)
  ·replace hk := ct hg ht
   refine pGy hg (pF tF33_1 (pGy hg ?_))
   refine pLo hO 0 (.int _ _) tA3 (pGy hg ?_)
   refine pF tF41_0 (pGy hg ?_)
   refine pLo hO 1 (.lit _ _ _) tA38 (pGy hg ?_)
   refine pF tF33_0 (pGy hg ?_)
   refine pLo hO 0 (.int _ _) tA3 (pGy hg (bk hk fun c5 hc5 hk => ?_))
   refine pX hc5 tE38 tZ58 (pGy hg ?_)
   refine pF tF58_1 (pGy hg ?_)
   refine pLp (.int _ _) (rd1 (lm := 0) (off := 1) hc5 tA3) (pGy hg (bk hk fun v6 hv6 hk => ?_))
   refine pCall (fun _ => f62_run hv6) ?_
   refine pPt hg (.bool _) ?_
   cases hk; exact pE ⟨_, sh⟩
  ·replace hk := cf hg ht
   refine pGn hg (pGn hg (pGn hg (pGn hg (pGn hg (pGn hg (pGn hg (pGn hg (pGn hg (pGn hg (pPf hg (.bool _) ?_))))))))))
   cases hk; exact pE ⟨_, sh⟩
 ·rintro _ ⟨J, rfl⟩
  refine pM (.bool _) ?_
  refine wpR_mid (l1 := [_, _, _, _, _, _, _, _, _]) (fun S' => ∃ J, S' = ⟨hav [(33, .bool (t4 && ((aS1.Way == (1:Int)) || (aS1.Way == (-1:Int)))))] J, G⟩) ?_ ?_
  ·refine bc (b := t4) (fun hg => ?_) (fun hg => ?_)
   ·refine pGy hg (pF tF33_2 (pGy hg ?_))
    refine pLo hO 0 (.int _ _) tA3 (pGy hg ?_)
    refine pBi (pGy hg ?_)
    refine pM (.bool _) ?_
    refine wpR_mid (l1 := [_, _, _, _]) (fun S' => ∃ J, S' = ⟨hav [(24, .bool t4), (32, .bool ((aS1.Way == (1:Int)) || (aS1.Way == (-1:Int))))] J, G⟩) ?_ ?_
    ·refine bc (b := (aS1.Way == (1:Int))) (fun hg2 => ?_) (fun hg2 => ?_)
     ·refine pGn hg2 (pGn hg2 (pGn hg2 (pGy hg (pPt hg2 (.bool _) ?_))))
      exact pE ⟨_, St.hav _ ⟨rfl, by rw [hg2]; rfl, trivial⟩⟩
     ·refine pGy hg2 (pF tF33_2 (pGy hg2 ?_))
      refine pLo hO 0 (.int _ _) tA3 (pGy hg2 ?_)
      refine pBi (pGy hg ?_)
      refine pPf hg2 (.bool _) ?_
      exact pE ⟨_, St.hav _ ⟨rfl, by rw [hg2]; rfl, trivial⟩⟩
    ·rintro _ ⟨J, rfl⟩
     refine pPt hg (.bool _) ?_
     exact pE ⟨_, St.hav _ ⟨by rw [hg]; rfl, trivial⟩⟩
   ·refine pGn hg (pGn hg (pGn hg (pGn hg (pGu (pGu (pGu (pGn hg (pPf hg (.bool _) ?_))))))))
    exact pE ⟨_, St.hav _ ⟨by rw [hg]; rfl, trivial⟩⟩
  ·rintro _ ⟨J, rfl⟩
   refine pA (.bool _) (pE (gn (lrt ?_)))
   cases hk; exact fin0 hO
def f47 (aN0 : Net) (aS1 : Spot) : Option Int :=
 (bif (aS1.Way == (1:Int)) then some aS1.At else ((getI aN0.Pieces aS1.Piece).bind fun c3 => some (w64 (c3.Len - aS1.At))))
theorem f47_run {aN0 : Net} {aS1 : Spot} {r : Int} {l1 l2 m3 : Nat} (hk : f47 aN0 aS1 = some r) (hlk : 0 < lk.length := by simp) : runL Try.prog hh 47 [.agg [litL l1 0 aN0.Pieces, litL l2 m3 aN0.Joints], .agg [iv aS1.Piece, iv aS1.At, iv aS1.Way]] H lk = some (iv r, H) := by
 refine run_start Try.func47 rfl Try.ntmps47 Try.results47 rfl rfl fun hO => ?_
 unfold f47 at hk
 refine lsq (lrg (pBox (cs := [_, _]) hO tZ41 (fun b1 G hO => ?_)))
 refine pBox (cs := [_, _, _]) hO tZ33 (fun b2 G hO => ?_)
 refine pA (.int _ _) (pE (gn (lsq (lsq (lrg ?_)))))
 refine pFL tF33_2 hO 0 (.int _ _) tA3 ?_
 refine pBi (pE (gn (lck hk (fun hk => ?_) (fun hk => ?_))))
 ·refine lsq (lrg (pFL tF33_1 hO 0 (.int _ _) tA3 ?_))
  refine pA (.int _ _) (pE (gn (lrt (gr ?_))))
  cases hk; exact fin0 hO
 ·refine lsk (gn (lsq (wpL_drw [(0, true), (1, true), (2, true), (3, true), (4, true), (5, true), (6, true), (7, true), (8, true), (9, false), (10, false)] [_, _, _, _, _, _, _, _, _, _, _] (by decide +kernel) (by rfl) ?_)))
  refine pFL tF41_0 hO 1 (.lit _ _ _) tA38 ?_
  refine pFL tF33_0 hO 0 (.int _ _) tA3 (bk hk fun c3 hc3 hk => ?_)
  refine pX hc3 tE38 tZ58 ?_
  refine pF tF58_1 ?_
  refine pLp (.int _ _) (rd1 (lm := 0) (off := 1) hc3 tA3) ?_
  refine pFL tF33_1 hO 0 (.int _ _) tA3 ?_
  refine pBi ?_
  refine pA (.int _ _) (pE (gn (lrt ?_)))
  cases hk; exact fin0 hO
def f80 (aPiece0 : Int) (aWay1 : Int) : Option End :=
 (bif (aWay1 == (1:Int)) then some ({ Piece := aPiece0, Side := (1:Int) } : End) else some ({ Piece := aPiece0, Side := (0:Int) } : End))
theorem f80_run {aPiece0 : Int} {aWay1 : Int} {r : End} (hk : f80 aPiece0 aWay1 = some r) (hlk : 0 < lk.length := by simp) : runL Try.prog hh 80 [iv aPiece0, iv aWay1] H lk = some (.agg [iv r.Piece, iv r.Side], H) := by
 refine run_start Try.func80 rfl Try.ntmps80 Try.results80 rfl rfl fun hO => ?_
 unfold f80 at hk
 refine lsq (lrg (pNew hO tZ106 t0106 (fun b1 G hO => pE (gn (lsq (lsq (lrg (pM (.int _ _) ?_))))))))
 refine pBi (pE (gn (lck hk (fun hk => ?_) (fun hk => ?_))))
 ·refine lsq (lrg (pM (.int _ _) ?_))
  refine pBd [_, _] t0106 tP106 ?_
  refine pSt (xs := [_, _]) hO 0 tZ106 rfl (fun G hO => pE (gn (lrt (gr ?_))))
  replace hk := Option.some.inj hk; subst hk; exact finZ hO (fz_agg (n := 2) (fz_c (fz_int _ _) (fz_c (fz_int _ _) (fz_n)))) (resS hO 0 [_, _] tA106 tZ106 resN)
 ·refine lsk (gn (lsq (lrg (pM (.int _ _) ?_))))
  refine pBd [_, _] t0106 tP106 ?_
  refine pSt (xs := [_, _]) hO 0 tZ106 rfl (fun G hO => pE (gn (lrt ?_)))
  replace hk := Option.some.inj hk; subst hk; exact finZ hO (fz_agg (n := 2) (fz_c (fz_int _ _) (fz_c (fz_int _ _) (fz_n)))) (resS hO 0 [_, _] tA106 tZ106 resN)
def f64 (aS0 : Step) : Option End :=
 ((f80 aS0.Piece aS0.Way).bind fun v3 => some v3)
theorem f64_run {aS0 : Step} {r : End} (hk : f64 aS0 = some r) (hlk : 0 < lk.length := by simp) : runL Try.prog hh 64 [.agg [iv aS0.Piece, iv aS0.Way]] H lk = some (.agg [iv r.Piece, iv r.Side], H) := by
 refine run_start Try.func64 rfl Try.ntmps64 Try.results64 rfl rfl fun hO => ?_
 unfold f64 at hk
 refine lsq (lrg (pBox (cs := [_, _]) hO tZ55 (fun b1 G hO => pNew hO tZ106 t0106 (fun b2 G hO => pE (gn (lsq (lrg ?_)))))))
 refine pFL tF55_0 hO 1 (.int _ _) tA3 ?_
 refine pFL tF55_1 hO 1 (.int _ _) tA3 (bk hk fun v3 hv3 hk => ?_)
 refine pCall (fun _ => f80_run hv3) ?_
 refine pSt (xs := [_, _]) hO 0 tZ106 rfl (fun G hO => pE (gn (lrt ?_)))
 replace hk := Option.some.inj hk; subst hk; exact finZ hO (fz_agg (n := 2) (fz_c (fz_int _ _) (fz_c (fz_int _ _) (fz_n)))) (resS hO 0 [_, _] tA106 tZ106 resN)
def f79_L2 (aE1 : End) (x3 : Int) (c4 : Joint) : Int → Option (Int ⊕ (Int ⊕ (Int × Int))) := fun s =>
 (bif decide (s < (c4.Ends.length : Int)) then ((getI c4.Ends s).bind fun c7 => (bif ((aE1.Piece == c7.Piece) && ((aE1.Side == c7.Side) && true)) then (((some (x3, s)).map Sum.inr).map Sum.inr) else some (.inl (w64 (s + (1:Int)))))) else ((some (.inl (w64 (x3 + (1:Int))))).map Sum.inr))
def f79_L1 (aN0 : Net) (aE1 : End) : Int → Option (Int ⊕ (Int × Int)) := fun s =>
 (bif decide (s < (aN0.Joints.length : Int)) then ((getI aN0.Joints s).bind fun c4 => (loopO (f79_L2 aE1 s c4) ((0:Int)))) else ((some ((-1:Int), (-1:Int))).map Sum.inr))
def f79 (aN0 : Net) (aE1 : End) : Option (Int × Int) :=
 (loopO (f79_L1 aN0 aE1) ((0:Int)))
theorem f79_run {aN0 : Net} {aE1 : End} {r : (Int × Int)} {l1 l2 m3 : Nat} (hk : f79 aN0 aE1 = some r) (hlk : 0 < lk.length := by simp) : runL Try.prog hh 79 [.agg [litL l1 0 aN0.Pieces, litL l2 m3 aN0.Joints], .agg [iv aE1.Piece, iv aE1.Side]] H lk = some (.tup [iv r.1, iv r.2], H) := by
 refine run_start Try.func79 rfl Try.ntmps79 Try.results79 rfl rfl fun hO => ?_
 unfold f79 at hk
 refine lsq (lrg (pBox (cs := [_, _]) hO tZ41 (fun b1 G hO => ?_)))
 refine pBox (cs := [_, _]) hO tZ106 (fun b2 G hO => ?_)
 refine pA (.int _ _) ?_
 refine pA (.int _ _) (pE (gn (lsq (lsq (lrg ?_)))))
 refine pFL tF41_1 hO 1 (.lit _ _ _) tA39 ?_
 refine pLen tS39 ?_
 refine pM (.int _ _) (pE (gn (lbl ?_)))
 refine wpL_loopO (F := f79_L1 aN0 aE1) (fun s S' => ∃ (J : Nat → V) (G : Heap), Owns H G [.blk b2 (.cells 2 [iv aE1.Piece, iv aE1.Side])] ∧ S' = ⟨hav [(3, .ptr b2 0), (11, litL l2 m3 aN0.Joints), (12, iv (aN0.Joints.length : Int)), (13, iv s)] J, G⟩) hk ⟨_, _, (pk hO [0]), sh⟩ ?_
 rintro x3 _ y1 ⟨J, G, hO, rfl⟩ hk hx1
 refine lsq (lrg (pBi (pE (gn (lsq (lck hk (fun hk => ?_) (fun hk => ?_)))))))
 ·refine lsk (gn (lsq (lbl (lsq (lrg (pM (.int _ _) (bk hk fun c4 hc4 hk => ?_)))))))
  refine pX hc4 tE39 tZ80 ?_
  refine pLp (.agg [_, _, _]) (rd2 (lm := m3) (off := 0) hc4 tA80 tZ80) (pNew hO tZ80 t080 (fun b5 G hO => ?_))
  refine pA (.int _ _) ?_
  refine pSt (xs := [_, _, _]) hO 0 tZ80 rfl (fun G hO => pE (gn (lsq (lrg ?_))))
  refine pFL tF80_2 hO 0 (.lit _ _ _) tA78 ?_
  refine pLen tS78 ?_
  refine pM (.int _ _) (pE (gn (lbl ?_)))
  refine wpL_loopO (F := f79_L2 aE1 x3 c4) (fun s S' => ∃ (J : Nat → V) (G : Heap), Owns H G [.blk b2 (.cells 2 [iv aE1.Piece, iv aE1.Side])] ∧ S' = ⟨hav [(3, .ptr b2 0), (6, iv x3), (11, litL l2 m3 aN0.Joints), (12, iv (aN0.Joints.length : Int)), (13, iv x3), (19, litL m3 0 c4.Ends), (20, iv (c4.Ends.length : Int)), (21, iv s)] J, G⟩) hk ⟨_, _, (pk hO [1]), sh⟩ ?_
  rintro x6 _ y2 ⟨J, G, hO, rfl⟩ hk hx2
  refine lsq (lrg (pBi (pE (gn (lsq (lck hk (fun hk => ?_) (fun hk => ?_)))))))
  ·refine lsk (gn (lsq (lbl (lsq (lrg (pM (.int _ _) (bk hk fun c7 hc7 hk => ?_)))))))
   refine pX hc7 tE78 tZ106 ?_
   refine pLp (.agg [_, _]) (rd2 (lm := 0) (off := 0) hc7 tA106 tZ106) (pNew hO tZ106 t0106 (fun b8 G hO => ?_))
   refine pA (.int _ _) ?_
   refine pSt (xs := [_, _]) hO 0 tZ106 rfl (fun G hO => pE (gn (lsq (lrg ?_))))
   refine pLs hO 1 [_, _] tA106 tZ106 ?_
   refine pLs hO 0 [_, _] tA106 tZ106 ?_
   refine pGq tG106 (eqc (eqi _ _ _) (eqc (eqi _ _ _) (rfl))) (pE (gn (lck hk (fun hk => ?_) (fun hk => ?_))))
   ·refine lsq (lrg (pM (.int _ _) ?_))
    refine pM (.int _ _) ?_
    refine pA (.int _ _) ?_
    refine pA (.int _ _) (pE (gn (lrt (br (gr (gr (br (br (gr (gr (br (gr (have hk := lx hx2 hk; have hk := lx hx1 hk; ?_)))))))))))))
    replace hk := Option.some.inj hk; subst hk; exact finZ hO (fz_tup (n := 3) (fz_c (fz_int _ _) (fz_c (fz_int _ _) (fz_n)))) (resT (.int _ _) (resT (.int _ _) resN))
   ·refine lsk (bn (gn (lrg (pBi ?_))))
    refine pM (.int _ _) (pE (gn ?_))
    cases hk; exact ⟨_, rfl, _, _, (pk hO [1]), sh⟩
  ·refine lex (ge (ge (be (bn (gn (have hk := lx hx2 hk; lrg (pBi ?_)))))))
   refine pM (.int _ _) (pE (gn ?_))
   cases hk; exact ⟨_, rfl, _, _, hO, sh⟩
 ·refine lex (ge (ge (be (gn (have hk := lx hx1 hk; lsq (lrg (pA (.int _ _) ?_)))))))
  refine pA (.int _ _) (pE (gn (lrt ?_)))
  replace hk := Option.some.inj hk; subst hk; exact finZ hO (fz_tup (n := 3) (fz_c (fz_int _ _) (fz_c (fz_int _ _) (fz_n)))) (resT (.int _ _) (resT (.int _ _) resN))
def f63 (aN0 : Net) (aE1 : End) : Option ((List End) × (List Int)) :=
 ((f79 aN0 aE1).bind fun v3 => (bif decide (v3.1 < (0:Int)) then some (([] : List End), ([] : List Int)) else ((getI aN0.Joints v3.1).bind fun c4 => ((getI aN0.Joints v3.1).bind fun c5 => (bif (c5.Kind == (2:Int)) then ((getI c4.Ends (w64 ((1:Int) - v3.2))).bind fun c6 => some (([c6] : List End), ([(0:Int)] : List Int))) else (bif (c5.Kind == (3:Int)) then (bif (v3.2 == (0:Int)) then ((getI c4.Ends (1:Int)).bind fun c9 => ((getI c4.Ends (2:Int)).bind fun c10 => some (([c9, c10] : List End), ([(1:Int), (2:Int)] : List Int)))) else ((getI c4.Ends (0:Int)).bind fun c13 => some (([c13] : List End), ([v3.2] : List Int)))) else (bif (c5.Kind == (4:Int)) then ((getI c4.Ends (xor64 v3.2 (1:Int))).bind fun c16 => some (([c16] : List End), ([(0:Int)] : List Int))) else some (([] : List End), ([] : List Int)))))))))
theorem f63_run {aN0 : Net} {aE1 : End} {r : ((List End) × (List Int))} {l1 l2 m3 : Nat} (hk : f63 aN0 aE1 = some r) (hlk : 0 < lk.length := by simp) : runL Try.prog hh 63 [.agg [litL l1 0 aN0.Pieces, litL l2 m3 aN0.Joints], .agg [iv aE1.Piece, iv aE1.Side]] H lk = some (.tup [litL 0 0 r.1, litL 0 0 r.2], H) := by
 refine run_start Try.func63 rfl Try.ntmps63 Try.results63 rfl rfl fun hO => ?_
 unfold f63 at hk
 refine lsq (lrg (pBox (cs := [_, _]) hO tZ41 (fun b1 G hO => ?_)))
 refine pBox (cs := [_, _]) hO tZ106 (fun b2 G hO => ?_)
 refine pA (.tl 0 []) ?_
 refine pA (.tl 0 []) (pE (gn (lsq (lrg ?_))))
 refine pLs hO 1 [_, _] tA41 tZ41 ?_
 refine pLs hO 0 [_, _] tA106 tZ106 (bk hk fun v3 hv3 hk => ?_)
 refine pCall (fun _ => f79_run hv3) ?_
 refine pM (.tup [_, _]) ?_
 refine pEx (.int _ _) ?_
 refine pEx (.int _ _) ?_
 refine pA (.int _ _) ?_
 refine pA (.int _ _) (pE (gn (lsq (lsq (lrg ?_)))))
 refine pM (.int _ _) ?_
 refine pBi (pE (gn (lck hk (fun hk => ?_) (fun hk => ?_))))
 ·refine lsq (lrg (pA (.tl 0 []) ?_))
  refine pA (.tl 0 []) (pE (gn (lrt (gr ?_))))
  replace hk := Option.some.inj hk; subst hk; exact finZ hO (fz_tup (n := 3) (fz_c (fz_nil (k := 0) End) (fz_c (fz_nil (k := 0) Int) (fz_n)))) (resT (.tl 0 []) (resT (.tl 0 []) resN))
 ·refine lsk (gn (lsq (lrg (pFL tF41_1 hO 1 (.lit _ _ _) tA39 ?_))))
  refine pM (.int _ _) (bk hk fun c4 hc4 hk => ?_)
  refine pX hc4 tE39 tZ80 ?_
  refine pF tF80_2 ?_
  refine pLp (.lit _ _ _) (rd1 (lm := m3) (off := 2) hc4 tA78) ?_
  refine pA (.lit _ _ _) (pE (gn (lsq (lsq (lrg ?_)))))
  refine pFL tF41_1 hO 1 (.lit _ _ _) tA39 ?_
  refine pM (.int _ _) (bk hk fun c5 hc5 hk => ?_)
  refine pX hc5 tE39 tZ80 ?_
  refine pF tF80_0 ?_
  refine pLp (.int _ _) (rd1 (lm := m3) (off := 0) hc5 tA3) (pE (gn (lbl (lsq (lrg ?_)))))
  refine pBi ?_
  refine pA (.bool _) (pE (gn (lck hk (fun hk => ?_) (fun hk => ?_))))
  ·refine lsq (lrg (pM (.lit _ _ _) ?_))
   refine pM (.int _ _) ?_
   refine pBi (bk hk fun c6 hc6 hk => ?_)
   refine pX hc6 tE78 tZ106 ?_
   refine pLp (.agg [_, _]) (rd2 (lm := 0) (off := 0) hc6 tA106 tZ106) ?_
   refine pBs (ps := [(0, (.agg [_, _]))]) ([c6] : List End) tE78 tZ106 t0106 (emb_cons (embx_agg (α := End) c6) (emb_nil)) ?_
   refine pBs (ps := [(0, (.int _ _))]) ([(0:Int)] : List Int) tE102 tZ3 t03 (emb_cons (embx_int _ _) (emb_nil)) ?_
   refine pA (.tl 1 (flatL 0 ([c6] : List End))) ?_
   refine pA (.tl 1 (flatL 0 ([(0:Int)] : List Int))) (pE (gn (lrt (br (gr ?_)))))
   replace hO := Owns.addTl hO lk.length ([c6] : List End)
   replace hO := Owns.addTl hO lk.length ([(0:Int)] : List Int)
   replace hk := Option.some.inj hk; subst hk; exact finZ hO (fz_tup (n := 3) (fz_c (fz_own (xs := ([c6] : List End)) hlk 1) (fz_c (fz_own (xs := ([(0:Int)] : List Int)) hlk 0) (fz_n)))) (resT (.tl 1 (flatL 0 ([c6] : List End))) (resT (.tl 1 (flatL 0 ([(0:Int)] : List Int))) resN))
  ·refine lsq (lrg (pBi ?_))
   refine pA (.bool _) (pE (gn (lck hk (fun hk => ?_) (fun hk => ?_))))
   ·refine lsq (lsq (lrg (pM (.int _ _) ?_)))
    refine pBi (pE (gn (lck hk (fun hk => ?_) (fun hk => ?_))))
    ·refine lsq (wpL_drw [(0, true), (1, true), (2, true), (3, true), (4, true), (5, true), (6, false), (7, true), (8, false), (9, false)] [_, _, _, _, _, _, _, _, _, _] (by decide +kernel) (by rfl) ?_)
     refine pM (.lit _ _ _) (bk hk fun c9 hc9 hk => ?_)
     refine pX hc9 tE78 tZ106 ?_
     refine pLp (.agg [_, _]) (rd2 (lm := 0) (off := 0) hc9 tA106 tZ106) ?_
     refine pM (.lit _ _ _) (bk hk fun c10 hc10 hk => ?_)
     refine pX hc10 tE78 tZ106 ?_
     refine pLp (.agg [_, _]) (rd2 (lm := 0) (off := 0) hc10 tA106 tZ106) ?_
     refine pBs (ps := [(0, (.agg [_, _])), (1, (.agg [_, _]))]) ([c9, c10] : List End) tE78 tZ106 t0106 (emb_cons (embx_agg (α := End) c9) (emb_cons (embx_agg (α := End) c10) (emb_nil))) ?_
     refine pBs (ps := [(0, (.int _ _)), (1, (.int _ _))]) ([(1:Int), (2:Int)] : List Int) tE102 tZ3 t03 (emb_cons (embx_int _ _) (emb_cons (embx_int _ _) (emb_nil))) ?_
     refine pA (.tl 2 (flatL 0 ([c9, c10] : List End))) ?_
     refine pA (.tl 2 (flatL 0 ([(1:Int), (2:Int)] : List Int))) (pE (gn (lrt (gr (br (gr ?_))))))
     replace hO := Owns.addTl hO lk.length ([c9, c10] : List End)
     replace hO := Owns.addTl hO lk.length ([(1:Int), (2:Int)] : List Int)
     replace hk := Option.some.inj hk; subst hk; exact finZ hO (fz_tup (n := 3) (fz_c (fz_own (xs := ([c9, c10] : List End)) hlk 1) (fz_c (fz_own (xs := ([(1:Int), (2:Int)] : List Int)) hlk 0) (fz_n)))) (resT (.tl 2 (flatL 0 ([c9, c10] : List End))) (resT (.tl 2 (flatL 0 ([(1:Int), (2:Int)] : List Int))) resN))
    ·refine lsk (gn (lsq (lrg (pM (.lit _ _ _) (bk hk fun c13 hc13 hk => ?_)))))
     refine pX hc13 tE78 tZ106 ?_
     refine pLp (.agg [_, _]) (rd2 (lm := 0) (off := 0) hc13 tA106 tZ106) ?_
     refine pBs (ps := [(0, (.agg [_, _]))]) ([c13] : List End) tE78 tZ106 t0106 (emb_cons (embx_agg (α := End) c13) (emb_nil)) ?_
     refine pM (.int _ _) ?_
     refine pBs (ps := [(0, (.int _ _))]) ([v3.2] : List Int) tE102 tZ3 t03 (emb_cons (embx_int _ _) (emb_nil)) ?_
     refine pA (.tl 1 (flatL 0 ([c13] : List End))) ?_
     refine pA (.tl 1 (flatL 0 ([v3.2] : List Int))) (pE (gn (lrt (br (gr ?_)))))
     replace hO := Owns.addTl hO lk.length ([c13] : List End)
     replace hO := Owns.addTl hO lk.length ([v3.2] : List Int)
     replace hk := Option.some.inj hk; subst hk; exact finZ hO (fz_tup (n := 3) (fz_c (fz_own (xs := ([c13] : List End)) hlk 1) (fz_c (fz_own (xs := ([v3.2] : List Int)) hlk 0) (fz_n)))) (resT (.tl 1 (flatL 0 ([c13] : List End))) (resT (.tl 1 (flatL 0 ([v3.2] : List Int))) resN))
   ·refine lsq (lrg (pBi ?_))
    refine pA (.bool _) (pE (gn (lck hk (fun hk => ?_) (fun hk => ?_))))
    ·refine lsq (lrg (pM (.lit _ _ _) ?_))
     refine pM (.int _ _) ?_
     refine pBi (bk hk fun c16 hc16 hk => ?_)
     refine pX hc16 tE78 tZ106 ?_
     refine pLp (.agg [_, _]) (rd2 (lm := 0) (off := 0) hc16 tA106 tZ106) ?_
     refine pBs (ps := [(0, (.agg [_, _]))]) ([c16] : List End) tE78 tZ106 t0106 (emb_cons (embx_agg (α := End) c16) (emb_nil)) ?_
     refine pBs (ps := [(0, (.int _ _))]) ([(0:Int)] : List Int) tE102 tZ3 t03 (emb_cons (embx_int _ _) (emb_nil)) ?_
     refine pA (.tl 1 (flatL 0 ([c16] : List End))) ?_
     refine pA (.tl 1 (flatL 0 ([(0:Int)] : List Int))) (pE (gn (lrt (br (gr ?_)))))
     replace hO := Owns.addTl hO lk.length ([c16] : List End)
     replace hO := Owns.addTl hO lk.length ([(0:Int)] : List Int)
     replace hk := Option.some.inj hk; subst hk; exact finZ hO (fz_tup (n := 3) (fz_c (fz_own (xs := ([c16] : List End)) hlk 1) (fz_c (fz_own (xs := ([(0:Int)] : List Int)) hlk 0) (fz_n)))) (resT (.tl 1 (flatL 0 ([c16] : List End))) (resT (.tl 1 (flatL 0 ([(0:Int)] : List Int))) resN))
    ·refine lsk (bn (gn (lsq (lrg (pA (.tl 0 []) ?_)))))
     refine pA (.tl 0 []) (pE (gn (lrt ?_)))
     replace hk := Option.some.inj hk; subst hk; exact finZ hO (fz_tup (n := 3) (fz_c (fz_nil (k := 0) End) (fz_c (fz_nil (k := 0) Int) (fz_n)))) (resT (.tl 0 []) (resT (.tl 0 []) resN))
def f66 (aS0 : Step) : Option End :=
 ((f80 aS0.Piece (w64 (0 - aS0.Way))).bind fun v3 => some v3)
theorem f66_run {aS0 : Step} {r : End} (hk : f66 aS0 = some r) (hlk : 0 < lk.length := by simp) : runL Try.prog hh 66 [.agg [iv aS0.Piece, iv aS0.Way]] H lk = some (.agg [iv r.Piece, iv r.Side], H) := by
 refine run_start Try.func66 rfl Try.ntmps66 Try.results66 rfl rfl fun hO => ?_
 unfold f66 at hk
 refine lsq (lrg (pBox (cs := [_, _]) hO tZ55 (fun b1 G hO => pNew hO tZ106 t0106 (fun b2 G hO => pE (gn (lsq (lrg ?_)))))))
 refine pFL tF55_0 hO 1 (.int _ _) tA3 ?_
 refine pFL tF55_1 hO 1 (.int _ _) tA3 ?_
 refine pU (bk hk fun v3 hv3 hk => ?_)
 refine pCall (fun _ => f80_run hv3) ?_
 refine pSt (xs := [_, _]) hO 0 tZ106 rfl (fun G hO => pE (gn (lrt ?_)))
 replace hk := Option.some.inj hk; subst hk; exact finZ hO (fz_agg (n := 2) (fz_c (fz_int _ _) (fz_c (fz_int _ _) (fz_n)))) (resS hO 0 [_, _] tA106 tZ106 resN)
def f81_L1 (aS0 : List End) (aV1 : End) : Int → Option (Int ⊕ Int) := fun s =>
 (bif decide (s < (aS0.length : Int)) then ((getI aS0 s).bind fun c3 => (bif ((aV1.Piece == c3.Piece) && ((aV1.Side == c3.Side) && true)) then ((some s).map Sum.inr) else some (.inl (w64 (s + (1:Int)))))) else ((some (-1:Int)).map Sum.inr))
def f81 (aS0 : List End) (aV1 : End) : Option Int :=
 (loopO (f81_L1 aS0 aV1) ((0:Int)))
theorem f81_run {aS0 : List End} {aV1 : End} {r : Int} {l1 : Nat} (hk : f81 aS0 aV1 = some r) (hlk : 0 < lk.length := by simp) : runL Try.prog hh 81 [litL l1 0 aS0, .agg [iv aV1.Piece, iv aV1.Side]] H lk = some (iv r, H) := by
 refine run_start Try.func81 rfl Try.ntmps81 Try.results81 rfl rfl fun hO => ?_
 unfold f81 at hk
 refine lsq (lrg (pBox (cs := [_, _]) hO tZ106 (fun b1 G hO => ?_)))
 refine pA (.int _ _) (pE (gn (lsq (lsq (lrg ?_)))))
 refine pM (.lit _ _ _) ?_
 refine pLen tS78 ?_
 refine pM (.int _ _) (pE (gn (lbl ?_)))
 refine wpL_loopO (F := f81_L1 aS0 aV1) (fun s S' => ∃ (J : Nat → V) (G : Heap), Owns H G [.blk b1 (.cells 2 [iv aV1.Piece, iv aV1.Side])] ∧ S' = ⟨hav [(0, litL l1 0 aS0), (3, .ptr b1 0), (7, iv (aS0.length : Int)), (8, iv s)] J, G⟩) hk ⟨_, _, hO, sh⟩ ?_
 rintro x2 _ y1 ⟨J, G, hO, rfl⟩ hk hx1
 refine lsq (lrg (pBi (pE (gn (lsq (lck hk (fun hk => ?_) (fun hk => ?_)))))))
 ·refine lsk (gn (lsq (lbl (lsq (lrg (pM (.int _ _) ?_))))))
  refine pA (.int _ _) (pE (gn (lsq ?_)))
  refine wpL_drw [(0, true), (1, true), (2, true), (3, true), (4, true), (5, false)] [_, _, _, _, _, _] (by decide +kernel) (by rfl) ?_
  refine pLs hO 0 [_, _] tA106 tZ106 ?_
  refine pM (.lit _ _ _) ?_
  refine pM (.int _ _) (bk hk fun c3 hc3 hk => ?_)
  refine pX hc3 tE78 tZ106 ?_
  refine pLp (.agg [_, _]) (rd2 (lm := 0) (off := 0) hc3 tA106 tZ106) ?_
  refine pGq tG106 (eqc (eqi _ _ _) (eqc (eqi _ _ _) (rfl))) (pE (gn (lck hk (fun hk => ?_) (fun hk => ?_))))
  ·refine lsq (lrg (pM (.int _ _) ?_))
   refine pA (.int _ _) (pE (gn (lrt (br (gr (gr (br (gr (have hk := lx hx1 hk; ?_)))))))))
   cases hk; exact fin0 hO
  ·refine lsk (bn (gn (lrg (pBi ?_))))
   refine pM (.int _ _) (pE (gn ?_))
   cases hk; exact ⟨_, rfl, _, _, hO, sh⟩
 ·refine lex (ge (ge (be (gn (have hk := lx hx1 hk; lsq (lrg (pA (.int _ _) (pE (gn (lrt ?_))))))))))
  cases hk; exact fin0 hO
def f65 (aS0 : List End) (aV1 : End) : Option Bool :=
 ((f81 aS0 aV1).bind fun v2 => some (decide (v2 ≥ (0:Int))))
theorem f65_run {aS0 : List End} {aV1 : End} {r : Bool} {l1 : Nat} (hk : f65 aS0 aV1 = some r) (hlk : 0 < lk.length := by simp) : runL Try.prog hh 65 [litL l1 0 aS0, .agg [iv aV1.Piece, iv aV1.Side]] H lk = some (.bool r, H) := by
 refine run_start Try.func65 rfl Try.ntmps65 Try.results65 rfl rfl fun hO => ?_
 unfold f65 at hk
 refine lsq (lrg (pBox (cs := [_, _]) hO tZ106 (fun b1 G hO => ?_)))
 refine pA (.bool _) (pE (gn (lsq (lrg ?_))))
 refine pM (.lit _ _ _) ?_
 refine pLs hO 0 [_, _] tA106 tZ106 (bk hk fun v2 hv2 hk => ?_)
 refine pCall (fun _ => f81_run hv2) ?_
 refine pBi ?_
 refine pA (.bool _) (pE (gn (lrt ?_)))
 cases hk; exact fin0 hO
def f48 (aN0 : Net) (aS1 : Step) : Option Int :=
 ((getI aN0.Pieces aS1.Piece).bind fun c3 => some c3.Len)
theorem f48_run {aN0 : Net} {aS1 : Step} {r : Int} {l1 l2 m3 : Nat} (hk : f48 aN0 aS1 = some r) (hlk : 0 < lk.length := by simp) : runL Try.prog hh 48 [.agg [litL l1 0 aN0.Pieces, litL l2 m3 aN0.Joints], .agg [iv aS1.Piece, iv aS1.Way]] H lk = some (iv r, H) := by
 refine run_start Try.func48 rfl Try.ntmps48 Try.results48 rfl rfl fun hO => ?_
 unfold f48 at hk
 refine lsq (lrg (pBox (cs := [_, _]) hO tZ41 (fun b1 G hO => ?_)))
 refine pBox (cs := [_, _]) hO tZ55 (fun b2 G hO => ?_)
 refine pA (.int _ _) (pE (gn (lsq (lrg ?_))))
 refine pFL tF41_0 hO 1 (.lit _ _ _) tA38 ?_
 refine pFL tF55_0 hO 0 (.int _ _) tA3 (bk hk fun c3 hc3 hk => ?_)
 refine pX hc3 tE38 tZ58 ?_
 refine pF tF58_1 ?_
 refine pLp (.int _ _) (rd1 (lm := 0) (off := 1) hc3 tA3) ?_
 refine pA (.int _ _) (pE (gn (lrt ?_)))
 cases hk; exact fin0 hO
def f45_L1 (aN0 : Net) (aT1 : Train) : (Int × Int × Int × Int) → Option ((Int × Int × Int × Int) ⊕ Bool) := fun s =>
 (bif decide (s.2.2.2 < (aT1.Back.length : Int)) then ((getI aT1.Back s.2.2.2).bind fun c12 => ((f62 c12.Piece (0:Int) (w64 ((aN0.Pieces.length : Int) - (1:Int)))).bind fun v14 => (bif ((!v14 || ((c12.Way != (1:Int)) && (c12.Way != (-1:Int)))) || decide (s.2.2.1 ≥ aT1.Long)) then ((some false).map Sum.inr) else ((f64 c12).bind fun v15 => ((f63 aN0 v15).bind fun v16 => ((f66 ({ Piece := s.1, Way := s.2.1 } : Step)).bind fun v17 => ((f65 v16.1 v17).bind fun v18 => (bif !v18 then ((some false).map Sum.inr) else ((f48 aN0 c12).bind fun v19 => some (.inl (c12.Piece, c12.Way, w64 (s.2.2.1 + v19), w64 (s.2.2.2 + (1:Int))))))))))))) else ((some (decide (s.2.2.1 ≥ aT1.Long))).map Sum.inr))
def f45 (aN0 : Net) (aT1 : Train) : Option Bool :=
 ((f61 aN0 aT1.Front).bind fun v3 => ((bif !v3 then some true else ((f62 aT1.Long (1:Int) (100000:Int)).bind fun v5 => some (!v5))).bind fun t4 => (bif (t4 || decide ((aT1.Back.length : Int) > (200:Int))) then some false else ((f47 aN0 aT1.Front).bind fun v7 => (loopO (f45_L1 aN0 aT1) (aT1.Front.Piece, aT1.Front.Way, v7, (0:Int)))))))
theorem f45_run {aN0 : Net} {aT1 : Train} {r : Bool} {l1 l2 m3 l4 : Nat} (hk : f45 aN0 aT1 = some r) (hlk : 0 < lk.length := by simp) : runL Try.prog hh 45 [.agg [litL l1 0 aN0.Pieces, litL l2 m3 aN0.Joints], .agg [iv aT1.Front.Piece, iv aT1.Front.At, iv aT1.Front.Way, iv aT1.Long, litL l4 0 aT1.Back]] H lk = some (.bool r, H) := by
 refine run_start Try.func45 rfl Try.ntmps45 Try.results45 rfl rfl fun hO => ?_
 unfold f45 at hk
 refine lsq (lrg (pBox (cs := [_, _]) hO tZ41 (fun b1 G hO => ?_)))
 refine pBox (cs := [_, _, _, _, _]) hO tZ36 (fun b2 G hO => ?_)
 refine pA (.bool _) (pE (gn (lsq (lsq (lrg ?_)))))
 refine pLs hO 1 [_, _] tA41 tZ41 ?_
 refine pF tF36_0 ?_
 refine pLs hO 0 [_, _, _] tA33 tZ33 (bk hk fun v3 hv3 hk => ?_)
 refine pCall (fun _ => f61_run hv3) ?_
 refine pU ?_
 refine pM (.bool _) (bk hk fun t4 ht hk => ?_)
 refine wpR_mid (l1 := [_, _, _, _, _]) (fun S' => ∃ J, S' = ⟨hav [(2, .ptr b1 0), (3, .ptr b2 0), (21, .bool t4)] J, G⟩) ?_ ?_
 ·refine bc (b := !v3) (fun hg => ?_) (fun hg => ?_)
  ·replace hk := ct hg ht
   refine pGn hg (pGn hg (pGn hg (pGn hg (pPt hg (.bool _) ?_))))
   cases hk; exact pE ⟨_, sh⟩
  ·replace hk := cf hg ht
   refine pGy hg (pF tF36_1 (pGy hg ?_))
   refine pLo hO 0 (.int _ _) tA3 (pGy hg (bk hk fun v5 hv5 hk => ?_))
   refine pCall (fun _ => f62_run hv5) (pGy hg ?_)
   refine pU ?_
   refine pPf hg (.bool _) ?_
   cases hk; exact pE ⟨_, sh⟩
 ·rintro _ ⟨J, rfl⟩
  refine pM (.bool _) ?_
  refine wpR_mid (l1 := [_, _, _, _, _]) (fun S' => ∃ J, S' = ⟨hav [(2, .ptr b1 0), (3, .ptr b2 0), (27, .bool (t4 || decide ((aT1.Back.length : Int) > (200:Int))))] J, G⟩) ?_ ?_
  ·refine bc (b := t4) (fun hg => ?_) (fun hg => ?_)
   ·refine pGn hg (pGn hg (pGn hg (pGn hg (pPt hg (.bool _) ?_))))
    exact pE ⟨_, St.hav _ ⟨rfl, rfl, by rw [hg]; rfl, trivial⟩⟩
   ·refine pGy hg (pF tF36_2 (pGy hg ?_))
    refine pLo hO 0 (.lit _ _ _) tA34 (pGy hg ?_)
    refine pLen tS34 (pGy hg ?_)
    refine pBi ?_
    refine pPf hg (.bool _) ?_
    exact pE ⟨_, St.hav _ ⟨rfl, rfl, by rw [hg]; rfl, trivial⟩⟩
  ·rintro _ ⟨J, rfl⟩
   refine pE (gn (lck hk (fun hk => ?_) (fun hk => ?_)))
   ·refine lsq (lrg (pA (.bool _) (pE (gn (lrt (gr ?_))))))
    cases hk; exact fin0 hO
   ·refine lsk (gn (lsq (lrg (pF tF36_0 ?_))))
    refine pFL tF33_0 hO 0 (.int _ _) tA3 ?_
    refine pF tF36_0 ?_
    refine pFL tF33_2 hO 0 (.int _ _) tA3 ?_
    refine pBd [_, _] t055 tP55 (pNew hO tZ55 t055 (fun b6 G hO => ?_))
    refine pSt (xs := [_, _]) hO 0 tZ55 rfl (fun G hO => pE (gn (lsq (lrg ?_))))
    refine pLs hO 2 [_, _] tA41 tZ41 ?_
    refine pF tF36_0 ?_
    refine pLs hO 1 [_, _, _] tA33 tZ33 (bk hk fun v7 hv7 hk => ?_)
    refine pCall (fun _ => f47_run hv7) ?_
    refine pA (.int _ _) (pE (gn (lsq (lsq (lrg ?_)))))
    refine pFL tF36_2 hO 1 (.lit _ _ _) tA34 ?_
    refine pLen tS34 ?_
    refine pM (.int _ _) (pE (gn (lbl ?_)))
    refine wpL_loopO (F := f45_L1 aN0 aT1) (fun s S' => ∃ (J : Nat → V) (G : Heap), Owns H G [.blk b6 (.cells 2 [iv s.1, iv s.2.1]), .blk b2 (.cells 5 [iv aT1.Front.Piece, iv aT1.Front.At, iv aT1.Front.Way, iv aT1.Long, litL l4 0 aT1.Back]), .blk b1 (.cells 2 [litL l1 0 aN0.Pieces, litL l2 m3 aN0.Joints])] ∧ S' = ⟨hav [(2, .ptr b1 0), (3, .ptr b2 0), (5, .ptr b6 0), (6, iv s.2.2.1), (40, litL l4 0 aT1.Back), (41, iv (aT1.Back.length : Int)), (42, iv s.2.2.2)] J, G⟩) hk ⟨_, _, hO, sh⟩ ?_
    rintro ⟨x8, x9, x10, x11⟩ _ y1 ⟨J, G, hO, rfl⟩ hk hx1
    refine lsq (lrg (pBi (pE (gn (lsq (lck hk (fun hk => ?_) (fun hk => ?_)))))))
    ·refine lsk (gn (lsq (lbl (lsq (lrg (bk hk fun c12 hc12 hk => pX hc12 tE34 tZ55 ?_))))))
     refine pLp (.agg [_, _]) (rd2 (lm := 0) (off := 0) hc12 tA55 tZ55) (pNew hO tZ55 t055 (fun b13 G hO => ?_))
     refine pSt (xs := [_, _]) hO 0 tZ55 rfl (fun G hO => pE (gn (lsq (lsq (lrg ?_)))))
     refine pFL tF55_0 hO 0 (.int _ _) tA3 ?_
     refine pFL tF41_0 hO 3 (.lit _ _ _) tA38 ?_
     refine pLen tS38 ?_
     refine pBi (bk hk fun v14 hv14 hk => ?_)
     refine pCall (fun _ => f62_run hv14) ?_
     refine pU ?_
     refine pM (.bool _) ?_
     refine wpR_mid (l1 := [_, _, _, _, _, _, _, _, _]) (fun S' => ∃ J, S' = ⟨hav [(2, .ptr b1 0), (3, .ptr b2 0), (5, .ptr b6 0), (6, iv x10), (8, .ptr b13 0), (40, litL l4 0 aT1.Back), (41, iv (aT1.Back.length : Int)), (42, iv x11), (63, .bool (!v14 || ((c12.Way != (1:Int)) && (c12.Way != (-1:Int)))))] J, G⟩) ?_ ?_
     ·refine bc (b := !v14) (fun hg => ?_) (fun hg => ?_)
      ·refine pGn hg (pGn hg (pGn hg (pGn hg (pGu (pGu (pGu (pGn hg (pPt hg (.bool _) ?_))))))))
       exact pE ⟨_, St.hav _ ⟨rfl, rfl, rfl, rfl, rfl, rfl, rfl, rfl, by rw [hg]; rfl, trivial⟩⟩
      ·refine pGy hg (pF tF55_1 (pGy hg ?_))
       refine pLo hO 0 (.int _ _) tA3 (pGy hg ?_)
       refine pBi (pGy hg ?_)
       refine pM (.bool _) ?_
       refine wpR_mid (l1 := [_, _, _, _]) (fun S' => ∃ J, S' = ⟨hav [(2, .ptr b1 0), (3, .ptr b2 0), (5, .ptr b6 0), (6, iv x10), (8, .ptr b13 0), (40, litL l4 0 aT1.Back), (41, iv (aT1.Back.length : Int)), (42, iv x11), (54, .bool (!v14)), (62, .bool ((c12.Way != (1:Int)) && (c12.Way != (-1:Int))))] J, G⟩) ?_ ?_
       ·refine bc (b := (c12.Way != (1:Int))) (fun hg2 => ?_) (fun hg2 => ?_)
        ·refine pGy hg2 (pF tF55_1 (pGy hg2 ?_))
         refine pLo hO 0 (.int _ _) tA3 (pGy hg2 ?_)
         refine pBi (pGy hg ?_)
         refine pPt hg2 (.bool _) ?_
         exact pE ⟨_, St.hav _ ⟨rfl, rfl, rfl, rfl, rfl, rfl, rfl, rfl, rfl, by rw [hg2]; rfl, trivial⟩⟩
        ·refine pGn hg2 (pGn hg2 (pGn hg2 (pGy hg (pPf hg2 (.bool _) ?_))))
         exact pE ⟨_, St.hav _ ⟨rfl, rfl, rfl, rfl, rfl, rfl, rfl, rfl, rfl, by rw [hg2]; rfl, trivial⟩⟩
       ·rintro _ ⟨J, rfl⟩
        refine pPf hg (.bool _) ?_
        exact pE ⟨_, St.hav _ ⟨rfl, rfl, rfl, rfl, rfl, rfl, rfl, rfl, by rw [hg]; rfl, trivial⟩⟩
     ·rintro _ ⟨J, rfl⟩
      refine pM (.bool _) ?_
      refine wpR_mid (l1 := [_, _, _, _, _]) (fun S' => ∃ J, S' = ⟨hav [(2, .ptr b1 0), (3, .ptr b2 0), (5, .ptr b6 0), (6, iv x10), (8, .ptr b13 0), (40, litL l4 0 aT1.Back), (41, iv (aT1.Back.length : Int)), (42, iv x11), (69, .bool ((!v14 || ((c12.Way != (1:Int)) && (c12.Way != (-1:Int)))) || decide (x10 ≥ aT1.Long)))] J, G⟩) ?_ ?_
      ·refine bc (b := (!v14 || ((c12.Way != (1:Int)) && (c12.Way != (-1:Int))))) (fun hg => ?_) (fun hg => ?_)
       ·refine pGn hg (pGn hg (pGn hg (pGn hg (pPt hg (.bool _) ?_))))
        exact pE ⟨_, St.hav _ ⟨rfl, rfl, rfl, rfl, rfl, rfl, rfl, rfl, by rw [hg]; rfl, trivial⟩⟩
       ·refine pGy hg (pM (.int _ _) (pGy hg ?_))
        refine pF tF36_1 (pGy hg ?_)
        refine pLo hO 2 (.int _ _) tA3 (pGy hg ?_)
        refine pBi ?_
        refine pPf hg (.bool _) ?_
        exact pE ⟨_, St.hav _ ⟨rfl, rfl, rfl, rfl, rfl, rfl, rfl, rfl, by rw [hg]; rfl, trivial⟩⟩
      ·rintro _ ⟨J, rfl⟩
       refine pE (gn (lck hk (fun hk => ?_) (fun hk => ?_)))
       ·refine lsq (lrg (pA (.bool _) (pE (gn (lrt (gr (br (gr (gr (br (gr (have hk := lx hx1 hk; ?_))))))))))))
        cases hk; exact fin0 hO
       ·refine lsk (gn (lsq (lsq (wpL_drw [(0, true), (1, true), (2, true), (3, false), (4, false), (5, false), (6, false), (7, false), (8, false)] [_, _, _, _, _, _, _, _, _] (by decide +kernel) (by rfl) ?_))))
        refine pLs hO 3 [_, _] tA41 tZ41 ?_
        refine pLs hO 0 [_, _] tA55 tZ55 (bk hk fun v15 hv15 hk => ?_)
        refine pCall (fun _ => f64_run hv15) (bk hk fun v16 hv16 hk => ?_)
        refine pCall (fun _ => f63_run hv16) ?_
        refine pM (.tup [_, _]) ?_
        refine pEx (.lit _ _ _) ?_
        refine pEx (.lit _ _ _) ?_
        refine pA (.lit _ _ _) ?_
        refine pA (.lit _ _ _) (pE (gn (lsq (lrg ?_))))
        refine pM (.lit _ _ _) ?_
        refine pLs hO 1 [_, _] tA55 tZ55 (bk hk fun v17 hv17 hk => ?_)
        refine pCall (fun _ => f66_run hv17) (bk hk fun v18 hv18 hk => ?_)
        refine pCall (fun _ => f65_run hv18) ?_
        refine pU (pE (gn (lck hk (fun hk => ?_) (fun hk => ?_))))
        ·refine lsq (lrg (pA (.bool _) (pE (gn (lrt (gr (br (gr (gr (br (gr (have hk := lx hx1 hk; ?_))))))))))))
         cases hk; exact fin0 hO
        ·refine lsk (gn (lsq (lrg (pLs hO 0 [_, _] tA55 tZ55 ?_))))
         refine pSt (xs := [_, _]) hO 1 tZ55 rfl (fun G hO => pE (gn (lrg ?_)))
         refine pM (.int _ _) ?_
         refine pLs hO 3 [_, _] tA41 tZ41 ?_
         refine pLs hO 0 [_, _] tA55 tZ55 (bk hk fun v19 hv19 hk => ?_)
         refine pCall (fun _ => f48_run hv19) ?_
         refine pBi ?_
         refine pA (.int _ _) (pE (bn (gn (lrg ?_))))
         refine pBi ?_
         refine pM (.int _ _) (pE (gn ?_))
         cases hk; exact ⟨_, rfl, _, _, (pk hO [1, 2, 3]), sh⟩
    ·refine lex (ge (ge (be (gn (have hk := lx hx1 hk; lsq (lrg (pM (.int _ _) ?_)))))))
     refine pFL tF36_1 hO 1 (.int _ _) tA3 ?_
     refine pBi ?_
     refine pA (.bool _) (pE (gn (lrt ?_)))
     cases hk; exact fin0 hO
def f25 (aN0 : Net) (aT1 : Train) : Option Bool :=
 ((f44 aN0).bind fun v3 => ((bif v3 then ((f45 aN0 aT1).bind fun v5 => some v5) else some false).bind fun t4 => some t4))
theorem f25_run {aN0 : Net} {aT1 : Train} {r : Bool} {l1 l2 m3 l4 : Nat} (hk : f25 aN0 aT1 = some r) (hlk : 0 < lk.length := by simp) : runL Try.prog hh 25 [.agg [litL l1 0 aN0.Pieces, litL l2 m3 aN0.Joints], .agg [iv aT1.Front.Piece, iv aT1.Front.At, iv aT1.Front.Way, iv aT1.Long, litL l4 0 aT1.Back]] H lk = some (.bool r, H) := by
 refine run_start Try.func25 rfl Try.ntmps25 Try.results25 rfl rfl fun hO => ?_
 unfold f25 at hk
 refine lsq (lrg (pBox (cs := [_, _]) hO tZ41 (fun b1 G hO => ?_)))
 refine pBox (cs := [_, _, _, _, _]) hO tZ36 (fun b2 G hO => ?_)
 refine pA (.bool _) (pE (gn (lsq (lrg ?_))))
 refine pLs hO 1 [_, _] tA41 tZ41 (bk hk fun v3 hv3 hk => ?_)
 refine pCall (fun _ => f44_run hv3) ?_
 refine pM (.bool _) (bk hk fun t4 ht hk => ?_)
 refine wpR_mid (l1 := [_, _, _, _]) (fun S' => ∃ J, S' = ⟨hav [(11, .bool t4)] J, G⟩) ?_ ?_
 ·refine bc (b := v3) (fun hg => ?_) (fun hg => ?_)
  ·replace hk := ct hg ht
   refine pGy hg (pLs hO 1 [_, _] tA41 tZ41 (pGy hg ?_))
   refine pLs hO 0 [_, _, _, _, _] tA36 tZ36 (pGy hg (bk hk fun v5 hv5 hk => ?_))
   refine pCall (fun _ => f45_run hv5) ?_
   refine pPt hg (.bool _) ?_
   cases hk; exact pE ⟨_, sh⟩
  ·replace hk := cf hg ht
   refine pGn hg (pGn hg (pGn hg (pPf hg (.bool _) ?_)))
   cases hk; exact pE ⟨_, sh⟩
 ·rintro _ ⟨J, rfl⟩
  refine pA (.bool _) (pE (gn (lrt ?_)))
  cases hk; exact fin0 hO
def f67 (aPiece0 : Int) (aA1 : Int) (aB2 : Int) : Option Part :=
 some ({ Piece := aPiece0, From := (if aB2 < aA1 then aB2 else aA1), To := (if aB2 > aA1 then aB2 else aA1) } : Part)
theorem f67_run {aPiece0 : Int} {aA1 : Int} {aB2 : Int} {r : Part} (hk : f67 aPiece0 aA1 aB2 = some r) (hlk : 0 < lk.length := by simp) : runL Try.prog hh 67 [iv aPiece0, iv aA1, iv aB2] H lk = some (.agg [iv r.Piece, iv r.From, iv r.To], H) := by
 refine run_start Try.func67 rfl Try.ntmps67 Try.results67 rfl rfl fun hO => ?_
 unfold f67 at hk
 refine lsq (lrg (pNew hO tZ87 t087 (fun b1 G hO => pE (gn (lsq (lrg (pM (.int _ _) ?_)))))))
 refine pM (.int _ _) ?_
 refine pM (.int _ _) ?_
 refine pMin ?_
 refine pM (.int _ _) ?_
 refine pM (.int _ _) ?_
 refine pMax ?_
 refine pBd [_, _, _] t087 tP87 ?_
 refine pSt (xs := [_, _, _]) hO 0 tZ87 rfl (fun G hO => pE (gn (lrt ?_)))
 replace hk := Option.some.inj hk; subst hk; exact finZ hO (fz_agg (n := 2) (fz_c (fz_int _ _) (fz_c (fz_int _ _) (fz_c (fz_int _ _) (fz_n))))) (resS hO 0 [_, _, _] tA87 tZ87 resN)
def f46_k2 (x5 : Int) (x8 : Int) (c9 : Step) (v11 : Int) (x12 : List Part) (x14 : Int) : Option ((Int × (List Part) × Int) ⊕ (List Part)) :=
 ((f67 c9.Piece x14 (w64 (x14 - (w64 ((if v11 < x5 then v11 else x5) * c9.Way))))).bind fun v15 => ((appB 24 x12 ([v15] : List Part)).bind fun z16 => some (.inl (w64 (x5 - (if v11 < x5 then v11 else x5)), z16, w64 (x8 + (1:Int))))))
def f46_L1 (aN0 : Net) (aT1 : Train) : (Int × (List Part) × Int) → Option ((Int × (List Part) × Int) ⊕ (List Part)) := fun s =>
 (bif decide (s.2.2 < (aT1.Back.length : Int)) then ((getI aT1.Back s.2.2).bind fun c9 => ((f48 aN0 c9).bind fun v11 => (bif (c9.Way == (1:Int)) then ((f48 aN0 c9).bind fun v17 => (f46_k2 s.1 s.2.2 c9 v11 s.2.1 v17)) else (f46_k2 s.1 s.2.2 c9 v11 s.2.1 (0:Int))))) else ((some s.2.1).map Sum.inr))
def f46 (aN0 : Net) (aT1 : Train) : Option (List Part) :=
 ((f47 aN0 aT1.Front).bind fun v3 => ((f67 aT1.Front.Piece aT1.Front.At (w64 (aT1.Front.At - (w64 ((if v3 < aT1.Long then v3 else aT1.Long) * aT1.Front.Way))))).bind fun v4 => (loopO (f46_L1 aN0 aT1) (w64 (aT1.Long - (if v3 < aT1.Long then v3 else aT1.Long)), ([v4] : List Part), (0:Int)))))
theorem f46_run {aN0 : Net} {aT1 : Train} {r : (List Part)} {l1 l2 m3 l4 : Nat} (hk : f46 aN0 aT1 = some r) (hlk : 0 < lk.length := by simp) : runL Try.prog hh 46 [.agg [litL l1 0 aN0.Pieces, litL l2 m3 aN0.Joints], .agg [iv aT1.Front.Piece, iv aT1.Front.At, iv aT1.Front.Way, iv aT1.Long, litL l4 0 aT1.Back]] H lk = some (litL 0 0 r, H) := by
 refine run_start Try.func46 rfl Try.ntmps46 Try.results46 rfl rfl fun hO => ?_
 unfold f46 at hk
 refine lsq (lrg (pBox (cs := [_, _]) hO tZ41 (fun b1 G hO => ?_)))
 refine pBox (cs := [_, _, _, _, _]) hO tZ36 (fun b2 G hO => ?_)
 refine pA (.tl 0 []) (pE (gn (lsq (lrg ?_))))
 refine pFL tF36_1 hO 0 (.int _ _) tA3 ?_
 refine pA (.int _ _) (pE (gn (lsq (lrg ?_))))
 refine pM (.int _ _) ?_
 refine pLs hO 1 [_, _] tA41 tZ41 ?_
 refine pF tF36_0 ?_
 refine pLs hO 0 [_, _, _] tA33 tZ33 (bk hk fun v3 hv3 hk => ?_)
 refine pCall (fun _ => f47_run hv3) ?_
 refine pMin ?_
 refine pA (.int _ _) (pE (gn (lsq (lrg ?_))))
 refine pF tF36_0 ?_
 refine pFL tF33_0 hO 0 (.int _ _) tA3 ?_
 refine pF tF36_0 ?_
 refine pFL tF33_1 hO 0 (.int _ _) tA3 ?_
 refine pF tF36_0 ?_
 refine pFL tF33_1 hO 0 (.int _ _) tA3 ?_
 refine pM (.int _ _) ?_
 refine pF tF36_0 ?_
 refine pFL tF33_2 hO 0 (.int _ _) tA3 ?_
 refine pBi ?_
 refine pBi (bk hk fun v4 hv4 hk => ?_)
 refine pCall (fun _ => f67_run hv4) ?_
 refine pBs (ps := [(0, (.agg [_, _, _]))]) ([v4] : List Part) tE84 tZ87 t087 (emb_cons (embx_agg (α := Part) v4) (emb_nil)) ?_
 refine pA (.tl 1 (flatL 0 ([v4] : List Part))) (pE (gn (lsq (lrg ?_))))
 refine pM (.int _ _) ?_
 refine pM (.int _ _) ?_
 refine pBi ?_
 refine pA (.int _ _) (pE (gn (lsq (lsq (lrg ?_)))))
 refine pFL tF36_2 hO 0 (.lit _ _ _) tA34 ?_
 refine pLen tS34 ?_
 refine pM (.int _ _) (pE (gn (lbl ?_)))
 refine wpL_loopO (F := f46_L1 aN0 aT1) (fun s S' => ∃ (o6 : V) (J : Nat → V) (G : Heap), Owns H G [.blk b1 (.cells 2 [litL l1 0 aN0.Pieces, litL l2 m3 aN0.Joints]), .own o6 lk.length 3 s.2.1.length (flatL 0 s.2.1)] ∧ S' = ⟨hav [(2, .ptr b1 0), (5, iv s.1), (7, o6), (40, litL l4 0 aT1.Back), (41, iv (aT1.Back.length : Int)), (42, iv s.2.2)] J, G⟩) hk ⟨(.tl 1 (flatL 0 ([v4] : List Part))), _, _, (Owns.pick (Owns.addTl hO lk.length ([v4] : List Part)) [2, 0] (by decide) rfl), sh⟩ ?_
 rintro ⟨x5, x6, x8⟩ _ y1 ⟨o6, J, G, hO, rfl⟩ hk hx1
 refine lsq (lrg (pBi (pE (gn (lsq (lck hk (fun hk => ?_) (fun hk => ?_)))))))
 ·refine lsk (gn (lsq (lbl (lsq (lrg (bk hk fun c9 hc9 hk => pX hc9 tE34 tZ55 ?_))))))
  refine pLp (.agg [_, _]) (rd2 (lm := 0) (off := 0) hc9 tA55 tZ55) (pNew hO tZ55 t055 (fun b10 G hO => ?_))
  refine pSt (xs := [_, _]) hO 0 tZ55 rfl (fun G hO => pE (gn (lsq (lrg ?_))))
  refine pM (.int _ _) ?_
  refine pLs hO 1 [_, _] tA41 tZ41 ?_
  refine pLs hO 0 [_, _] tA55 tZ55 (bk hk fun v11 hv11 hk => ?_)
  refine pCall (fun _ => f48_run hv11) ?_
  refine pMin ?_
  refine pA (.int _ _) (pE (gn (lsq (lrg ?_))))
  refine pA (.int _ _) (pE (gn ?_))
  refine wpL_mid (fun S' => ∃ (x12 : List Part) (x14 : Int) (o12 : V) (J : Nat → V) (G : Heap), f46_k2 x5 x8 c9 v11 x12 x14 = some y1 ∧ Owns H G [.blk b10 (.cells 2 [iv c9.Piece, iv c9.Way]), .blk b1 (.cells 2 [litL l1 0 aN0.Pieces, litL l2 m3 aN0.Joints]), .own o12 lk.length 3 x12.length (flatL 0 x12)] ∧ S' = ⟨hav [(2, .ptr b1 0), (5, iv x5), (6, iv (if v11 < x5 then v11 else x5)), (7, o12), (9, .ptr b10 0), (10, iv x14), (40, litL l4 0 aT1.Back), (41, iv (aT1.Back.length : Int)), (42, iv x8)] J, G⟩) ?_ ?_
  ·refine lsq (lrg (pFL tF55_1 hO 0 (.int _ _) tA3 ?_))
   refine pBi (pE (gn (lck hk (fun hk => ?_) (fun hk => ?_))))
   ·refine lrg (pLs hO 1 [_, _] tA41 tZ41 ?_)
    refine pLs hO 0 [_, _] tA55 tZ55 (bk hk fun v17 hv17 hk => ?_)
    refine pCall (fun _ => f48_run hv17) ?_
    refine pA (.int _ _) (pE (gn ?_))
    exact ⟨x6, v17, o6, _, _, hk, hO, sh⟩
   ·exact lsk (gn (⟨x6, (0:Int), o6, _, _, hk, hO, sh⟩))
  ·rintro _ ⟨x12, x14, o12, J, G, hk, hO, rfl⟩
   refine lsq (lrg (pM o12 ?_))
   refine pFL tF55_0 hO 0 (.int _ _) tA3 ?_
   refine pM (.int _ _) ?_
   refine pM (.int _ _) ?_
   refine pM (.int _ _) ?_
   refine pFL tF55_1 hO 0 (.int _ _) tA3 ?_
   refine pBi ?_
   refine pBi (bk hk fun v15 hv15 hk => ?_)
   refine pCall (fun _ => f67_run hv15) ?_
   refine pBs (ps := [(0, (.agg [_, _, _]))]) ([v15] : List Part) tE84 tZ87 t087 (emb_cons (embx_agg (α := Part) v15) (emb_nil)) (bk hk fun z16 hz16 hk => ?_)
   refine pAp (xs := x12) hO 2 hz16 (bears_tl ([v15] : List Part)) tE84 tZ87 tB87 t087 tE84 rfl (fun o16 G hno16 hO => ?_)
   refine pA o16 (pE (gn (lrg ?_)))
   refine pM (.int _ _) ?_
   refine pM (.int _ _) ?_
   refine pBi ?_
   refine pA (.int _ _) (pE (bn (gn (lrg ?_))))
   refine pBi ?_
   refine pM (.int _ _) (pE (gn ?_))
   cases hk; exact ⟨_, rfl, o16, _, _, (pk hO [1, 2]), sh⟩
 ·refine lex (ge (ge (be (gn (have hk := lx hx1 hk; lsq (lrg (pM o6 ?_)))))))
  refine pA o6 (pE (gn (lrt ?_)))
  replace hk := Option.some.inj hk; subst hk; exact finZ hO (fz_own (xs := x6) hlk 1) (resT o6 resN)
def f26_k1 (c5 : Part) (x7 : Int) : Option Spot :=
 (bif (x7 == (1:Int)) then some ({ Piece := c5.Piece, At := c5.From, Way := x7 } : Spot) else some ({ Piece := c5.Piece, At := c5.To, Way := x7 } : Spot))
def f26 (aN0 : Net) (aT1 : Train) : Option Spot :=
 ((f46 aN0 aT1).bind fun v4 => ((getI v4 (w64 ((v4.length : Int) - (1:Int)))).bind fun c5 => (bif decide ((aT1.Back.length : Int) > (0:Int)) then ((getI aT1.Back (w64 ((aT1.Back.length : Int) - (1:Int)))).bind fun c8 => (f26_k1 c5 c8.Way)) else (f26_k1 c5 aT1.Front.Way))))
theorem f26_run {aN0 : Net} {aT1 : Train} {r : Spot} {l1 l2 m3 l4 : Nat} (hk : f26 aN0 aT1 = some r) (hlk : 0 < lk.length := by simp) : runL Try.prog hh 26 [.agg [litL l1 0 aN0.Pieces, litL l2 m3 aN0.Joints], .agg [iv aT1.Front.Piece, iv aT1.Front.At, iv aT1.Front.Way, iv aT1.Long, litL l4 0 aT1.Back]] H lk = some (.agg [iv r.Piece, iv r.At, iv r.Way], H) := by
 refine run_start Try.func26 rfl Try.ntmps26 Try.results26 rfl rfl fun hO => ?_
 unfold f26 at hk
 refine lsq (lrg (pBox (cs := [_, _]) hO tZ41 (fun b1 G hO => ?_)))
 refine pBox (cs := [_, _, _, _, _]) hO tZ36 (fun b2 G hO => pNew hO tZ33 t033 (fun b3 G hO => pE (gn (lsq (lrg ?_)))))
 refine pLs hO 2 [_, _] tA41 tZ41 ?_
 refine pLs hO 1 [_, _, _, _, _] tA36 tZ36 (bk hk fun v4 hv4 hk => ?_)
 refine pCall (fun _ => f46_run hv4) ?_
 refine pA (.lit _ _ _) (pE (gn (lsq (lrg ?_))))
 refine pM (.lit _ _ _) ?_
 refine pM (.lit _ _ _) ?_
 refine pLen tS84 ?_
 refine pBi (bk hk fun c5 hc5 hk => ?_)
 refine pX hc5 tE84 tZ87 ?_
 refine pLp (.agg [_, _, _]) (rd2 (lm := 0) (off := 0) hc5 tA87 tZ87) (pNew hO tZ87 t087 (fun b6 G hO => ?_))
 refine pSt (xs := [_, _, _]) hO 0 tZ87 rfl (fun G hO => pE (gn (lsq (lrg ?_))))
 refine pF tF36_0 ?_
 refine pFL tF33_2 hO 2 (.int _ _) tA3 ?_
 refine pA (.int _ _) (pE (gn ?_))
 refine wpL_mid (fun S' => ∃ (x7 : Int) (J : Nat → V) (G : Heap), f26_k1 c5 x7 = some r ∧ Owns H G [.blk b6 (.cells 3 [iv c5.Piece, iv c5.From, iv c5.To]), .blk b3 (.cells 3 [iv 0, iv 0, iv 0])] ∧ S' = ⟨hav [(4, .ptr b3 0), (6, .ptr b6 0), (7, iv x7)] J, G⟩) ?_ ?_
 ·refine lsq (lrg (pFL tF36_2 hO 2 (.lit _ _ _) tA34 ?_))
  refine pLen tS34 ?_
  refine pBi (pE (gn (lck hk (fun hk => ?_) (fun hk => ?_))))
  ·refine lrg (pFL tF36_2 hO 2 (.lit _ _ _) tA34 ?_)
   refine pFL tF36_2 hO 2 (.lit _ _ _) tA34 ?_
   refine pLen tS34 ?_
   refine pBi (bk hk fun c8 hc8 hk => ?_)
   refine pX hc8 tE34 tZ55 ?_
   refine pF tF55_1 ?_
   refine pLp (.int _ _) (rd1 (lm := 0) (off := 1) hc8 tA3) ?_
   refine pA (.int _ _) (pE (gn ?_))
   exact ⟨c8.Way, _, _, hk, (pk hO [0, 1]), sh⟩
  ·exact lsk (gn (⟨aT1.Front.Way, _, _, hk, (pk hO [0, 1]), sh⟩))
 ·rintro _ ⟨x7, J, G, hk, hO, rfl⟩
  refine lsq (lsq (lrg (pM (.int _ _) ?_)))
  refine pBi (pE (gn (lck hk (fun hk => ?_) (fun hk => ?_))))
  ·refine lsq (lrg (pFL tF87_0 hO 0 (.int _ _) tA3 ?_))
   refine pFL tF87_1 hO 0 (.int _ _) tA3 ?_
   refine pM (.int _ _) ?_
   refine pBd [_, _, _] t033 tP33 ?_
   refine pSt (xs := [_, _, _]) hO 1 tZ33 rfl (fun G hO => pE (gn (lrt (gr ?_))))
   replace hk := Option.some.inj hk; subst hk; exact finZ hO (fz_agg (n := 2) (fz_c (fz_int _ _) (fz_c (fz_int _ _) (fz_c (fz_int _ _) (fz_n))))) (resS hO 1 [_, _, _] tA33 tZ33 resN)
  ·refine lsk (gn (lsq (lrg (pFL tF87_0 hO 0 (.int _ _) tA3 ?_))))
   refine pFL tF87_2 hO 0 (.int _ _) tA3 ?_
   refine pM (.int _ _) ?_
   refine pBd [_, _, _] t033 tP33 ?_
   refine pSt (xs := [_, _, _]) hO 1 tZ33 rfl (fun G hO => pE (gn (lrt ?_)))
   replace hk := Option.some.inj hk; subst hk; exact finZ hO (fz_agg (n := 2) (fz_c (fz_int _ _) (fz_c (fz_int _ _) (fz_c (fz_int _ _) (fz_n))))) (resS hO 1 [_, _, _] tA33 tZ33 resN)
def f27_k1 (aT1 : Train) (x6 : List Step) : Option Train :=
 some ({ Front := aT1.Front, Long := aT1.Long, Back := x6 } : Train)
def f27_L2 (aN0 : Net) (aT1 : Train) : ((List Step) × Int × Int) → Option (((List Step) × Int × Int) ⊕ Train) := fun s =>
 (bif decide (s.2.2 < (aT1.Back.length : Int)) then ((getI s.1 s.2.2).bind fun c13 => (bif decide (s.2.1 ≥ aT1.Long) then ((subB s.1 (0:Int) s.2.2).bind fun y16 => ((f27_k1 aT1 y16).map Sum.inr)) else ((f48 aN0 c13).bind fun v19 => some (.inl (s.1, w64 (s.2.1 + v19), w64 (s.2.2 + (1:Int))))))) else ((f27_k1 aT1 s.1).map Sum.inr))
def f27 (aN0 : Net) (aT1 : Train) : Option Train :=
 ((f47 aN0 aT1.Front).bind fun v5 => (loopO (f27_L2 aN0 aT1) (aT1.Back, v5, (0:Int))))
theorem f27_run {aN0 : Net} {aT1 : Train} {r : Train} {l1 l2 m3 : Nat} {w0 : V} {F0 : List Nat} (hk : f27 aN0 aT1 = some r) (hw0 : PreV H F0 (aT1.Back) w0) (hlk : 0 < lk.length := by simp) : ∃ v H1, runL Try.prog hh 27 [.agg [litL l1 0 aN0.Pieces, litL l2 m3 aN0.Joints], .agg [iv aT1.Front.Piece, iv aT1.Front.At, iv aT1.Front.Way, iv aT1.Long, w0]] H lk = some (v, H1) ∧ H1 = H ∧ ∃ w, v = .agg [iv r.Front.Piece, iv r.Front.At, iv r.Front.Way, iv r.Long, w] ∧ PreV H F0 (r.Back) w := by
 refine run_startR Try.func27 rfl Try.ntmps27 Try.results27 rfl rfl ?_
 have hO := pre_start hw0
 unfold f27 at hk
 refine lsq (lrg (pBox (cs := [_, _]) hO tZ41 (fun b1 G hO => ?_)))
 have hc3 := sh_cells (pre_sh hO (j := 1) rfl)
 refine pBox (cs := [_, _, _, _, _]) hO tZ36 (fun b2 G hO => ?_) (h3 := (all_c rfl (all_c rfl (all_c rfl (all_c rfl (all_c hc3.2 all_n))))))
 refine pNew hO tZ36 t036 (fun b4 G hO => pE (gn (lsq (lrg (pLs hO 2 [_, _] tA41 tZ41 ?_)))))
 refine pF tF36_0 ?_
 refine pLs hO 1 [_, _, _] tA33 tZ33 (bk hk fun v5 hv5 hk => ?_)
 refine pCall (fun _ => f47_run hv5) ?_
 refine pA (.int _ _) (pE (gn ?_))
 refine wpL_mid (fun S' => ∃ (x6 : List Step) (o6 : V) (J : Nat → V) (G : Heap), f27_k1 aT1 x6 = some r ∧ Owns H G [.blk b4 (.cells 5 [iv 0, iv 0, iv 0, iv 0, (.tl 0 [])]), PreR H F0 x6 o6, .blk b2 (.cells 5 [iv aT1.Front.Piece, iv aT1.Front.At, iv aT1.Front.Way, iv aT1.Long, o6])] ∧ S' = ⟨hav [(3, .ptr b2 0), (4, .ptr b4 0)] J, G⟩) ?_ ?_
 ·refine lsq (lrg (pFL tF36_2 hO 1 w0 tA34 ?_))
  refine pLenO (bears_sh (pre_sh hO (j := 3) rfl)) tS34 ?_
  refine pM (.int _ _) (pE (gn (lbl ?_)))
  refine wpL_loopO (F := f27_L2 aN0 aT1) (fun s S' => ∃ (o9 : V) (J : Nat → V) (G : Heap), Owns H G [.blk b4 (.cells 5 [iv 0, iv 0, iv 0, iv 0, (.tl 0 [])]), PreR H F0 s.1 o9, .blk b2 (.cells 5 [iv aT1.Front.Piece, iv aT1.Front.At, iv aT1.Front.Way, iv aT1.Long, o9]), .blk b1 (.cells 2 [litL l1 0 aN0.Pieces, litL l2 m3 aN0.Joints])] ∧ S' = ⟨hav [(2, .ptr b1 0), (3, .ptr b2 0), (4, .ptr b4 0), (5, iv s.2.1), (13, o9), (14, iv (aT1.Back.length : Int)), (15, iv s.2.2)] J, G⟩) hk ⟨w0, _, _, (pk hO [0, 3, 1, 2]), sh⟩ ?_
  rintro ⟨x9, x11, x12⟩ _ y1 ⟨o9, J, G, hO, rfl⟩ hk hx1
  refine lsq (lrg (pBi (pE (gn (lsq (lck hk (fun hk => ?_) (fun hk => ?_)))))))
  ·refine lsk (gn (lsq (lbl (lsq (lrg (pM (.int _ _) (bk hk fun c13 hc13 hk => ?_)))))))
   refine pXP (pre_sh hO (j := 1) rfl) hc13 tE34 tZ55 (fun lv14 => ?_)
   refine pLp (.agg [_, _]) (rd2 (lm := 0) (off := 0) hc13 tA55 tZ55) (pNew hO tZ55 t055 (fun b15 G hO => ?_))
   refine pA (.int _ _) ?_
   refine pSt (xs := [_, _]) hO 0 tZ55 rfl (fun G hO => pE (gn (lsq (lsq (lrg ?_)))))
   refine pM (.int _ _) ?_
   refine pFL tF36_1 hO 3 (.int _ _) tA3 ?_
   refine pBi (pE (gn (lck hk (fun hk => ?_) (fun hk => ?_))))
   ·refine lsq (lrg (pFL tF36_2 hO 3 o9 tA34 ?_))
    refine pM (.int _ _) (bk hk fun y16 hy16 hk => ?_)
    refine pSlP hO 2 hc13 hy16 tE34 tZ55 (fun w17 hO => ?_)
    refine pF tF36_2 ?_
    have hc18 := sh_cells (pre_sh hO (j := 0) rfl)
    refine pSt (xs := [_]) hO 4 tZ34 rfl (fun G hO => ?_) (h3 := hc18.1) (h6 := one_cell hc18.2)
    refine pE (gn (lex (ge (bo rfl (ge (ge (be (gn (have hk := lx hx1 hk; ?_)))))))))
    exact ⟨y16, w17, _, _, hk, (pk hO [2, 0, 4]), sh⟩
   ·refine lsk (gn (lrg (pM (.int _ _) ?_)))
    refine pLs hO 4 [_, _] tA41 tZ41 ?_
    refine pLs hO 0 [_, _] tA55 tZ55 (bk hk fun v19 hv19 hk => ?_)
    refine pCall (fun _ => f48_run hv19) ?_
    refine pBi ?_
    refine pA (.int _ _) (pE (bn (gn (lrg ?_))))
    refine pBi ?_
    refine pM (.int _ _) (pE (gn ?_))
    cases hk; exact ⟨_, rfl, o9, _, _, (pk hO [1, 2, 3, 4]), sh⟩
  ·exact lex (ge (ge (be (gn (have hk := lx hx1 hk; ⟨x9, o9, _, _, hk, (pk hO [0, 1, 2]), sh⟩)))))
 ·rintro _ ⟨x6, o6, J, G, hk, hO, rfl⟩
  refine lsq (lrg (pLs hO 2 [_, _, _, _, _] tA36 tZ36 ?_))
  have hc8 := sh_cells (pre_sh hO (j := 1) rfl)
  refine pSt (xs := [_, _, _, _, _]) hO 0 tZ36 rfl (fun G hO => ?_) (h6 := (all_c rfl (all_c rfl (all_c rfl (all_c rfl (all_c hc8.2 all_n))))))
  refine pE (gn (lrt ?_))
  replace hk := Option.some.inj hk; subst hk; exact finPre (cs := [iv aT1.Front.Piece, iv aT1.Front.At, iv aT1.Front.Way, iv aT1.Long]) hO 1 hlk (resS hO 0 [_, _, _, _, _] tA36 tZ36 resN)
def f9_L1 (aN0 : Net) (aT1 : Train) (v5 : Spot) : ((List Step) × (List Step) × Int) → Option (((List Step) × (List Step) × Int) ⊕ Train) := fun s =>
 (bif decide (s.2.2 ≥ (0:Int)) then ((getI s.2.1 s.2.2).bind fun c15 => ((getI s.2.1 s.2.2).bind fun c17 => ((appB 16 s.1 ([({ Piece := c15.Piece, Way := w64 (0 - c17.Way) } : Step)] : List Step)).bind fun z19 => some (.inl (z19, s.2.1, w64 (s.2.2 - (1:Int))))))) else (((f27 aN0 ({ Front := ({ Piece := v5.Piece, At := v5.At, Way := w64 (0 - v5.Way) } : Spot), Long := aT1.Long, Back := s.1 } : Train)).bind fun v21 => some ({ Front := v21.Front, Long := v21.Long, Back := v21.Back } : Train)).map Sum.inr))
def f9 (aN0 : Net) (aT1 : Train) : Option Train :=
 ((f25 aN0 aT1).bind fun v4 => (bif !v4 then some ({ Front := ({ Piece := 0, At := 0, Way := 0 } : Spot), Long := 0, Back := ([] : List Step) } : Train) else ((f26 aN0 aT1).bind fun v5 => ((appB 16 ([({ Piece := aT1.Front.Piece, Way := aT1.Front.Way } : Step)] : List Step) aT1.Back).bind fun z7 => (loopO (f9_L1 aN0 aT1 v5) (([] : List Step), z7, w64 ((z7.length : Int) - (2:Int))))))))
theorem f9_run {aN0 : Net} {aT1 : Train} {r : Train} {l1 l2 m3 l4 : Nat} (hk : f9 aN0 aT1 = some r) (hlk : 0 < lk.length := by simp) : ∃ v H1, runL Try.prog hh 9 [.agg [litL l1 0 aN0.Pieces, litL l2 m3 aN0.Joints], .agg [iv aT1.Front.Piece, iv aT1.Front.At, iv aT1.Front.Way, iv aT1.Long, litL l4 0 aT1.Back]] H lk = some (v, H1) ∧ FreshS H r v H1 := by
 refine run_startR Try.func9 rfl Try.ntmps9 Try.results9 rfl rfl ?_
 have hO := Owns.nil H
 unfold f9 at hk
 refine lsq (lrg (pBox (cs := [_, _]) hO tZ41 (fun b1 G hO => ?_)))
 refine pBox (cs := [_, _, _, _, _]) hO tZ36 (fun b2 G hO => pNew hO tZ36 t036 (fun b3 G hO => pE (gn (lsq (lsq (lrg ?_))))))
 refine pLs hO 2 [_, _] tA41 tZ41 ?_
 refine pLs hO 1 [_, _, _, _, _] tA36 tZ36 (bk hk fun v4 hv4 hk => ?_)
 refine pCall (fun _ => f25_run hv4) ?_
 refine pU (pE (gn (lck hk (fun hk => ?_) (fun hk => ?_))))
 ·refine lsq (lrg (pBd [_, _, _, _, _] t036 tP36 ?_))
  refine pSt (xs := [_, _, _, _, _]) hO 0 tZ36 rfl (fun G hO => pE (gn (lrt (gr ?_))))
  replace hk := Option.some.inj hk; subst hk; exact finThS hO (th_Train (x := ({ Front := ({ Piece := 0, At := 0, Way := 0 } : Spot), Long := 0, Back := ([] : List Step) } : Train)) (th_pair (c1 := [_, _, _]) (th_fl (α := Spot) ({ Piece := 0, At := 0, Way := 0 } : Spot)) (th_pair (c1 := [_]) (th_int 0) (th_nil Step)))) (resS hO 0 [_, _, _, _, _] tA36 tZ36 resN)
 ·refine lsk (gn (lsq (lrg (pLs hO 2 [_, _] tA41 tZ41 ?_))))
  refine pLs hO 1 [_, _, _, _, _] tA36 tZ36 (bk hk fun v5 hv5 hk => ?_)
  refine pCall (fun _ => f26_run hv5) (pNew hO tZ33 t033 (fun b6 G hO => ?_))
  refine pSt (xs := [_, _, _]) hO 0 tZ33 rfl (fun G hO => pE (gn (lsq (lrg ?_))))
  refine pFL tF33_2 hO 0 (.int _ _) tA3 ?_
  refine pU ?_
  refine pF tF33_2 ?_
  refine pSt (xs := [_]) hO 0 tZ3 rfl (fun G hO => pE (gn (lsq (lrg ?_))))
  refine pF tF36_0 ?_
  refine pFL tF33_0 hO 2 (.int _ _) tA3 ?_
  refine pF tF36_0 ?_
  refine pFL tF33_2 hO 2 (.int _ _) tA3 ?_
  refine pBd [_, _] t055 tP55 ?_
  refine pBs (ps := [(0, (.agg [_, _]))]) ([({ Piece := aT1.Front.Piece, Way := aT1.Front.Way } : Step)] : List Step) tE34 tZ55 t055 (emb_cons (embx_agg (α := Step) ({ Piece := aT1.Front.Piece, Way := aT1.Front.Way } : Step)) (emb_nil)) ?_
  refine pFL tF36_2 hO 2 (.lit _ _ _) tA34 ?_
  replace hO := Owns.addTl hO lk.length ([({ Piece := aT1.Front.Piece, Way := aT1.Front.Way } : Step)] : List Step)
  refine bk hk fun z7 hz7 hk => pAp (xs := ([({ Piece := aT1.Front.Piece, Way := aT1.Front.Way } : Step)] : List Step)) hO 0 hz7 (bears_lit _ aT1.Back) tE34 tZ55 tB55 t055 tE34 rfl (fun o7 G hno7 hO => ?_)
  refine pA o7 (pE (gn (lsq (lrg ?_))))
  refine pLs hO 1 [_, _, _] tA33 tZ33 ?_
  refine pFL tF36_1 hO 3 (.int _ _) tA3 ?_
  refine pBd [_, _, _, _, _] t036 tP36 (pNew hO tZ36 t036 (fun b9 G hO => ?_))
  refine pSt (xs := [_, _, _, _, _]) hO 0 tZ36 rfl (fun G hO => pE (gn (lsq (lsq (lrg ?_)))))
  refine pM o7 ?_
  refine pLenO (bears_own hO (j := 1) rfl) tS34 ?_
  refine pBi ?_
  refine pA (.int _ _) (pE (gn (lbl ?_)))
  refine wpL_loopO (F := f9_L1 aN0 aT1 v5) (fun s S' => ∃ (o10 : V) (o12 : V) (J : Nat → V) (G : Heap), Nz o10 ∧ Owns H G [.own o10 lk.length 2 s.1.length (flatL 0 s.1), .blk b9 (.cells 5 [iv v5.Piece, iv v5.At, iv (w64 (0 - v5.Way)), iv aT1.Long, o10]), .blk b3 (.cells 5 [iv 0, iv 0, iv 0, iv 0, (.tl 0 [])]), .blk b1 (.cells 2 [litL l1 0 aN0.Pieces, litL l2 m3 aN0.Joints]), .own o12 lk.length 2 s.2.1.length (flatL 0 s.2.1)] ∧ S' = ⟨hav [(2, .ptr b1 0), (4, .ptr b3 0), (6, o12), (7, .ptr b9 0), (8, iv s.2.2)] J, G⟩) hk ⟨(.tl 0 []), o7, _, _, Nz.nil, (Owns.pick (Owns.addTl hO lk.length ([] : List Step)) [0, 1, 4, 6, 2] (by decide) rfl), sh⟩ ?_
  rintro ⟨x10, x12, x14⟩ _ y1 ⟨o10, o12, J, G, hno10, hO, rfl⟩ hk hx1
  refine lsq (lsq (lrg (pM (.int _ _) ?_)))
  refine pBi (pE (gn (lck hk (fun hk => ?_) (fun hk => ?_))))
  ·refine lsk (gn (lsq (lbl (wpL_drw [(0, true), (1, true), (2, true), (3, true), (4, true), (5, true), (6, true), (7, true), (8, true), (9, true), (10, true), (11, true), (12, true), (13, true), (14, true), (15, false), (16, false), (17, false)] [_, _, _, _, _, _, _, _, _, _, _, _, _, _, _, _, _, _] (by decide +kernel) (by rfl) ?_))))
   refine pFL tF36_2 hO 1 o10 tA34 ?_
   refine pM o12 ?_
   refine pM (.int _ _) (bk hk fun c15 hc15 hk => ?_)
   refine pXo hO 4 hc15 tE34 tZ55 (fun lv16 => ?_)
   refine pF tF55_0 ?_
   refine pLp (.int _ _) (rd1 (lm := 0) (off := 0) hc15 tA3) ?_
   refine pM o12 ?_
   refine pM (.int _ _) (bk hk fun c17 hc17 hk => ?_)
   refine pXo hO 4 hc17 tE34 tZ55 (fun lv18 => ?_)
   refine pF tF55_1 ?_
   refine pLp (.int _ _) (rd1 (lm := 0) (off := 1) hc17 tA3) ?_
   refine pU ?_
   refine pBd [_, _] t055 tP55 ?_
   refine pBs (ps := [(0, (.agg [_, _]))]) ([({ Piece := c15.Piece, Way := w64 (0 - c17.Way) } : Step)] : List Step) tE34 tZ55 t055 (emb_cons (embx_agg (α := Step) ({ Piece := c15.Piece, Way := w64 (0 - c17.Way) } : Step)) (emb_nil)) (bk hk fun z19 hz19 hk => ?_)
   refine pAp (xs := x10) hO 0 hz19 (bears_tl ([({ Piece := c15.Piece, Way := w64 (0 - c17.Way) } : Step)] : List Step)) tE34 tZ55 tB55 t055 tE34 rfl (fun o19 G hno19 hO => ?_)
   replace hno19 := hno19 hno10
   refine pF tF36_2 ?_
   have hc20 := own_cells hO (j := 0) rfl
   refine pSt (xs := [_]) hO 1 tZ34 rfl (fun G hO => ?_) (h3 := hc20.1) (h6 := one_cell hc20.2)
   refine pE (bn (gn (lrg (pM (.int _ _) ?_))))
   refine pBi ?_
   refine pA (.int _ _) (pE (gn ?_))
   cases hk; exact ⟨_, rfl, o19, o12, _, _, hno19, hO, sh⟩
  ·refine lex (ge (ge (be (gn (have hk := lx hx1 hk; lsq (lrg (pLs hO 3 [_, _] tA41 tZ41 ?_)))))))
   refine pLs hO 1 [_, _, _, _, _] tA36 tZ36 (bk hk fun v21 hv21 hk => ?_)
   refine pCPre (vs := [(.agg [_, _]), (.agg [_, _, _, _, _])]) (caps := []) (cs := [iv v21.Front.Piece, iv v21.Front.At, iv v21.Front.Way, iv v21.Long]) hO 0 hno10 (fun _ F hw => f27_run hv21 hw) (fun u22 F22 hO => ?_) (la_l rfl (la_p la_n))
   have hc23 := sh_cells (preo_sh hO (j := 0) rfl)
   refine pSt (xs := [_, _, _, _, _]) hO 2 tZ36 rfl (fun G hO => ?_) (h6 := (all_c rfl (all_c rfl (all_c rfl (all_c rfl (all_c hc23.2 all_n))))))
   refine pE (gn (lrt ?_))
   replace hk := Option.some.inj hk; subst hk; exact finThS hO (th_Train (x := ({ Front := v21.Front, Long := v21.Long, Back := v21.Back } : Train)) (th_pair (c1 := [_, _, _]) (th_fl (α := Spot) v21.Front) (th_pair (c1 := [_]) (th_int v21.Long) (th_pre (xs := v21.Back) hlk 0)))) (resS hO 2 [_, _, _, _, _] tA36 tZ36 resN)
def f28 (aA0 : Spot) (aB1 : Spot) : Option Bool :=
 (bif (aA0.Piece != aB1.Piece) then some false else (bif (aA0.At != aB1.At) then some false else (bif (aA0.Way != aB1.Way) then some false else some true)))
theorem f28_run {aA0 : Spot} {aB1 : Spot} {r : Bool} (hk : f28 aA0 aB1 = some r) (hlk : 0 < lk.length := by simp) : runL Try.prog hh 28 [.agg [iv aA0.Piece, iv aA0.At, iv aA0.Way], .agg [iv aB1.Piece, iv aB1.At, iv aB1.Way]] H lk = some (.bool r, H) := by
 refine run_start Try.func28 rfl Try.ntmps28 Try.results28 rfl rfl fun hO => ?_
 unfold f28 at hk
 refine lsq (lrg (pBox (cs := [_, _, _]) hO tZ33 (fun b1 G hO => ?_)))
 refine pBox (cs := [_, _, _]) hO tZ33 (fun b2 G hO => ?_)
 refine pA (.bool _) (pE (gn (lsq (lsq (lrg ?_)))))
 refine pFL tF33_0 hO 1 (.int _ _) tA3 ?_
 refine pFL tF33_0 hO 0 (.int _ _) tA3 ?_
 refine pBi (pE (gn (lck hk (fun hk => ?_) (fun hk => ?_))))
 ·refine lsq (lrg (pA (.bool _) (pE (gn (lrt (gr ?_))))))
  cases hk; exact fin0 hO
 ·refine lsk (gn (lsq (lsq (lrg (pFL tF33_1 hO 1 (.int _ _) tA3 ?_)))))
  refine pFL tF33_1 hO 0 (.int _ _) tA3 ?_
  refine pBi (pE (gn (lck hk (fun hk => ?_) (fun hk => ?_))))
  ·refine lsq (lrg (pA (.bool _) (pE (gn (lrt (gr ?_))))))
   cases hk; exact fin0 hO
  ·refine lsk (gn (lsq (lsq (lrg (pFL tF33_2 hO 1 (.int _ _) tA3 ?_)))))
   refine pFL tF33_2 hO 0 (.int _ _) tA3 ?_
   refine pBi (pE (gn (lck hk (fun hk => ?_) (fun hk => ?_))))
   ·refine lsq (lrg (pA (.bool _) (pE (gn (lrt (gr ?_))))))
    cases hk; exact fin0 hO
   ·refine lsk (gn (lsq (lrg (pA (.bool _) (pE (gn (lrt ?_)))))))
    cases hk; exact fin0 hO
def f49 (aA0 : Step) (aB1 : Step) : Option Bool :=
 (bif (aA0.Piece != aB1.Piece) then some false else (bif (aA0.Way != aB1.Way) then some false else some true))
theorem f49_run {aA0 : Step} {aB1 : Step} {r : Bool} (hk : f49 aA0 aB1 = some r) (hlk : 0 < lk.length := by simp) : runL Try.prog hh 49 [.agg [iv aA0.Piece, iv aA0.Way], .agg [iv aB1.Piece, iv aB1.Way]] H lk = some (.bool r, H) := by
 refine run_start Try.func49 rfl Try.ntmps49 Try.results49 rfl rfl fun hO => ?_
 unfold f49 at hk
 refine lsq (lrg (pBox (cs := [_, _]) hO tZ55 (fun b1 G hO => ?_)))
 refine pBox (cs := [_, _]) hO tZ55 (fun b2 G hO => ?_)
 refine pA (.bool _) (pE (gn (lsq (lsq (lrg ?_)))))
 refine pFL tF55_0 hO 1 (.int _ _) tA3 ?_
 refine pFL tF55_0 hO 0 (.int _ _) tA3 ?_
 refine pBi (pE (gn (lck hk (fun hk => ?_) (fun hk => ?_))))
 ·refine lsq (lrg (pA (.bool _) (pE (gn (lrt (gr ?_))))))
  cases hk; exact fin0 hO
 ·refine lsk (gn (lsq (lsq (lrg (pFL tF55_1 hO 1 (.int _ _) tA3 ?_)))))
  refine pFL tF55_1 hO 0 (.int _ _) tA3 ?_
  refine pBi (pE (gn (lck hk (fun hk => ?_) (fun hk => ?_))))
  ·refine lsq (lrg (pA (.bool _) (pE (gn (lrt (gr ?_))))))
   cases hk; exact fin0 hO
  ·refine lsk (gn (lsq (lrg (pA (.bool _) (pE (gn (lrt ?_)))))))
   cases hk; exact fin0 hO
def f29_L1 (aA0 : List Step) (aB1 : List Step) : Int → Option (Int ⊕ Bool) := fun s =>
 (bif decide (s < (aA0.length : Int)) then ((getI aA0 s).bind fun c2 => ((getI aB1 s).bind fun c3 => ((f49 c2 c3).bind fun v4 => (bif !v4 then ((some false).map Sum.inr) else some (.inl (w64 (s + (1:Int)))))))) else ((some true).map Sum.inr))
def f29 (aA0 : List Step) (aB1 : List Step) : Option Bool :=
 (bif ((aA0.length : Int) != (aB1.length : Int)) then some false else (loopO (f29_L1 aA0 aB1) ((0:Int))))
theorem f29_run {aA0 : List Step} {aB1 : List Step} {r : Bool} {l1 l2 : Nat} (hk : f29 aA0 aB1 = some r) (hlk : 0 < lk.length := by simp) : runL Try.prog hh 29 [litL l1 0 aA0, litL l2 0 aB1] H lk = some (.bool r, H) := by
 refine run_start Try.func29 rfl Try.ntmps29 Try.results29 rfl rfl fun hO => ?_
 unfold f29 at hk
 refine lsq (lrg (pA (.bool _) (pE (gn (lsq (lsq (lrg ?_)))))))
 refine pM (.lit _ _ _) ?_
 refine pLen tS34 ?_
 refine pM (.lit _ _ _) ?_
 refine pLen tS34 ?_
 refine pBi (pE (gn (lck hk (fun hk => ?_) (fun hk => ?_))))
 ·refine lsq (lrg (pA (.bool _) (pE (gn (lrt (gr ?_))))))
  cases hk; exact fin0 hO
 ·refine lsk (gn (lsq (lsq (lrg (pA (.int _ _) (pE (gn (lbl ?_))))))))
  refine wpL_loopO (F := f29_L1 aA0 aB1) (fun s S' => ∃ (J : Nat → V) (G : Heap), Owns H G [] ∧ S' = ⟨hav [(0, litL l1 0 aA0), (1, litL l2 0 aB1), (5, iv s)] J, G⟩) hk ⟨_, _, hO, sh⟩ ?_
  rintro x1 _ y1 ⟨J, G, hO, rfl⟩ hk hx1
  refine lsq (lsq (lrg (pM (.int _ _) ?_)))
  refine pM (.lit _ _ _) ?_
  refine pLen tS34 ?_
  refine pBi (pE (gn (lck hk (fun hk => ?_) (fun hk => ?_))))
  ·refine lsk (gn (lsq (lbl (lsq (wpL_drw [(0, true), (1, true), (2, true), (3, true), (4, true), (5, true), (6, true), (7, true), (8, false), (9, false)] [_, _, _, _, _, _, _, _, _, _] (by decide +kernel) (by rfl) ?_)))))
   refine pM (.lit _ _ _) ?_
   refine pM (.int _ _) (bk hk fun c2 hc2 hk => ?_)
   refine pX hc2 tE34 tZ55 ?_
   refine pLp (.agg [_, _]) (rd2 (lm := 0) (off := 0) hc2 tA55 tZ55) ?_
   refine pM (.lit _ _ _) ?_
   refine pM (.int _ _) (bk hk fun c3 hc3 hk => ?_)
   refine pX hc3 tE34 tZ55 ?_
   refine pLp (.agg [_, _]) (rd2 (lm := 0) (off := 0) hc3 tA55 tZ55) (bk hk fun v4 hv4 hk => ?_)
   refine pCall (fun _ => f49_run hv4) ?_
   refine pU (pE (gn (lck hk (fun hk => ?_) (fun hk => ?_))))
   ·refine lsq (lrg (pA (.bool _) (pE (gn (lrt (br (gr (gr (br (gr (have hk := lx hx1 hk; ?_)))))))))))
    cases hk; exact fin0 hO
   ·refine lsk (bn (gn (lrg (pM (.int _ _) ?_))))
    refine pBi ?_
    refine pA (.int _ _) (pE (gn ?_))
    cases hk; exact ⟨_, rfl, _, _, hO, sh⟩
  ·refine lex (ge (ge (be (gn (have hk := lx hx1 hk; lsq (lrg (pA (.bool _) (pE (gn (lrt ?_))))))))))
   cases hk; exact fin0 hO
def f10 (aA0 : Train) (aB1 : Train) : Option Bool :=
 ((f28 aA0.Front aB1.Front).bind fun v3 => (bif !v3 then some false else (bif (aA0.Long != aB1.Long) then some false else ((f29 aA0.Back aB1.Back).bind fun v4 => (bif !v4 then some false else some true)))))
theorem f10_run {aA0 : Train} {aB1 : Train} {r : Bool} {l1 l2 : Nat} (hk : f10 aA0 aB1 = some r) (hlk : 0 < lk.length := by simp) : runL Try.prog hh 10 [.agg [iv aA0.Front.Piece, iv aA0.Front.At, iv aA0.Front.Way, iv aA0.Long, litL l1 0 aA0.Back], .agg [iv aB1.Front.Piece, iv aB1.Front.At, iv aB1.Front.Way, iv aB1.Long, litL l2 0 aB1.Back]] H lk = some (.bool r, H) := by
 refine run_start Try.func10 rfl Try.ntmps10 Try.results10 rfl rfl fun hO => ?_
 unfold f10 at hk
 refine lsq (lrg (pBox (cs := [_, _, _, _, _]) hO tZ36 (fun b1 G hO => ?_)))
 refine pBox (cs := [_, _, _, _, _]) hO tZ36 (fun b2 G hO => ?_)
 refine pA (.bool _) (pE (gn (lsq (lsq (lrg ?_)))))
 refine pF tF36_0 ?_
 refine pLs hO 1 [_, _, _] tA33 tZ33 ?_
 refine pF tF36_0 ?_
 refine pLs hO 0 [_, _, _] tA33 tZ33 (bk hk fun v3 hv3 hk => ?_)
 refine pCall (fun _ => f28_run hv3) ?_
 refine pU (pE (gn (lck hk (fun hk => ?_) (fun hk => ?_))))
 ·refine lsq (lrg (pA (.bool _) (pE (gn (lrt (gr ?_))))))
  cases hk; exact fin0 hO
 ·refine lsk (gn (lsq (lsq (lrg (pFL tF36_1 hO 1 (.int _ _) tA3 ?_)))))
  refine pFL tF36_1 hO 0 (.int _ _) tA3 ?_
  refine pBi (pE (gn (lck hk (fun hk => ?_) (fun hk => ?_))))
  ·refine lsq (lrg (pA (.bool _) (pE (gn (lrt (gr ?_))))))
   cases hk; exact fin0 hO
  ·refine lsk (gn (lsq (lsq (lrg (pFL tF36_2 hO 1 (.lit _ _ _) tA34 ?_)))))
   refine pFL tF36_2 hO 0 (.lit _ _ _) tA34 (bk hk fun v4 hv4 hk => ?_)
   refine pCall (fun _ => f29_run hv4) ?_
   refine pU (pE (gn (lck hk (fun hk => ?_) (fun hk => ?_))))
   ·refine lsq (lrg (pA (.bool _) (pE (gn (lrt (gr ?_))))))
    cases hk; exact fin0 hO
   ·refine lsk (gn (lsq (lrg (pA (.bool _) (pE (gn (lrt ?_)))))))
    cases hk; exact fin0 hO
def f50 (aA0 : Piece) (aB1 : Piece) : Option Bool :=
 (bif !(aA0.Name.toList == aB1.Name.toList) then some false else (bif (aA0.Len != aB1.Len) then some false else (bif (aA0.Speed != aB1.Speed) then some false else (bif (aA0.Brake != aB1.Brake) then some false else some true))))
theorem f50_run {aA0 : Piece} {aB1 : Piece} {r : Bool} (hk : f50 aA0 aB1 = some r) (hlk : 0 < lk.length := by simp) : runL Try.prog hh 50 [.agg [.str aA0.Name, iv aA0.Len, iv aA0.Speed, iv aA0.Brake], .agg [.str aB1.Name, iv aB1.Len, iv aB1.Speed, iv aB1.Brake]] H lk = some (.bool r, H) := by
 refine run_start Try.func50 rfl Try.ntmps50 Try.results50 rfl rfl fun hO => ?_
 unfold f50 at hk
 refine lsq (lrg (pBox (cs := [_, _, _, _]) hO tZ58 (fun b1 G hO => ?_)))
 refine pBox (cs := [_, _, _, _]) hO tZ58 (fun b2 G hO => ?_)
 refine pA (.bool _) (pE (gn (lsq (lsq (lrg ?_)))))
 refine pFL tF58_0 hO 1 (.str _) tA9 ?_
 refine pFL tF58_0 hO 0 (.str _) tA9 ?_
 refine pB (a := .str _) (b := .str _) (pE (gn (lck hk (fun hk => ?_) (fun hk => ?_))))
 ·refine lsq (lrg (pA (.bool _) (pE (gn (lrt (gr ?_))))))
  cases hk; exact fin0 hO
 ·refine lsk (gn (lsq (lsq (lrg (pFL tF58_1 hO 1 (.int _ _) tA3 ?_)))))
  refine pFL tF58_1 hO 0 (.int _ _) tA3 ?_
  refine pBi (pE (gn (lck hk (fun hk => ?_) (fun hk => ?_))))
  ·refine lsq (lrg (pA (.bool _) (pE (gn (lrt (gr ?_))))))
   cases hk; exact fin0 hO
  ·refine lsk (gn (lsq (lsq (lrg (pFL tF58_2 hO 1 (.int _ _) tA3 ?_)))))
   refine pFL tF58_2 hO 0 (.int _ _) tA3 ?_
   refine pBi (pE (gn (lck hk (fun hk => ?_) (fun hk => ?_))))
   ·refine lsq (lrg (pA (.bool _) (pE (gn (lrt (gr ?_))))))
    cases hk; exact fin0 hO
   ·refine lsk (gn (lsq (lsq (lrg (pFL tF58_3 hO 1 (.int _ _) tA3 ?_)))))
    refine pFL tF58_3 hO 0 (.int _ _) tA3 ?_
    refine pBi (pE (gn (lck hk (fun hk => ?_) (fun hk => ?_))))
    ·refine lsq (lrg (pA (.bool _) (pE (gn (lrt (gr ?_))))))
     cases hk; exact fin0 hO
    ·refine lsk (gn (lsq (lrg (pA (.bool _) (pE (gn (lrt ?_)))))))
     cases hk; exact fin0 hO
def f30_L1 (aA0 : List Piece) (aB1 : List Piece) : Int → Option (Int ⊕ Bool) := fun s =>
 (bif decide (s < (aA0.length : Int)) then ((getI aA0 s).bind fun c2 => ((getI aB1 s).bind fun c3 => ((f50 c2 c3).bind fun v4 => (bif !v4 then ((some false).map Sum.inr) else some (.inl (w64 (s + (1:Int)))))))) else ((some true).map Sum.inr))
def f30 (aA0 : List Piece) (aB1 : List Piece) : Option Bool :=
 (bif ((aA0.length : Int) != (aB1.length : Int)) then some false else (loopO (f30_L1 aA0 aB1) ((0:Int))))
theorem f30_run {aA0 : List Piece} {aB1 : List Piece} {r : Bool} {l1 l2 : Nat} (hk : f30 aA0 aB1 = some r) (hlk : 0 < lk.length := by simp) : runL Try.prog hh 30 [litL l1 0 aA0, litL l2 0 aB1] H lk = some (.bool r, H) := by
 refine run_start Try.func30 rfl Try.ntmps30 Try.results30 rfl rfl fun hO => ?_
 unfold f30 at hk
 refine lsq (lrg (pA (.bool _) (pE (gn (lsq (lsq (lrg ?_)))))))
 refine pM (.lit _ _ _) ?_
 refine pLen tS38 ?_
 refine pM (.lit _ _ _) ?_
 refine pLen tS38 ?_
 refine pBi (pE (gn (lck hk (fun hk => ?_) (fun hk => ?_))))
 ·refine lsq (lrg (pA (.bool _) (pE (gn (lrt (gr ?_))))))
  cases hk; exact fin0 hO
 ·refine lsk (gn (lsq (lsq (lrg (pA (.int _ _) (pE (gn (lbl ?_))))))))
  refine wpL_loopO (F := f30_L1 aA0 aB1) (fun s S' => ∃ (J : Nat → V) (G : Heap), Owns H G [] ∧ S' = ⟨hav [(0, litL l1 0 aA0), (1, litL l2 0 aB1), (5, iv s)] J, G⟩) hk ⟨_, _, hO, sh⟩ ?_
  rintro x1 _ y1 ⟨J, G, hO, rfl⟩ hk hx1
  refine lsq (lsq (lrg (pM (.int _ _) ?_)))
  refine pM (.lit _ _ _) ?_
  refine pLen tS38 ?_
  refine pBi (pE (gn (lck hk (fun hk => ?_) (fun hk => ?_))))
  ·refine lsk (gn (lsq (lbl (lsq (wpL_drw [(0, true), (1, true), (2, true), (3, true), (4, true), (5, true), (6, true), (7, true), (8, false), (9, false)] [_, _, _, _, _, _, _, _, _, _] (by decide +kernel) (by rfl) ?_)))))
   refine pM (.lit _ _ _) ?_
   refine pM (.int _ _) (bk hk fun c2 hc2 hk => ?_)
   refine pX hc2 tE38 tZ58 ?_
   refine pLp (.agg [_, _, _, _]) (rd2 (lm := 0) (off := 0) hc2 tA58 tZ58) ?_
   refine pM (.lit _ _ _) ?_
   refine pM (.int _ _) (bk hk fun c3 hc3 hk => ?_)
   refine pX hc3 tE38 tZ58 ?_
   refine pLp (.agg [_, _, _, _]) (rd2 (lm := 0) (off := 0) hc3 tA58 tZ58) (bk hk fun v4 hv4 hk => ?_)
   refine pCall (fun _ => f50_run hv4) ?_
   refine pU (pE (gn (lck hk (fun hk => ?_) (fun hk => ?_))))
   ·refine lsq (lrg (pA (.bool _) (pE (gn (lrt (br (gr (gr (br (gr (have hk := lx hx1 hk; ?_)))))))))))
    cases hk; exact fin0 hO
   ·refine lsk (bn (gn (lrg (pM (.int _ _) ?_))))
    refine pBi ?_
    refine pA (.int _ _) (pE (gn ?_))
    cases hk; exact ⟨_, rfl, _, _, hO, sh⟩
  ·refine lex (ge (ge (be (gn (have hk := lx hx1 hk; lsq (lrg (pA (.bool _) (pE (gn (lrt ?_))))))))))
   cases hk; exact fin0 hO
def f82 (aA0 : End) (aB1 : End) : Option Bool :=
 (bif (aA0.Piece != aB1.Piece) then some false else (bif (aA0.Side != aB1.Side) then some false else some true))
theorem f82_run {aA0 : End} {aB1 : End} {r : Bool} (hk : f82 aA0 aB1 = some r) (hlk : 0 < lk.length := by simp) : runL Try.prog hh 82 [.agg [iv aA0.Piece, iv aA0.Side], .agg [iv aB1.Piece, iv aB1.Side]] H lk = some (.bool r, H) := by
 refine run_start Try.func82 rfl Try.ntmps82 Try.results82 rfl rfl fun hO => ?_
 unfold f82 at hk
 refine lsq (lrg (pBox (cs := [_, _]) hO tZ106 (fun b1 G hO => ?_)))
 refine pBox (cs := [_, _]) hO tZ106 (fun b2 G hO => ?_)
 refine pA (.bool _) (pE (gn (lsq (lsq (lrg ?_)))))
 refine pFL tF106_0 hO 1 (.int _ _) tA3 ?_
 refine pFL tF106_0 hO 0 (.int _ _) tA3 ?_
 refine pBi (pE (gn (lck hk (fun hk => ?_) (fun hk => ?_))))
 ·refine lsq (lrg (pA (.bool _) (pE (gn (lrt (gr ?_))))))
  cases hk; exact fin0 hO
 ·refine lsk (gn (lsq (lsq (lrg (pFL tF106_1 hO 1 (.int _ _) tA3 ?_)))))
  refine pFL tF106_1 hO 0 (.int _ _) tA3 ?_
  refine pBi (pE (gn (lck hk (fun hk => ?_) (fun hk => ?_))))
  ·refine lsq (lrg (pA (.bool _) (pE (gn (lrt (gr ?_))))))
   cases hk; exact fin0 hO
  ·refine lsk (gn (lsq (lrg (pA (.bool _) (pE (gn (lrt ?_)))))))
   cases hk; exact fin0 hO
def f68_L1 (aA0 : List End) (aB1 : List End) : Int → Option (Int ⊕ Bool) := fun s =>
 (bif decide (s < (aA0.length : Int)) then ((getI aA0 s).bind fun c2 => ((getI aB1 s).bind fun c3 => ((f82 c2 c3).bind fun v4 => (bif !v4 then ((some false).map Sum.inr) else some (.inl (w64 (s + (1:Int)))))))) else ((some true).map Sum.inr))
def f68 (aA0 : List End) (aB1 : List End) : Option Bool :=
 (bif ((aA0.length : Int) != (aB1.length : Int)) then some false else (loopO (f68_L1 aA0 aB1) ((0:Int))))
theorem f68_run {aA0 : List End} {aB1 : List End} {r : Bool} {l1 l2 : Nat} (hk : f68 aA0 aB1 = some r) (hlk : 0 < lk.length := by simp) : runL Try.prog hh 68 [litL l1 0 aA0, litL l2 0 aB1] H lk = some (.bool r, H) := by
 refine run_start Try.func68 rfl Try.ntmps68 Try.results68 rfl rfl fun hO => ?_
 unfold f68 at hk
 refine lsq (lrg (pA (.bool _) (pE (gn (lsq (lsq (lrg ?_)))))))
 refine pM (.lit _ _ _) ?_
 refine pLen tS78 ?_
 refine pM (.lit _ _ _) ?_
 refine pLen tS78 ?_
 refine pBi (pE (gn (lck hk (fun hk => ?_) (fun hk => ?_))))
 ·refine lsq (lrg (pA (.bool _) (pE (gn (lrt (gr ?_))))))
  cases hk; exact fin0 hO
 ·refine lsk (gn (lsq (lsq (lrg (pA (.int _ _) (pE (gn (lbl ?_))))))))
  refine wpL_loopO (F := f68_L1 aA0 aB1) (fun s S' => ∃ (J : Nat → V) (G : Heap), Owns H G [] ∧ S' = ⟨hav [(0, litL l1 0 aA0), (1, litL l2 0 aB1), (5, iv s)] J, G⟩) hk ⟨_, _, hO, sh⟩ ?_
  rintro x1 _ y1 ⟨J, G, hO, rfl⟩ hk hx1
  refine lsq (lsq (lrg (pM (.int _ _) ?_)))
  refine pM (.lit _ _ _) ?_
  refine pLen tS78 ?_
  refine pBi (pE (gn (lck hk (fun hk => ?_) (fun hk => ?_))))
  ·refine lsk (gn (lsq (lbl (lsq (wpL_drw [(0, true), (1, true), (2, true), (3, true), (4, true), (5, true), (6, true), (7, true), (8, false), (9, false)] [_, _, _, _, _, _, _, _, _, _] (by decide +kernel) (by rfl) ?_)))))
   refine pM (.lit _ _ _) ?_
   refine pM (.int _ _) (bk hk fun c2 hc2 hk => ?_)
   refine pX hc2 tE78 tZ106 ?_
   refine pLp (.agg [_, _]) (rd2 (lm := 0) (off := 0) hc2 tA106 tZ106) ?_
   refine pM (.lit _ _ _) ?_
   refine pM (.int _ _) (bk hk fun c3 hc3 hk => ?_)
   refine pX hc3 tE78 tZ106 ?_
   refine pLp (.agg [_, _]) (rd2 (lm := 0) (off := 0) hc3 tA106 tZ106) (bk hk fun v4 hv4 hk => ?_)
   refine pCall (fun _ => f82_run hv4) ?_
   refine pU (pE (gn (lck hk (fun hk => ?_) (fun hk => ?_))))
   ·refine lsq (lrg (pA (.bool _) (pE (gn (lrt (br (gr (gr (br (gr (have hk := lx hx1 hk; ?_)))))))))))
    cases hk; exact fin0 hO
   ·refine lsk (bn (gn (lrg (pM (.int _ _) ?_))))
    refine pBi ?_
    refine pA (.int _ _) (pE (gn ?_))
    cases hk; exact ⟨_, rfl, _, _, hO, sh⟩
  ·refine lex (ge (ge (be (gn (have hk := lx hx1 hk; lsq (lrg (pA (.bool _) (pE (gn (lrt ?_))))))))))
   cases hk; exact fin0 hO
def f51 (aA0 : Joint) (aB1 : Joint) : Option Bool :=
 (bif (aA0.Kind != aB1.Kind) then some false else (bif !(aA0.Name.toList == aB1.Name.toList) then some false else ((f68 aA0.Ends aB1.Ends).bind fun v3 => (bif !v3 then some false else some true))))
theorem f51_run {aA0 : Joint} {aB1 : Joint} {r : Bool} {l1 l2 : Nat} (hk : f51 aA0 aB1 = some r) (hlk : 0 < lk.length := by simp) : runL Try.prog hh 51 [.agg [iv aA0.Kind, .str aA0.Name, litL l1 0 aA0.Ends], .agg [iv aB1.Kind, .str aB1.Name, litL l2 0 aB1.Ends]] H lk = some (.bool r, H) := by
 refine run_start Try.func51 rfl Try.ntmps51 Try.results51 rfl rfl fun hO => ?_
 unfold f51 at hk
 refine lsq (lrg (pBox (cs := [_, _, _]) hO tZ80 (fun b1 G hO => ?_)))
 refine pBox (cs := [_, _, _]) hO tZ80 (fun b2 G hO => ?_)
 refine pA (.bool _) (pE (gn (lsq (lsq (lrg ?_)))))
 refine pFL tF80_0 hO 1 (.int _ _) tA3 ?_
 refine pFL tF80_0 hO 0 (.int _ _) tA3 ?_
 refine pBi (pE (gn (lck hk (fun hk => ?_) (fun hk => ?_))))
 ·refine lsq (lrg (pA (.bool _) (pE (gn (lrt (gr ?_))))))
  cases hk; exact fin0 hO
 ·refine lsk (gn (lsq (lsq (lrg (pFL tF80_1 hO 1 (.str _) tA9 ?_)))))
  refine pFL tF80_1 hO 0 (.str _) tA9 ?_
  refine pB (a := .str _) (b := .str _) (pE (gn (lck hk (fun hk => ?_) (fun hk => ?_))))
  ·refine lsq (lrg (pA (.bool _) (pE (gn (lrt (gr ?_))))))
   cases hk; exact fin0 hO
  ·refine lsk (gn (lsq (lsq (lrg (pFL tF80_2 hO 1 (.lit _ _ _) tA78 ?_)))))
   refine pFL tF80_2 hO 0 (.lit _ _ _) tA78 (bk hk fun v3 hv3 hk => ?_)
   refine pCall (fun _ => f68_run hv3) ?_
   refine pU (pE (gn (lck hk (fun hk => ?_) (fun hk => ?_))))
   ·refine lsq (lrg (pA (.bool _) (pE (gn (lrt (gr ?_))))))
    cases hk; exact fin0 hO
   ·refine lsk (gn (lsq (lrg (pA (.bool _) (pE (gn (lrt ?_)))))))
    cases hk; exact fin0 hO
def f31_L1 (aA0 : List Joint) (aB1 : List Joint) : Int → Option (Int ⊕ Bool) := fun s =>
 (bif decide (s < (aA0.length : Int)) then ((getI aA0 s).bind fun c2 => ((getI aB1 s).bind fun c3 => ((f51 c2 c3).bind fun v4 => (bif !v4 then ((some false).map Sum.inr) else some (.inl (w64 (s + (1:Int)))))))) else ((some true).map Sum.inr))
def f31 (aA0 : List Joint) (aB1 : List Joint) : Option Bool :=
 (bif ((aA0.length : Int) != (aB1.length : Int)) then some false else (loopO (f31_L1 aA0 aB1) ((0:Int))))
theorem f31_run {aA0 : List Joint} {aB1 : List Joint} {r : Bool} {l1 m2 l3 m4 : Nat} (hk : f31 aA0 aB1 = some r) (hlk : 0 < lk.length := by simp) : runL Try.prog hh 31 [litL l1 m2 aA0, litL l3 m4 aB1] H lk = some (.bool r, H) := by
 refine run_start Try.func31 rfl Try.ntmps31 Try.results31 rfl rfl fun hO => ?_
 unfold f31 at hk
 refine lsq (lrg (pA (.bool _) (pE (gn (lsq (lsq (lrg ?_)))))))
 refine pM (.lit _ _ _) ?_
 refine pLen tS39 ?_
 refine pM (.lit _ _ _) ?_
 refine pLen tS39 ?_
 refine pBi (pE (gn (lck hk (fun hk => ?_) (fun hk => ?_))))
 ·refine lsq (lrg (pA (.bool _) (pE (gn (lrt (gr ?_))))))
  cases hk; exact fin0 hO
 ·refine lsk (gn (lsq (lsq (lrg (pA (.int _ _) (pE (gn (lbl ?_))))))))
  refine wpL_loopO (F := f31_L1 aA0 aB1) (fun s S' => ∃ (J : Nat → V) (G : Heap), Owns H G [] ∧ S' = ⟨hav [(0, litL l1 m2 aA0), (1, litL l3 m4 aB1), (5, iv s)] J, G⟩) hk ⟨_, _, hO, sh⟩ ?_
  rintro x1 _ y1 ⟨J, G, hO, rfl⟩ hk hx1
  refine lsq (lsq (lrg (pM (.int _ _) ?_)))
  refine pM (.lit _ _ _) ?_
  refine pLen tS39 ?_
  refine pBi (pE (gn (lck hk (fun hk => ?_) (fun hk => ?_))))
  ·refine lsk (gn (lsq (lbl (lsq (wpL_drw [(0, true), (1, true), (2, true), (3, true), (4, true), (5, true), (6, true), (7, true), (8, false), (9, false)] [_, _, _, _, _, _, _, _, _, _] (by decide +kernel) (by rfl) ?_)))))
   refine pM (.lit _ _ _) ?_
   refine pM (.int _ _) (bk hk fun c2 hc2 hk => ?_)
   refine pX hc2 tE39 tZ80 ?_
   refine pLp (.agg [_, _, _]) (rd2 (lm := m2) (off := 0) hc2 tA80 tZ80) ?_
   refine pM (.lit _ _ _) ?_
   refine pM (.int _ _) (bk hk fun c3 hc3 hk => ?_)
   refine pX hc3 tE39 tZ80 ?_
   refine pLp (.agg [_, _, _]) (rd2 (lm := m4) (off := 0) hc3 tA80 tZ80) (bk hk fun v4 hv4 hk => ?_)
   refine pCall (fun _ => f51_run hv4) ?_
   refine pU (pE (gn (lck hk (fun hk => ?_) (fun hk => ?_))))
   ·refine lsq (lrg (pA (.bool _) (pE (gn (lrt (br (gr (gr (br (gr (have hk := lx hx1 hk; ?_)))))))))))
    cases hk; exact fin0 hO
   ·refine lsk (bn (gn (lrg (pM (.int _ _) ?_))))
    refine pBi ?_
    refine pA (.int _ _) (pE (gn ?_))
    cases hk; exact ⟨_, rfl, _, _, hO, sh⟩
  ·refine lex (ge (ge (be (gn (have hk := lx hx1 hk; lsq (lrg (pA (.bool _) (pE (gn (lrt ?_))))))))))
   cases hk; exact fin0 hO
def f11 (aA0 : Net) (aB1 : Net) : Option Bool :=
 ((f30 aA0.Pieces aB1.Pieces).bind fun v3 => (bif !v3 then some false else ((f31 aA0.Joints aB1.Joints).bind fun v4 => (bif !v4 then some false else some true))))
theorem f11_run {aA0 : Net} {aB1 : Net} {r : Bool} {l1 l2 m3 l4 l5 m6 : Nat} (hk : f11 aA0 aB1 = some r) (hlk : 0 < lk.length := by simp) : runL Try.prog hh 11 [.agg [litL l1 0 aA0.Pieces, litL l2 m3 aA0.Joints], .agg [litL l4 0 aB1.Pieces, litL l5 m6 aB1.Joints]] H lk = some (.bool r, H) := by
 refine run_start Try.func11 rfl Try.ntmps11 Try.results11 rfl rfl fun hO => ?_
 unfold f11 at hk
 refine lsq (lrg (pBox (cs := [_, _]) hO tZ41 (fun b1 G hO => ?_)))
 refine pBox (cs := [_, _]) hO tZ41 (fun b2 G hO => ?_)
 refine pA (.bool _) (pE (gn (lsq (lsq (lrg ?_)))))
 refine pFL tF41_0 hO 1 (.lit _ _ _) tA38 ?_
 refine pFL tF41_0 hO 0 (.lit _ _ _) tA38 (bk hk fun v3 hv3 hk => ?_)
 refine pCall (fun _ => f30_run hv3) ?_
 refine pU (pE (gn (lck hk (fun hk => ?_) (fun hk => ?_))))
 ·refine lsq (lrg (pA (.bool _) (pE (gn (lrt (gr ?_))))))
  cases hk; exact fin0 hO
 ·refine lsk (gn (lsq (lsq (lrg (pFL tF41_1 hO 1 (.lit _ _ _) tA39 ?_)))))
  refine pFL tF41_1 hO 0 (.lit _ _ _) tA39 (bk hk fun v4 hv4 hk => ?_)
  refine pCall (fun _ => f31_run hv4) ?_
  refine pU (pE (gn (lck hk (fun hk => ?_) (fun hk => ?_))))
  ·refine lsq (lrg (pA (.bool _) (pE (gn (lrt (gr ?_))))))
   cases hk; exact fin0 hO
  ·refine lsk (gn (lsq (lrg (pA (.bool _) (pE (gn (lrt ?_)))))))
   cases hk; exact fin0 hO
def f52_L1 : (Int × ByteArray) → Option ((Int × ByteArray) ⊕ ByteArray) := fun s =>
 (bif decide (s.1 > (0:Int)) then ((catB (bytesU ([⟨IntKind.wrap .u8 (w64 ((48:Int) + (Int.tmod s.1 (10:Int))))⟩] : List U8)) s.2).bind fun c3 => some (.inl (w64 (Int.tdiv s.1 (10:Int)), c3))) else (((catB ({ data := #[109] } : ByteArray) s.2).bind fun c4 => some c4).map Sum.inr))
def f52 (aK0 : Int) : Option ByteArray :=
 (bif decide (aK0 ≤ (0:Int)) then some ({ data := #[109, 48] } : ByteArray) else (loopO (f52_L1) (aK0, ({ data := #[] } : ByteArray))))
theorem f52_run {aK0 : Int} {r : ByteArray} (hk : f52 aK0 = some r) (hlk : 0 < lk.length := by simp) : runL Try.prog hh 52 [iv aK0] H lk = some (.str r, H) := by
 refine run_start Try.func52 rfl Try.ntmps52 Try.results52 rfl rfl fun hO => ?_
 unfold f52 at hk
 refine lsq (lrg (pA (.str _) (pE (gn (lsq (lsq (lrg ?_)))))))
 refine pM (.int _ _) ?_
 refine pBi (pE (gn (lck hk (fun hk => ?_) (fun hk => ?_))))
 ·refine lsq (lrg (pA (.str _) (pE (gn (lrt (gr ?_))))))
  cases hk; exact fin0 hO
 ·refine lsk (gn (lsq (lrg (pA (.str _) (pE (gn (lsq (lbl ?_))))))))
  refine wpL_loopO (F := f52_L1) (fun s S' => ∃ (J : Nat → V) (G : Heap), Owns H G [] ∧ S' = ⟨hav [(0, iv s.1), (3, .str s.2)] J, G⟩) hk ⟨_, _, hO, sh⟩ ?_
  rintro ⟨x1, x2⟩ _ y1 ⟨J, G, hO, rfl⟩ hk hx1
  refine lsq (lsq (lrg (pM (.int _ _) ?_)))
  refine pBi (pE (gn (lck hk (fun hk => ?_) (fun hk => ?_))))
  ·refine lsk (gn (lbl (lsq (lrg (pM (.int _ _) ?_)))))
   refine pBi ?_
   refine pBi ?_
   refine pCv Try.underlying3 Try.underlying5 ?_
   refine pBs (ps := [(0, (.int _ _))]) ([⟨IntKind.wrap .u8 (w64 ((48:Int) + (Int.tmod x1 (10:Int))))⟩] : List U8) tE111 tZ5 t05 (emb_cons (embx_int _ _) (emb_nil)) ?_
   refine pCvB (ys := ([⟨IntKind.wrap .u8 (w64 ((48:Int) + (Int.tmod x1 (10:Int))))⟩] : List U8)) Try.underlying111 Try.underlying9 Try.underlying5 ?_
   refine pM (.str _) (bk hk fun c3 hc3 hk => ?_)
   refine pCat hc3 ?_
   refine pA (.str _) (pE (gn (lrg ?_)))
   refine pM (.int _ _) ?_
   refine pBi ?_
   refine pA (.int _ _) (pE (bn (gn ?_)))
   cases hk; exact ⟨_, rfl, _, _, hO, sh⟩
  ·refine lex (ge (ge (be (gn (have hk := lx hx1 hk; lsq (lrg (pM (.str _) (bk hk fun c4 hc4 hk => ?_))))))))
   refine pCat hc4 ?_
   refine pA (.str _) (pE (gn (lrt ?_)))
   cases hk; exact fin0 hO
def f32_L1 : ((List Piece) × Int × Int) → Option (((List Piece) × Int × Int) ⊕ (List Piece × Int)) := fun s =>
 (bif decide (s.2.2 < (s.1.length : Int)) then ((f52 s.2.1).bind fun v4 => ((getI s.1 s.2.2).bind fun c5 => ((getI (s.1.set s.2.2.toNat ({ c5 with Name := v4 })) s.2.2).bind fun c8 => ((getI ((s.1.set s.2.2.toNat ({ c5 with Name := v4 })).set s.2.2.toNat ({ c8 with Len := w64 (s.2.1 + (1:Int)) })) s.2.2).bind fun c11 => ((getI (((s.1.set s.2.2.toNat ({ c5 with Name := v4 })).set s.2.2.toNat ({ c8 with Len := w64 (s.2.1 + (1:Int)) })).set s.2.2.toNat ({ c11 with Speed := w64 ((w64 (s.2.1 + (1:Int))) + (1:Int)) })) s.2.2).bind fun c14 => some (.inl ((((s.1.set s.2.2.toNat ({ c5 with Name := v4 })).set s.2.2.toNat ({ c8 with Len := w64 (s.2.1 + (1:Int)) })).set s.2.2.toNat ({ c11 with Speed := w64 ((w64 (s.2.1 + (1:Int))) + (1:Int)) })).set s.2.2.toNat ({ c14 with Brake := w64 ((w64 ((w64 (s.2.1 + (1:Int))) + (1:Int))) + (1:Int)) }), w64 ((w64 ((w64 ((w64 (s.2.1 + (1:Int))) + (1:Int))) + (1:Int))) + (1:Int)), w64 (s.2.2 + (1:Int))))))))) else ((some (s.1, s.2.1)).map Sum.inr))
def f32 (aA0 : List Piece) (aK1 : Int) : Option (List Piece × Int) :=
 (loopO (f32_L1) (aA0, aK1, (0:Int)))
theorem f32_run {aA0 : List Piece} {aK1 : Int} {r : (List Piece × Int)} {v0 : V} {F0 : List Nat} (hk : f32 aA0 aK1 = some r) (ha : TrIn H aA0 [v0] F0) (hF : ∀ b ∈ F0, b < H.length) (hS : ∀ b ∈ F0, unlocked lk b = true) (hlk : 0 < lk.length := by simp) : ∃ v H1, runL Try.prog hh 32 [v0, iv aK1] H lk = some (v, H1) ∧ v = iv r.2 ∧ TrIn H1 r.1 [v0] F0 ∧ H1.length = H.length ∧ ∀ b, b ∉ F0 → H1[b]? = H[b]? := by
 refine run_startR Try.func32 rfl Try.ntmps32 Try.results32 rfl rfl ?_
 have hO := tree_start ha hF
 have hFr := Sees.refl H F0
 unfold f32 at hk
 refine lsq (lrg (pA (.int _ _) (pE (gn (lsq (lsq (lrg ?_)))))))
 refine pA (.int _ _) (pE (gn (lbl ?_)))
 refine wpL_loopO (F := f32_L1) (fun s S' => ∃ (J : Nat → V) (G : Heap) (H1 : Heap), Sees H H1 F0 ∧ Owns H1 G [Tree F0 F0 s.1 [v0]] ∧ S' = ⟨hav [(0, v0), (1, iv s.2.1), (5, iv s.2.2)] J, G⟩) hk ⟨_, _, _, hFr, hO, sh⟩ ?_
 rintro ⟨x1, x2, x3⟩ _ y1 ⟨J, G, H1, hFr, hO, rfl⟩ hk hx1
 refine lsq (lsq (lrg (pM (.int _ _) ?_)))
 refine pM v0 ?_
 refine pLenT hO 0 tS38 ?_
 refine pBi (pE (gn (lck hk (fun hk => ?_) (fun hk => ?_))))
 ·refine lsk (gn (lsq (lbl (lsq (lrg (pM v0 ?_))))))
  refine pM (.int _ _) ?_
  refine pM (.int _ _) (bk hk fun v4 hv4 hk => ?_)
  refine pCall (fun _ => f52_run hv4) (bk hk fun c5 hc5 hk => ?_)
  refine pXT hO 0 hc5 tE38 tZ58 (fun b6 hb6 => ?_)
  refine pF tF58_0 ?_
  refine pST foc_Piece_Name (y' := v4) hO 0 hb6 hc5 tZ9 (fun _ => ⟨rfl, rfl⟩) hFr hS rfl (fun H1 G hFr hO => ?_)
  have hc_7 := getI_set hc5 ({ c5 with Name := v4 } : Piece)
  have hv_7 := sl_set (j := x3.toNat) (y := ({ c5 with Name := v4 } : Piece)) hb6
  refine pE (gn (lsq (lrg (pM (.int _ _) ?_))))
  refine pBi ?_
  refine pA (.int _ _) (pE (gn (lsq (lrg ?_))))
  refine pM v0 ?_
  refine pM (.int _ _) ?_
  refine pM (.int _ _) (bk hk fun c8 hc8 hk => ?_)
  refine pXT hO 0 hc8 tE38 tZ58 (fun b9 hb9 => ?_)
  refine pF tF58_1 ?_
  refine pST foc_Piece_Len (y' := (w64 (x2 + (1:Int)))) hO 0 hb9 hc8 tZ3 (fun _ => ⟨rfl, rfl⟩) hFr hS rfl (fun H1 G hFr hO => ?_)
  have hc_10 := getI_set hc8 ({ c8 with Len := w64 (x2 + (1:Int)) } : Piece)
  have hv_10 := sl_set (j := x3.toNat) (y := ({ c8 with Len := w64 (x2 + (1:Int)) } : Piece)) hb9
  refine pE (gn (lsq (lrg (pM (.int _ _) ?_))))
  refine pBi ?_
  refine pA (.int _ _) (pE (gn (lsq (lrg ?_))))
  refine pM v0 ?_
  refine pM (.int _ _) ?_
  refine pM (.int _ _) (bk hk fun c11 hc11 hk => ?_)
  refine pXT hO 0 hc11 tE38 tZ58 (fun b12 hb12 => ?_)
  refine pF tF58_2 ?_
  refine pST foc_Piece_Speed (y' := (w64 ((w64 (x2 + (1:Int))) + (1:Int)))) hO 0 hb12 hc11 tZ3 (fun _ => ⟨rfl, rfl⟩) hFr hS rfl (fun H1 G hFr hO => ?_)
  have hc_13 := getI_set hc11 ({ c11 with Speed := w64 ((w64 (x2 + (1:Int))) + (1:Int)) } : Piece)
  have hv_13 := sl_set (j := x3.toNat) (y := ({ c11 with Speed := w64 ((w64 (x2 + (1:Int))) + (1:Int)) } : Piece)) hb12
  refine pE (gn (lsq (lrg (pM (.int _ _) ?_))))
  refine pBi ?_
  refine pA (.int _ _) (pE (gn (lsq (lrg ?_))))
  refine pM v0 ?_
  refine pM (.int _ _) ?_
  refine pM (.int _ _) (bk hk fun c14 hc14 hk => ?_)
  refine pXT hO 0 hc14 tE38 tZ58 (fun b15 hb15 => ?_)
  refine pF tF58_3 ?_
  refine pST foc_Piece_Brake (y' := (w64 ((w64 ((w64 (x2 + (1:Int))) + (1:Int))) + (1:Int)))) hO 0 hb15 hc14 tZ3 (fun _ => ⟨rfl, rfl⟩) hFr hS rfl (fun H1 G hFr hO => ?_)
  have hc_16 := getI_set hc14 ({ c14 with Brake := w64 ((w64 ((w64 (x2 + (1:Int))) + (1:Int))) + (1:Int)) } : Piece)
  have hv_16 := sl_set (j := x3.toNat) (y := ({ c14 with Brake := w64 ((w64 ((w64 (x2 + (1:Int))) + (1:Int))) + (1:Int)) } : Piece)) hb15
  refine pE (gn (lrg (pM (.int _ _) ?_)))
  refine pBi ?_
  refine pA (.int _ _) (pE (bn (gn (lrg ?_))))
  refine pM (.int _ _) ?_
  refine pBi ?_
  refine pA (.int _ _) (pE (gn ?_))
  cases hk; exact ⟨_, rfl, _, _, _, hFr, hO, sh⟩
 ·refine lex (ge (ge (be (gn (have hk := lx hx1 hk; lsq (lrg (pM (.int _ _) ?_)))))))
  refine pA (.int _ _) (pE (gn (lrt ?_)))
  replace hk := Option.some.inj hk; subst hk; exact finT hO 0 hFr hF
def f53_L1 : ((List End) × Int × Int) → Option (((List End) × Int × Int) ⊕ (List End × Int)) := fun s =>
 (bif decide (s.2.2 < (s.1.length : Int)) then ((getI s.1 s.2.2).bind fun c4 => ((getI (s.1.set s.2.2.toNat ({ c4 with Piece := s.2.1 })) s.2.2).bind fun c7 => some (.inl ((s.1.set s.2.2.toNat ({ c4 with Piece := s.2.1 })).set s.2.2.toNat ({ c7 with Side := w64 (s.2.1 + (1:Int)) }), w64 ((w64 (s.2.1 + (1:Int))) + (1:Int)), w64 (s.2.2 + (1:Int)))))) else ((some (s.1, s.2.1)).map Sum.inr))
def f53 (aA0 : List End) (aK1 : Int) : Option (List End × Int) :=
 (loopO (f53_L1) (aA0, aK1, (0:Int)))
theorem f53_run {aA0 : List End} {aK1 : Int} {r : (List End × Int)} {v0 : V} {F0 : List Nat} (hk : f53 aA0 aK1 = some r) (ha : TrIn H aA0 [v0] F0) (hF : ∀ b ∈ F0, b < H.length) (hS : ∀ b ∈ F0, unlocked lk b = true) (hlk : 0 < lk.length := by simp) : ∃ v H1, runL Try.prog hh 53 [v0, iv aK1] H lk = some (v, H1) ∧ v = iv r.2 ∧ TrIn H1 r.1 [v0] F0 ∧ H1.length = H.length ∧ ∀ b, b ∉ F0 → H1[b]? = H[b]? := by
 refine run_startR Try.func53 rfl Try.ntmps53 Try.results53 rfl rfl ?_
 have hO := tree_start ha hF
 have hFr := Sees.refl H F0
 unfold f53 at hk
 refine lsq (lrg (pA (.int _ _) (pE (gn (lsq (lsq (lrg ?_)))))))
 refine pA (.int _ _) (pE (gn (lbl ?_)))
 refine wpL_loopO (F := f53_L1) (fun s S' => ∃ (J : Nat → V) (G : Heap) (H1 : Heap), Sees H H1 F0 ∧ Owns H1 G [Tree F0 F0 s.1 [v0]] ∧ S' = ⟨hav [(0, v0), (1, iv s.2.1), (5, iv s.2.2)] J, G⟩) hk ⟨_, _, _, hFr, hO, sh⟩ ?_
 rintro ⟨x1, x2, x3⟩ _ y1 ⟨J, G, H1, hFr, hO, rfl⟩ hk hx1
 refine lsq (lsq (lrg (pM (.int _ _) ?_)))
 refine pM v0 ?_
 refine pLenT hO 0 tS78 ?_
 refine pBi (pE (gn (lck hk (fun hk => ?_) (fun hk => ?_))))
 ·refine lsk (gn (lsq (lbl (lsq (lrg (pM v0 ?_))))))
  refine pM (.int _ _) ?_
  refine pM (.int _ _) (bk hk fun c4 hc4 hk => ?_)
  refine pXT hO 0 hc4 tE78 tZ106 (fun b5 hb5 => ?_)
  refine pF tF106_0 ?_
  refine pST foc_End_Piece (y' := x2) hO 0 hb5 hc4 tZ3 (fun _ => ⟨rfl, rfl⟩) hFr hS rfl (fun H1 G hFr hO => ?_)
  have hc_6 := getI_set hc4 ({ c4 with Piece := x2 } : End)
  have hv_6 := sl_set (j := x3.toNat) (y := ({ c4 with Piece := x2 } : End)) hb5
  refine pE (gn (lsq (lrg (pM (.int _ _) ?_))))
  refine pBi ?_
  refine pA (.int _ _) (pE (gn (lsq (lrg ?_))))
  refine pM v0 ?_
  refine pM (.int _ _) ?_
  refine pM (.int _ _) (bk hk fun c7 hc7 hk => ?_)
  refine pXT hO 0 hc7 tE78 tZ106 (fun b8 hb8 => ?_)
  refine pF tF106_1 ?_
  refine pST foc_End_Side (y' := (w64 (x2 + (1:Int)))) hO 0 hb8 hc7 tZ3 (fun _ => ⟨rfl, rfl⟩) hFr hS rfl (fun H1 G hFr hO => ?_)
  have hc_9 := getI_set hc7 ({ c7 with Side := w64 (x2 + (1:Int)) } : End)
  have hv_9 := sl_set (j := x3.toNat) (y := ({ c7 with Side := w64 (x2 + (1:Int)) } : End)) hb8
  refine pE (gn (lrg (pM (.int _ _) ?_)))
  refine pBi ?_
  refine pA (.int _ _) (pE (bn (gn (lrg ?_))))
  refine pM (.int _ _) ?_
  refine pBi ?_
  refine pA (.int _ _) (pE (gn ?_))
  cases hk; exact ⟨_, rfl, _, _, _, hFr, hO, sh⟩
 ·refine lex (ge (ge (be (gn (have hk := lx hx1 hk; lsq (lrg (pM (.int _ _) ?_)))))))
  refine pA (.int _ _) (pE (gn (lrt ?_)))
  replace hk := Option.some.inj hk; subst hk; exact finT hO 0 hFr hF
def f33_L1 : ((List Joint) × Int × Int) → Option (((List Joint) × Int × Int) ⊕ (List Joint × Int)) := fun s =>
 (bif decide (s.2.2 < (s.1.length : Int)) then ((getI s.1 s.2.2).bind fun c4 => ((f52 (w64 (s.2.1 + (1:Int)))).bind fun v7 => ((getI (s.1.set s.2.2.toNat ({ c4 with Kind := s.2.1 })) s.2.2).bind fun c8 => ((getI ((s.1.set s.2.2.toNat ({ c4 with Kind := s.2.1 })).set s.2.2.toNat ({ c8 with Name := v7 })) s.2.2).bind fun c11 => ((f53 c11.Ends (w64 ((w64 (s.2.1 + (1:Int))) + (1:Int)))).bind fun z14 => some (.inl (((s.1.set s.2.2.toNat ({ c4 with Kind := s.2.1 })).set s.2.2.toNat ({ c8 with Name := v7 })).set s.2.2.toNat ({ c11 with Ends := z14.1 }), z14.2, w64 (s.2.2 + (1:Int))))))))) else ((some (s.1, s.2.1)).map Sum.inr))
def f33 (aA0 : List Joint) (aK1 : Int) : Option (List Joint × Int) :=
 (loopO (f33_L1) (aA0, aK1, (0:Int)))
theorem f33_run {aA0 : List Joint} {aK1 : Int} {r : (List Joint × Int)} {v0 : V} {F0 : List Nat} (hk : f33 aA0 aK1 = some r) (ha : TrIn H aA0 [v0] F0) (hF : ∀ b ∈ F0, b < H.length) (hS : ∀ b ∈ F0, unlocked lk b = true) (hlk : 0 < lk.length := by simp) : ∃ v H1, runL Try.prog hh 33 [v0, iv aK1] H lk = some (v, H1) ∧ v = iv r.2 ∧ TrIn H1 r.1 [v0] F0 ∧ H1.length = H.length ∧ ∀ b, b ∉ F0 → H1[b]? = H[b]? := by
 refine run_startR Try.func33 rfl Try.ntmps33 Try.results33 rfl rfl ?_
 have hO := tree_start ha hF
 have hFr := Sees.refl H F0
 unfold f33 at hk
 refine lsq (lrg (pA (.int _ _) (pE (gn (lsq (lsq (lrg ?_)))))))
 refine pA (.int _ _) (pE (gn (lbl ?_)))
 refine wpL_loopO (F := f33_L1) (fun s S' => ∃ (J : Nat → V) (G : Heap) (H1 : Heap), Sees H H1 F0 ∧ Owns H1 G [Tree F0 F0 s.1 [v0]] ∧ S' = ⟨hav [(0, v0), (1, iv s.2.1), (5, iv s.2.2)] J, G⟩) hk ⟨_, _, _, hFr, hO, sh⟩ ?_
 rintro ⟨x1, x2, x3⟩ _ y1 ⟨J, G, H1, hFr, hO, rfl⟩ hk hx1
 refine lsq (lsq (lrg (pM (.int _ _) ?_)))
 refine pM v0 ?_
 refine pLenT hO 0 tS39 ?_
 refine pBi (pE (gn (lck hk (fun hk => ?_) (fun hk => ?_))))
 ·refine lsk (gn (lsq (lbl (lsq (lrg (pM v0 ?_))))))
  refine pM (.int _ _) ?_
  refine pM (.int _ _) (bk hk fun c4 hc4 hk => ?_)
  refine pXT hO 0 hc4 tE39 tZ80 (fun b5 hb5 => ?_)
  refine pF tF80_0 ?_
  refine pST foc_Joint_Kind (y' := x2) hO 0 hb5 hc4 tZ3 (fun _ => ⟨rfl, rfl⟩) hFr hS rfl (fun H1 G hFr hO => ?_)
  have hc_6 := getI_set hc4 ({ c4 with Kind := x2 } : Joint)
  have hv_6 := sl_set (j := x3.toNat) (y := ({ c4 with Kind := x2 } : Joint)) hb5
  refine pE (gn (lsq (lrg (pM (.int _ _) ?_))))
  refine pBi ?_
  refine pA (.int _ _) (pE (gn (lsq (lrg ?_))))
  refine pM v0 ?_
  refine pM (.int _ _) ?_
  refine pM (.int _ _) (bk hk fun v7 hv7 hk => ?_)
  refine pCall (fun _ => f52_run hv7) (bk hk fun c8 hc8 hk => ?_)
  refine pXT hO 0 hc8 tE39 tZ80 (fun b9 hb9 => ?_)
  refine pF tF80_1 ?_
  refine pST foc_Joint_Name (y' := v7) hO 0 hb9 hc8 tZ9 (fun _ => ⟨rfl, rfl⟩) hFr hS rfl (fun H1 G hFr hO => ?_)
  have hc_10 := getI_set hc8 ({ c8 with Name := v7 } : Joint)
  have hv_10 := sl_set (j := x3.toNat) (y := ({ c8 with Name := v7 } : Joint)) hb9
  refine pE (gn (lsq (lrg (pM (.int _ _) ?_))))
  refine pBi ?_
  refine pA (.int _ _) (pE (gn (lrg ?_)))
  refine pM v0 ?_
  refine pM (.int _ _) (bk hk fun c11 hc11 hk => ?_)
  refine pXT hO 0 hc11 tE39 tZ80 (fun b12 hb12 => ?_)
  refine pF tF80_2 ?_
  refine pLT foc_Joint_Ends hO 0 hb12 hc11 tA78 (fun u13 fs13 hs13 => ?_)
  refine pM (.int _ _) (bk hk fun z14 hz14 hk => ?_)
  refine pCT (y' := z14.1) (r := iv z14.2) hO 0 hs13 (fun _ h => h) hFr hS (fun hF1 hS1 ht1 => f53_run hz14 ht1 hF1 hS1) (fun H1 G hFr hO => ?_)
  refine pA (.int _ _) (pE (bn (gn (lrg ?_))))
  refine pM (.int _ _) ?_
  refine pBi ?_
  refine pA (.int _ _) (pE (gn ?_))
  cases hk; exact ⟨_, rfl, _, _, _, hFr, hO, sh⟩
 ·refine lex (ge (ge (be (gn (have hk := lx hx1 hk; lsq (lrg (pM (.int _ _) ?_)))))))
  refine pA (.int _ _) (pE (gn (lrt ?_)))
  replace hk := Option.some.inj hk; subst hk; exact finT hO 0 hFr hF
def f12 (aA0 : Net) (aK1 : Int) : Option (Net × Int) :=
 ((f32 aA0.Pieces aK1).bind fun z3 => ((f33 (({ aA0 with Pieces := z3.1 }).Joints) z3.2).bind fun z5 => some ({ { aA0 with Pieces := z3.1 } with Joints := z5.1 }, z5.2)))
theorem f12_run {aA0 : Net} {aK1 : Int} {r : (Net × Int)} {v0 : List V} {F0 : List Nat} (hk : f12 aA0 aK1 = some r) (ha : TrIn H aA0 v0 F0) (hF : ∀ b ∈ F0, b < H.length) (hS : ∀ b ∈ F0, unlocked lk b = true) (hlk : 0 < lk.length := by simp) : ∃ v H1, runL Try.prog hh 12 [.agg v0, iv aK1] H lk = some (v, H1) ∧ v = iv r.2 ∧ TrIn H1 r.1 v0 F0 ∧ H1.length = H.length ∧ ∀ b, b ∉ F0 → H1[b]? = H[b]? := by
 refine run_startR Try.func12 rfl Try.ntmps12 Try.results12 rfl rfl ?_
 have hO := tree_start ha hF
 have hFr := Sees.refl H F0
 unfold f12 at hk
 refine lsq (lrg (pBoxT hO 0 tZ41 (fun b1 G hO => ?_)))
 refine pA (.int _ _) (pE (gn (lsq (lrg ?_))))
 refine pF tF41_0 ?_
 refine pLTs foc_Net_Pieces hO 0 1 tA38 (fun u2 fs2 hs2 => ?_)
 refine pM (.int _ _) (bk hk fun z3 hz3 hk => ?_)
 refine pCT (y' := z3.1) (r := iv z3.2) hO 1 hs2 (fun _ h => h) hFr hS (fun hF1 hS1 ht1 => f32_run hz3 ht1 hF1 hS1) (fun H1 G hFr hO => ?_)
 refine pA (.int _ _) (pE (gn (lsq (lrg ?_))))
 refine pF tF41_1 ?_
 refine pLTs foc_Net_Joints hO 0 1 tA39 (fun u4 fs4 hs4 => ?_)
 refine pM (.int _ _) (bk hk fun z5 hz5 hk => ?_)
 refine pCT (y' := z5.1) (r := iv z5.2) hO 1 hs4 (fun _ h => h) hFr hS (fun hF1 hS1 ht1 => f33_run hz5 ht1 hF1 hS1) (fun H1 G hFr hO => ?_)
 refine pA (.int _ _) (pE (gn (lsq (lrg ?_))))
 refine pM (.int _ _) ?_
 refine pA (.int _ _) (pE (gn (lrt ?_)))
 replace hk := Option.some.inj hk; subst hk; exact finT hO 1 hFr hF
def f34_L1 : ((List Step) × Int × Int) → Option (((List Step) × Int × Int) ⊕ (List Step × Int)) := fun s =>
 (bif decide (s.2.2 < (s.1.length : Int)) then ((getI s.1 s.2.2).bind fun c4 => ((getI (s.1.set s.2.2.toNat ({ c4 with Piece := s.2.1 })) s.2.2).bind fun c7 => some (.inl ((s.1.set s.2.2.toNat ({ c4 with Piece := s.2.1 })).set s.2.2.toNat ({ c7 with Way := w64 (s.2.1 + (1:Int)) }), w64 ((w64 (s.2.1 + (1:Int))) + (1:Int)), w64 (s.2.2 + (1:Int)))))) else ((some (s.1, s.2.1)).map Sum.inr))
def f34 (aA0 : List Step) (aK1 : Int) : Option (List Step × Int) :=
 (loopO (f34_L1) (aA0, aK1, (0:Int)))
theorem f34_run {aA0 : List Step} {aK1 : Int} {r : (List Step × Int)} {v0 : V} {F0 : List Nat} (hk : f34 aA0 aK1 = some r) (ha : TrIn H aA0 [v0] F0) (hF : ∀ b ∈ F0, b < H.length) (hS : ∀ b ∈ F0, unlocked lk b = true) (hlk : 0 < lk.length := by simp) : ∃ v H1, runL Try.prog hh 34 [v0, iv aK1] H lk = some (v, H1) ∧ v = iv r.2 ∧ TrIn H1 r.1 [v0] F0 ∧ H1.length = H.length ∧ ∀ b, b ∉ F0 → H1[b]? = H[b]? := by
 refine run_startR Try.func34 rfl Try.ntmps34 Try.results34 rfl rfl ?_
 have hO := tree_start ha hF
 have hFr := Sees.refl H F0
 unfold f34 at hk
 refine lsq (lrg (pA (.int _ _) (pE (gn (lsq (lsq (lrg ?_)))))))
 refine pA (.int _ _) (pE (gn (lbl ?_)))
 refine wpL_loopO (F := f34_L1) (fun s S' => ∃ (J : Nat → V) (G : Heap) (H1 : Heap), Sees H H1 F0 ∧ Owns H1 G [Tree F0 F0 s.1 [v0]] ∧ S' = ⟨hav [(0, v0), (1, iv s.2.1), (5, iv s.2.2)] J, G⟩) hk ⟨_, _, _, hFr, hO, sh⟩ ?_
 rintro ⟨x1, x2, x3⟩ _ y1 ⟨J, G, H1, hFr, hO, rfl⟩ hk hx1
 refine lsq (lsq (lrg (pM (.int _ _) ?_)))
 refine pM v0 ?_
 refine pLenT hO 0 tS34 ?_
 refine pBi (pE (gn (lck hk (fun hk => ?_) (fun hk => ?_))))
 ·refine lsk (gn (lsq (lbl (lsq (lrg (pM v0 ?_))))))
  refine pM (.int _ _) ?_
  refine pM (.int _ _) (bk hk fun c4 hc4 hk => ?_)
  refine pXT hO 0 hc4 tE34 tZ55 (fun b5 hb5 => ?_)
  refine pF tF55_0 ?_
  refine pST foc_Step_Piece (y' := x2) hO 0 hb5 hc4 tZ3 (fun _ => ⟨rfl, rfl⟩) hFr hS rfl (fun H1 G hFr hO => ?_)
  have hc_6 := getI_set hc4 ({ c4 with Piece := x2 } : Step)
  have hv_6 := sl_set (j := x3.toNat) (y := ({ c4 with Piece := x2 } : Step)) hb5
  refine pE (gn (lsq (lrg (pM (.int _ _) ?_))))
  refine pBi ?_
  refine pA (.int _ _) (pE (gn (lsq (lrg ?_))))
  refine pM v0 ?_
  refine pM (.int _ _) ?_
  refine pM (.int _ _) (bk hk fun c7 hc7 hk => ?_)
  refine pXT hO 0 hc7 tE34 tZ55 (fun b8 hb8 => ?_)
  refine pF tF55_1 ?_
  refine pST foc_Step_Way (y' := (w64 (x2 + (1:Int)))) hO 0 hb8 hc7 tZ3 (fun _ => ⟨rfl, rfl⟩) hFr hS rfl (fun H1 G hFr hO => ?_)
  have hc_9 := getI_set hc7 ({ c7 with Way := w64 (x2 + (1:Int)) } : Step)
  have hv_9 := sl_set (j := x3.toNat) (y := ({ c7 with Way := w64 (x2 + (1:Int)) } : Step)) hb8
  refine pE (gn (lrg (pM (.int _ _) ?_)))
  refine pBi ?_
  refine pA (.int _ _) (pE (bn (gn (lrg ?_))))
  refine pM (.int _ _) ?_
  refine pBi ?_
  refine pA (.int _ _) (pE (gn ?_))
  cases hk; exact ⟨_, rfl, _, _, _, hFr, hO, sh⟩
 ·refine lex (ge (ge (be (gn (have hk := lx hx1 hk; lsq (lrg (pM (.int _ _) ?_)))))))
  refine pA (.int _ _) (pE (gn (lrt ?_)))
  replace hk := Option.some.inj hk; subst hk; exact finT hO 0 hFr hF
def f13 (aA0 : Train) (aK1 : Int) : Option (Train × Int) :=
 ((f34 aA0.Back aK1).bind fun z3 => some ({ aA0 with Back := z3.1 }, z3.2))
theorem f13_run {aA0 : Train} {aK1 : Int} {r : (Train × Int)} {v0 : List V} {F0 : List Nat} (hk : f13 aA0 aK1 = some r) (ha : TrIn H aA0 v0 F0) (hF : ∀ b ∈ F0, b < H.length) (hS : ∀ b ∈ F0, unlocked lk b = true) (hlk : 0 < lk.length := by simp) : ∃ v H1, runL Try.prog hh 13 [.agg v0, iv aK1] H lk = some (v, H1) ∧ v = iv r.2 ∧ TrIn H1 r.1 v0 F0 ∧ H1.length = H.length ∧ ∀ b, b ∉ F0 → H1[b]? = H[b]? := by
 refine run_startR Try.func13 rfl Try.ntmps13 Try.results13 rfl rfl ?_
 have hO := tree_start ha hF
 have hFr := Sees.refl H F0
 unfold f13 at hk
 refine lsq (lrg (pBoxT hO 0 tZ36 (fun b1 G hO => ?_)))
 refine pA (.int _ _) (pE (gn (lsq (lrg ?_))))
 refine pF tF36_2 ?_
 refine pLTs foc_Train_Back hO 0 1 tA34 (fun u2 fs2 hs2 => ?_)
 refine pM (.int _ _) (bk hk fun z3 hz3 hk => ?_)
 refine pCT (y' := z3.1) (r := iv z3.2) hO 1 hs2 (fun _ h => h) hFr hS (fun hF1 hS1 ht1 => f34_run hz3 ht1 hF1 hS1) (fun H1 G hFr hO => ?_)
 refine pA (.int _ _) (pE (gn (lsq (lrg ?_))))
 refine pM (.int _ _) ?_
 refine pA (.int _ _) (pE (gn (lrt ?_)))
 replace hk := Option.some.inj hk; subst hk; exact finT hO 1 hFr hF
def f35_L1 (aA0 : List Step) : (Int × Int) → Option ((Int × Int) ⊕ Int) := fun s =>
 (bif decide (s.2 < (aA0.length : Int)) then ((getI aA0 s.2).bind fun c3 => (bif (c3.Piece != s.1) then ((some (-1:Int)).map Sum.inr) else ((getI aA0 s.2).bind fun c4 => (bif (c4.Way != (w64 (s.1 + (1:Int)))) then ((some (-1:Int)).map Sum.inr) else some (.inl (w64 ((w64 (s.1 + (1:Int))) + (1:Int)), w64 (s.2 + (1:Int)))))))) else ((some s.1).map Sum.inr))
def f35 (aA0 : List Step) (aK1 : Int) : Option Int :=
 (loopO (f35_L1 aA0) (aK1, (0:Int)))
theorem f35_run {aA0 : List Step} {aK1 : Int} {r : Int} {l1 : Nat} (hk : f35 aA0 aK1 = some r) (hlk : 0 < lk.length := by simp) : runL Try.prog hh 35 [litL l1 0 aA0, iv aK1] H lk = some (iv r, H) := by
 refine run_start Try.func35 rfl Try.ntmps35 Try.results35 rfl rfl fun hO => ?_
 unfold f35 at hk
 refine lsq (lrg (pA (.int _ _) (pE (gn (lsq (lsq (lrg ?_)))))))
 refine pA (.int _ _) (pE (gn (lbl ?_)))
 refine wpL_loopO (F := f35_L1 aA0) (fun s S' => ∃ (J : Nat → V) (G : Heap), Owns H G [] ∧ S' = ⟨hav [(0, litL l1 0 aA0), (1, iv s.1), (5, iv s.2)] J, G⟩) hk ⟨_, _, hO, sh⟩ ?_
 rintro ⟨x1, x2⟩ _ y1 ⟨J, G, hO, rfl⟩ hk hx1
 refine lsq (lsq (lrg (pM (.int _ _) ?_)))
 refine pM (.lit _ _ _) ?_
 refine pLen tS34 ?_
 refine pBi (pE (gn (lck hk (fun hk => ?_) (fun hk => ?_))))
 ·refine lsk (gn (lsq (lbl (lsq (lsq (lrg (pM (.lit _ _ _) ?_)))))))
  refine pM (.int _ _) (bk hk fun c3 hc3 hk => ?_)
  refine pX hc3 tE34 tZ55 ?_
  refine pF tF55_0 ?_
  refine pLp (.int _ _) (rd1 (lm := 0) (off := 0) hc3 tA3) ?_
  refine pM (.int _ _) ?_
  refine pBi (pE (gn (lck hk (fun hk => ?_) (fun hk => ?_))))
  ·refine lsq (lrg (pA (.int _ _) (pE (gn (lrt (gr (br (gr (gr (br (gr (have hk := lx hx1 hk; ?_))))))))))))
   cases hk; exact fin0 hO
  ·refine lsk (gn (lsq (lrg (pM (.int _ _) ?_))))
   refine pBi ?_
   refine pA (.int _ _) (pE (gn (lsq (lsq (lrg ?_)))))
   refine pM (.lit _ _ _) ?_
   refine pM (.int _ _) (bk hk fun c4 hc4 hk => ?_)
   refine pX hc4 tE34 tZ55 ?_
   refine pF tF55_1 ?_
   refine pLp (.int _ _) (rd1 (lm := 0) (off := 1) hc4 tA3) ?_
   refine pM (.int _ _) ?_
   refine pBi (pE (gn (lck hk (fun hk => ?_) (fun hk => ?_))))
   ·refine lsq (lrg (pA (.int _ _) (pE (gn (lrt (gr (br (gr (gr (br (gr (have hk := lx hx1 hk; ?_))))))))))))
    cases hk; exact fin0 hO
   ·refine lsk (gn (lrg (pM (.int _ _) ?_)))
    refine pBi ?_
    refine pA (.int _ _) (pE (bn (gn (lrg ?_))))
    refine pM (.int _ _) ?_
    refine pBi ?_
    refine pA (.int _ _) (pE (gn ?_))
    cases hk; exact ⟨_, rfl, _, _, hO, sh⟩
 ·refine lex (ge (ge (be (gn (have hk := lx hx1 hk; lsq (lrg (pM (.int _ _) ?_)))))))
  refine pA (.int _ _) (pE (gn (lrt ?_)))
  cases hk; exact fin0 hO
def f14 (aA0 : Train) (aK1 : Int) : Option Int :=
 ((f35 aA0.Back aK1).bind fun v2 => (bif decide (v2 < (0:Int)) then some (-1:Int) else some v2))
theorem f14_run {aA0 : Train} {aK1 : Int} {r : Int} {l1 : Nat} (hk : f14 aA0 aK1 = some r) (hlk : 0 < lk.length := by simp) : runL Try.prog hh 14 [.agg [iv aA0.Front.Piece, iv aA0.Front.At, iv aA0.Front.Way, iv aA0.Long, litL l1 0 aA0.Back], iv aK1] H lk = some (iv r, H) := by
 refine run_start Try.func14 rfl Try.ntmps14 Try.results14 rfl rfl fun hO => ?_
 unfold f14 at hk
 refine lsq (lrg (pBox (cs := [_, _, _, _, _]) hO tZ36 (fun b1 G hO => ?_)))
 refine pA (.int _ _) (pE (gn (lsq (lrg ?_))))
 refine pFL tF36_2 hO 0 (.lit _ _ _) tA34 ?_
 refine pM (.int _ _) (bk hk fun v2 hv2 hk => ?_)
 refine pCall (fun _ => f35_run hv2) ?_
 refine pA (.int _ _) (pE (gn (lsq (lsq (lrg ?_)))))
 refine pM (.int _ _) ?_
 refine pBi (pE (gn (lck hk (fun hk => ?_) (fun hk => ?_))))
 ·refine lsq (lrg (pA (.int _ _) (pE (gn (lrt (gr ?_))))))
  cases hk; exact fin0 hO
 ·refine lsk (gn (lsq (lrg (pM (.int _ _) ?_))))
  refine pA (.int _ _) (pE (gn (lrt ?_)))
  cases hk; exact fin0 hO
def f3 (aAN0 : Net) (aAT1 : Train) : Option Bool :=
 ((f4 aAN0 (1048576:Int)).bind fun v3 => (bif decide (v3 < (0:Int)) then some true else ((f5 aAT1 v3).bind fun v4 => (bif decide (v4 < (0:Int)) then some true else ((f7 aAN0).bind fun v5 => ((f8 aAT1).bind fun v7 => ((f6 v5 v7).bind fun v9 => ((f7 aAN0).bind fun v13 => ((f8 aAT1).bind fun v16 => ((f9 v13 v16).bind fun v19 => ((f10 v19 v9).bind fun v24 => (bif !v24 then some false else ((f7 aAN0).bind fun v26 => ((f11 v13 v26).bind fun v28 => (bif !v28 then some false else ((f8 aAT1).bind fun v31 => ((f10 v16 v31).bind fun v33 => (bif !v33 then some false else ((f12 v13 (1:Int)).bind fun z36 => ((f13 v16 z36.2).bind fun z37 => ((bif decide (z37.2 < (0:Int)) then some true else ((f10 v19 v9).bind fun v39 => some (!v39))).bind fun t38 => (bif t38 then some false else ((f13 v19 (1:Int)).bind fun z41 => ((f14 z41.1 (1:Int)).bind fun v42 => (bif decide (v42 < (0:Int)) then some false else (bif (v42 != z41.2) then some false else ((f7 aAN0).bind fun v44 => ((f8 aAT1).bind fun v46 => ((f9 v44 v46).bind fun v48 => ((f10 v48 v9).bind fun v53 => (bif !v53 then some false else ((f14 z41.1 (1:Int)).bind fun v55 => (bif decide (v55 < (0:Int)) then some false else (bif (v55 != z41.2) then some false else some true))))))))))))))))))))))))))))))))))
theorem f3_run {aAN0 : Net} {aAT1 : Train} {r : Bool} {l1 l2 m3 l4 : Nat} (hk : f3 aAN0 aAT1 = some r) (hlk : 0 < lk.length := by simp) (hlo : LkOk lk H.length := by simp [LkOk]) : runL Try.prog hh 3 [.agg [litL l1 0 aAN0.Pieces, litL l2 m3 aAN0.Joints], .agg [iv aAT1.Front.Piece, iv aAT1.Front.At, iv aAT1.Front.Way, iv aAT1.Long, litL l4 0 aAT1.Back]] H lk = some (.bool r, H) := by
 refine run_start Try.func3 rfl Try.ntmps3 Try.results3 rfl rfl fun hO => ?_
 unfold f3 at hk
 refine lsq (lrg (pBox (cs := [_, _]) hO tZ25 (fun b1 G hO => ?_)))
 refine pBox (cs := [_, _, _, _, _]) hO tZ30 (fun b2 G hO => ?_)
 refine pA (.bool _) (pE (gn (lsq (lrg ?_))))
 refine pA (.int _ _) (pE (gn (lsq (lrg ?_))))
 refine pLs hO 1 [_, _] tA25 tZ25 ?_
 refine pM (.int _ _) (bk hk fun v3 hv3 hk => ?_)
 refine pCall (fun _ => f4_run hv3) ?_
 refine pA (.int _ _) (pE (gn (lsq (lsq (lrg ?_)))))
 refine pM (.int _ _) ?_
 refine pBi (pE (gn (lck hk (fun hk => ?_) (fun hk => ?_))))
 ·refine lsq (lrg (pA (.bool _) (pE (gn (lrt (gr ?_))))))
  cases hk; exact fin0 hO
 ·refine lsk (gn (lsq (lrg (pLs hO 0 [_, _, _, _, _] tA30 tZ30 ?_))))
  refine pM (.int _ _) (bk hk fun v4 hv4 hk => ?_)
  refine pCall (fun _ => f5_run hv4) ?_
  refine pA (.int _ _) (pE (gn (lsq (lsq (lrg ?_)))))
  refine pM (.int _ _) ?_
  refine pBi (pE (gn (lck hk (fun hk => ?_) (fun hk => ?_))))
  ·refine lsq (lrg (pA (.bool _) (pE (gn (lrt (gr ?_))))))
   cases hk; exact fin0 hO
  ·refine lsk (gn (lsq (wpL_drw [(0, true), (2, true), (1, true), (3, false), (4, false), (5, true), (6, false)] [_, _, _, _, _, _, _] (by decide +kernel) (by rfl) ?_)))
   refine pLs hO 1 [_, _] tA25 tZ25 ?_
   refine pLs hO 0 [_, _, _, _, _] tA30 tZ30 (bk hk fun v5 hv5 hk => ?_)
   refine pCNs hO (fun _ => f7_run hv5) (fun u6 F6 G hO => bk hk fun v7 hv7 hk => ?_)
   refine pCNs hO (fun _ => f8_run hv7) (fun u8 F8 G hO => bk hk fun v9 hv9 hk => ?_)
   obtain ⟨_, hm10⟩ := ls_Net hO (j := 1) rfl (lk.length + 1) 7
   obtain ⟨_, hm11⟩ := ls_Train hO (j := 0) rfl (lk.length + 1) 7
   refine pCall (vs := [(.agg u6), (.agg u8)]) (caps := []) (fun _ => f6_run hv9) ?_ (h3 := (la_cons hm10 (la_cons hm11 la_nil)))
   refine pNew hO tZ36 t036 (fun b12 G hO => pSt (xs := [_, _, _, _, _]) hO 0 tZ36 rfl (fun G hO => pE (gn (lsq (lrg ?_)))))
   refine pLs hO 4 [_, _] tA25 tZ25 (bk hk fun v13 hv13 hk => ?_)
   refine pCNs hO (fun _ => f7_run hv13) (fun u14 F14 G hO => pNew hO tZ41 t041 (fun b15 G hO => ?_))
   refine pStS hO 0 1 tZ41 rfl (fun G hO => pE (gn (lsq (lrg ?_))))
   refine pLs hO 5 [_, _, _, _, _] tA30 tZ30 (bk hk fun v16 hv16 hk => ?_)
   refine pCNs hO (fun _ => f8_run hv16) (fun u17 F17 G hO => pNew hO tZ36 t036 (fun b18 G hO => ?_))
   refine pStS hO 0 1 tZ36 rfl (fun G hO => pE (gn (lsq (lrg ?_))))
   refine pLdS hO 2 3 tA41 tZ41 ?_
   refine pLdS hO 0 1 tA36 tZ36 (bk hk fun v19 hv19 hk => ?_)
   obtain ⟨_, hm20⟩ := ls_Net hO (j := 3) rfl (lk.length + 1) 7
   obtain ⟨_, hm21⟩ := ls_Train hO (j := 1) rfl (lk.length + 1) 7
   refine pCNs (vs := [(.agg u14), (.agg u17)]) (caps := []) hO (fun _ => f9_run hv19) (fun u22 F22 G hO => ?_) (h3 := (la_cons hm20 (la_cons hm21 la_nil)))
   refine pNew hO tZ36 t036 (fun b23 G hO => pStS hO 0 1 tZ36 rfl (fun G hO => pE (gn (lsq (lsq (lrg ?_))))))
   refine pLdS hO 0 1 tA36 tZ36 ?_
   refine pLs hO 6 [_, _, _, _, _] tA36 tZ36 (bk hk fun v24 hv24 hk => ?_)
   obtain ⟨_, hm25⟩ := ls_Train hO (j := 1) rfl (lk.length + 1) 7
   refine pCall (vs := [(.agg u22), (.agg [_, _, _, _, _])]) (caps := []) (fun _ => f10_run hv24) ?_ (h3 := (la_cons hm25 (la_cons rfl la_nil)))
   refine pU (pE (gn (lck hk (fun hk => ?_) (fun hk => ?_))))
   ·refine lsq (lrg (pA (.bool _) (pE (gn (lrt (gr ?_))))))
    cases hk; exact fin0 hO
   ·refine lsk (gn (lsq (lsq (wpL_drw [(0, true), (1, true), (2, true), (3, false), (4, false)] [_, _, _, _, _] (by decide +kernel) (by rfl) ?_))))
    refine pLdS hO 4 5 tA41 tZ41 ?_
    refine pLs hO 10 [_, _] tA25 tZ25 (bk hk fun v26 hv26 hk => ?_)
    refine pCNs hO (fun _ => f7_run hv26) (fun u27 F27 G hO => bk hk fun v28 hv28 hk => ?_)
    obtain ⟨_, hm29⟩ := ls_Net hO (j := 6) rfl (lk.length + 1) 7
    obtain ⟨_, hm30⟩ := ls_Net hO (j := 0) rfl (lk.length + 1) 7
    refine pCall (vs := [(.agg u14), (.agg u27)]) (caps := []) (fun _ => f11_run hv28) ?_ (h3 := (la_cons hm29 (la_cons hm30 la_nil)))
    refine pU (pE (gn (lck hk (fun hk => ?_) (fun hk => ?_))))
    ·refine lsq (lrg (pA (.bool _) (pE (gn (lrt (gr ?_))))))
     cases hk; exact fin0 hO
    ·refine lsk (gn (lsq (lsq (wpL_drw [(0, true), (1, true), (2, true), (3, false), (4, false)] [_, _, _, _, _] (by decide +kernel) (by rfl) ?_))))
     refine pLdS hO 3 4 tA36 tZ36 ?_
     refine pLs hO 10 [_, _, _, _, _] tA30 tZ30 (bk hk fun v31 hv31 hk => ?_)
     refine pCNs hO (fun _ => f8_run hv31) (fun u32 F32 G hO => bk hk fun v33 hv33 hk => ?_)
     obtain ⟨_, hm34⟩ := ls_Train hO (j := 5) rfl (lk.length + 1) 7
     obtain ⟨_, hm35⟩ := ls_Train hO (j := 0) rfl (lk.length + 1) 7
     refine pCall (vs := [(.agg u17), (.agg u32)]) (caps := []) (fun _ => f10_run hv33) ?_ (h3 := (la_cons hm34 (la_cons hm35 la_nil)))
     refine pU (pE (gn (lck hk (fun hk => ?_) (fun hk => ?_))))
     ·refine lsq (lrg (pA (.bool _) (pE (gn (lrt (gr ?_))))))
      cases hk; exact fin0 hO
     ·refine lsk (gn (lsq (lrg (pA (.int _ _) (pE (gn (lsq (lrg ?_))))))))
      refine pLdS hO 6 7 tA41 tZ41 ?_
      refine pM (.int _ _) (bk hk fun z36 hz36 hk => ?_)
      refine pCTo (y' := z36.1) (r := iv z36.2) hO 7 (Sub.all hO (j := 7) rfl) hlo (fun hF1 hS1 ht1 => f12_run hz36 ht1 hF1 hS1) (fun G hO => ?_)
      refine pA (.int _ _) (pE (gn (lsq (lrg ?_))))
      refine pLdS hO 4 5 tA36 tZ36 ?_
      refine pM (.int _ _) (bk hk fun z37 hz37 hk => ?_)
      refine pCTo (y' := z37.1) (r := iv z37.2) hO 5 (Sub.all hO (j := 5) rfl) hlo (fun hF1 hS1 ht1 => f13_run hz37 ht1 hF1 hS1) (fun G hO => ?_)
      refine pA (.int _ _) (pE (gn (lsq (lsq (lrg ?_)))))
      refine pM (.int _ _) ?_
      refine pBi ?_
      refine pM (.bool _) (bk hk fun t38 ht hk => ?_)
      refine wpR_mid (l1 := [_, _, _, _, _]) (fun S' => ∃ J, S' = ⟨hav [(2, .ptr b1 0), (3, .ptr b2 0), (6, .ptr b12 0), (9, .ptr b23 0), (63, .bool t38)] J, G⟩) ?_ ?_
      ·refine bc (b := decide (z37.2 < (0:Int))) (fun hg => ?_) (fun hg => ?_)
       ·replace hk := ct hg ht
        refine pGn hg (pGn hg (pGn hg (pGn hg (pPt hg (.bool _) ?_))))
        cases hk; exact pE ⟨_, sh⟩
       ·replace hk := cf hg ht
        refine pGy hg (pLdS hO 2 3 tA36 tZ36 (pGy hg ?_))
        refine pLs hO 8 [_, _, _, _, _] tA36 tZ36 (pGy hg (bk hk fun v39 hv39 hk => ?_))
        obtain ⟨_, hm40⟩ := ls_Train hO (j := 3) rfl (lk.length + 1) 7
        refine pCall (vs := [(.agg u22), (.agg [_, _, _, _, _])]) (caps := []) (fun _ => f10_run hv39) ?_ (h3 := (la_cons hm40 (la_cons rfl la_nil)))
        refine pGy hg (pU ?_)
        refine pPf hg (.bool _) ?_
        cases hk; exact pE ⟨_, sh⟩
      ·rintro _ ⟨J, rfl⟩
       refine pE (gn (lck hk (fun hk => ?_) (fun hk => ?_)))
       ·refine lsq (lrg (pA (.bool _) (pE (gn (lrt (gr ?_))))))
        cases hk; exact fin0 hO
       ·refine lsk (gn (lsq (lrg (pA (.int _ _) (pE (gn (lsq (lrg ?_))))))))
        refine pLdS hO 2 3 tA36 tZ36 ?_
        refine pM (.int _ _) (bk hk fun z41 hz41 hk => ?_)
        refine pCTo (y' := z41.1) (r := iv z41.2) hO 3 (Sub.all hO (j := 3) rfl) hlo (fun hF1 hS1 ht1 => f13_run hz41 ht1 hF1 hS1) (fun G hO => ?_)
        refine pA (.int _ _) (pE (gn (lsq (lrg ?_))))
        refine pA (.int _ _) (pE (gn (lsq (lrg ?_))))
        refine pLdS hO 2 3 tA36 tZ36 ?_
        refine pM (.int _ _) (bk hk fun v42 hv42 hk => ?_)
        obtain ⟨_, hm43⟩ := ls_Train hO (j := 3) rfl (lk.length + 1) 7
        refine pCall (vs := [(.agg u22), (.int _ _)]) (caps := []) (fun _ => f14_run hv42) ?_ (h3 := (la_cons hm43 (la_cons rfl la_nil)))
        refine pA (.int _ _) (pE (gn (lsq (lsq (lrg ?_)))))
        refine pM (.int _ _) ?_
        refine pBi (pE (gn (lck hk (fun hk => ?_) (fun hk => ?_))))
        ·refine lsq (lrg (pA (.bool _) (pE (gn (lrt (gr ?_))))))
         cases hk; exact fin0 hO
        ·refine lsk (gn (lsq (lsq (lrg (pM (.int _ _) ?_)))))
         refine pM (.int _ _) ?_
         refine pBi (pE (gn (lck hk (fun hk => ?_) (fun hk => ?_))))
         ·refine lsq (lrg (pA (.bool _) (pE (gn (lrt (gr ?_))))))
          cases hk; exact fin0 hO
         ·refine lsk (gn (lsq (wpL_drw [(0, true), (2, true), (1, true), (3, false), (4, false), (5, true), (6, false)] [_, _, _, _, _, _, _] (by decide +kernel) (by rfl) ?_)))
          refine pLs hO 12 [_, _] tA25 tZ25 ?_
          refine pLs hO 11 [_, _, _, _, _] tA30 tZ30 (bk hk fun v44 hv44 hk => ?_)
          refine pCNs hO (fun _ => f7_run hv44) (fun u45 F45 G hO => bk hk fun v46 hv46 hk => ?_)
          refine pCNs hO (fun _ => f8_run hv46) (fun u47 F47 G hO => bk hk fun v48 hv48 hk => ?_)
          obtain ⟨_, hm49⟩ := ls_Net hO (j := 1) rfl (lk.length + 1) 7
          obtain ⟨_, hm50⟩ := ls_Train hO (j := 0) rfl (lk.length + 1) 7
          refine pCNs (vs := [(.agg u45), (.agg u47)]) (caps := []) hO (fun _ => f9_run hv48) (fun u51 F51 G hO => ?_) (h3 := (la_cons hm49 (la_cons hm50 la_nil)))
          refine pNew hO tZ36 t036 (fun b52 G hO => pStS hO 0 1 tZ36 rfl (fun G hO => pE (gn (lsq (lsq (lrg ?_))))))
          refine pLdS hO 0 1 tA36 tZ36 ?_
          refine pLs hO 12 [_, _, _, _, _] tA36 tZ36 (bk hk fun v53 hv53 hk => ?_)
          obtain ⟨_, hm54⟩ := ls_Train hO (j := 1) rfl (lk.length + 1) 7
          refine pCall (vs := [(.agg u51), (.agg [_, _, _, _, _])]) (caps := []) (fun _ => f10_run hv53) ?_ (h3 := (la_cons hm54 (la_cons rfl la_nil)))
          refine pU (pE (gn (lck hk (fun hk => ?_) (fun hk => ?_))))
          ·refine lsq (lrg (pA (.bool _) (pE (gn (lrt (gr ?_))))))
           cases hk; exact fin0 hO
          ·refine lsk (gn (lsq (lrg (pA (.int _ _) (pE (gn (lsq (lrg ?_))))))))
           refine pLdS hO 6 7 tA36 tZ36 ?_
           refine pM (.int _ _) (bk hk fun v55 hv55 hk => ?_)
           obtain ⟨_, hm56⟩ := ls_Train hO (j := 7) rfl (lk.length + 1) 7
           refine pCall (vs := [(.agg u22), (.int _ _)]) (caps := []) (fun _ => f14_run hv55) ?_ (h3 := (la_cons hm56 (la_cons rfl la_nil)))
           refine pA (.int _ _) (pE (gn (lsq (lsq (lrg ?_)))))
           refine pM (.int _ _) ?_
           refine pBi (pE (gn (lck hk (fun hk => ?_) (fun hk => ?_))))
           ·refine lsq (lrg (pA (.bool _) (pE (gn (lrt (gr ?_))))))
            cases hk; exact fin0 hO
           ·refine lsk (gn (lsq (lsq (lrg (pM (.int _ _) ?_)))))
            refine pM (.int _ _) ?_
            refine pBi (pE (gn (lck hk (fun hk => ?_) (fun hk => ?_))))
            ·refine lsq (lrg (pA (.bool _) (pE (gn (lrt (gr ?_))))))
             cases hk; exact fin0 hO
            ·refine lsk (gn (lsq (lrg (pA (.bool _) (pE (gn (lrt ?_)))))))
             cases hk; exact fin0 hO
end
end Go.Proofs.Ytblodpbcinkehaa.K
