/-
  The functions that FnExactBody reaches, as typed Lean functions, and that the interpreter computes them. Part 2 of 2. No conditions.
-/
import Derived.Test.YtkfekjcahepfnaaDBoa
set_option linter.unusedVariables false
set_option linter.unusedSimpArgs false
set_option maxRecDepth 100000
namespace Go.Proofs.Ytkfekjcahepfnaa.K
noncomputable section
/-- impl.spotOk -/
def f226 (aN0 : Net) (aS1 : Spot) : Option Bool :=
  ((f171 aS1.Piece (0:Int) (w64 ((aN0.Pieces.length : Int) - (1:Int)))).bind fun v3 => ((bif v3 then ((getI aN0.Pieces aS1.Piece).bind fun c5 => ((f171 aS1.At (0:Int) c5.Len).bind fun v6 => some v6)) else some false).bind fun t4 => some (t4 && ((aS1.Way == (1:Int)) || (aS1.Way == (-1:Int))))))
theorem f226_run {aN0 : Net} {aS1 : Spot} {r : Bool} {l1 l2 m3 : Nat} {H : Heap} {lk : Lk} (hk : f226 aN0 aS1 = some r) (hlk : 0 < lk.length := by simp) : runL Try.prog hh 226 [.agg [.lit l1 aN0.Pieces.length ((flatL 0) aN0.Pieces), .lit l2 aN0.Joints.length (flatL m3 aN0.Joints)], .agg [.int .i64 aS1.Piece, .int .i64 aS1.At, .int .i64 aS1.Way]] H lk = some (.bool r, H) := by
  refine run_start Try.func226 rfl Try.ntmps226 Try.results226 rfl rfl fun hO => ?_
  unfold f226 at hk
  refine wpL_sq (wpL_rg ?_)
  refine pBox (cs := [_, _]) hO tZ132 (fun b1 G hO => ?_)
  refine pBox (cs := [_, _, _]) hO tZ134 (fun b2 G hO => ?_)
  refine pA (.bool _) ?_
  refine pE (gn (wpL_sq ?_))
  refine wpL_drw [(0, true), (1, true), (2, true), (3, true), (4, true), (5, true), (6, false), (7, false), (8, true), (9, true), (10, true), (11, true), (12, true), (13, true), (14, true), (15, true), (16, true), (17, false), (18, false), (19, false), (20, false), (21, true), (22, false), (23, false), (24, false), (25, true), (26, false), (27, false), (28, false), (29, false)] [_, _, _, _, _, _, _, _, _, _, _, _, _, _, _, _, _, _, _, _, _, _, _, _, _, _, _, _, _, _] (by decide +kernel) (by rfl) ?_
  refine pF tF134_0 ?_
  refine pLo hO 0 (.int _ _) tA3 ?_
  refine pF tF132_0 ?_
  refine pLo hO 1 (.lit _ _ _) tA129 ?_
  refine pLen tS129 ?_
  refine pBi ?_
  obtain ⟨v3, hv3, hk⟩ := bs hk
  refine pCall (fun _ => f171_run hv3) ?_
  refine pM (.bool _) ?_
  obtain ⟨t4, ht, hk⟩ := bs hk
  refine wpR_mid (l1 := [_, _, _, _, _, _, _, _, _, _, _]) (fun S' => ∃ J, S' = ⟨hav [(3, .ptr b2 0), (23, .bool t4)] J, G⟩) ?_ ?_
  · refine bc (b := v3) (fun hg1 => ?_) (fun hg1 => ?_)
    · replace hk := ct hg1 ht
      refine pGy hg1 ?_
      refine pF tF134_1 ?_
      refine pGy hg1 ?_
      refine pLo hO 0 (.int _ _) tA3 ?_
      refine pGy hg1 ?_
      refine pF tF132_0 ?_
      refine pGy hg1 ?_
      refine pLo hO 1 (.lit _ _ _) tA129 ?_
      refine pGy hg1 ?_
      refine pF tF134_0 ?_
      refine pGy hg1 ?_
      refine pLo hO 0 (.int _ _) tA3 ?_
      refine pGy hg1 ?_
      obtain ⟨c5, hc5, hk⟩ := bs hk
      refine pX hc5 tE129 tZ266 ?_
      refine pGy hg1 ?_
      refine pF tF266_1 ?_
      refine pGy hg1 ?_
      refine pLp (.int _ _) (rd1 (lm := 0) (off := 1) hc5 tA3) ?_
      refine pGy hg1 ?_
      obtain ⟨v6, hv6, hk⟩ := bs hk
      refine pCall (fun _ => f171_run hv6) ?_
      refine pPt hg1 (.bool _) ?_
      cases hk; exact pE ⟨_, St.hav _ ⟨rfl, rfl, trivial⟩⟩
    · replace hk := cf hg1 ht
      refine pGn hg1 ?_
      refine pGn hg1 ?_
      refine pGn hg1 ?_
      refine pGn hg1 ?_
      refine pGn hg1 ?_
      refine pGn hg1 ?_
      refine pGn hg1 ?_
      refine pGn hg1 ?_
      refine pGn hg1 ?_
      refine pGn hg1 ?_
      refine pPf hg1 (.bool _) ?_
      cases hk; exact pE ⟨_, St.hav _ ⟨rfl, rfl, trivial⟩⟩
  · rintro _ ⟨J, rfl⟩
    refine pM (.bool _) ?_
    refine wpR_mid (l1 := [_, _, _, _, _, _, _, _, _]) (fun S' => ∃ J, S' = ⟨hav [(33, .bool (t4 && ((aS1.Way == (1:Int)) || (aS1.Way == (-1:Int)))))] J, G⟩) ?_ ?_
    · refine bc (b := t4) (fun hg1 => ?_) (fun hg1 => ?_)
      · refine pGy hg1 ?_
        refine pF tF134_2 ?_
        refine pGy hg1 ?_
        refine pLo hO 0 (.int _ _) tA3 ?_
        refine pGy hg1 ?_
        refine pBi ?_
        refine pGy hg1 ?_
        refine pM (.bool _) ?_
        refine wpR_mid (l1 := [_, _, _, _]) (fun S' => ∃ J, S' = ⟨hav [(24, .bool t4), (32, .bool ((aS1.Way == (1:Int)) || (aS1.Way == (-1:Int))))] J, G⟩) ?_ ?_
        · refine bc (b := (aS1.Way == (1:Int))) (fun hg2 => ?_) (fun hg2 => ?_)
          · refine pGn hg2 ?_
            refine pGn hg2 ?_
            refine pGn hg2 ?_
            refine pGy hg1 ?_
            refine pPt hg2 (.bool _) ?_
            exact pE ⟨_, St.hav _ ⟨rfl, by rw [hg2]; rfl, trivial⟩⟩
          · refine pGy hg2 ?_
            refine pF tF134_2 ?_
            refine pGy hg2 ?_
            refine pLo hO 0 (.int _ _) tA3 ?_
            refine pGy hg2 ?_
            refine pBi ?_
            refine pGy hg1 ?_
            refine pPf hg2 (.bool _) ?_
            exact pE ⟨_, St.hav _ ⟨rfl, by rw [hg2]; rfl, trivial⟩⟩
        · rintro _ ⟨J, rfl⟩
          refine pPt hg1 (.bool _) ?_
          exact pE ⟨_, St.hav _ ⟨by rw [hg1]; rfl, trivial⟩⟩
      · refine pGn hg1 ?_
        refine pGn hg1 ?_
        refine pGn hg1 ?_
        refine pGn hg1 ?_
        refine pGu ?_
        refine pGu ?_
        refine pGu ?_
        refine pGn hg1 ?_
        refine pPf hg1 (.bool _) ?_
        exact pE ⟨_, St.hav _ ⟨by rw [hg1]; rfl, trivial⟩⟩
    · rintro _ ⟨J, rfl⟩
      refine pA (.bool _) ?_
      refine pE (gn (wpL_rt ?_))
      replace hk := Option.some.inj hk; subst hk; exact fin0 hO
/-- impl.gone -/
def f289 (aN0 : Net) (aS1 : Spot) : Option Int :=
  (bif (aS1.Way == (1:Int)) then some aS1.At else ((getI aN0.Pieces aS1.Piece).bind fun c3 => some (w64 (c3.Len - aS1.At))))
theorem f289_run {aN0 : Net} {aS1 : Spot} {r : Int} {l1 l2 m3 : Nat} {H : Heap} {lk : Lk} (hk : f289 aN0 aS1 = some r) (hlk : 0 < lk.length := by simp) : runL Try.prog hh 289 [.agg [.lit l1 aN0.Pieces.length ((flatL 0) aN0.Pieces), .lit l2 aN0.Joints.length (flatL m3 aN0.Joints)], .agg [.int .i64 aS1.Piece, .int .i64 aS1.At, .int .i64 aS1.Way]] H lk = some (.int .i64 r, H) := by
  refine run_start Try.func289 rfl Try.ntmps289 Try.results289 rfl rfl fun hO => ?_
  unfold f289 at hk
  refine wpL_sq (wpL_rg ?_)
  refine pBox (cs := [_, _]) hO tZ132 (fun b1 G hO => ?_)
  refine pBox (cs := [_, _, _]) hO tZ134 (fun b2 G hO => ?_)
  refine pA (.int _ _) ?_
  refine pE (gn (wpL_sq (wpL_sq (wpL_rg ?_))))
  refine pF tF134_2 ?_
  refine pLo hO 0 (.int _ _) tA3 ?_
  refine pBi ?_
  refine pE (gn ?_)
  refine wpL_cd (b := (aS1.Way == (1:Int))) (fun hb => ?_) (fun hb => ?_)
  · replace hk := ct hb hk
    refine wpL_sq (wpL_rg ?_)
    refine pF tF134_1 ?_
    refine pLo hO 0 (.int _ _) tA3 ?_
    refine pA (.int _ _) ?_
    refine pE (gn (wpL_rt (gr ?_)))
    replace hk := Option.some.inj hk; subst hk; exact fin0 hO
  · replace hk := cf hb hk
    refine wpL_sk (gn (wpL_sq ?_))
    refine wpL_drw [(0, true), (1, true), (2, true), (3, true), (4, true), (5, true), (6, true), (7, true), (8, true), (9, false), (10, false)] [_, _, _, _, _, _, _, _, _, _, _] (by decide +kernel) (by rfl) ?_
    refine pF tF132_0 ?_
    refine pLo hO 1 (.lit _ _ _) tA129 ?_
    refine pF tF134_0 ?_
    refine pLo hO 0 (.int _ _) tA3 ?_
    obtain ⟨c3, hc3, hk⟩ := bs hk
    refine pX hc3 tE129 tZ266 ?_
    refine pF tF266_1 ?_
    refine pLp (.int _ _) (rd1 (lm := 0) (off := 1) hc3 tA3) ?_
    refine pF tF134_1 ?_
    refine pLo hO 0 (.int _ _) tA3 ?_
    refine pBi ?_
    refine pA (.int _ _) ?_
    refine pE (gn (wpL_rt ?_))
    replace hk := Option.some.inj hk; subst hk; exact fin0 hO
/-- impl.looked -/
def f337 (aPiece0 : Int) (aWay1 : Int) : Option End :=
  (bif (aWay1 == (1:Int)) then some ({ Piece := aPiece0, Side := (1:Int) } : End) else some ({ Piece := aPiece0, Side := (0:Int) } : End))
theorem f337_run {aPiece0 : Int} {aWay1 : Int} {r : End} {H : Heap} {lk : Lk} (hk : f337 aPiece0 aWay1 = some r) (hlk : 0 < lk.length := by simp) : runL Try.prog hh 337 [.int .i64 aPiece0, .int .i64 aWay1] H lk = some (.agg [.int .i64 r.Piece, .int .i64 r.Side], H) := by
  refine run_start Try.func337 rfl Try.ntmps337 Try.results337 rfl rfl fun hO => ?_
  unfold f337 at hk
  refine wpL_sq (wpL_rg ?_)
  refine pNew hO tZ260 t0260 (fun b1 G hO => ?_)
  refine pE (gn (wpL_sq (wpL_sq (wpL_rg ?_))))
  refine pM (.int _ _) ?_
  refine pBi ?_
  refine pE (gn ?_)
  refine wpL_cd (b := (aWay1 == (1:Int))) (fun hb => ?_) (fun hb => ?_)
  · replace hk := ct hb hk
    refine wpL_sq (wpL_rg ?_)
    refine pM (.int _ _) ?_
    refine pBd [_, _] t0260 tP260 ?_
    refine pSt (xs := [_, _]) hO 0 tZ260 rfl (fun G hO => ?_)
    refine pE (gn (wpL_rt (gr ?_)))
    replace hk := Option.some.inj hk; subst hk; exact finZ hO (fz_agg (n := 2) (fz_c (fz_int _ _) (fz_c (fz_int _ _) (fz_n)))) (resS hO 0 [_, _] tA260 tZ260 resN)
  · replace hk := cf hb hk
    refine wpL_sk (gn (wpL_sq (wpL_rg ?_)))
    refine pM (.int _ _) ?_
    refine pBd [_, _] t0260 tP260 ?_
    refine pSt (xs := [_, _]) hO 0 tZ260 rfl (fun G hO => ?_)
    refine pE (gn (wpL_rt ?_))
    replace hk := Option.some.inj hk; subst hk; exact finZ hO (fz_agg (n := 2) (fz_c (fz_int _ _) (fz_c (fz_int _ _) (fz_n)))) (resS hO 0 [_, _] tA260 tZ260 resN)
/-- impl.front -/
def f291 (aS0 : Step) : Option End :=
  ((f337 aS0.Piece aS0.Way).bind fun v3 => some v3)
theorem f291_run {aS0 : Step} {r : End} {H : Heap} {lk : Lk} (hk : f291 aS0 = some r) (hlk : 0 < lk.length := by simp) : runL Try.prog hh 291 [.agg [.int .i64 aS0.Piece, .int .i64 aS0.Way]] H lk = some (.agg [.int .i64 r.Piece, .int .i64 r.Side], H) := by
  refine run_start Try.func291 rfl Try.ntmps291 Try.results291 rfl rfl fun hO => ?_
  unfold f291 at hk
  refine wpL_sq (wpL_rg ?_)
  refine pBox (cs := [_, _]) hO tZ258 (fun b1 G hO => ?_)
  refine pNew hO tZ260 t0260 (fun b2 G hO => ?_)
  refine pE (gn (wpL_sq (wpL_rg ?_)))
  refine pF tF258_0 ?_
  refine pLo hO 1 (.int _ _) tA3 ?_
  refine pF tF258_1 ?_
  refine pLo hO 1 (.int _ _) tA3 ?_
  obtain ⟨v3, hv3, hk⟩ := bs hk
  refine pCall (fun _ => f337_run hv3) ?_
  refine pSt (xs := [_, _]) hO 0 tZ260 rfl (fun G hO => ?_)
  refine pE (gn (wpL_rt ?_))
  replace hk := Option.some.inj hk; subst hk; exact finZ hO (fz_agg (n := 2) (fz_c (fz_int _ _) (fz_c (fz_int _ _) (fz_n)))) (resS hO 0 [_, _] tA260 tZ260 resN)
/-- impl.at -/
def f336_L2 (aE1 : End) (x3 : Int) (c4 : Joint) : Int → Option (Int ⊕ (Int ⊕ (Int × Int))) := fun s =>
  (bif decide (s < (c4.Ends.length : Int)) then ((getI c4.Ends s).bind fun c7 => (bif ((aE1.Piece == c7.Piece) && ((aE1.Side == c7.Side) && true)) then (((some (x3, s)).map Sum.inr).map Sum.inr) else some (.inl (w64 (s + (1:Int)))))) else ((some (.inl (w64 (x3 + (1:Int))))).map Sum.inr))
def f336_L1 (aN0 : Net) (aE1 : End) : Int → Option (Int ⊕ (Int × Int)) := fun s =>
  (bif decide (s < (aN0.Joints.length : Int)) then ((getI aN0.Joints s).bind fun c4 => (loopO (f336_L2 aE1 s c4) ((0:Int)))) else ((some ((-1:Int), (-1:Int))).map Sum.inr))
def f336 (aN0 : Net) (aE1 : End) : Option (Int × Int) :=
  (loopO (f336_L1 aN0 aE1) ((0:Int)))
theorem f336_run {aN0 : Net} {aE1 : End} {r : (Int × Int)} {l1 l2 m3 : Nat} {H : Heap} {lk : Lk} (hk : f336 aN0 aE1 = some r) (hlk : 0 < lk.length := by simp) : runL Try.prog hh 336 [.agg [.lit l1 aN0.Pieces.length ((flatL 0) aN0.Pieces), .lit l2 aN0.Joints.length (flatL m3 aN0.Joints)], .agg [.int .i64 aE1.Piece, .int .i64 aE1.Side]] H lk = some (.tup [.int .i64 r.1, .int .i64 r.2], H) := by
  refine run_start Try.func336 rfl Try.ntmps336 Try.results336 rfl rfl fun hO => ?_
  unfold f336 at hk
  refine wpL_sq (wpL_rg ?_)
  refine pBox (cs := [_, _]) hO tZ132 (fun b1 G hO => ?_)
  refine pBox (cs := [_, _]) hO tZ260 (fun b2 G hO => ?_)
  refine pA (.int _ _) ?_
  refine pA (.int _ _) ?_
  refine pE (gn (wpL_sq (wpL_sq (wpL_rg ?_))))
  refine pF tF132_1 ?_
  refine pLo hO 1 (.lit _ _ _) tA130 ?_
  refine pLen tS130 ?_
  refine pM (.int _ _) ?_
  refine pE (gn (wpL_bl ?_))
  refine wpL_loopO (F := f336_L1 aN0 aE1) (fun s S' => ∃ (J : Nat → V) (G : Heap), Owns H G [.blk b2 (.cells 2 [.int .i64 aE1.Piece, .int .i64 aE1.Side])] ∧ S' = ⟨hav [(3, .ptr b2 0), (11, .lit l2 aN0.Joints.length (flatL m3 aN0.Joints)), (12, .int .i64 (aN0.Joints.length : Int)), (13, .int .i64 s)] J, G⟩) hk ⟨_, _, (Owns.pick hO [0] (by decide) rfl), St.hav _ ⟨rfl, rfl, rfl, rfl, trivial⟩⟩ ?_
  rintro x3 _ y1 ⟨J, G, hO, rfl⟩ hk hx1
  refine wpL_sq (wpL_rg ?_)
  refine pBi ?_
  refine pE (gn (wpL_sq ?_))
  refine wpL_cd (b := decide (x3 < (aN0.Joints.length : Int))) (fun hb => ?_) (fun hb => ?_)
  · replace hk := ct hb hk
    refine wpL_sk (gn (wpL_sq (wpL_bl (wpL_sq (wpL_rg ?_)))))
    refine pM (.int _ _) ?_
    obtain ⟨c4, hc4, hk⟩ := bs hk
    refine pX hc4 tE130 tZ332 ?_
    refine pLp (.agg [_, _, _]) (rd2 (lm := m3) (off := 0) hc4 tA332 tZ332) ?_
    refine pNew hO tZ332 t0332 (fun b5 G hO => ?_)
    refine pA (.int _ _) ?_
    refine pSt (xs := [_, _, _]) hO 0 tZ332 rfl (fun G hO => ?_)
    refine pE (gn (wpL_sq (wpL_rg ?_)))
    refine pF tF332_2 ?_
    refine pLo hO 0 (.lit _ _ _) tA330 ?_
    refine pLen tS330 ?_
    refine pM (.int _ _) ?_
    refine pE (gn (wpL_bl ?_))
    refine wpL_loopO (F := f336_L2 aE1 x3 c4) (fun s S' => ∃ (J : Nat → V) (G : Heap), Owns H G [.blk b2 (.cells 2 [.int .i64 aE1.Piece, .int .i64 aE1.Side])] ∧ S' = ⟨hav [(3, .ptr b2 0), (6, .int .i64 x3), (11, .lit l2 aN0.Joints.length (flatL m3 aN0.Joints)), (12, .int .i64 (aN0.Joints.length : Int)), (13, .int .i64 x3), (19, .lit m3 c4.Ends.length ((flatL 0) c4.Ends)), (20, .int .i64 (c4.Ends.length : Int)), (21, .int .i64 s)] J, G⟩) hk ⟨_, _, (Owns.pick hO [1] (by decide) rfl), St.hav _ ⟨rfl, rfl, rfl, rfl, rfl, rfl, rfl, rfl, trivial⟩⟩ ?_
    rintro x6 _ y2 ⟨J, G, hO, rfl⟩ hk hx2
    refine wpL_sq (wpL_rg ?_)
    refine pBi ?_
    refine pE (gn (wpL_sq ?_))
    refine wpL_cd (b := decide (x6 < (c4.Ends.length : Int))) (fun hb => ?_) (fun hb => ?_)
    · replace hk := ct hb hk
      refine wpL_sk (gn (wpL_sq (wpL_bl (wpL_sq (wpL_rg ?_)))))
      refine pM (.int _ _) ?_
      obtain ⟨c7, hc7, hk⟩ := bs hk
      refine pX hc7 tE330 tZ260 ?_
      refine pLp (.agg [_, _]) (rd2 (lm := 0) (off := 0) hc7 tA260 tZ260) ?_
      refine pNew hO tZ260 t0260 (fun b8 G hO => ?_)
      refine pA (.int _ _) ?_
      refine pSt (xs := [_, _]) hO 0 tZ260 rfl (fun G hO => ?_)
      refine pE (gn (wpL_sq (wpL_rg ?_)))
      refine pLs hO 1 [_, _] tA260 tZ260 ?_
      refine pLs hO 0 [_, _] tA260 tZ260 ?_
      refine pGq tG260 (eqc (eqi _ _ _) (eqc (eqi _ _ _) (rfl))) ?_
      refine pE (gn ?_)
      refine wpL_cd (b := ((aE1.Piece == c7.Piece) && ((aE1.Side == c7.Side) && true))) (fun hb => ?_) (fun hb => ?_)
      · replace hk := ct hb hk
        refine wpL_sq (wpL_rg ?_)
        refine pM (.int _ _) ?_
        refine pM (.int _ _) ?_
        refine pA (.int _ _) ?_
        refine pA (.int _ _) ?_
        refine pE (gn (wpL_rt (br (gr (gr (br (br (gr (gr (br (gr ?_)))))))))))
        replace hk := lx hx2 hk
        replace hk := lx hx1 hk
        replace hk := Option.some.inj hk; subst hk; exact finZ hO (fz_tup (n := 3) (fz_c (fz_int _ _) (fz_c (fz_int _ _) (fz_n)))) (resT (.int _ _) (resT (.int _ _) resN))
      · replace hk := cf hb hk
        refine wpL_sk (bn (gn (wpL_rg ?_)))
        refine pBi ?_
        refine pM (.int _ _) ?_
        refine pE (gn ?_)
        cases hk; exact ⟨_, rfl, _, _, (Owns.pick hO [1] (by decide) rfl), St.hav _ ⟨rfl, rfl, rfl, rfl, rfl, rfl, rfl, rfl, trivial⟩⟩
    · replace hk := cf hb hk
      refine wpL_ex (ge (ge (be (bn (gn ?_)))))
      replace hk := lx hx2 hk
      refine wpL_rg ?_
      refine pBi ?_
      refine pM (.int _ _) ?_
      refine pE (gn ?_)
      cases hk; exact ⟨_, rfl, _, _, hO, St.hav _ ⟨rfl, rfl, rfl, rfl, trivial⟩⟩
  · replace hk := cf hb hk
    refine wpL_ex (ge (ge (be (gn ?_))))
    replace hk := lx hx1 hk
    refine wpL_sq (wpL_rg ?_)
    refine pA (.int _ _) ?_
    refine pA (.int _ _) ?_
    refine pE (gn (wpL_rt ?_))
    replace hk := Option.some.inj hk; subst hk; exact finZ hO (fz_tup (n := 3) (fz_c (fz_int _ _) (fz_c (fz_int _ _) (fz_n)))) (resT (.int _ _) (resT (.int _ _) resN))
/-- impl.over -/
def f290 (aN0 : Net) (aE1 : End) : Option ((List End) × (List Int)) :=
  ((f336 aN0 aE1).bind fun v3 => (bif decide (v3.1 < (0:Int)) then some (([] : List End), ([] : List Int)) else ((getI aN0.Joints v3.1).bind fun c4 => ((getI aN0.Joints v3.1).bind fun c5 => (bif (c5.Kind == (2:Int)) then ((getI c4.Ends (w64 ((1:Int) - v3.2))).bind fun c6 => some (([c6] : List End), ([(0:Int)] : List Int))) else (bif (c5.Kind == (3:Int)) then (bif (v3.2 == (0:Int)) then ((getI c4.Ends (1:Int)).bind fun c9 => ((getI c4.Ends (2:Int)).bind fun c10 => some (([c9, c10] : List End), ([(1:Int), (2:Int)] : List Int)))) else ((getI c4.Ends (0:Int)).bind fun c13 => some (([c13] : List End), ([v3.2] : List Int)))) else (bif (c5.Kind == (4:Int)) then ((getI c4.Ends (xor64 v3.2 (1:Int))).bind fun c16 => some (([c16] : List End), ([(0:Int)] : List Int))) else some (([] : List End), ([] : List Int)))))))))
theorem f290_run {aN0 : Net} {aE1 : End} {r : ((List End) × (List Int))} {l1 l2 m3 : Nat} {H : Heap} {lk : Lk} (hk : f290 aN0 aE1 = some r) (hlk : 0 < lk.length := by simp) : runL Try.prog hh 290 [.agg [.lit l1 aN0.Pieces.length ((flatL 0) aN0.Pieces), .lit l2 aN0.Joints.length (flatL m3 aN0.Joints)], .agg [.int .i64 aE1.Piece, .int .i64 aE1.Side]] H lk = some (.tup [.lit 0 r.1.length ((flatL 0) r.1), .lit 0 r.2.length ((flatL 0) r.2)], H) := by
  refine run_start Try.func290 rfl Try.ntmps290 Try.results290 rfl rfl fun hO => ?_
  unfold f290 at hk
  refine wpL_sq (wpL_rg ?_)
  refine pBox (cs := [_, _]) hO tZ132 (fun b1 G hO => ?_)
  refine pBox (cs := [_, _]) hO tZ260 (fun b2 G hO => ?_)
  refine pA (.tl 0 []) ?_
  refine pA (.tl 0 []) ?_
  refine pE (gn (wpL_sq (wpL_rg ?_)))
  refine pLs hO 1 [_, _] tA132 tZ132 ?_
  refine pLs hO 0 [_, _] tA260 tZ260 ?_
  obtain ⟨v3, hv3, hk⟩ := bs hk
  refine pCall (fun _ => f336_run hv3) ?_
  refine pM (.tup [_, _]) ?_
  refine pEx (.int _ _) ?_
  refine pEx (.int _ _) ?_
  refine pA (.int _ _) ?_
  refine pA (.int _ _) ?_
  refine pE (gn (wpL_sq (wpL_sq (wpL_rg ?_))))
  refine pM (.int _ _) ?_
  refine pBi ?_
  refine pE (gn ?_)
  refine wpL_cd (b := decide (v3.1 < (0:Int))) (fun hb => ?_) (fun hb => ?_)
  · replace hk := ct hb hk
    refine wpL_sq (wpL_rg ?_)
    refine pA (.tl 0 []) ?_
    refine pA (.tl 0 []) ?_
    refine pE (gn (wpL_rt (gr ?_)))
    replace hk := Option.some.inj hk; subst hk; exact finZ hO (fz_tup (n := 3) (fz_c (fz_nil (k := 0) End) (fz_c (fz_nil (k := 0) Int) (fz_n)))) (resT (.tl 0 []) (resT (.tl 0 []) resN))
  · replace hk := cf hb hk
    refine wpL_sk (gn (wpL_sq (wpL_rg ?_)))
    refine pF tF132_1 ?_
    refine pLo hO 1 (.lit _ _ _) tA130 ?_
    refine pM (.int _ _) ?_
    obtain ⟨c4, hc4, hk⟩ := bs hk
    refine pX hc4 tE130 tZ332 ?_
    refine pF tF332_2 ?_
    refine pLp (.lit _ _ _) (rd1 (lm := m3) (off := 2) hc4 tA330) ?_
    refine pA (.lit _ _ _) ?_
    refine pE (gn (wpL_sq (wpL_sq (wpL_rg ?_))))
    refine pF tF132_1 ?_
    refine pLo hO 1 (.lit _ _ _) tA130 ?_
    refine pM (.int _ _) ?_
    obtain ⟨c5, hc5, hk⟩ := bs hk
    refine pX hc5 tE130 tZ332 ?_
    refine pF tF332_0 ?_
    refine pLp (.int _ _) (rd1 (lm := m3) (off := 0) hc5 tA3) ?_
    refine pE (gn (wpL_bl (wpL_sq (wpL_rg ?_))))
    refine pBi ?_
    refine pA (.bool _) ?_
    refine pE (gn ?_)
    refine wpL_cd (b := (c5.Kind == (2:Int))) (fun hb => ?_) (fun hb => ?_)
    · replace hk := ct hb hk
      refine wpL_sq (wpL_rg ?_)
      refine pM (.lit _ _ _) ?_
      refine pM (.int _ _) ?_
      refine pBi ?_
      obtain ⟨c6, hc6, hk⟩ := bs hk
      refine pX hc6 tE330 tZ260 ?_
      refine pLp (.agg [_, _]) (rd2 (lm := 0) (off := 0) hc6 tA260 tZ260) ?_
      refine pBs (ps := [(0, (.agg [_, _]))]) ([c6] : List End) tE330 tZ260 t0260 (emb_cons (embx_agg (α := End) c6) (emb_nil)) ?_
      refine pBs (ps := [(0, (.int _ _))]) ([(0:Int)] : List Int) tE26 tZ3 t03 (emb_cons (embx_int _ _) (emb_nil)) ?_
      refine pA (.tl 1 ((flatL 0) ([c6] : List End))) ?_
      refine pA (.tl 1 ((flatL 0) ([(0:Int)] : List Int))) ?_
      refine pE (gn (wpL_rt (br (gr ?_))))
      replace hO := Owns.addTl hO lk.length ([c6] : List End)
      replace hO := Owns.addTl hO lk.length ([(0:Int)] : List Int)
      replace hk := Option.some.inj hk; subst hk; exact finZ hO (fz_tup (n := 3) (fz_c (fz_own (xs := ([c6] : List End)) hlk 1) (fz_c (fz_own (xs := ([(0:Int)] : List Int)) hlk 0) (fz_n)))) (resT (.tl 1 ((flatL 0) ([c6] : List End))) (resT (.tl 1 ((flatL 0) ([(0:Int)] : List Int))) resN))
    · replace hk := cf hb hk
      refine wpL_sq (wpL_rg ?_)
      refine pBi ?_
      refine pA (.bool _) ?_
      refine pE (gn ?_)
      refine wpL_cd (b := (c5.Kind == (3:Int))) (fun hb => ?_) (fun hb => ?_)
      · replace hk := ct hb hk
        refine wpL_sq (wpL_sq (wpL_rg ?_))
        refine pM (.int _ _) ?_
        refine pBi ?_
        refine pE (gn ?_)
        refine wpL_cd (b := (v3.2 == (0:Int))) (fun hb => ?_) (fun hb => ?_)
        · replace hk := ct hb hk
          refine wpL_sq ?_
          refine wpL_drw [(0, true), (1, true), (2, true), (3, true), (4, true), (5, true), (6, false), (7, true), (8, false), (9, false)] [_, _, _, _, _, _, _, _, _, _] (by decide +kernel) (by rfl) ?_
          refine pM (.lit _ _ _) ?_
          obtain ⟨c9, hc9, hk⟩ := bs hk
          refine pX hc9 tE330 tZ260 ?_
          refine pLp (.agg [_, _]) (rd2 (lm := 0) (off := 0) hc9 tA260 tZ260) ?_
          refine pM (.lit _ _ _) ?_
          obtain ⟨c10, hc10, hk⟩ := bs hk
          refine pX hc10 tE330 tZ260 ?_
          refine pLp (.agg [_, _]) (rd2 (lm := 0) (off := 0) hc10 tA260 tZ260) ?_
          refine pBs (ps := [(0, (.agg [_, _])), (1, (.agg [_, _]))]) ([c9, c10] : List End) tE330 tZ260 t0260 (emb_cons (embx_agg (α := End) c9) (emb_cons (embx_agg (α := End) c10) (emb_nil))) ?_
          refine pBs (ps := [(0, (.int _ _)), (1, (.int _ _))]) ([(1:Int), (2:Int)] : List Int) tE26 tZ3 t03 (emb_cons (embx_int _ _) (emb_cons (embx_int _ _) (emb_nil))) ?_
          refine pA (.tl 2 ((flatL 0) ([c9, c10] : List End))) ?_
          refine pA (.tl 2 ((flatL 0) ([(1:Int), (2:Int)] : List Int))) ?_
          refine pE (gn (wpL_rt (gr (br (gr ?_)))))
          replace hO := Owns.addTl hO lk.length ([c9, c10] : List End)
          replace hO := Owns.addTl hO lk.length ([(1:Int), (2:Int)] : List Int)
          replace hk := Option.some.inj hk; subst hk; exact finZ hO (fz_tup (n := 3) (fz_c (fz_own (xs := ([c9, c10] : List End)) hlk 1) (fz_c (fz_own (xs := ([(1:Int), (2:Int)] : List Int)) hlk 0) (fz_n)))) (resT (.tl 2 ((flatL 0) ([c9, c10] : List End))) (resT (.tl 2 ((flatL 0) ([(1:Int), (2:Int)] : List Int))) resN))
        · replace hk := cf hb hk
          refine wpL_sk (gn (wpL_sq (wpL_rg ?_)))
          refine pM (.lit _ _ _) ?_
          obtain ⟨c13, hc13, hk⟩ := bs hk
          refine pX hc13 tE330 tZ260 ?_
          refine pLp (.agg [_, _]) (rd2 (lm := 0) (off := 0) hc13 tA260 tZ260) ?_
          refine pBs (ps := [(0, (.agg [_, _]))]) ([c13] : List End) tE330 tZ260 t0260 (emb_cons (embx_agg (α := End) c13) (emb_nil)) ?_
          refine pM (.int _ _) ?_
          refine pBs (ps := [(0, (.int _ _))]) ([v3.2] : List Int) tE26 tZ3 t03 (emb_cons (embx_int _ _) (emb_nil)) ?_
          refine pA (.tl 1 ((flatL 0) ([c13] : List End))) ?_
          refine pA (.tl 1 ((flatL 0) ([v3.2] : List Int))) ?_
          refine pE (gn (wpL_rt (br (gr ?_))))
          replace hO := Owns.addTl hO lk.length ([c13] : List End)
          replace hO := Owns.addTl hO lk.length ([v3.2] : List Int)
          replace hk := Option.some.inj hk; subst hk; exact finZ hO (fz_tup (n := 3) (fz_c (fz_own (xs := ([c13] : List End)) hlk 1) (fz_c (fz_own (xs := ([v3.2] : List Int)) hlk 0) (fz_n)))) (resT (.tl 1 ((flatL 0) ([c13] : List End))) (resT (.tl 1 ((flatL 0) ([v3.2] : List Int))) resN))
      · replace hk := cf hb hk
        refine wpL_sq (wpL_rg ?_)
        refine pBi ?_
        refine pA (.bool _) ?_
        refine pE (gn ?_)
        refine wpL_cd (b := (c5.Kind == (4:Int))) (fun hb => ?_) (fun hb => ?_)
        · replace hk := ct hb hk
          refine wpL_sq (wpL_rg ?_)
          refine pM (.lit _ _ _) ?_
          refine pM (.int _ _) ?_
          refine pBi ?_
          obtain ⟨c16, hc16, hk⟩ := bs hk
          refine pX hc16 tE330 tZ260 ?_
          refine pLp (.agg [_, _]) (rd2 (lm := 0) (off := 0) hc16 tA260 tZ260) ?_
          refine pBs (ps := [(0, (.agg [_, _]))]) ([c16] : List End) tE330 tZ260 t0260 (emb_cons (embx_agg (α := End) c16) (emb_nil)) ?_
          refine pBs (ps := [(0, (.int _ _))]) ([(0:Int)] : List Int) tE26 tZ3 t03 (emb_cons (embx_int _ _) (emb_nil)) ?_
          refine pA (.tl 1 ((flatL 0) ([c16] : List End))) ?_
          refine pA (.tl 1 ((flatL 0) ([(0:Int)] : List Int))) ?_
          refine pE (gn (wpL_rt (br (gr ?_))))
          replace hO := Owns.addTl hO lk.length ([c16] : List End)
          replace hO := Owns.addTl hO lk.length ([(0:Int)] : List Int)
          replace hk := Option.some.inj hk; subst hk; exact finZ hO (fz_tup (n := 3) (fz_c (fz_own (xs := ([c16] : List End)) hlk 1) (fz_c (fz_own (xs := ([(0:Int)] : List Int)) hlk 0) (fz_n)))) (resT (.tl 1 ((flatL 0) ([c16] : List End))) (resT (.tl 1 ((flatL 0) ([(0:Int)] : List Int))) resN))
        · replace hk := cf hb hk
          refine wpL_sk (bn (gn (wpL_sq (wpL_rg ?_))))
          refine pA (.tl 0 []) ?_
          refine pA (.tl 0 []) ?_
          refine pE (gn (wpL_rt ?_))
          replace hk := Option.some.inj hk; subst hk; exact finZ hO (fz_tup (n := 3) (fz_c (fz_nil (k := 0) End) (fz_c (fz_nil (k := 0) Int) (fz_n)))) (resT (.tl 0 []) (resT (.tl 0 []) resN))
/-- impl.rear -/
def f293 (aS0 : Step) : Option End :=
  ((f337 aS0.Piece (w64 (0 - aS0.Way))).bind fun v3 => some v3)
theorem f293_run {aS0 : Step} {r : End} {H : Heap} {lk : Lk} (hk : f293 aS0 = some r) (hlk : 0 < lk.length := by simp) : runL Try.prog hh 293 [.agg [.int .i64 aS0.Piece, .int .i64 aS0.Way]] H lk = some (.agg [.int .i64 r.Piece, .int .i64 r.Side], H) := by
  refine run_start Try.func293 rfl Try.ntmps293 Try.results293 rfl rfl fun hO => ?_
  unfold f293 at hk
  refine wpL_sq (wpL_rg ?_)
  refine pBox (cs := [_, _]) hO tZ258 (fun b1 G hO => ?_)
  refine pNew hO tZ260 t0260 (fun b2 G hO => ?_)
  refine pE (gn (wpL_sq (wpL_rg ?_)))
  refine pF tF258_0 ?_
  refine pLo hO 1 (.int _ _) tA3 ?_
  refine pF tF258_1 ?_
  refine pLo hO 1 (.int _ _) tA3 ?_
  refine pU ?_
  obtain ⟨v3, hv3, hk⟩ := bs hk
  refine pCall (fun _ => f337_run hv3) ?_
  refine pSt (xs := [_, _]) hO 0 tZ260 rfl (fun G hO => ?_)
  refine pE (gn (wpL_rt ?_))
  replace hk := Option.some.inj hk; subst hk; exact finZ hO (fz_agg (n := 2) (fz_c (fz_int _ _) (fz_c (fz_int _ _) (fz_n)))) (resS hO 0 [_, _] tA260 tZ260 resN)
/-- impl.End] -/
def f338_L1 (aS0 : List End) (aV1 : End) : Int → Option (Int ⊕ Int) := fun s =>
  (bif decide (s < (aS0.length : Int)) then ((getI aS0 s).bind fun c3 => (bif ((aV1.Piece == c3.Piece) && ((aV1.Side == c3.Side) && true)) then ((some s).map Sum.inr) else some (.inl (w64 (s + (1:Int)))))) else ((some (-1:Int)).map Sum.inr))
def f338 (aS0 : List End) (aV1 : End) : Option Int :=
  (loopO (f338_L1 aS0 aV1) ((0:Int)))
theorem f338_run {aS0 : List End} {aV1 : End} {r : Int} {l1 : Nat} {H : Heap} {lk : Lk} (hk : f338 aS0 aV1 = some r) (hlk : 0 < lk.length := by simp) : runL Try.prog hh 338 [.lit l1 aS0.length ((flatL 0) aS0), .agg [.int .i64 aV1.Piece, .int .i64 aV1.Side]] H lk = some (.int .i64 r, H) := by
  refine run_start Try.func338 rfl Try.ntmps338 Try.results338 rfl rfl fun hO => ?_
  unfold f338 at hk
  refine wpL_sq (wpL_rg ?_)
  refine pBox (cs := [_, _]) hO tZ260 (fun b1 G hO => ?_)
  refine pA (.int _ _) ?_
  refine pE (gn (wpL_sq (wpL_sq (wpL_rg ?_))))
  refine pM (.lit _ _ _) ?_
  refine pLen tS330 ?_
  refine pM (.int _ _) ?_
  refine pE (gn (wpL_bl ?_))
  refine wpL_loopO (F := f338_L1 aS0 aV1) (fun s S' => ∃ (J : Nat → V) (G : Heap), Owns H G [.blk b1 (.cells 2 [.int .i64 aV1.Piece, .int .i64 aV1.Side])] ∧ S' = ⟨hav [(0, .lit l1 aS0.length ((flatL 0) aS0)), (3, .ptr b1 0), (7, .int .i64 (aS0.length : Int)), (8, .int .i64 s)] J, G⟩) hk ⟨_, _, hO, St.hav _ ⟨rfl, rfl, rfl, rfl, trivial⟩⟩ ?_
  rintro x2 _ y1 ⟨J, G, hO, rfl⟩ hk hx1
  refine wpL_sq (wpL_rg ?_)
  refine pBi ?_
  refine pE (gn (wpL_sq ?_))
  refine wpL_cd (b := decide (x2 < (aS0.length : Int))) (fun hb => ?_) (fun hb => ?_)
  · replace hk := ct hb hk
    refine wpL_sk (gn (wpL_sq (wpL_bl (wpL_sq (wpL_rg ?_)))))
    refine pM (.int _ _) ?_
    refine pA (.int _ _) ?_
    refine pE (gn (wpL_sq ?_))
    refine wpL_drw [(0, true), (1, true), (2, true), (3, true), (4, true), (5, false)] [_, _, _, _, _, _] (by decide +kernel) (by rfl) ?_
    refine pLs hO 0 [_, _] tA260 tZ260 ?_
    refine pM (.lit _ _ _) ?_
    refine pM (.int _ _) ?_
    obtain ⟨c3, hc3, hk⟩ := bs hk
    refine pX hc3 tE330 tZ260 ?_
    refine pLp (.agg [_, _]) (rd2 (lm := 0) (off := 0) hc3 tA260 tZ260) ?_
    refine pGq tG260 (eqc (eqi _ _ _) (eqc (eqi _ _ _) (rfl))) ?_
    refine pE (gn ?_)
    refine wpL_cd (b := ((aV1.Piece == c3.Piece) && ((aV1.Side == c3.Side) && true))) (fun hb => ?_) (fun hb => ?_)
    · replace hk := ct hb hk
      refine wpL_sq (wpL_rg ?_)
      refine pM (.int _ _) ?_
      refine pA (.int _ _) ?_
      refine pE (gn (wpL_rt (br (gr (gr (br (gr ?_)))))))
      replace hk := lx hx1 hk
      replace hk := Option.some.inj hk; subst hk; exact fin0 hO
    · replace hk := cf hb hk
      refine wpL_sk (bn (gn (wpL_rg ?_)))
      refine pBi ?_
      refine pM (.int _ _) ?_
      refine pE (gn ?_)
      cases hk; exact ⟨_, rfl, _, _, hO, St.hav _ ⟨rfl, rfl, rfl, rfl, trivial⟩⟩
  · replace hk := cf hb hk
    refine wpL_ex (ge (ge (be (gn ?_))))
    replace hk := lx hx1 hk
    refine wpL_sq (wpL_rg ?_)
    refine pA (.int _ _) ?_
    refine pE (gn (wpL_rt ?_))
    replace hk := Option.some.inj hk; subst hk; exact fin0 hO
/-- impl.End] -/
def f292 (aS0 : List End) (aV1 : End) : Option Bool :=
  ((f338 aS0 aV1).bind fun v2 => some (decide (v2 ≥ (0:Int))))
theorem f292_run {aS0 : List End} {aV1 : End} {r : Bool} {l1 : Nat} {H : Heap} {lk : Lk} (hk : f292 aS0 aV1 = some r) (hlk : 0 < lk.length := by simp) : runL Try.prog hh 292 [.lit l1 aS0.length ((flatL 0) aS0), .agg [.int .i64 aV1.Piece, .int .i64 aV1.Side]] H lk = some (.bool r, H) := by
  refine run_start Try.func292 rfl Try.ntmps292 Try.results292 rfl rfl fun hO => ?_
  unfold f292 at hk
  refine wpL_sq (wpL_rg ?_)
  refine pBox (cs := [_, _]) hO tZ260 (fun b1 G hO => ?_)
  refine pA (.bool _) ?_
  refine pE (gn (wpL_sq (wpL_rg ?_)))
  refine pM (.lit _ _ _) ?_
  refine pLs hO 0 [_, _] tA260 tZ260 ?_
  obtain ⟨v2, hv2, hk⟩ := bs hk
  refine pCall (fun _ => f338_run hv2) ?_
  refine pBi ?_
  refine pA (.bool _) ?_
  refine pE (gn (wpL_rt ?_))
  replace hk := Option.some.inj hk; subst hk; exact fin0 hO
/-- impl.length -/
def f294 (aN0 : Net) (aS1 : Step) : Option Int :=
  ((getI aN0.Pieces aS1.Piece).bind fun c3 => some c3.Len)
theorem f294_run {aN0 : Net} {aS1 : Step} {r : Int} {l1 l2 m3 : Nat} {H : Heap} {lk : Lk} (hk : f294 aN0 aS1 = some r) (hlk : 0 < lk.length := by simp) : runL Try.prog hh 294 [.agg [.lit l1 aN0.Pieces.length ((flatL 0) aN0.Pieces), .lit l2 aN0.Joints.length (flatL m3 aN0.Joints)], .agg [.int .i64 aS1.Piece, .int .i64 aS1.Way]] H lk = some (.int .i64 r, H) := by
  refine run_start Try.func294 rfl Try.ntmps294 Try.results294 rfl rfl fun hO => ?_
  unfold f294 at hk
  refine wpL_sq (wpL_rg ?_)
  refine pBox (cs := [_, _]) hO tZ132 (fun b1 G hO => ?_)
  refine pBox (cs := [_, _]) hO tZ258 (fun b2 G hO => ?_)
  refine pA (.int _ _) ?_
  refine pE (gn (wpL_sq (wpL_rg ?_)))
  refine pF tF132_0 ?_
  refine pLo hO 1 (.lit _ _ _) tA129 ?_
  refine pF tF258_0 ?_
  refine pLo hO 0 (.int _ _) tA3 ?_
  obtain ⟨c3, hc3, hk⟩ := bs hk
  refine pX hc3 tE129 tZ266 ?_
  refine pF tF266_1 ?_
  refine pLp (.int _ _) (rd1 (lm := 0) (off := 1) hc3 tA3) ?_
  refine pA (.int _ _) ?_
  refine pE (gn (wpL_rt ?_))
  replace hk := Option.some.inj hk; subst hk; exact fin0 hO
/-- impl.trainOk -/
def f200_L1 (aN0 : Net) (aT1 : Train) : (Int × Int × Int × Int) → Option ((Int × Int × Int × Int) ⊕ Bool) := fun s =>
  (bif decide (s.2.2.2 < (aT1.Back.length : Int)) then ((getI aT1.Back s.2.2.2).bind fun c12 => ((f171 c12.Piece (0:Int) (w64 ((aN0.Pieces.length : Int) - (1:Int)))).bind fun v14 => (bif ((!v14 || ((c12.Way != (1:Int)) && (c12.Way != (-1:Int)))) || decide (s.2.2.1 ≥ aT1.Long)) then ((some false).map Sum.inr) else ((f291 c12).bind fun v15 => ((f290 aN0 v15).bind fun v16 => ((f293 ({ Piece := s.1, Way := s.2.1 } : Step)).bind fun v17 => ((f292 v16.1 v17).bind fun v18 => (bif !v18 then ((some false).map Sum.inr) else ((f294 aN0 c12).bind fun v19 => some (.inl (c12.Piece, c12.Way, w64 (s.2.2.1 + v19), w64 (s.2.2.2 + (1:Int))))))))))))) else ((some (decide (s.2.2.1 ≥ aT1.Long))).map Sum.inr))
def f200 (aN0 : Net) (aT1 : Train) : Option Bool :=
  ((f226 aN0 aT1.Front).bind fun v3 => ((bif !v3 then some true else ((f171 aT1.Long (1:Int) (100000:Int)).bind fun v5 => some (!v5))).bind fun t4 => (bif (t4 || decide ((aT1.Back.length : Int) > (200:Int))) then some false else ((f289 aN0 aT1.Front).bind fun v7 => (loopO (f200_L1 aN0 aT1) (aT1.Front.Piece, aT1.Front.Way, v7, (0:Int)))))))
theorem f200_run {aN0 : Net} {aT1 : Train} {r : Bool} {l1 l2 m3 l4 : Nat} {H : Heap} {lk : Lk} (hk : f200 aN0 aT1 = some r) (hlk : 0 < lk.length := by simp) : runL Try.prog hh 200 [.agg [.lit l1 aN0.Pieces.length ((flatL 0) aN0.Pieces), .lit l2 aN0.Joints.length (flatL m3 aN0.Joints)], .agg [.int .i64 aT1.Front.Piece, .int .i64 aT1.Front.At, .int .i64 aT1.Front.Way, .int .i64 aT1.Long, .lit l4 aT1.Back.length ((flatL 0) aT1.Back)]] H lk = some (.bool r, H) := by
  refine run_start Try.func200 rfl Try.ntmps200 Try.results200 rfl rfl fun hO => ?_
  unfold f200 at hk
  refine wpL_sq (wpL_rg ?_)
  refine pBox (cs := [_, _]) hO tZ132 (fun b1 G hO => ?_)
  refine pBox (cs := [_, _, _, _, _]) hO tZ136 (fun b2 G hO => ?_)
  refine pA (.bool _) ?_
  refine pE (gn (wpL_sq (wpL_sq (wpL_rg ?_))))
  refine pLs hO 1 [_, _] tA132 tZ132 ?_
  refine pF tF136_0 ?_
  refine pLs hO 0 [_, _, _] tA134 tZ134 ?_
  obtain ⟨v3, hv3, hk⟩ := bs hk
  refine pCall (fun _ => f226_run hv3) ?_
  refine pU ?_
  refine pM (.bool _) ?_
  obtain ⟨t4, ht, hk⟩ := bs hk
  refine wpR_mid (l1 := [_, _, _, _, _]) (fun S' => ∃ J, S' = ⟨hav [(2, .ptr b1 0), (3, .ptr b2 0), (21, .bool t4)] J, G⟩) ?_ ?_
  · refine bc (b := !v3) (fun hg1 => ?_) (fun hg1 => ?_)
    · replace hk := ct hg1 ht
      refine pGn hg1 ?_
      refine pGn hg1 ?_
      refine pGn hg1 ?_
      refine pGn hg1 ?_
      refine pPt hg1 (.bool _) ?_
      cases hk; exact pE ⟨_, St.hav _ ⟨rfl, rfl, rfl, trivial⟩⟩
    · replace hk := cf hg1 ht
      refine pGy hg1 ?_
      refine pF tF136_1 ?_
      refine pGy hg1 ?_
      refine pLo hO 0 (.int _ _) tA3 ?_
      refine pGy hg1 ?_
      obtain ⟨v5, hv5, hk⟩ := bs hk
      refine pCall (fun _ => f171_run hv5) ?_
      refine pGy hg1 ?_
      refine pU ?_
      refine pPf hg1 (.bool _) ?_
      cases hk; exact pE ⟨_, St.hav _ ⟨rfl, rfl, rfl, trivial⟩⟩
  · rintro _ ⟨J, rfl⟩
    refine pM (.bool _) ?_
    refine wpR_mid (l1 := [_, _, _, _, _]) (fun S' => ∃ J, S' = ⟨hav [(2, .ptr b1 0), (3, .ptr b2 0), (27, .bool (t4 || decide ((aT1.Back.length : Int) > (200:Int))))] J, G⟩) ?_ ?_
    · refine bc (b := t4) (fun hg1 => ?_) (fun hg1 => ?_)
      · refine pGn hg1 ?_
        refine pGn hg1 ?_
        refine pGn hg1 ?_
        refine pGn hg1 ?_
        refine pPt hg1 (.bool _) ?_
        exact pE ⟨_, St.hav _ ⟨rfl, rfl, by rw [hg1]; rfl, trivial⟩⟩
      · refine pGy hg1 ?_
        refine pF tF136_2 ?_
        refine pGy hg1 ?_
        refine pLo hO 0 (.lit _ _ _) tA63 ?_
        refine pGy hg1 ?_
        refine pLen tS63 ?_
        refine pGy hg1 ?_
        refine pBi ?_
        refine pPf hg1 (.bool _) ?_
        exact pE ⟨_, St.hav _ ⟨rfl, rfl, by rw [hg1]; rfl, trivial⟩⟩
    · rintro _ ⟨J, rfl⟩
      refine pE (gn ?_)
      refine wpL_cd (b := (t4 || decide ((aT1.Back.length : Int) > (200:Int)))) (fun hb => ?_) (fun hb => ?_)
      · replace hk := ct hb hk
        refine wpL_sq (wpL_rg ?_)
        refine pA (.bool _) ?_
        refine pE (gn (wpL_rt (gr ?_)))
        replace hk := Option.some.inj hk; subst hk; exact fin0 hO
      · replace hk := cf hb hk
        refine wpL_sk (gn (wpL_sq (wpL_rg ?_)))
        refine pF tF136_0 ?_
        refine pF tF134_0 ?_
        refine pLo hO 0 (.int _ _) tA3 ?_
        refine pF tF136_0 ?_
        refine pF tF134_2 ?_
        refine pLo hO 0 (.int _ _) tA3 ?_
        refine pBd [_, _] t0258 tP258 ?_
        refine pNew hO tZ258 t0258 (fun b6 G hO => ?_)
        refine pSt (xs := [_, _]) hO 0 tZ258 rfl (fun G hO => ?_)
        refine pE (gn (wpL_sq (wpL_rg ?_)))
        refine pLs hO 2 [_, _] tA132 tZ132 ?_
        refine pF tF136_0 ?_
        refine pLs hO 1 [_, _, _] tA134 tZ134 ?_
        obtain ⟨v7, hv7, hk⟩ := bs hk
        refine pCall (fun _ => f289_run hv7) ?_
        refine pA (.int _ _) ?_
        refine pE (gn (wpL_sq (wpL_sq (wpL_rg ?_))))
        refine pF tF136_2 ?_
        refine pLo hO 1 (.lit _ _ _) tA63 ?_
        refine pLen tS63 ?_
        refine pM (.int _ _) ?_
        refine pE (gn (wpL_bl ?_))
        refine wpL_loopO (F := f200_L1 aN0 aT1) (fun s S' => ∃ (J : Nat → V) (G : Heap), Owns H G [.blk b6 (.cells 2 [.int .i64 s.1, .int .i64 s.2.1]), .blk b2 (.cells 5 [.int .i64 aT1.Front.Piece, .int .i64 aT1.Front.At, .int .i64 aT1.Front.Way, .int .i64 aT1.Long, .lit l4 aT1.Back.length ((flatL 0) aT1.Back)]), .blk b1 (.cells 2 [.lit l1 aN0.Pieces.length ((flatL 0) aN0.Pieces), .lit l2 aN0.Joints.length (flatL m3 aN0.Joints)])] ∧ S' = ⟨hav [(2, .ptr b1 0), (3, .ptr b2 0), (5, .ptr b6 0), (6, .int .i64 s.2.2.1), (40, .lit l4 aT1.Back.length ((flatL 0) aT1.Back)), (41, .int .i64 (aT1.Back.length : Int)), (42, .int .i64 s.2.2.2)] J, G⟩) hk ⟨_, _, hO, St.hav _ ⟨rfl, rfl, rfl, rfl, rfl, rfl, rfl, trivial⟩⟩ ?_
        rintro ⟨x8, x9, x10, x11⟩ _ y1 ⟨J, G, hO, rfl⟩ hk hx1
        refine wpL_sq (wpL_rg ?_)
        refine pBi ?_
        refine pE (gn (wpL_sq ?_))
        refine wpL_cd (b := decide (x11 < (aT1.Back.length : Int))) (fun hb => ?_) (fun hb => ?_)
        · replace hk := ct hb hk
          refine wpL_sk (gn (wpL_sq (wpL_bl (wpL_sq (wpL_rg ?_)))))
          obtain ⟨c12, hc12, hk⟩ := bs hk
          refine pX hc12 tE63 tZ258 ?_
          refine pLp (.agg [_, _]) (rd2 (lm := 0) (off := 0) hc12 tA258 tZ258) ?_
          refine pNew hO tZ258 t0258 (fun b13 G hO => ?_)
          refine pSt (xs := [_, _]) hO 0 tZ258 rfl (fun G hO => ?_)
          refine pE (gn (wpL_sq (wpL_sq (wpL_rg ?_))))
          refine pF tF258_0 ?_
          refine pLo hO 0 (.int _ _) tA3 ?_
          refine pF tF132_0 ?_
          refine pLo hO 3 (.lit _ _ _) tA129 ?_
          refine pLen tS129 ?_
          refine pBi ?_
          obtain ⟨v14, hv14, hk⟩ := bs hk
          refine pCall (fun _ => f171_run hv14) ?_
          refine pU ?_
          refine pM (.bool _) ?_
          refine wpR_mid (l1 := [_, _, _, _, _, _, _, _, _]) (fun S' => ∃ J, S' = ⟨hav [(2, .ptr b1 0), (3, .ptr b2 0), (5, .ptr b6 0), (6, .int .i64 x10), (8, .ptr b13 0), (40, .lit l4 aT1.Back.length ((flatL 0) aT1.Back)), (41, .int .i64 (aT1.Back.length : Int)), (42, .int .i64 x11), (63, .bool (!v14 || ((c12.Way != (1:Int)) && (c12.Way != (-1:Int)))))] J, G⟩) ?_ ?_
          · refine bc (b := !v14) (fun hg1 => ?_) (fun hg1 => ?_)
            · refine pGn hg1 ?_
              refine pGn hg1 ?_
              refine pGn hg1 ?_
              refine pGn hg1 ?_
              refine pGu ?_
              refine pGu ?_
              refine pGu ?_
              refine pGn hg1 ?_
              refine pPt hg1 (.bool _) ?_
              exact pE ⟨_, St.hav _ ⟨rfl, rfl, rfl, rfl, rfl, rfl, rfl, rfl, by rw [hg1]; rfl, trivial⟩⟩
            · refine pGy hg1 ?_
              refine pF tF258_1 ?_
              refine pGy hg1 ?_
              refine pLo hO 0 (.int _ _) tA3 ?_
              refine pGy hg1 ?_
              refine pBi ?_
              refine pGy hg1 ?_
              refine pM (.bool _) ?_
              refine wpR_mid (l1 := [_, _, _, _]) (fun S' => ∃ J, S' = ⟨hav [(2, .ptr b1 0), (3, .ptr b2 0), (5, .ptr b6 0), (6, .int .i64 x10), (8, .ptr b13 0), (40, .lit l4 aT1.Back.length ((flatL 0) aT1.Back)), (41, .int .i64 (aT1.Back.length : Int)), (42, .int .i64 x11), (54, .bool (!v14)), (62, .bool ((c12.Way != (1:Int)) && (c12.Way != (-1:Int))))] J, G⟩) ?_ ?_
              · refine bc (b := (c12.Way != (1:Int))) (fun hg2 => ?_) (fun hg2 => ?_)
                · refine pGy hg2 ?_
                  refine pF tF258_1 ?_
                  refine pGy hg2 ?_
                  refine pLo hO 0 (.int _ _) tA3 ?_
                  refine pGy hg2 ?_
                  refine pBi ?_
                  refine pGy hg1 ?_
                  refine pPt hg2 (.bool _) ?_
                  exact pE ⟨_, St.hav _ ⟨rfl, rfl, rfl, rfl, rfl, rfl, rfl, rfl, rfl, by rw [hg2]; rfl, trivial⟩⟩
                · refine pGn hg2 ?_
                  refine pGn hg2 ?_
                  refine pGn hg2 ?_
                  refine pGy hg1 ?_
                  refine pPf hg2 (.bool _) ?_
                  exact pE ⟨_, St.hav _ ⟨rfl, rfl, rfl, rfl, rfl, rfl, rfl, rfl, rfl, by rw [hg2]; rfl, trivial⟩⟩
              · rintro _ ⟨J, rfl⟩
                refine pPf hg1 (.bool _) ?_
                exact pE ⟨_, St.hav _ ⟨rfl, rfl, rfl, rfl, rfl, rfl, rfl, rfl, by rw [hg1]; rfl, trivial⟩⟩
          · rintro _ ⟨J, rfl⟩
            refine pM (.bool _) ?_
            refine wpR_mid (l1 := [_, _, _, _, _]) (fun S' => ∃ J, S' = ⟨hav [(2, .ptr b1 0), (3, .ptr b2 0), (5, .ptr b6 0), (6, .int .i64 x10), (8, .ptr b13 0), (40, .lit l4 aT1.Back.length ((flatL 0) aT1.Back)), (41, .int .i64 (aT1.Back.length : Int)), (42, .int .i64 x11), (69, .bool ((!v14 || ((c12.Way != (1:Int)) && (c12.Way != (-1:Int)))) || decide (x10 ≥ aT1.Long)))] J, G⟩) ?_ ?_
            · refine bc (b := (!v14 || ((c12.Way != (1:Int)) && (c12.Way != (-1:Int))))) (fun hg1 => ?_) (fun hg1 => ?_)
              · refine pGn hg1 ?_
                refine pGn hg1 ?_
                refine pGn hg1 ?_
                refine pGn hg1 ?_
                refine pPt hg1 (.bool _) ?_
                exact pE ⟨_, St.hav _ ⟨rfl, rfl, rfl, rfl, rfl, rfl, rfl, rfl, by rw [hg1]; rfl, trivial⟩⟩
              · refine pGy hg1 ?_
                refine pM (.int _ _) ?_
                refine pGy hg1 ?_
                refine pF tF136_1 ?_
                refine pGy hg1 ?_
                refine pLo hO 2 (.int _ _) tA3 ?_
                refine pGy hg1 ?_
                refine pBi ?_
                refine pPf hg1 (.bool _) ?_
                exact pE ⟨_, St.hav _ ⟨rfl, rfl, rfl, rfl, rfl, rfl, rfl, rfl, by rw [hg1]; rfl, trivial⟩⟩
            · rintro _ ⟨J, rfl⟩
              refine pE (gn ?_)
              refine wpL_cd (b := ((!v14 || ((c12.Way != (1:Int)) && (c12.Way != (-1:Int)))) || decide (x10 ≥ aT1.Long))) (fun hb => ?_) (fun hb => ?_)
              · replace hk := ct hb hk
                refine wpL_sq (wpL_rg ?_)
                refine pA (.bool _) ?_
                refine pE (gn (wpL_rt (gr (br (gr (gr (br (gr ?_))))))))
                replace hk := lx hx1 hk
                replace hk := Option.some.inj hk; subst hk; exact fin0 hO
              · replace hk := cf hb hk
                refine wpL_sk (gn (wpL_sq (wpL_sq ?_)))
                refine wpL_drw [(0, true), (1, true), (2, true), (3, false), (4, false), (5, false), (6, false), (7, false), (8, false)] [_, _, _, _, _, _, _, _, _] (by decide +kernel) (by rfl) ?_
                refine pLs hO 3 [_, _] tA132 tZ132 ?_
                refine pLs hO 0 [_, _] tA258 tZ258 ?_
                obtain ⟨v15, hv15, hk⟩ := bs hk
                refine pCall (fun _ => f291_run hv15) ?_
                obtain ⟨v16, hv16, hk⟩ := bs hk
                refine pCall (fun _ => f290_run hv16) ?_
                refine pM (.tup [_, _]) ?_
                refine pEx (.lit _ _ _) ?_
                refine pEx (.lit _ _ _) ?_
                refine pA (.lit _ _ _) ?_
                refine pA (.lit _ _ _) ?_
                refine pE (gn (wpL_sq (wpL_rg ?_)))
                refine pM (.lit _ _ _) ?_
                refine pLs hO 1 [_, _] tA258 tZ258 ?_
                obtain ⟨v17, hv17, hk⟩ := bs hk
                refine pCall (fun _ => f293_run hv17) ?_
                obtain ⟨v18, hv18, hk⟩ := bs hk
                refine pCall (fun _ => f292_run hv18) ?_
                refine pU ?_
                refine pE (gn ?_)
                refine wpL_cd (b := !v18) (fun hb => ?_) (fun hb => ?_)
                · replace hk := ct hb hk
                  refine wpL_sq (wpL_rg ?_)
                  refine pA (.bool _) ?_
                  refine pE (gn (wpL_rt (gr (br (gr (gr (br (gr ?_))))))))
                  replace hk := lx hx1 hk
                  replace hk := Option.some.inj hk; subst hk; exact fin0 hO
                · replace hk := cf hb hk
                  refine wpL_sk (gn (wpL_sq (wpL_rg ?_)))
                  refine pLs hO 0 [_, _] tA258 tZ258 ?_
                  refine pSt (xs := [_, _]) hO 1 tZ258 rfl (fun G hO => ?_)
                  refine pE (gn (wpL_rg ?_))
                  refine pM (.int _ _) ?_
                  refine pLs hO 3 [_, _] tA132 tZ132 ?_
                  refine pLs hO 0 [_, _] tA258 tZ258 ?_
                  obtain ⟨v19, hv19, hk⟩ := bs hk
                  refine pCall (fun _ => f294_run hv19) ?_
                  refine pBi ?_
                  refine pA (.int _ _) ?_
                  refine pE (bn (gn (wpL_rg ?_)))
                  refine pBi ?_
                  refine pM (.int _ _) ?_
                  refine pE (gn ?_)
                  cases hk; exact ⟨_, rfl, _, _, (Owns.pick hO [1, 2, 3] (by decide) rfl), St.hav _ ⟨rfl, rfl, rfl, rfl, rfl, rfl, rfl, trivial⟩⟩
        · replace hk := cf hb hk
          refine wpL_ex (ge (ge (be (gn ?_))))
          replace hk := lx hx1 hk
          refine wpL_sq (wpL_rg ?_)
          refine pM (.int _ _) ?_
          refine pF tF136_1 ?_
          refine pLo hO 1 (.int _ _) tA3 ?_
          refine pBi ?_
          refine pA (.bool _) ?_
          refine pE (gn (wpL_rt ?_))
          replace hk := Option.some.inj hk; subst hk; exact fin0 hO
/-- impl.TrainOk -/
def f82 (aN0 : Net) (aT1 : Train) : Option Bool :=
  ((f199 aN0).bind fun v3 => ((bif v3 then ((f200 aN0 aT1).bind fun v5 => some v5) else some false).bind fun t4 => some t4))
theorem f82_run {aN0 : Net} {aT1 : Train} {r : Bool} {l1 l2 m3 l4 : Nat} {H : Heap} {lk : Lk} (hk : f82 aN0 aT1 = some r) (hlk : 0 < lk.length := by simp) : runL Try.prog hh 82 [.agg [.lit l1 aN0.Pieces.length ((flatL 0) aN0.Pieces), .lit l2 aN0.Joints.length (flatL m3 aN0.Joints)], .agg [.int .i64 aT1.Front.Piece, .int .i64 aT1.Front.At, .int .i64 aT1.Front.Way, .int .i64 aT1.Long, .lit l4 aT1.Back.length ((flatL 0) aT1.Back)]] H lk = some (.bool r, H) := by
  refine run_start Try.func82 rfl Try.ntmps82 Try.results82 rfl rfl fun hO => ?_
  unfold f82 at hk
  refine wpL_sq (wpL_rg ?_)
  refine pBox (cs := [_, _]) hO tZ132 (fun b1 G hO => ?_)
  refine pBox (cs := [_, _, _, _, _]) hO tZ136 (fun b2 G hO => ?_)
  refine pA (.bool _) ?_
  refine pE (gn (wpL_sq (wpL_rg ?_)))
  refine pLs hO 1 [_, _] tA132 tZ132 ?_
  obtain ⟨v3, hv3, hk⟩ := bs hk
  refine pCall (fun _ => f199_run hv3) ?_
  refine pM (.bool _) ?_
  obtain ⟨t4, ht, hk⟩ := bs hk
  refine wpR_mid (l1 := [_, _, _, _]) (fun S' => ∃ J, S' = ⟨hav [(11, .bool t4)] J, G⟩) ?_ ?_
  · refine bc (b := v3) (fun hg1 => ?_) (fun hg1 => ?_)
    · replace hk := ct hg1 ht
      refine pGy hg1 ?_
      refine pLs hO 1 [_, _] tA132 tZ132 ?_
      refine pGy hg1 ?_
      refine pLs hO 0 [_, _, _, _, _] tA136 tZ136 ?_
      refine pGy hg1 ?_
      obtain ⟨v5, hv5, hk⟩ := bs hk
      refine pCall (fun _ => f200_run hv5) ?_
      refine pPt hg1 (.bool _) ?_
      cases hk; exact pE ⟨_, St.hav _ ⟨rfl, trivial⟩⟩
    · replace hk := cf hg1 ht
      refine pGn hg1 ?_
      refine pGn hg1 ?_
      refine pGn hg1 ?_
      refine pPf hg1 (.bool _) ?_
      cases hk; exact pE ⟨_, St.hav _ ⟨rfl, trivial⟩⟩
  · rintro _ ⟨J, rfl⟩
    refine pA (.bool _) ?_
    refine pE (gn (wpL_rt ?_))
    replace hk := Option.some.inj hk; subst hk; exact fin0 hO
/-- impl.partOf -/
def f340 (aPiece0 : Int) (aA1 : Int) (aB2 : Int) : Option Part :=
  some ({ Piece := aPiece0, From := (if aB2 < aA1 then aB2 else aA1), To := (if aB2 > aA1 then aB2 else aA1) } : Part)
theorem f340_run {aPiece0 : Int} {aA1 : Int} {aB2 : Int} {r : Part} {H : Heap} {lk : Lk} (hk : f340 aPiece0 aA1 aB2 = some r) (hlk : 0 < lk.length := by simp) : runL Try.prog hh 340 [.int .i64 aPiece0, .int .i64 aA1, .int .i64 aB2] H lk = some (.agg [.int .i64 r.Piece, .int .i64 r.From, .int .i64 r.To], H) := by
  refine run_start Try.func340 rfl Try.ntmps340 Try.results340 rfl rfl fun hO => ?_
  unfold f340 at hk
  refine wpL_sq (wpL_rg ?_)
  refine pNew hO tZ271 t0271 (fun b1 G hO => ?_)
  refine pE (gn (wpL_sq (wpL_rg ?_)))
  refine pM (.int _ _) ?_
  refine pM (.int _ _) ?_
  refine pM (.int _ _) ?_
  refine pMin ?_
  refine pM (.int _ _) ?_
  refine pM (.int _ _) ?_
  refine pMax ?_
  refine pBd [_, _, _] t0271 tP271 ?_
  refine pSt (xs := [_, _, _]) hO 0 tZ271 rfl (fun G hO => ?_)
  refine pE (gn (wpL_rt ?_))
  replace hk := Option.some.inj hk; subst hk; exact finZ hO (fz_agg (n := 2) (fz_c (fz_int _ _) (fz_c (fz_int _ _) (fz_c (fz_int _ _) (fz_n))))) (resS hO 0 [_, _, _] tA271 tZ271 resN)
/-- impl.lying -/
def f297_k2 (x5 : Int) (x8 : Int) (c9 : Step) (v11 : Int) (x12 : List Part) (x14 : Int) : Option ((Int × (List Part) × Int) ⊕ (List Part)) :=
  ((f340 c9.Piece x14 (w64 (x14 - (w64 ((if v11 < x5 then v11 else x5) * c9.Way))))).bind fun v15 => ((appB 24 x12 ([v15] : List Part)).bind fun z16 => some (.inl (w64 (x5 - (if v11 < x5 then v11 else x5)), z16, w64 (x8 + (1:Int))))))
def f297_L1 (aN0 : Net) (aT1 : Train) : (Int × (List Part) × Int) → Option ((Int × (List Part) × Int) ⊕ (List Part)) := fun s =>
  (bif decide (s.2.2 < (aT1.Back.length : Int)) then ((getI aT1.Back s.2.2).bind fun c9 => ((f294 aN0 c9).bind fun v11 => (bif (c9.Way == (1:Int)) then ((f294 aN0 c9).bind fun v17 => (f297_k2 s.1 s.2.2 c9 v11 s.2.1 v17)) else (f297_k2 s.1 s.2.2 c9 v11 s.2.1 (0:Int))))) else ((some s.2.1).map Sum.inr))
def f297 (aN0 : Net) (aT1 : Train) : Option (List Part) :=
  ((f289 aN0 aT1.Front).bind fun v3 => ((f340 aT1.Front.Piece aT1.Front.At (w64 (aT1.Front.At - (w64 ((if v3 < aT1.Long then v3 else aT1.Long) * aT1.Front.Way))))).bind fun v4 => (loopO (f297_L1 aN0 aT1) (w64 (aT1.Long - (if v3 < aT1.Long then v3 else aT1.Long)), ([v4] : List Part), (0:Int)))))
theorem f297_run {aN0 : Net} {aT1 : Train} {r : (List Part)} {l1 l2 m3 l4 : Nat} {H : Heap} {lk : Lk} (hk : f297 aN0 aT1 = some r) (hlk : 0 < lk.length := by simp) : runL Try.prog hh 297 [.agg [.lit l1 aN0.Pieces.length ((flatL 0) aN0.Pieces), .lit l2 aN0.Joints.length (flatL m3 aN0.Joints)], .agg [.int .i64 aT1.Front.Piece, .int .i64 aT1.Front.At, .int .i64 aT1.Front.Way, .int .i64 aT1.Long, .lit l4 aT1.Back.length ((flatL 0) aT1.Back)]] H lk = some (.lit 0 r.length ((flatL 0) r), H) := by
  refine run_start Try.func297 rfl Try.ntmps297 Try.results297 rfl rfl fun hO => ?_
  unfold f297 at hk
  refine wpL_sq (wpL_rg ?_)
  refine pBox (cs := [_, _]) hO tZ132 (fun b1 G hO => ?_)
  refine pBox (cs := [_, _, _, _, _]) hO tZ136 (fun b2 G hO => ?_)
  refine pA (.tl 0 []) ?_
  refine pE (gn (wpL_sq (wpL_rg ?_)))
  refine pF tF136_1 ?_
  refine pLo hO 0 (.int _ _) tA3 ?_
  refine pA (.int _ _) ?_
  refine pE (gn (wpL_sq (wpL_rg ?_)))
  refine pM (.int _ _) ?_
  refine pLs hO 1 [_, _] tA132 tZ132 ?_
  refine pF tF136_0 ?_
  refine pLs hO 0 [_, _, _] tA134 tZ134 ?_
  obtain ⟨v3, hv3, hk⟩ := bs hk
  refine pCall (fun _ => f289_run hv3) ?_
  refine pMin ?_
  refine pA (.int _ _) ?_
  refine pE (gn (wpL_sq (wpL_rg ?_)))
  refine pF tF136_0 ?_
  refine pF tF134_0 ?_
  refine pLo hO 0 (.int _ _) tA3 ?_
  refine pF tF136_0 ?_
  refine pF tF134_1 ?_
  refine pLo hO 0 (.int _ _) tA3 ?_
  refine pF tF136_0 ?_
  refine pF tF134_1 ?_
  refine pLo hO 0 (.int _ _) tA3 ?_
  refine pM (.int _ _) ?_
  refine pF tF136_0 ?_
  refine pF tF134_2 ?_
  refine pLo hO 0 (.int _ _) tA3 ?_
  refine pBi ?_
  refine pBi ?_
  obtain ⟨v4, hv4, hk⟩ := bs hk
  refine pCall (fun _ => f340_run hv4) ?_
  refine pBs (ps := [(0, (.agg [_, _, _]))]) ([v4] : List Part) tE65 tZ271 t0271 (emb_cons (embx_agg (α := Part) v4) (emb_nil)) ?_
  refine pA (.tl 1 ((flatL 0) ([v4] : List Part))) ?_
  refine pE (gn (wpL_sq (wpL_rg ?_)))
  refine pM (.int _ _) ?_
  refine pM (.int _ _) ?_
  refine pBi ?_
  refine pA (.int _ _) ?_
  refine pE (gn (wpL_sq (wpL_sq (wpL_rg ?_))))
  refine pF tF136_2 ?_
  refine pLo hO 0 (.lit _ _ _) tA63 ?_
  refine pLen tS63 ?_
  refine pM (.int _ _) ?_
  refine pE (gn (wpL_bl ?_))
  refine wpL_loopO (F := f297_L1 aN0 aT1) (fun s S' => ∃ (o6 : V) (J : Nat → V) (G : Heap), Owns H G [.blk b1 (.cells 2 [.lit l1 aN0.Pieces.length ((flatL 0) aN0.Pieces), .lit l2 aN0.Joints.length (flatL m3 aN0.Joints)]), .own o6 lk.length 3 s.2.1.length ((flatL 0) s.2.1)] ∧ S' = ⟨hav [(2, .ptr b1 0), (5, .int .i64 s.1), (7, o6), (40, .lit l4 aT1.Back.length ((flatL 0) aT1.Back)), (41, .int .i64 (aT1.Back.length : Int)), (42, .int .i64 s.2.2)] J, G⟩) hk ⟨(.tl 1 ((flatL 0) ([v4] : List Part))), _, _, (Owns.pick (Owns.addTl hO lk.length ([v4] : List Part)) [2, 0] (by decide) rfl), St.hav _ ⟨rfl, rfl, rfl, rfl, rfl, rfl, trivial⟩⟩ ?_
  rintro ⟨x5, x6, x8⟩ _ y1 ⟨o6, J, G, hO, rfl⟩ hk hx1
  refine wpL_sq (wpL_rg ?_)
  refine pBi ?_
  refine pE (gn (wpL_sq ?_))
  refine wpL_cd (b := decide (x8 < (aT1.Back.length : Int))) (fun hb => ?_) (fun hb => ?_)
  · replace hk := ct hb hk
    refine wpL_sk (gn (wpL_sq (wpL_bl (wpL_sq (wpL_rg ?_)))))
    obtain ⟨c9, hc9, hk⟩ := bs hk
    refine pX hc9 tE63 tZ258 ?_
    refine pLp (.agg [_, _]) (rd2 (lm := 0) (off := 0) hc9 tA258 tZ258) ?_
    refine pNew hO tZ258 t0258 (fun b10 G hO => ?_)
    refine pSt (xs := [_, _]) hO 0 tZ258 rfl (fun G hO => ?_)
    refine pE (gn (wpL_sq (wpL_rg ?_)))
    refine pM (.int _ _) ?_
    refine pLs hO 1 [_, _] tA132 tZ132 ?_
    refine pLs hO 0 [_, _] tA258 tZ258 ?_
    obtain ⟨v11, hv11, hk⟩ := bs hk
    refine pCall (fun _ => f294_run hv11) ?_
    refine pMin ?_
    refine pA (.int _ _) ?_
    refine pE (gn (wpL_sq (wpL_rg ?_)))
    refine pA (.int _ _) ?_
    refine pE (gn ?_)
    refine wpL_mid (fun S' => ∃ (x12 : List Part) (x14 : Int) (o12 : V) (J : Nat → V) (G : Heap), f297_k2 x5 x8 c9 v11 x12 x14 = some y1 ∧ Owns H G [.blk b10 (.cells 2 [.int .i64 c9.Piece, .int .i64 c9.Way]), .blk b1 (.cells 2 [.lit l1 aN0.Pieces.length ((flatL 0) aN0.Pieces), .lit l2 aN0.Joints.length (flatL m3 aN0.Joints)]), .own o12 lk.length 3 x12.length ((flatL 0) x12)] ∧ S' = ⟨hav [(2, .ptr b1 0), (5, .int .i64 x5), (6, .int .i64 (if v11 < x5 then v11 else x5)), (7, o12), (9, .ptr b10 0), (10, .int .i64 x14), (40, .lit l4 aT1.Back.length ((flatL 0) aT1.Back)), (41, .int .i64 (aT1.Back.length : Int)), (42, .int .i64 x8)] J, G⟩) ?_ ?_
    · refine wpL_sq (wpL_rg ?_)
      refine pF tF258_1 ?_
      refine pLo hO 0 (.int _ _) tA3 ?_
      refine pBi ?_
      refine pE (gn ?_)
      refine wpL_cd (b := (c9.Way == (1:Int))) (fun hb => ?_) (fun hb => ?_)
      · replace hk := ct hb hk
        refine wpL_rg ?_
        refine pLs hO 1 [_, _] tA132 tZ132 ?_
        refine pLs hO 0 [_, _] tA258 tZ258 ?_
        obtain ⟨v17, hv17, hk⟩ := bs hk
        refine pCall (fun _ => f294_run hv17) ?_
        refine pA (.int _ _) ?_
        refine pE (gn ?_)
        exact ⟨x6, v17, o6, _, _, hk, hO, St.hav _ ⟨rfl, rfl, rfl, rfl, rfl, rfl, rfl, rfl, rfl, trivial⟩⟩
      · replace hk := cf hb hk
        refine wpL_sk (gn ?_)
        exact ⟨x6, (0:Int), o6, _, _, hk, hO, St.hav _ ⟨rfl, rfl, rfl, rfl, rfl, rfl, rfl, rfl, rfl, trivial⟩⟩
    · rintro _ ⟨x12, x14, o12, J, G, hk, hO, rfl⟩
      refine wpL_sq (wpL_rg ?_)
      refine pM o12 ?_
      refine pF tF258_0 ?_
      refine pLo hO 0 (.int _ _) tA3 ?_
      refine pM (.int _ _) ?_
      refine pM (.int _ _) ?_
      refine pM (.int _ _) ?_
      refine pF tF258_1 ?_
      refine pLo hO 0 (.int _ _) tA3 ?_
      refine pBi ?_
      refine pBi ?_
      obtain ⟨v15, hv15, hk⟩ := bs hk
      refine pCall (fun _ => f340_run hv15) ?_
      refine pBs (ps := [(0, (.agg [_, _, _]))]) ([v15] : List Part) tE65 tZ271 t0271 (emb_cons (embx_agg (α := Part) v15) (emb_nil)) ?_
      obtain ⟨z16, hz16, hk⟩ := bs hk
      refine pAp (xs := x12) hO 2 hz16 (bears_tl ([v15] : List Part)) tE65 tZ271 tB271 t0271 tE65 rfl (fun o16 G hno16 hO => ?_)
      refine pA o16 ?_
      refine pE (gn (wpL_rg ?_))
      refine pM (.int _ _) ?_
      refine pM (.int _ _) ?_
      refine pBi ?_
      refine pA (.int _ _) ?_
      refine pE (bn (gn (wpL_rg ?_)))
      refine pBi ?_
      refine pM (.int _ _) ?_
      refine pE (gn ?_)
      cases hk; exact ⟨_, rfl, o16, _, _, (Owns.pick hO [1, 2] (by decide) rfl), St.hav _ ⟨rfl, rfl, rfl, rfl, rfl, rfl, trivial⟩⟩
  · replace hk := cf hb hk
    refine wpL_ex (ge (ge (be (gn ?_))))
    replace hk := lx hx1 hk
    refine wpL_sq (wpL_rg ?_)
    refine pM o6 ?_
    refine pA o6 ?_
    refine pE (gn (wpL_rt ?_))
    replace hk := Option.some.inj hk; subst hk; exact finZ hO (fz_own (xs := x6) hlk 1) (resT o6 resN)
/-- impl.body -/
def f232_k2 (x6 : Int) (x7 : List Part) : Option (((List Part) × Int) ⊕ (List Part)) :=
  some (.inl (x7, w64 (x6 + (1:Int))))
def f232_L1 (v3 : (List Part)) : ((List Part) × Int) → Option (((List Part) × Int) ⊕ (List Part)) := fun s =>
  (bif decide (s.2 < (v3.length : Int)) then ((getI v3 s.2).bind fun c9 => (bif decide (c9.From < c9.To) then ((appB 24 s.1 ([c9] : List Part)).bind fun z11 => (f232_k2 s.2 z11)) else (f232_k2 s.2 s.1))) else ((some s.1).map Sum.inr))
def f232 (aN0 : Net) (aT1 : Train) : Option (List Part) :=
  ((f297 aN0 aT1).bind fun v3 => (loopO (f232_L1 v3) (([] : List Part), (0:Int))))
theorem f232_run {aN0 : Net} {aT1 : Train} {r : (List Part)} {l1 l2 m3 l4 : Nat} {H : Heap} {lk : Lk} (hk : f232 aN0 aT1 = some r) (hlk : 0 < lk.length := by simp) : ∃ v H1, runL Try.prog hh 232 [.agg [.lit l1 aN0.Pieces.length ((flatL 0) aN0.Pieces), .lit l2 aN0.Joints.length (flatL m3 aN0.Joints)], .agg [.int .i64 aT1.Front.Piece, .int .i64 aT1.Front.At, .int .i64 aT1.Front.Way, .int .i64 aT1.Long, .lit l4 aT1.Back.length ((flatL 0) aT1.Back)]] H lk = some (v, H1) ∧ FreshL H r v H1 := by
  refine run_startR Try.func232 rfl Try.ntmps232 Try.results232 rfl rfl ?_
  have hO := Owns.nil H
  unfold f232 at hk
  refine wpL_sq (wpL_rg ?_)
  refine pBox (cs := [_, _]) hO tZ132 (fun b1 G hO => ?_)
  refine pBox (cs := [_, _, _, _, _]) hO tZ136 (fun b2 G hO => ?_)
  refine pA (.tl 0 []) ?_
  refine pE (gn (wpL_sq (wpL_rg ?_)))
  refine pA (.tl 0 []) ?_
  refine pE (gn (wpL_sq (wpL_sq (wpL_rg ?_))))
  refine pLs hO 1 [_, _] tA132 tZ132 ?_
  refine pLs hO 0 [_, _, _, _, _] tA136 tZ136 ?_
  obtain ⟨v3, hv3, hk⟩ := bs hk
  refine pCall (fun _ => f297_run hv3) ?_
  refine pLen tS65 ?_
  refine pM (.int _ _) ?_
  refine pE (gn (wpL_bl ?_))
  refine wpL_loopO (F := f232_L1 v3) (fun s S' => ∃ (o4 : V) (J : Nat → V) (G : Heap), Nz o4 ∧ Owns H G [.own o4 lk.length 3 s.1.length ((flatL 0) s.1)] ∧ S' = ⟨hav [(5, o4), (10, .lit 0 v3.length ((flatL 0) v3)), (11, .int .i64 (v3.length : Int)), (12, .int .i64 s.2)] J, G⟩) hk ⟨(.tl 0 []), _, _, Nz.nil, (Owns.pick (Owns.addTl hO lk.length ([] : List Part)) [0] (by decide) rfl), St.hav _ ⟨rfl, rfl, rfl, rfl, trivial⟩⟩ ?_
  rintro ⟨x4, x6⟩ _ y1 ⟨o4, J, G, hno4, hO, rfl⟩ hk hx1
  refine wpL_sq (wpL_rg ?_)
  refine pBi ?_
  refine pE (gn (wpL_sq ?_))
  refine wpL_cd (b := decide (x6 < (v3.length : Int))) (fun hb => ?_) (fun hb => ?_)
  · replace hk := ct hb hk
    refine wpL_sk (gn ?_)
    refine wpL_mid (fun S' => ∃ (x7 : List Part) (o7 : V) (J : Nat → V) (G : Heap), f232_k2 x6 x7 = some y1 ∧ Nz o7 ∧ Owns H G [.own o7 lk.length 3 x7.length ((flatL 0) x7)] ∧ S' = ⟨hav [(5, o7), (10, .lit 0 v3.length ((flatL 0) v3)), (11, .int .i64 (v3.length : Int)), (12, .int .i64 x6)] J, G⟩) ?_ ?_
    · refine wpL_bl (wpL_sq (wpL_rg ?_))
      obtain ⟨c9, hc9, hk⟩ := bs hk
      refine pX hc9 tE65 tZ271 ?_
      refine pLp (.agg [_, _, _]) (rd2 (lm := 0) (off := 0) hc9 tA271 tZ271) ?_
      refine pNew hO tZ271 t0271 (fun b10 G hO => ?_)
      refine pSt (xs := [_, _, _]) hO 0 tZ271 rfl (fun G hO => ?_)
      refine pE (gn (wpL_sq (wpL_rg ?_)))
      refine pF tF271_1 ?_
      refine pLo hO 0 (.int _ _) tA3 ?_
      refine pF tF271_2 ?_
      refine pLo hO 0 (.int _ _) tA3 ?_
      refine pBi ?_
      refine pE (gn ?_)
      refine wpL_cd (b := decide (c9.From < c9.To)) (fun hb => ?_) (fun hb => ?_)
      · replace hk := ct hb hk
        refine wpL_rg ?_
        refine pM o4 ?_
        refine pLs hO 0 [_, _, _] tA271 tZ271 ?_
        refine pBs (ps := [(0, (.agg [_, _, _]))]) ([c9] : List Part) tE65 tZ271 t0271 (emb_cons (embx_agg (α := Part) c9) (emb_nil)) ?_
        obtain ⟨z11, hz11, hk⟩ := bs hk
        refine pAp (xs := x4) hO 1 hz11 (bears_tl ([c9] : List Part)) tE65 tZ271 tB271 t0271 tE65 rfl (fun o11 G hno11 hO => ?_)
        replace hno11 := hno11 hno4
        refine pA o11 ?_
        refine pE (bn (gn ?_))
        exact ⟨z11, o11, _, _, hk, hno11, (Owns.pick hO [1] (by decide) rfl), St.hav _ ⟨rfl, rfl, rfl, rfl, trivial⟩⟩
      · replace hk := cf hb hk
        refine wpL_sk (bn (gn ?_))
        exact ⟨x4, o4, _, _, hk, hno4, (Owns.pick hO [1] (by decide) rfl), St.hav _ ⟨rfl, rfl, rfl, rfl, trivial⟩⟩
    · rintro _ ⟨x7, o7, J, G, hk, hno7, hO, rfl⟩
      refine wpL_rg ?_
      refine pBi ?_
      refine pM (.int _ _) ?_
      refine pE (gn ?_)
      cases hk; exact ⟨_, rfl, o7, _, _, hno7, hO, St.hav _ ⟨rfl, rfl, rfl, rfl, trivial⟩⟩
  · replace hk := cf hb hk
    refine wpL_ex (ge (ge (be (gn ?_))))
    replace hk := lx hx1 hk
    refine wpL_sq (wpL_rg ?_)
    refine pM o4 ?_
    refine pA o4 ?_
    refine pE (gn (wpL_rt ?_))
    replace hk := Option.some.inj hk; subst hk; exact finThL hO (th_own (xs := x4) hno4 hlk 0) (resT o4 resN)
/-- impl.Body -/
def f111 (aN0 : Net) (aT1 : Train) : Option (List Part) :=
  ((f82 aN0 aT1).bind fun v3 => (bif !v3 then some ([] : List Part) else ((f232 aN0 aT1).bind fun v4 => some v4)))
theorem f111_run {aN0 : Net} {aT1 : Train} {r : (List Part)} {l1 l2 m3 l4 : Nat} {H : Heap} {lk : Lk} (hk : f111 aN0 aT1 = some r) (hlk : 0 < lk.length := by simp) : ∃ v H1, runL Try.prog hh 111 [.agg [.lit l1 aN0.Pieces.length ((flatL 0) aN0.Pieces), .lit l2 aN0.Joints.length (flatL m3 aN0.Joints)], .agg [.int .i64 aT1.Front.Piece, .int .i64 aT1.Front.At, .int .i64 aT1.Front.Way, .int .i64 aT1.Long, .lit l4 aT1.Back.length ((flatL 0) aT1.Back)]] H lk = some (v, H1) ∧ FreshL H r v H1 := by
  refine run_startR Try.func111 rfl Try.ntmps111 Try.results111 rfl rfl ?_
  have hO := Owns.nil H
  unfold f111 at hk
  refine wpL_sq (wpL_rg ?_)
  refine pBox (cs := [_, _]) hO tZ132 (fun b1 G hO => ?_)
  refine pBox (cs := [_, _, _, _, _]) hO tZ136 (fun b2 G hO => ?_)
  refine pA (.tl 0 []) ?_
  refine pE (gn (wpL_sq (wpL_sq (wpL_rg ?_))))
  refine pLs hO 1 [_, _] tA132 tZ132 ?_
  refine pLs hO 0 [_, _, _, _, _] tA136 tZ136 ?_
  obtain ⟨v3, hv3, hk⟩ := bs hk
  refine pCall (fun _ => f82_run hv3) ?_
  refine pU ?_
  refine pE (gn ?_)
  refine wpL_cd (b := !v3) (fun hb => ?_) (fun hb => ?_)
  · replace hk := ct hb hk
    refine wpL_sq (wpL_rg ?_)
    refine pA (.tl 0 []) ?_
    refine pE (gn (wpL_rt (gr ?_)))
    replace hk := Option.some.inj hk; subst hk; exact finThL hO (th_nil Part) (resT (.tl 0 []) resN)
  · replace hk := cf hb hk
    refine wpL_sk (gn (wpL_sq (wpL_rg ?_)))
    refine pLs hO 1 [_, _] tA132 tZ132 ?_
    refine pLs hO 0 [_, _, _, _, _] tA136 tZ136 ?_
    obtain ⟨v4, hv4, hk⟩ := bs hk
    refine pCN hO (fun _ => f232_run hv4) (fun u5 F5 G hO => ?_)
    refine pA u5 ?_
    refine pE (gn (wpL_rt ?_))
    replace hk := Option.some.inj hk; subst hk; exact finThL hO (th_tree (x := v4) 0) (resT u5 resN)
/-- laws.eqPart -/
def f233 (aA0 : Part) (aB1 : Part) : Option Bool :=
  (bif (aA0.Piece != aB1.Piece) then some false else (bif (aA0.From != aB1.From) then some false else (bif (aA0.To != aB1.To) then some false else some true)))
theorem f233_run {aA0 : Part} {aB1 : Part} {r : Bool} {H : Heap} {lk : Lk} (hk : f233 aA0 aB1 = some r) (hlk : 0 < lk.length := by simp) : runL Try.prog hh 233 [.agg [.int .i64 aA0.Piece, .int .i64 aA0.From, .int .i64 aA0.To], .agg [.int .i64 aB1.Piece, .int .i64 aB1.From, .int .i64 aB1.To]] H lk = some (.bool r, H) := by
  refine run_start Try.func233 rfl Try.ntmps233 Try.results233 rfl rfl fun hO => ?_
  unfold f233 at hk
  refine wpL_sq (wpL_rg ?_)
  refine pBox (cs := [_, _, _]) hO tZ271 (fun b1 G hO => ?_)
  refine pBox (cs := [_, _, _]) hO tZ271 (fun b2 G hO => ?_)
  refine pA (.bool _) ?_
  refine pE (gn (wpL_sq (wpL_sq (wpL_rg ?_))))
  refine pF tF271_0 ?_
  refine pLo hO 1 (.int _ _) tA3 ?_
  refine pF tF271_0 ?_
  refine pLo hO 0 (.int _ _) tA3 ?_
  refine pBi ?_
  refine pE (gn ?_)
  refine wpL_cd (b := (aA0.Piece != aB1.Piece)) (fun hb => ?_) (fun hb => ?_)
  · replace hk := ct hb hk
    refine wpL_sq (wpL_rg ?_)
    refine pA (.bool _) ?_
    refine pE (gn (wpL_rt (gr ?_)))
    replace hk := Option.some.inj hk; subst hk; exact fin0 hO
  · replace hk := cf hb hk
    refine wpL_sk (gn (wpL_sq (wpL_sq (wpL_rg ?_))))
    refine pF tF271_1 ?_
    refine pLo hO 1 (.int _ _) tA3 ?_
    refine pF tF271_1 ?_
    refine pLo hO 0 (.int _ _) tA3 ?_
    refine pBi ?_
    refine pE (gn ?_)
    refine wpL_cd (b := (aA0.From != aB1.From)) (fun hb => ?_) (fun hb => ?_)
    · replace hk := ct hb hk
      refine wpL_sq (wpL_rg ?_)
      refine pA (.bool _) ?_
      refine pE (gn (wpL_rt (gr ?_)))
      replace hk := Option.some.inj hk; subst hk; exact fin0 hO
    · replace hk := cf hb hk
      refine wpL_sk (gn (wpL_sq (wpL_sq (wpL_rg ?_))))
      refine pF tF271_2 ?_
      refine pLo hO 1 (.int _ _) tA3 ?_
      refine pF tF271_2 ?_
      refine pLo hO 0 (.int _ _) tA3 ?_
      refine pBi ?_
      refine pE (gn ?_)
      refine wpL_cd (b := (aA0.To != aB1.To)) (fun hb => ?_) (fun hb => ?_)
      · replace hk := ct hb hk
        refine wpL_sq (wpL_rg ?_)
        refine pA (.bool _) ?_
        refine pE (gn (wpL_rt (gr ?_)))
        replace hk := Option.some.inj hk; subst hk; exact fin0 hO
      · replace hk := cf hb hk
        refine wpL_sk (gn (wpL_sq (wpL_rg ?_)))
        refine pA (.bool _) ?_
        refine pE (gn (wpL_rt ?_))
        replace hk := Option.some.inj hk; subst hk; exact fin0 hO
/-- laws.eqPartS -/
def f112_L1 (aA0 : List Part) (aB1 : List Part) : Int → Option (Int ⊕ Bool) := fun s =>
  (bif decide (s < (aA0.length : Int)) then ((getI aA0 s).bind fun c2 => ((getI aB1 s).bind fun c3 => ((f233 c2 c3).bind fun v4 => (bif !v4 then ((some false).map Sum.inr) else some (.inl (w64 (s + (1:Int)))))))) else ((some true).map Sum.inr))
def f112 (aA0 : List Part) (aB1 : List Part) : Option Bool :=
  (bif ((aA0.length : Int) != (aB1.length : Int)) then some false else (loopO (f112_L1 aA0 aB1) ((0:Int))))
theorem f112_run {aA0 : List Part} {aB1 : List Part} {r : Bool} {l1 l2 : Nat} {H : Heap} {lk : Lk} (hk : f112 aA0 aB1 = some r) (hlk : 0 < lk.length := by simp) : runL Try.prog hh 112 [.lit l1 aA0.length ((flatL 0) aA0), .lit l2 aB1.length ((flatL 0) aB1)] H lk = some (.bool r, H) := by
  refine run_start Try.func112 rfl Try.ntmps112 Try.results112 rfl rfl fun hO => ?_
  unfold f112 at hk
  refine wpL_sq (wpL_rg ?_)
  refine pA (.bool _) ?_
  refine pE (gn (wpL_sq (wpL_sq (wpL_rg ?_))))
  refine pM (.lit _ _ _) ?_
  refine pLen tS65 ?_
  refine pM (.lit _ _ _) ?_
  refine pLen tS65 ?_
  refine pBi ?_
  refine pE (gn ?_)
  refine wpL_cd (b := ((aA0.length : Int) != (aB1.length : Int))) (fun hb => ?_) (fun hb => ?_)
  · replace hk := ct hb hk
    refine wpL_sq (wpL_rg ?_)
    refine pA (.bool _) ?_
    refine pE (gn (wpL_rt (gr ?_)))
    replace hk := Option.some.inj hk; subst hk; exact fin0 hO
  · replace hk := cf hb hk
    refine wpL_sk (gn (wpL_sq (wpL_sq (wpL_rg ?_))))
    refine pA (.int _ _) ?_
    refine pE (gn (wpL_bl ?_))
    refine wpL_loopO (F := f112_L1 aA0 aB1) (fun s S' => ∃ (J : Nat → V) (G : Heap), Owns H G [] ∧ S' = ⟨hav [(0, .lit l1 aA0.length ((flatL 0) aA0)), (1, .lit l2 aB1.length ((flatL 0) aB1)), (5, .int .i64 s)] J, G⟩) hk ⟨_, _, hO, St.hav _ ⟨rfl, rfl, rfl, trivial⟩⟩ ?_
    rintro x1 _ y1 ⟨J, G, hO, rfl⟩ hk hx1
    refine wpL_sq (wpL_sq (wpL_rg ?_))
    refine pM (.int _ _) ?_
    refine pM (.lit _ _ _) ?_
    refine pLen tS65 ?_
    refine pBi ?_
    refine pE (gn ?_)
    refine wpL_cd (b := decide (x1 < (aA0.length : Int))) (fun hb => ?_) (fun hb => ?_)
    · replace hk := ct hb hk
      refine wpL_sk (gn (wpL_sq (wpL_bl (wpL_sq ?_))))
      refine wpL_drw [(0, true), (1, true), (2, true), (3, true), (4, true), (5, true), (6, true), (7, true), (8, false), (9, false)] [_, _, _, _, _, _, _, _, _, _] (by decide +kernel) (by rfl) ?_
      refine pM (.lit _ _ _) ?_
      refine pM (.int _ _) ?_
      obtain ⟨c2, hc2, hk⟩ := bs hk
      refine pX hc2 tE65 tZ271 ?_
      refine pLp (.agg [_, _, _]) (rd2 (lm := 0) (off := 0) hc2 tA271 tZ271) ?_
      refine pM (.lit _ _ _) ?_
      refine pM (.int _ _) ?_
      obtain ⟨c3, hc3, hk⟩ := bs hk
      refine pX hc3 tE65 tZ271 ?_
      refine pLp (.agg [_, _, _]) (rd2 (lm := 0) (off := 0) hc3 tA271 tZ271) ?_
      obtain ⟨v4, hv4, hk⟩ := bs hk
      refine pCall (fun _ => f233_run hv4) ?_
      refine pU ?_
      refine pE (gn ?_)
      refine wpL_cd (b := !v4) (fun hb => ?_) (fun hb => ?_)
      · replace hk := ct hb hk
        refine wpL_sq (wpL_rg ?_)
        refine pA (.bool _) ?_
        refine pE (gn (wpL_rt (br (gr (gr (br (gr ?_)))))))
        replace hk := lx hx1 hk
        replace hk := Option.some.inj hk; subst hk; exact fin0 hO
      · replace hk := cf hb hk
        refine wpL_sk (bn (gn (wpL_rg ?_)))
        refine pM (.int _ _) ?_
        refine pBi ?_
        refine pA (.int _ _) ?_
        refine pE (gn ?_)
        cases hk; exact ⟨_, rfl, _, _, hO, St.hav _ ⟨rfl, rfl, rfl, trivial⟩⟩
    · replace hk := cf hb hk
      refine wpL_ex (ge (ge (be (gn ?_))))
      replace hk := lx hx1 hk
      refine wpL_sq (wpL_rg ?_)
      refine pA (.bool _) ?_
      refine pE (gn (wpL_rt ?_))
      replace hk := Option.some.inj hk; subst hk; exact fin0 hO
/-- laws.eqPiece -/
def f295 (aA0 : Piece) (aB1 : Piece) : Option Bool :=
  (bif !(aA0.Name.toList == aB1.Name.toList) then some false else (bif (aA0.Len != aB1.Len) then some false else (bif (aA0.Speed != aB1.Speed) then some false else (bif (aA0.Brake != aB1.Brake) then some false else some true))))
theorem f295_run {aA0 : Piece} {aB1 : Piece} {r : Bool} {H : Heap} {lk : Lk} (hk : f295 aA0 aB1 = some r) (hlk : 0 < lk.length := by simp) : runL Try.prog hh 295 [.agg [.str aA0.Name, .int .i64 aA0.Len, .int .i64 aA0.Speed, .int .i64 aA0.Brake], .agg [.str aB1.Name, .int .i64 aB1.Len, .int .i64 aB1.Speed, .int .i64 aB1.Brake]] H lk = some (.bool r, H) := by
  refine run_start Try.func295 rfl Try.ntmps295 Try.results295 rfl rfl fun hO => ?_
  unfold f295 at hk
  refine wpL_sq (wpL_rg ?_)
  refine pBox (cs := [_, _, _, _]) hO tZ266 (fun b1 G hO => ?_)
  refine pBox (cs := [_, _, _, _]) hO tZ266 (fun b2 G hO => ?_)
  refine pA (.bool _) ?_
  refine pE (gn (wpL_sq (wpL_sq (wpL_rg ?_))))
  refine pF tF266_0 ?_
  refine pLo hO 1 (.str _) tA9 ?_
  refine pF tF266_0 ?_
  refine pLo hO 0 (.str _) tA9 ?_
  refine pB (a := .str _) (b := .str _) ?_
  refine pE (gn ?_)
  refine wpL_cd (b := !(aA0.Name.toList == aB1.Name.toList)) (fun hb => ?_) (fun hb => ?_)
  · replace hk := ct hb hk
    refine wpL_sq (wpL_rg ?_)
    refine pA (.bool _) ?_
    refine pE (gn (wpL_rt (gr ?_)))
    replace hk := Option.some.inj hk; subst hk; exact fin0 hO
  · replace hk := cf hb hk
    refine wpL_sk (gn (wpL_sq (wpL_sq (wpL_rg ?_))))
    refine pF tF266_1 ?_
    refine pLo hO 1 (.int _ _) tA3 ?_
    refine pF tF266_1 ?_
    refine pLo hO 0 (.int _ _) tA3 ?_
    refine pBi ?_
    refine pE (gn ?_)
    refine wpL_cd (b := (aA0.Len != aB1.Len)) (fun hb => ?_) (fun hb => ?_)
    · replace hk := ct hb hk
      refine wpL_sq (wpL_rg ?_)
      refine pA (.bool _) ?_
      refine pE (gn (wpL_rt (gr ?_)))
      replace hk := Option.some.inj hk; subst hk; exact fin0 hO
    · replace hk := cf hb hk
      refine wpL_sk (gn (wpL_sq (wpL_sq (wpL_rg ?_))))
      refine pF tF266_2 ?_
      refine pLo hO 1 (.int _ _) tA3 ?_
      refine pF tF266_2 ?_
      refine pLo hO 0 (.int _ _) tA3 ?_
      refine pBi ?_
      refine pE (gn ?_)
      refine wpL_cd (b := (aA0.Speed != aB1.Speed)) (fun hb => ?_) (fun hb => ?_)
      · replace hk := ct hb hk
        refine wpL_sq (wpL_rg ?_)
        refine pA (.bool _) ?_
        refine pE (gn (wpL_rt (gr ?_)))
        replace hk := Option.some.inj hk; subst hk; exact fin0 hO
      · replace hk := cf hb hk
        refine wpL_sk (gn (wpL_sq (wpL_sq (wpL_rg ?_))))
        refine pF tF266_3 ?_
        refine pLo hO 1 (.int _ _) tA3 ?_
        refine pF tF266_3 ?_
        refine pLo hO 0 (.int _ _) tA3 ?_
        refine pBi ?_
        refine pE (gn ?_)
        refine wpL_cd (b := (aA0.Brake != aB1.Brake)) (fun hb => ?_) (fun hb => ?_)
        · replace hk := ct hb hk
          refine wpL_sq (wpL_rg ?_)
          refine pA (.bool _) ?_
          refine pE (gn (wpL_rt (gr ?_)))
          replace hk := Option.some.inj hk; subst hk; exact fin0 hO
        · replace hk := cf hb hk
          refine wpL_sk (gn (wpL_sq (wpL_rg ?_)))
          refine pA (.bool _) ?_
          refine pE (gn (wpL_rt ?_))
          replace hk := Option.some.inj hk; subst hk; exact fin0 hO
/-- laws.eqPieceS -/
def f201_L1 (aA0 : List Piece) (aB1 : List Piece) : Int → Option (Int ⊕ Bool) := fun s =>
  (bif decide (s < (aA0.length : Int)) then ((getI aA0 s).bind fun c2 => ((getI aB1 s).bind fun c3 => ((f295 c2 c3).bind fun v4 => (bif !v4 then ((some false).map Sum.inr) else some (.inl (w64 (s + (1:Int)))))))) else ((some true).map Sum.inr))
def f201 (aA0 : List Piece) (aB1 : List Piece) : Option Bool :=
  (bif ((aA0.length : Int) != (aB1.length : Int)) then some false else (loopO (f201_L1 aA0 aB1) ((0:Int))))
theorem f201_run {aA0 : List Piece} {aB1 : List Piece} {r : Bool} {l1 l2 : Nat} {H : Heap} {lk : Lk} (hk : f201 aA0 aB1 = some r) (hlk : 0 < lk.length := by simp) : runL Try.prog hh 201 [.lit l1 aA0.length ((flatL 0) aA0), .lit l2 aB1.length ((flatL 0) aB1)] H lk = some (.bool r, H) := by
  refine run_start Try.func201 rfl Try.ntmps201 Try.results201 rfl rfl fun hO => ?_
  unfold f201 at hk
  refine wpL_sq (wpL_rg ?_)
  refine pA (.bool _) ?_
  refine pE (gn (wpL_sq (wpL_sq (wpL_rg ?_))))
  refine pM (.lit _ _ _) ?_
  refine pLen tS129 ?_
  refine pM (.lit _ _ _) ?_
  refine pLen tS129 ?_
  refine pBi ?_
  refine pE (gn ?_)
  refine wpL_cd (b := ((aA0.length : Int) != (aB1.length : Int))) (fun hb => ?_) (fun hb => ?_)
  · replace hk := ct hb hk
    refine wpL_sq (wpL_rg ?_)
    refine pA (.bool _) ?_
    refine pE (gn (wpL_rt (gr ?_)))
    replace hk := Option.some.inj hk; subst hk; exact fin0 hO
  · replace hk := cf hb hk
    refine wpL_sk (gn (wpL_sq (wpL_sq (wpL_rg ?_))))
    refine pA (.int _ _) ?_
    refine pE (gn (wpL_bl ?_))
    refine wpL_loopO (F := f201_L1 aA0 aB1) (fun s S' => ∃ (J : Nat → V) (G : Heap), Owns H G [] ∧ S' = ⟨hav [(0, .lit l1 aA0.length ((flatL 0) aA0)), (1, .lit l2 aB1.length ((flatL 0) aB1)), (5, .int .i64 s)] J, G⟩) hk ⟨_, _, hO, St.hav _ ⟨rfl, rfl, rfl, trivial⟩⟩ ?_
    rintro x1 _ y1 ⟨J, G, hO, rfl⟩ hk hx1
    refine wpL_sq (wpL_sq (wpL_rg ?_))
    refine pM (.int _ _) ?_
    refine pM (.lit _ _ _) ?_
    refine pLen tS129 ?_
    refine pBi ?_
    refine pE (gn ?_)
    refine wpL_cd (b := decide (x1 < (aA0.length : Int))) (fun hb => ?_) (fun hb => ?_)
    · replace hk := ct hb hk
      refine wpL_sk (gn (wpL_sq (wpL_bl (wpL_sq ?_))))
      refine wpL_drw [(0, true), (1, true), (2, true), (3, true), (4, true), (5, true), (6, true), (7, true), (8, false), (9, false)] [_, _, _, _, _, _, _, _, _, _] (by decide +kernel) (by rfl) ?_
      refine pM (.lit _ _ _) ?_
      refine pM (.int _ _) ?_
      obtain ⟨c2, hc2, hk⟩ := bs hk
      refine pX hc2 tE129 tZ266 ?_
      refine pLp (.agg [_, _, _, _]) (rd2 (lm := 0) (off := 0) hc2 tA266 tZ266) ?_
      refine pM (.lit _ _ _) ?_
      refine pM (.int _ _) ?_
      obtain ⟨c3, hc3, hk⟩ := bs hk
      refine pX hc3 tE129 tZ266 ?_
      refine pLp (.agg [_, _, _, _]) (rd2 (lm := 0) (off := 0) hc3 tA266 tZ266) ?_
      obtain ⟨v4, hv4, hk⟩ := bs hk
      refine pCall (fun _ => f295_run hv4) ?_
      refine pU ?_
      refine pE (gn ?_)
      refine wpL_cd (b := !v4) (fun hb => ?_) (fun hb => ?_)
      · replace hk := ct hb hk
        refine wpL_sq (wpL_rg ?_)
        refine pA (.bool _) ?_
        refine pE (gn (wpL_rt (br (gr (gr (br (gr ?_)))))))
        replace hk := lx hx1 hk
        replace hk := Option.some.inj hk; subst hk; exact fin0 hO
      · replace hk := cf hb hk
        refine wpL_sk (bn (gn (wpL_rg ?_)))
        refine pM (.int _ _) ?_
        refine pBi ?_
        refine pA (.int _ _) ?_
        refine pE (gn ?_)
        cases hk; exact ⟨_, rfl, _, _, hO, St.hav _ ⟨rfl, rfl, rfl, trivial⟩⟩
    · replace hk := cf hb hk
      refine wpL_ex (ge (ge (be (gn ?_))))
      replace hk := lx hx1 hk
      refine wpL_sq (wpL_rg ?_)
      refine pA (.bool _) ?_
      refine pE (gn (wpL_rt ?_))
      replace hk := Option.some.inj hk; subst hk; exact fin0 hO
/-- laws.eqEnd -/
def f354 (aA0 : End) (aB1 : End) : Option Bool :=
  (bif (aA0.Piece != aB1.Piece) then some false else (bif (aA0.Side != aB1.Side) then some false else some true))
theorem f354_run {aA0 : End} {aB1 : End} {r : Bool} {H : Heap} {lk : Lk} (hk : f354 aA0 aB1 = some r) (hlk : 0 < lk.length := by simp) : runL Try.prog hh 354 [.agg [.int .i64 aA0.Piece, .int .i64 aA0.Side], .agg [.int .i64 aB1.Piece, .int .i64 aB1.Side]] H lk = some (.bool r, H) := by
  refine run_start Try.func354 rfl Try.ntmps354 Try.results354 rfl rfl fun hO => ?_
  unfold f354 at hk
  refine wpL_sq (wpL_rg ?_)
  refine pBox (cs := [_, _]) hO tZ260 (fun b1 G hO => ?_)
  refine pBox (cs := [_, _]) hO tZ260 (fun b2 G hO => ?_)
  refine pA (.bool _) ?_
  refine pE (gn (wpL_sq (wpL_sq (wpL_rg ?_))))
  refine pF tF260_0 ?_
  refine pLo hO 1 (.int _ _) tA3 ?_
  refine pF tF260_0 ?_
  refine pLo hO 0 (.int _ _) tA3 ?_
  refine pBi ?_
  refine pE (gn ?_)
  refine wpL_cd (b := (aA0.Piece != aB1.Piece)) (fun hb => ?_) (fun hb => ?_)
  · replace hk := ct hb hk
    refine wpL_sq (wpL_rg ?_)
    refine pA (.bool _) ?_
    refine pE (gn (wpL_rt (gr ?_)))
    replace hk := Option.some.inj hk; subst hk; exact fin0 hO
  · replace hk := cf hb hk
    refine wpL_sk (gn (wpL_sq (wpL_sq (wpL_rg ?_))))
    refine pF tF260_1 ?_
    refine pLo hO 1 (.int _ _) tA3 ?_
    refine pF tF260_1 ?_
    refine pLo hO 0 (.int _ _) tA3 ?_
    refine pBi ?_
    refine pE (gn ?_)
    refine wpL_cd (b := (aA0.Side != aB1.Side)) (fun hb => ?_) (fun hb => ?_)
    · replace hk := ct hb hk
      refine wpL_sq (wpL_rg ?_)
      refine pA (.bool _) ?_
      refine pE (gn (wpL_rt (gr ?_)))
      replace hk := Option.some.inj hk; subst hk; exact fin0 hO
    · replace hk := cf hb hk
      refine wpL_sk (gn (wpL_sq (wpL_rg ?_)))
      refine pA (.bool _) ?_
      refine pE (gn (wpL_rt ?_))
      replace hk := Option.some.inj hk; subst hk; exact fin0 hO
/-- laws.eqEndS -/
def f339_L1 (aA0 : List End) (aB1 : List End) : Int → Option (Int ⊕ Bool) := fun s =>
  (bif decide (s < (aA0.length : Int)) then ((getI aA0 s).bind fun c2 => ((getI aB1 s).bind fun c3 => ((f354 c2 c3).bind fun v4 => (bif !v4 then ((some false).map Sum.inr) else some (.inl (w64 (s + (1:Int)))))))) else ((some true).map Sum.inr))
def f339 (aA0 : List End) (aB1 : List End) : Option Bool :=
  (bif ((aA0.length : Int) != (aB1.length : Int)) then some false else (loopO (f339_L1 aA0 aB1) ((0:Int))))
theorem f339_run {aA0 : List End} {aB1 : List End} {r : Bool} {l1 l2 : Nat} {H : Heap} {lk : Lk} (hk : f339 aA0 aB1 = some r) (hlk : 0 < lk.length := by simp) : runL Try.prog hh 339 [.lit l1 aA0.length ((flatL 0) aA0), .lit l2 aB1.length ((flatL 0) aB1)] H lk = some (.bool r, H) := by
  refine run_start Try.func339 rfl Try.ntmps339 Try.results339 rfl rfl fun hO => ?_
  unfold f339 at hk
  refine wpL_sq (wpL_rg ?_)
  refine pA (.bool _) ?_
  refine pE (gn (wpL_sq (wpL_sq (wpL_rg ?_))))
  refine pM (.lit _ _ _) ?_
  refine pLen tS330 ?_
  refine pM (.lit _ _ _) ?_
  refine pLen tS330 ?_
  refine pBi ?_
  refine pE (gn ?_)
  refine wpL_cd (b := ((aA0.length : Int) != (aB1.length : Int))) (fun hb => ?_) (fun hb => ?_)
  · replace hk := ct hb hk
    refine wpL_sq (wpL_rg ?_)
    refine pA (.bool _) ?_
    refine pE (gn (wpL_rt (gr ?_)))
    replace hk := Option.some.inj hk; subst hk; exact fin0 hO
  · replace hk := cf hb hk
    refine wpL_sk (gn (wpL_sq (wpL_sq (wpL_rg ?_))))
    refine pA (.int _ _) ?_
    refine pE (gn (wpL_bl ?_))
    refine wpL_loopO (F := f339_L1 aA0 aB1) (fun s S' => ∃ (J : Nat → V) (G : Heap), Owns H G [] ∧ S' = ⟨hav [(0, .lit l1 aA0.length ((flatL 0) aA0)), (1, .lit l2 aB1.length ((flatL 0) aB1)), (5, .int .i64 s)] J, G⟩) hk ⟨_, _, hO, St.hav _ ⟨rfl, rfl, rfl, trivial⟩⟩ ?_
    rintro x1 _ y1 ⟨J, G, hO, rfl⟩ hk hx1
    refine wpL_sq (wpL_sq (wpL_rg ?_))
    refine pM (.int _ _) ?_
    refine pM (.lit _ _ _) ?_
    refine pLen tS330 ?_
    refine pBi ?_
    refine pE (gn ?_)
    refine wpL_cd (b := decide (x1 < (aA0.length : Int))) (fun hb => ?_) (fun hb => ?_)
    · replace hk := ct hb hk
      refine wpL_sk (gn (wpL_sq (wpL_bl (wpL_sq ?_))))
      refine wpL_drw [(0, true), (1, true), (2, true), (3, true), (4, true), (5, true), (6, true), (7, true), (8, false), (9, false)] [_, _, _, _, _, _, _, _, _, _] (by decide +kernel) (by rfl) ?_
      refine pM (.lit _ _ _) ?_
      refine pM (.int _ _) ?_
      obtain ⟨c2, hc2, hk⟩ := bs hk
      refine pX hc2 tE330 tZ260 ?_
      refine pLp (.agg [_, _]) (rd2 (lm := 0) (off := 0) hc2 tA260 tZ260) ?_
      refine pM (.lit _ _ _) ?_
      refine pM (.int _ _) ?_
      obtain ⟨c3, hc3, hk⟩ := bs hk
      refine pX hc3 tE330 tZ260 ?_
      refine pLp (.agg [_, _]) (rd2 (lm := 0) (off := 0) hc3 tA260 tZ260) ?_
      obtain ⟨v4, hv4, hk⟩ := bs hk
      refine pCall (fun _ => f354_run hv4) ?_
      refine pU ?_
      refine pE (gn ?_)
      refine wpL_cd (b := !v4) (fun hb => ?_) (fun hb => ?_)
      · replace hk := ct hb hk
        refine wpL_sq (wpL_rg ?_)
        refine pA (.bool _) ?_
        refine pE (gn (wpL_rt (br (gr (gr (br (gr ?_)))))))
        replace hk := lx hx1 hk
        replace hk := Option.some.inj hk; subst hk; exact fin0 hO
      · replace hk := cf hb hk
        refine wpL_sk (bn (gn (wpL_rg ?_)))
        refine pM (.int _ _) ?_
        refine pBi ?_
        refine pA (.int _ _) ?_
        refine pE (gn ?_)
        cases hk; exact ⟨_, rfl, _, _, hO, St.hav _ ⟨rfl, rfl, rfl, trivial⟩⟩
    · replace hk := cf hb hk
      refine wpL_ex (ge (ge (be (gn ?_))))
      replace hk := lx hx1 hk
      refine wpL_sq (wpL_rg ?_)
      refine pA (.bool _) ?_
      refine pE (gn (wpL_rt ?_))
      replace hk := Option.some.inj hk; subst hk; exact fin0 hO
/-- laws.eqJoint -/
def f296 (aA0 : Joint) (aB1 : Joint) : Option Bool :=
  (bif (aA0.Kind != aB1.Kind) then some false else (bif !(aA0.Name.toList == aB1.Name.toList) then some false else ((f339 aA0.Ends aB1.Ends).bind fun v3 => (bif !v3 then some false else some true))))
theorem f296_run {aA0 : Joint} {aB1 : Joint} {r : Bool} {l1 l2 : Nat} {H : Heap} {lk : Lk} (hk : f296 aA0 aB1 = some r) (hlk : 0 < lk.length := by simp) : runL Try.prog hh 296 [.agg [.int .i64 aA0.Kind, .str aA0.Name, .lit l1 aA0.Ends.length ((flatL 0) aA0.Ends)], .agg [.int .i64 aB1.Kind, .str aB1.Name, .lit l2 aB1.Ends.length ((flatL 0) aB1.Ends)]] H lk = some (.bool r, H) := by
  refine run_start Try.func296 rfl Try.ntmps296 Try.results296 rfl rfl fun hO => ?_
  unfold f296 at hk
  refine wpL_sq (wpL_rg ?_)
  refine pBox (cs := [_, _, _]) hO tZ332 (fun b1 G hO => ?_)
  refine pBox (cs := [_, _, _]) hO tZ332 (fun b2 G hO => ?_)
  refine pA (.bool _) ?_
  refine pE (gn (wpL_sq (wpL_sq (wpL_rg ?_))))
  refine pF tF332_0 ?_
  refine pLo hO 1 (.int _ _) tA3 ?_
  refine pF tF332_0 ?_
  refine pLo hO 0 (.int _ _) tA3 ?_
  refine pBi ?_
  refine pE (gn ?_)
  refine wpL_cd (b := (aA0.Kind != aB1.Kind)) (fun hb => ?_) (fun hb => ?_)
  · replace hk := ct hb hk
    refine wpL_sq (wpL_rg ?_)
    refine pA (.bool _) ?_
    refine pE (gn (wpL_rt (gr ?_)))
    replace hk := Option.some.inj hk; subst hk; exact fin0 hO
  · replace hk := cf hb hk
    refine wpL_sk (gn (wpL_sq (wpL_sq (wpL_rg ?_))))
    refine pF tF332_1 ?_
    refine pLo hO 1 (.str _) tA9 ?_
    refine pF tF332_1 ?_
    refine pLo hO 0 (.str _) tA9 ?_
    refine pB (a := .str _) (b := .str _) ?_
    refine pE (gn ?_)
    refine wpL_cd (b := !(aA0.Name.toList == aB1.Name.toList)) (fun hb => ?_) (fun hb => ?_)
    · replace hk := ct hb hk
      refine wpL_sq (wpL_rg ?_)
      refine pA (.bool _) ?_
      refine pE (gn (wpL_rt (gr ?_)))
      replace hk := Option.some.inj hk; subst hk; exact fin0 hO
    · replace hk := cf hb hk
      refine wpL_sk (gn (wpL_sq (wpL_sq (wpL_rg ?_))))
      refine pF tF332_2 ?_
      refine pLo hO 1 (.lit _ _ _) tA330 ?_
      refine pF tF332_2 ?_
      refine pLo hO 0 (.lit _ _ _) tA330 ?_
      obtain ⟨v3, hv3, hk⟩ := bs hk
      refine pCall (fun _ => f339_run hv3) ?_
      refine pU ?_
      refine pE (gn ?_)
      refine wpL_cd (b := !v3) (fun hb => ?_) (fun hb => ?_)
      · replace hk := ct hb hk
        refine wpL_sq (wpL_rg ?_)
        refine pA (.bool _) ?_
        refine pE (gn (wpL_rt (gr ?_)))
        replace hk := Option.some.inj hk; subst hk; exact fin0 hO
      · replace hk := cf hb hk
        refine wpL_sk (gn (wpL_sq (wpL_rg ?_)))
        refine pA (.bool _) ?_
        refine pE (gn (wpL_rt ?_))
        replace hk := Option.some.inj hk; subst hk; exact fin0 hO
/-- laws.eqJointS -/
def f202_L1 (aA0 : List Joint) (aB1 : List Joint) : Int → Option (Int ⊕ Bool) := fun s =>
  (bif decide (s < (aA0.length : Int)) then ((getI aA0 s).bind fun c2 => ((getI aB1 s).bind fun c3 => ((f296 c2 c3).bind fun v4 => (bif !v4 then ((some false).map Sum.inr) else some (.inl (w64 (s + (1:Int)))))))) else ((some true).map Sum.inr))
def f202 (aA0 : List Joint) (aB1 : List Joint) : Option Bool :=
  (bif ((aA0.length : Int) != (aB1.length : Int)) then some false else (loopO (f202_L1 aA0 aB1) ((0:Int))))
theorem f202_run {aA0 : List Joint} {aB1 : List Joint} {r : Bool} {l1 m2 l3 m4 : Nat} {H : Heap} {lk : Lk} (hk : f202 aA0 aB1 = some r) (hlk : 0 < lk.length := by simp) : runL Try.prog hh 202 [.lit l1 aA0.length (flatL m2 aA0), .lit l3 aB1.length (flatL m4 aB1)] H lk = some (.bool r, H) := by
  refine run_start Try.func202 rfl Try.ntmps202 Try.results202 rfl rfl fun hO => ?_
  unfold f202 at hk
  refine wpL_sq (wpL_rg ?_)
  refine pA (.bool _) ?_
  refine pE (gn (wpL_sq (wpL_sq (wpL_rg ?_))))
  refine pM (.lit _ _ _) ?_
  refine pLen tS130 ?_
  refine pM (.lit _ _ _) ?_
  refine pLen tS130 ?_
  refine pBi ?_
  refine pE (gn ?_)
  refine wpL_cd (b := ((aA0.length : Int) != (aB1.length : Int))) (fun hb => ?_) (fun hb => ?_)
  · replace hk := ct hb hk
    refine wpL_sq (wpL_rg ?_)
    refine pA (.bool _) ?_
    refine pE (gn (wpL_rt (gr ?_)))
    replace hk := Option.some.inj hk; subst hk; exact fin0 hO
  · replace hk := cf hb hk
    refine wpL_sk (gn (wpL_sq (wpL_sq (wpL_rg ?_))))
    refine pA (.int _ _) ?_
    refine pE (gn (wpL_bl ?_))
    refine wpL_loopO (F := f202_L1 aA0 aB1) (fun s S' => ∃ (J : Nat → V) (G : Heap), Owns H G [] ∧ S' = ⟨hav [(0, .lit l1 aA0.length (flatL m2 aA0)), (1, .lit l3 aB1.length (flatL m4 aB1)), (5, .int .i64 s)] J, G⟩) hk ⟨_, _, hO, St.hav _ ⟨rfl, rfl, rfl, trivial⟩⟩ ?_
    rintro x1 _ y1 ⟨J, G, hO, rfl⟩ hk hx1
    refine wpL_sq (wpL_sq (wpL_rg ?_))
    refine pM (.int _ _) ?_
    refine pM (.lit _ _ _) ?_
    refine pLen tS130 ?_
    refine pBi ?_
    refine pE (gn ?_)
    refine wpL_cd (b := decide (x1 < (aA0.length : Int))) (fun hb => ?_) (fun hb => ?_)
    · replace hk := ct hb hk
      refine wpL_sk (gn (wpL_sq (wpL_bl (wpL_sq ?_))))
      refine wpL_drw [(0, true), (1, true), (2, true), (3, true), (4, true), (5, true), (6, true), (7, true), (8, false), (9, false)] [_, _, _, _, _, _, _, _, _, _] (by decide +kernel) (by rfl) ?_
      refine pM (.lit _ _ _) ?_
      refine pM (.int _ _) ?_
      obtain ⟨c2, hc2, hk⟩ := bs hk
      refine pX hc2 tE130 tZ332 ?_
      refine pLp (.agg [_, _, _]) (rd2 (lm := m2) (off := 0) hc2 tA332 tZ332) ?_
      refine pM (.lit _ _ _) ?_
      refine pM (.int _ _) ?_
      obtain ⟨c3, hc3, hk⟩ := bs hk
      refine pX hc3 tE130 tZ332 ?_
      refine pLp (.agg [_, _, _]) (rd2 (lm := m4) (off := 0) hc3 tA332 tZ332) ?_
      obtain ⟨v4, hv4, hk⟩ := bs hk
      refine pCall (fun _ => f296_run hv4) ?_
      refine pU ?_
      refine pE (gn ?_)
      refine wpL_cd (b := !v4) (fun hb => ?_) (fun hb => ?_)
      · replace hk := ct hb hk
        refine wpL_sq (wpL_rg ?_)
        refine pA (.bool _) ?_
        refine pE (gn (wpL_rt (br (gr (gr (br (gr ?_)))))))
        replace hk := lx hx1 hk
        replace hk := Option.some.inj hk; subst hk; exact fin0 hO
      · replace hk := cf hb hk
        refine wpL_sk (bn (gn (wpL_rg ?_)))
        refine pM (.int _ _) ?_
        refine pBi ?_
        refine pA (.int _ _) ?_
        refine pE (gn ?_)
        cases hk; exact ⟨_, rfl, _, _, hO, St.hav _ ⟨rfl, rfl, rfl, trivial⟩⟩
    · replace hk := cf hb hk
      refine wpL_ex (ge (ge (be (gn ?_))))
      replace hk := lx hx1 hk
      refine wpL_sq (wpL_rg ?_)
      refine pA (.bool _) ?_
      refine pE (gn (wpL_rt ?_))
      replace hk := Option.some.inj hk; subst hk; exact fin0 hO
/-- laws.eqNet -/
def f83 (aA0 : Net) (aB1 : Net) : Option Bool :=
  ((f201 aA0.Pieces aB1.Pieces).bind fun v3 => (bif !v3 then some false else ((f202 aA0.Joints aB1.Joints).bind fun v4 => (bif !v4 then some false else some true))))
theorem f83_run {aA0 : Net} {aB1 : Net} {r : Bool} {l1 l2 m3 l4 l5 m6 : Nat} {H : Heap} {lk : Lk} (hk : f83 aA0 aB1 = some r) (hlk : 0 < lk.length := by simp) : runL Try.prog hh 83 [.agg [.lit l1 aA0.Pieces.length ((flatL 0) aA0.Pieces), .lit l2 aA0.Joints.length (flatL m3 aA0.Joints)], .agg [.lit l4 aB1.Pieces.length ((flatL 0) aB1.Pieces), .lit l5 aB1.Joints.length (flatL m6 aB1.Joints)]] H lk = some (.bool r, H) := by
  refine run_start Try.func83 rfl Try.ntmps83 Try.results83 rfl rfl fun hO => ?_
  unfold f83 at hk
  refine wpL_sq (wpL_rg ?_)
  refine pBox (cs := [_, _]) hO tZ132 (fun b1 G hO => ?_)
  refine pBox (cs := [_, _]) hO tZ132 (fun b2 G hO => ?_)
  refine pA (.bool _) ?_
  refine pE (gn (wpL_sq (wpL_sq (wpL_rg ?_))))
  refine pF tF132_0 ?_
  refine pLo hO 1 (.lit _ _ _) tA129 ?_
  refine pF tF132_0 ?_
  refine pLo hO 0 (.lit _ _ _) tA129 ?_
  obtain ⟨v3, hv3, hk⟩ := bs hk
  refine pCall (fun _ => f201_run hv3) ?_
  refine pU ?_
  refine pE (gn ?_)
  refine wpL_cd (b := !v3) (fun hb => ?_) (fun hb => ?_)
  · replace hk := ct hb hk
    refine wpL_sq (wpL_rg ?_)
    refine pA (.bool _) ?_
    refine pE (gn (wpL_rt (gr ?_)))
    replace hk := Option.some.inj hk; subst hk; exact fin0 hO
  · replace hk := cf hb hk
    refine wpL_sk (gn (wpL_sq (wpL_sq (wpL_rg ?_))))
    refine pF tF132_1 ?_
    refine pLo hO 1 (.lit _ _ _) tA130 ?_
    refine pF tF132_1 ?_
    refine pLo hO 0 (.lit _ _ _) tA130 ?_
    obtain ⟨v4, hv4, hk⟩ := bs hk
    refine pCall (fun _ => f202_run hv4) ?_
    refine pU ?_
    refine pE (gn ?_)
    refine wpL_cd (b := !v4) (fun hb => ?_) (fun hb => ?_)
    · replace hk := ct hb hk
      refine wpL_sq (wpL_rg ?_)
      refine pA (.bool _) ?_
      refine pE (gn (wpL_rt (gr ?_)))
      replace hk := Option.some.inj hk; subst hk; exact fin0 hO
    · replace hk := cf hb hk
      refine wpL_sk (gn (wpL_sq (wpL_rg ?_)))
      refine pA (.bool _) ?_
      refine pE (gn (wpL_rt ?_))
      replace hk := Option.some.inj hk; subst hk; exact fin0 hO
/-- laws.eqSpot -/
def f87 (aA0 : Spot) (aB1 : Spot) : Option Bool :=
  (bif (aA0.Piece != aB1.Piece) then some false else (bif (aA0.At != aB1.At) then some false else (bif (aA0.Way != aB1.Way) then some false else some true)))
theorem f87_run {aA0 : Spot} {aB1 : Spot} {r : Bool} {H : Heap} {lk : Lk} (hk : f87 aA0 aB1 = some r) (hlk : 0 < lk.length := by simp) : runL Try.prog hh 87 [.agg [.int .i64 aA0.Piece, .int .i64 aA0.At, .int .i64 aA0.Way], .agg [.int .i64 aB1.Piece, .int .i64 aB1.At, .int .i64 aB1.Way]] H lk = some (.bool r, H) := by
  refine run_start Try.func87 rfl Try.ntmps87 Try.results87 rfl rfl fun hO => ?_
  unfold f87 at hk
  refine wpL_sq (wpL_rg ?_)
  refine pBox (cs := [_, _, _]) hO tZ134 (fun b1 G hO => ?_)
  refine pBox (cs := [_, _, _]) hO tZ134 (fun b2 G hO => ?_)
  refine pA (.bool _) ?_
  refine pE (gn (wpL_sq (wpL_sq (wpL_rg ?_))))
  refine pF tF134_0 ?_
  refine pLo hO 1 (.int _ _) tA3 ?_
  refine pF tF134_0 ?_
  refine pLo hO 0 (.int _ _) tA3 ?_
  refine pBi ?_
  refine pE (gn ?_)
  refine wpL_cd (b := (aA0.Piece != aB1.Piece)) (fun hb => ?_) (fun hb => ?_)
  · replace hk := ct hb hk
    refine wpL_sq (wpL_rg ?_)
    refine pA (.bool _) ?_
    refine pE (gn (wpL_rt (gr ?_)))
    replace hk := Option.some.inj hk; subst hk; exact fin0 hO
  · replace hk := cf hb hk
    refine wpL_sk (gn (wpL_sq (wpL_sq (wpL_rg ?_))))
    refine pF tF134_1 ?_
    refine pLo hO 1 (.int _ _) tA3 ?_
    refine pF tF134_1 ?_
    refine pLo hO 0 (.int _ _) tA3 ?_
    refine pBi ?_
    refine pE (gn ?_)
    refine wpL_cd (b := (aA0.At != aB1.At)) (fun hb => ?_) (fun hb => ?_)
    · replace hk := ct hb hk
      refine wpL_sq (wpL_rg ?_)
      refine pA (.bool _) ?_
      refine pE (gn (wpL_rt (gr ?_)))
      replace hk := Option.some.inj hk; subst hk; exact fin0 hO
    · replace hk := cf hb hk
      refine wpL_sk (gn (wpL_sq (wpL_sq (wpL_rg ?_))))
      refine pF tF134_2 ?_
      refine pLo hO 1 (.int _ _) tA3 ?_
      refine pF tF134_2 ?_
      refine pLo hO 0 (.int _ _) tA3 ?_
      refine pBi ?_
      refine pE (gn ?_)
      refine wpL_cd (b := (aA0.Way != aB1.Way)) (fun hb => ?_) (fun hb => ?_)
      · replace hk := ct hb hk
        refine wpL_sq (wpL_rg ?_)
        refine pA (.bool _) ?_
        refine pE (gn (wpL_rt (gr ?_)))
        replace hk := Option.some.inj hk; subst hk; exact fin0 hO
      · replace hk := cf hb hk
        refine wpL_sk (gn (wpL_sq (wpL_rg ?_)))
        refine pA (.bool _) ?_
        refine pE (gn (wpL_rt ?_))
        replace hk := Option.some.inj hk; subst hk; exact fin0 hO
/-- laws.eqStep -/
def f263 (aA0 : Step) (aB1 : Step) : Option Bool :=
  (bif (aA0.Piece != aB1.Piece) then some false else (bif (aA0.Way != aB1.Way) then some false else some true))
theorem f263_run {aA0 : Step} {aB1 : Step} {r : Bool} {H : Heap} {lk : Lk} (hk : f263 aA0 aB1 = some r) (hlk : 0 < lk.length := by simp) : runL Try.prog hh 263 [.agg [.int .i64 aA0.Piece, .int .i64 aA0.Way], .agg [.int .i64 aB1.Piece, .int .i64 aB1.Way]] H lk = some (.bool r, H) := by
  refine run_start Try.func263 rfl Try.ntmps263 Try.results263 rfl rfl fun hO => ?_
  unfold f263 at hk
  refine wpL_sq (wpL_rg ?_)
  refine pBox (cs := [_, _]) hO tZ258 (fun b1 G hO => ?_)
  refine pBox (cs := [_, _]) hO tZ258 (fun b2 G hO => ?_)
  refine pA (.bool _) ?_
  refine pE (gn (wpL_sq (wpL_sq (wpL_rg ?_))))
  refine pF tF258_0 ?_
  refine pLo hO 1 (.int _ _) tA3 ?_
  refine pF tF258_0 ?_
  refine pLo hO 0 (.int _ _) tA3 ?_
  refine pBi ?_
  refine pE (gn ?_)
  refine wpL_cd (b := (aA0.Piece != aB1.Piece)) (fun hb => ?_) (fun hb => ?_)
  · replace hk := ct hb hk
    refine wpL_sq (wpL_rg ?_)
    refine pA (.bool _) ?_
    refine pE (gn (wpL_rt (gr ?_)))
    replace hk := Option.some.inj hk; subst hk; exact fin0 hO
  · replace hk := cf hb hk
    refine wpL_sk (gn (wpL_sq (wpL_sq (wpL_rg ?_))))
    refine pF tF258_1 ?_
    refine pLo hO 1 (.int _ _) tA3 ?_
    refine pF tF258_1 ?_
    refine pLo hO 0 (.int _ _) tA3 ?_
    refine pBi ?_
    refine pE (gn ?_)
    refine wpL_cd (b := (aA0.Way != aB1.Way)) (fun hb => ?_) (fun hb => ?_)
    · replace hk := ct hb hk
      refine wpL_sq (wpL_rg ?_)
      refine pA (.bool _) ?_
      refine pE (gn (wpL_rt (gr ?_)))
      replace hk := Option.some.inj hk; subst hk; exact fin0 hO
    · replace hk := cf hb hk
      refine wpL_sk (gn (wpL_sq (wpL_rg ?_)))
      refine pA (.bool _) ?_
      refine pE (gn (wpL_rt ?_))
      replace hk := Option.some.inj hk; subst hk; exact fin0 hO
/-- laws.eqStepS -/
def f163_L1 (aA0 : List Step) (aB1 : List Step) : Int → Option (Int ⊕ Bool) := fun s =>
  (bif decide (s < (aA0.length : Int)) then ((getI aA0 s).bind fun c2 => ((getI aB1 s).bind fun c3 => ((f263 c2 c3).bind fun v4 => (bif !v4 then ((some false).map Sum.inr) else some (.inl (w64 (s + (1:Int)))))))) else ((some true).map Sum.inr))
def f163 (aA0 : List Step) (aB1 : List Step) : Option Bool :=
  (bif ((aA0.length : Int) != (aB1.length : Int)) then some false else (loopO (f163_L1 aA0 aB1) ((0:Int))))
theorem f163_run {aA0 : List Step} {aB1 : List Step} {r : Bool} {l1 l2 : Nat} {H : Heap} {lk : Lk} (hk : f163 aA0 aB1 = some r) (hlk : 0 < lk.length := by simp) : runL Try.prog hh 163 [.lit l1 aA0.length ((flatL 0) aA0), .lit l2 aB1.length ((flatL 0) aB1)] H lk = some (.bool r, H) := by
  refine run_start Try.func163 rfl Try.ntmps163 Try.results163 rfl rfl fun hO => ?_
  unfold f163 at hk
  refine wpL_sq (wpL_rg ?_)
  refine pA (.bool _) ?_
  refine pE (gn (wpL_sq (wpL_sq (wpL_rg ?_))))
  refine pM (.lit _ _ _) ?_
  refine pLen tS63 ?_
  refine pM (.lit _ _ _) ?_
  refine pLen tS63 ?_
  refine pBi ?_
  refine pE (gn ?_)
  refine wpL_cd (b := ((aA0.length : Int) != (aB1.length : Int))) (fun hb => ?_) (fun hb => ?_)
  · replace hk := ct hb hk
    refine wpL_sq (wpL_rg ?_)
    refine pA (.bool _) ?_
    refine pE (gn (wpL_rt (gr ?_)))
    replace hk := Option.some.inj hk; subst hk; exact fin0 hO
  · replace hk := cf hb hk
    refine wpL_sk (gn (wpL_sq (wpL_sq (wpL_rg ?_))))
    refine pA (.int _ _) ?_
    refine pE (gn (wpL_bl ?_))
    refine wpL_loopO (F := f163_L1 aA0 aB1) (fun s S' => ∃ (J : Nat → V) (G : Heap), Owns H G [] ∧ S' = ⟨hav [(0, .lit l1 aA0.length ((flatL 0) aA0)), (1, .lit l2 aB1.length ((flatL 0) aB1)), (5, .int .i64 s)] J, G⟩) hk ⟨_, _, hO, St.hav _ ⟨rfl, rfl, rfl, trivial⟩⟩ ?_
    rintro x1 _ y1 ⟨J, G, hO, rfl⟩ hk hx1
    refine wpL_sq (wpL_sq (wpL_rg ?_))
    refine pM (.int _ _) ?_
    refine pM (.lit _ _ _) ?_
    refine pLen tS63 ?_
    refine pBi ?_
    refine pE (gn ?_)
    refine wpL_cd (b := decide (x1 < (aA0.length : Int))) (fun hb => ?_) (fun hb => ?_)
    · replace hk := ct hb hk
      refine wpL_sk (gn (wpL_sq (wpL_bl (wpL_sq ?_))))
      refine wpL_drw [(0, true), (1, true), (2, true), (3, true), (4, true), (5, true), (6, true), (7, true), (8, false), (9, false)] [_, _, _, _, _, _, _, _, _, _] (by decide +kernel) (by rfl) ?_
      refine pM (.lit _ _ _) ?_
      refine pM (.int _ _) ?_
      obtain ⟨c2, hc2, hk⟩ := bs hk
      refine pX hc2 tE63 tZ258 ?_
      refine pLp (.agg [_, _]) (rd2 (lm := 0) (off := 0) hc2 tA258 tZ258) ?_
      refine pM (.lit _ _ _) ?_
      refine pM (.int _ _) ?_
      obtain ⟨c3, hc3, hk⟩ := bs hk
      refine pX hc3 tE63 tZ258 ?_
      refine pLp (.agg [_, _]) (rd2 (lm := 0) (off := 0) hc3 tA258 tZ258) ?_
      obtain ⟨v4, hv4, hk⟩ := bs hk
      refine pCall (fun _ => f263_run hv4) ?_
      refine pU ?_
      refine pE (gn ?_)
      refine wpL_cd (b := !v4) (fun hb => ?_) (fun hb => ?_)
      · replace hk := ct hb hk
        refine wpL_sq (wpL_rg ?_)
        refine pA (.bool _) ?_
        refine pE (gn (wpL_rt (br (gr (gr (br (gr ?_)))))))
        replace hk := lx hx1 hk
        replace hk := Option.some.inj hk; subst hk; exact fin0 hO
      · replace hk := cf hb hk
        refine wpL_sk (bn (gn (wpL_rg ?_)))
        refine pM (.int _ _) ?_
        refine pBi ?_
        refine pA (.int _ _) ?_
        refine pE (gn ?_)
        cases hk; exact ⟨_, rfl, _, _, hO, St.hav _ ⟨rfl, rfl, rfl, trivial⟩⟩
    · replace hk := cf hb hk
      refine wpL_ex (ge (ge (be (gn ?_))))
      replace hk := lx hx1 hk
      refine wpL_sq (wpL_rg ?_)
      refine pA (.bool _) ?_
      refine pE (gn (wpL_rt ?_))
      replace hk := Option.some.inj hk; subst hk; exact fin0 hO
/-- laws.eqTrain -/
def f84 (aA0 : Train) (aB1 : Train) : Option Bool :=
  ((f87 aA0.Front aB1.Front).bind fun v3 => (bif !v3 then some false else (bif (aA0.Long != aB1.Long) then some false else ((f163 aA0.Back aB1.Back).bind fun v4 => (bif !v4 then some false else some true)))))
theorem f84_run {aA0 : Train} {aB1 : Train} {r : Bool} {l1 l2 : Nat} {H : Heap} {lk : Lk} (hk : f84 aA0 aB1 = some r) (hlk : 0 < lk.length := by simp) : runL Try.prog hh 84 [.agg [.int .i64 aA0.Front.Piece, .int .i64 aA0.Front.At, .int .i64 aA0.Front.Way, .int .i64 aA0.Long, .lit l1 aA0.Back.length ((flatL 0) aA0.Back)], .agg [.int .i64 aB1.Front.Piece, .int .i64 aB1.Front.At, .int .i64 aB1.Front.Way, .int .i64 aB1.Long, .lit l2 aB1.Back.length ((flatL 0) aB1.Back)]] H lk = some (.bool r, H) := by
  refine run_start Try.func84 rfl Try.ntmps84 Try.results84 rfl rfl fun hO => ?_
  unfold f84 at hk
  refine wpL_sq (wpL_rg ?_)
  refine pBox (cs := [_, _, _, _, _]) hO tZ136 (fun b1 G hO => ?_)
  refine pBox (cs := [_, _, _, _, _]) hO tZ136 (fun b2 G hO => ?_)
  refine pA (.bool _) ?_
  refine pE (gn (wpL_sq (wpL_sq (wpL_rg ?_))))
  refine pF tF136_0 ?_
  refine pLs hO 1 [_, _, _] tA134 tZ134 ?_
  refine pF tF136_0 ?_
  refine pLs hO 0 [_, _, _] tA134 tZ134 ?_
  obtain ⟨v3, hv3, hk⟩ := bs hk
  refine pCall (fun _ => f87_run hv3) ?_
  refine pU ?_
  refine pE (gn ?_)
  refine wpL_cd (b := !v3) (fun hb => ?_) (fun hb => ?_)
  · replace hk := ct hb hk
    refine wpL_sq (wpL_rg ?_)
    refine pA (.bool _) ?_
    refine pE (gn (wpL_rt (gr ?_)))
    replace hk := Option.some.inj hk; subst hk; exact fin0 hO
  · replace hk := cf hb hk
    refine wpL_sk (gn (wpL_sq (wpL_sq (wpL_rg ?_))))
    refine pF tF136_1 ?_
    refine pLo hO 1 (.int _ _) tA3 ?_
    refine pF tF136_1 ?_
    refine pLo hO 0 (.int _ _) tA3 ?_
    refine pBi ?_
    refine pE (gn ?_)
    refine wpL_cd (b := (aA0.Long != aB1.Long)) (fun hb => ?_) (fun hb => ?_)
    · replace hk := ct hb hk
      refine wpL_sq (wpL_rg ?_)
      refine pA (.bool _) ?_
      refine pE (gn (wpL_rt (gr ?_)))
      replace hk := Option.some.inj hk; subst hk; exact fin0 hO
    · replace hk := cf hb hk
      refine wpL_sk (gn (wpL_sq (wpL_sq (wpL_rg ?_))))
      refine pF tF136_2 ?_
      refine pLo hO 1 (.lit _ _ _) tA63 ?_
      refine pF tF136_2 ?_
      refine pLo hO 0 (.lit _ _ _) tA63 ?_
      obtain ⟨v4, hv4, hk⟩ := bs hk
      refine pCall (fun _ => f163_run hv4) ?_
      refine pU ?_
      refine pE (gn ?_)
      refine wpL_cd (b := !v4) (fun hb => ?_) (fun hb => ?_)
      · replace hk := ct hb hk
        refine wpL_sq (wpL_rg ?_)
        refine pA (.bool _) ?_
        refine pE (gn (wpL_rt (gr ?_)))
        replace hk := Option.some.inj hk; subst hk; exact fin0 hO
      · replace hk := cf hb hk
        refine wpL_sk (gn (wpL_sq (wpL_rg ?_)))
        refine pA (.bool _) ?_
        refine pE (gn (wpL_rt ?_))
        replace hk := Option.some.inj hk; subst hk; exact fin0 hO
/-- laws.markText -/
def f309_L1 : (Int × ByteArray) → Option ((Int × ByteArray) ⊕ ByteArray) := fun s =>
  (bif decide (s.1 > (0:Int)) then ((catB (bytesU ([⟨IntKind.wrap .u8 (w64 ((48:Int) + (Int.tmod s.1 (10:Int))))⟩] : List U8)) s.2).bind fun c3 => some (.inl (w64 (Int.tdiv s.1 (10:Int)), c3))) else (((catB ({ data := #[109] } : ByteArray) s.2).bind fun c4 => some c4).map Sum.inr))
def f309 (aK0 : Int) : Option ByteArray :=
  (bif decide (aK0 ≤ (0:Int)) then some ({ data := #[109, 48] } : ByteArray) else (loopO (f309_L1) (aK0, ({ data := #[] } : ByteArray))))
theorem f309_run {aK0 : Int} {r : ByteArray} {H : Heap} {lk : Lk} (hk : f309 aK0 = some r) (hlk : 0 < lk.length := by simp) : runL Try.prog hh 309 [.int .i64 aK0] H lk = some (.str r, H) := by
  refine run_start Try.func309 rfl Try.ntmps309 Try.results309 rfl rfl fun hO => ?_
  unfold f309 at hk
  refine wpL_sq (wpL_rg ?_)
  refine pA (.str _) ?_
  refine pE (gn (wpL_sq (wpL_sq (wpL_rg ?_))))
  refine pM (.int _ _) ?_
  refine pBi ?_
  refine pE (gn ?_)
  refine wpL_cd (b := decide (aK0 ≤ (0:Int))) (fun hb => ?_) (fun hb => ?_)
  · replace hk := ct hb hk
    refine wpL_sq (wpL_rg ?_)
    refine pA (.str _) ?_
    refine pE (gn (wpL_rt (gr ?_)))
    replace hk := Option.some.inj hk; subst hk; exact fin0 hO
  · replace hk := cf hb hk
    refine wpL_sk (gn (wpL_sq (wpL_rg ?_)))
    refine pA (.str _) ?_
    refine pE (gn (wpL_sq (wpL_bl ?_)))
    refine wpL_loopO (F := f309_L1) (fun s S' => ∃ (J : Nat → V) (G : Heap), Owns H G [] ∧ S' = ⟨hav [(0, .int .i64 s.1), (3, .str s.2)] J, G⟩) hk ⟨_, _, hO, St.hav _ ⟨rfl, rfl, trivial⟩⟩ ?_
    rintro ⟨x1, x2⟩ _ y1 ⟨J, G, hO, rfl⟩ hk hx1
    refine wpL_sq (wpL_sq (wpL_rg ?_))
    refine pM (.int _ _) ?_
    refine pBi ?_
    refine pE (gn ?_)
    refine wpL_cd (b := decide (x1 > (0:Int))) (fun hb => ?_) (fun hb => ?_)
    · replace hk := ct hb hk
      refine wpL_sk (gn (wpL_bl (wpL_sq (wpL_rg ?_))))
      refine pM (.int _ _) ?_
      refine pBi ?_
      refine pBi ?_
      refine pCv Try.underlying3 Try.underlying5 ?_
      refine pBs (ps := [(0, (.int _ _))]) ([⟨IntKind.wrap .u8 (w64 ((48:Int) + (Int.tmod x1 (10:Int))))⟩] : List U8) tE383 tZ5 t05 (emb_cons (embx_int _ _) (emb_nil)) ?_
      refine pCvB (ys := ([⟨IntKind.wrap .u8 (w64 ((48:Int) + (Int.tmod x1 (10:Int))))⟩] : List U8)) Try.underlying383 Try.underlying9 Try.underlying5 ?_
      refine pM (.str _) ?_
      obtain ⟨c3, hc3, hk⟩ := bs hk
      refine pCat hc3 ?_
      refine pA (.str _) ?_
      refine pE (gn (wpL_rg ?_))
      refine pM (.int _ _) ?_
      refine pBi ?_
      refine pA (.int _ _) ?_
      refine pE (bn (gn ?_))
      cases hk; exact ⟨_, rfl, _, _, hO, St.hav _ ⟨rfl, rfl, trivial⟩⟩
    · replace hk := cf hb hk
      refine wpL_ex (ge (ge (be (gn ?_))))
      replace hk := lx hx1 hk
      refine wpL_sq (wpL_rg ?_)
      refine pM (.str _) ?_
      obtain ⟨c4, hc4, hk⟩ := bs hk
      refine pCat hc4 ?_
      refine pA (.str _) ?_
      refine pE (gn (wpL_rt ?_))
      replace hk := Option.some.inj hk; subst hk; exact fin0 hO
/-- laws.markPieceS -/
def f228_L1 : ((List Piece) × Int × Int) → Option (((List Piece) × Int × Int) ⊕ (List Piece × Int)) := fun s =>
  (bif decide (s.2.2 < (s.1.length : Int)) then ((f309 s.2.1).bind fun v4 => ((getI s.1 s.2.2).bind fun c5 => ((getI (s.1.set s.2.2.toNat ({ c5 with Name := v4 })) s.2.2).bind fun c7 => ((getI ((s.1.set s.2.2.toNat ({ c5 with Name := v4 })).set s.2.2.toNat ({ c7 with Len := w64 (s.2.1 + (1:Int)) })) s.2.2).bind fun c9 => ((getI (((s.1.set s.2.2.toNat ({ c5 with Name := v4 })).set s.2.2.toNat ({ c7 with Len := w64 (s.2.1 + (1:Int)) })).set s.2.2.toNat ({ c9 with Speed := w64 ((w64 (s.2.1 + (1:Int))) + (1:Int)) })) s.2.2).bind fun c11 => some (.inl ((((s.1.set s.2.2.toNat ({ c5 with Name := v4 })).set s.2.2.toNat ({ c7 with Len := w64 (s.2.1 + (1:Int)) })).set s.2.2.toNat ({ c9 with Speed := w64 ((w64 (s.2.1 + (1:Int))) + (1:Int)) })).set s.2.2.toNat ({ c11 with Brake := w64 ((w64 ((w64 (s.2.1 + (1:Int))) + (1:Int))) + (1:Int)) }), w64 ((w64 ((w64 ((w64 (s.2.1 + (1:Int))) + (1:Int))) + (1:Int))) + (1:Int)), w64 (s.2.2 + (1:Int))))))))) else ((some (s.1, s.2.1)).map Sum.inr))
def f228 (aA0 : List Piece) (aK1 : Int) : Option (List Piece × Int) :=
  (loopO (f228_L1) (aA0, aK1, (0:Int)))
theorem f228_run {aA0 : List Piece} {aK1 : Int} {r : (List Piece × Int)} {v0 : V} {F0 : List Nat} {H : Heap} {lk : Lk} (hk : f228 aA0 aK1 = some r) (ha : TrIn H aA0 [v0] F0) (hF : ∀ b ∈ F0, b < H.length) (hS : ∀ b ∈ F0, unlocked lk b = true) (hlk : 0 < lk.length := by simp) : ∃ v H1, runL Try.prog hh 228 [v0, .int .i64 aK1] H lk = some (v, H1) ∧ v = .int .i64 r.2 ∧ TrIn H1 r.1 [v0] F0 ∧ H1.length = H.length ∧ ∀ b, b ∉ F0 → H1[b]? = H[b]? := by
  refine run_startR Try.func228 rfl Try.ntmps228 Try.results228 rfl rfl ?_
  have hO := tree_start ha hF
  have hFr := Sees.refl H F0
  unfold f228 at hk
  refine wpL_sq (wpL_rg ?_)
  refine pA (.int _ _) ?_
  refine pE (gn (wpL_sq (wpL_sq (wpL_rg ?_))))
  refine pA (.int _ _) ?_
  refine pE (gn (wpL_bl ?_))
  refine wpL_loopO (F := f228_L1) (fun s S' => ∃ (J : Nat → V) (G : Heap) (H1 : Heap), Sees H H1 F0 ∧ Owns H1 G [Tree F0 F0 s.1 [v0]] ∧ S' = ⟨hav [(0, v0), (1, .int .i64 s.2.1), (5, .int .i64 s.2.2)] J, G⟩) hk ⟨_, _, _, hFr, hO, St.hav _ ⟨rfl, rfl, rfl, trivial⟩⟩ ?_
  rintro ⟨x1, x2, x3⟩ _ y1 ⟨J, G, H1, hFr, hO, rfl⟩ hk hx1
  refine wpL_sq (wpL_sq (wpL_rg ?_))
  refine pM (.int _ _) ?_
  refine pM v0 ?_
  refine pLenT hO 0 tS129 ?_
  refine pBi ?_
  refine pE (gn ?_)
  refine wpL_cd (b := decide (x3 < (x1.length : Int))) (fun hb => ?_) (fun hb => ?_)
  · replace hk := ct hb hk
    refine wpL_sk (gn (wpL_sq (wpL_bl (wpL_sq (wpL_rg ?_)))))
    refine pM v0 ?_
    refine pM (.int _ _) ?_
    refine pM (.int _ _) ?_
    obtain ⟨v4, hv4, hk⟩ := bs hk
    refine pCall (fun _ => f309_run hv4) ?_
    obtain ⟨c5, hc5, hk⟩ := bs hk
    refine pXT hO 0 hc5 tE129 tZ266 (fun b6 hb6 => ?_)
    refine pF tF266_0 ?_
    refine pST foc_Piece_Name (y' := v4) hO 0 hb6 hc5 tZ9 (fun _ => ⟨rfl, rfl⟩) hFr hS rfl (fun H1 G hFr hO => ?_)
    refine pE (gn (wpL_sq (wpL_rg ?_)))
    refine pM (.int _ _) ?_
    refine pBi ?_
    refine pA (.int _ _) ?_
    refine pE (gn (wpL_sq (wpL_rg ?_)))
    refine pM v0 ?_
    refine pM (.int _ _) ?_
    refine pM (.int _ _) ?_
    obtain ⟨c7, hc7, hk⟩ := bs hk
    refine pXT hO 0 hc7 tE129 tZ266 (fun b8 hb8 => ?_)
    refine pF tF266_1 ?_
    refine pST foc_Piece_Len (y' := (w64 (x2 + (1:Int)))) hO 0 hb8 hc7 tZ3 (fun _ => ⟨rfl, rfl⟩) hFr hS rfl (fun H1 G hFr hO => ?_)
    refine pE (gn (wpL_sq (wpL_rg ?_)))
    refine pM (.int _ _) ?_
    refine pBi ?_
    refine pA (.int _ _) ?_
    refine pE (gn (wpL_sq (wpL_rg ?_)))
    refine pM v0 ?_
    refine pM (.int _ _) ?_
    refine pM (.int _ _) ?_
    obtain ⟨c9, hc9, hk⟩ := bs hk
    refine pXT hO 0 hc9 tE129 tZ266 (fun b10 hb10 => ?_)
    refine pF tF266_2 ?_
    refine pST foc_Piece_Speed (y' := (w64 ((w64 (x2 + (1:Int))) + (1:Int)))) hO 0 hb10 hc9 tZ3 (fun _ => ⟨rfl, rfl⟩) hFr hS rfl (fun H1 G hFr hO => ?_)
    refine pE (gn (wpL_sq (wpL_rg ?_)))
    refine pM (.int _ _) ?_
    refine pBi ?_
    refine pA (.int _ _) ?_
    refine pE (gn (wpL_sq (wpL_rg ?_)))
    refine pM v0 ?_
    refine pM (.int _ _) ?_
    refine pM (.int _ _) ?_
    obtain ⟨c11, hc11, hk⟩ := bs hk
    refine pXT hO 0 hc11 tE129 tZ266 (fun b12 hb12 => ?_)
    refine pF tF266_3 ?_
    refine pST foc_Piece_Brake (y' := (w64 ((w64 ((w64 (x2 + (1:Int))) + (1:Int))) + (1:Int)))) hO 0 hb12 hc11 tZ3 (fun _ => ⟨rfl, rfl⟩) hFr hS rfl (fun H1 G hFr hO => ?_)
    refine pE (gn (wpL_rg ?_))
    refine pM (.int _ _) ?_
    refine pBi ?_
    refine pA (.int _ _) ?_
    refine pE (bn (gn (wpL_rg ?_)))
    refine pM (.int _ _) ?_
    refine pBi ?_
    refine pA (.int _ _) ?_
    refine pE (gn ?_)
    cases hk; exact ⟨_, rfl, _, _, _, hFr, hO, St.hav _ ⟨rfl, rfl, rfl, trivial⟩⟩
  · replace hk := cf hb hk
    refine wpL_ex (ge (ge (be (gn ?_))))
    replace hk := lx hx1 hk
    refine wpL_sq (wpL_rg ?_)
    refine pM (.int _ _) ?_
    refine pA (.int _ _) ?_
    refine pE (gn (wpL_rt ?_))
    replace hk := Option.some.inj hk; subst hk; exact finT hO 0 hFr hF
/-- laws.markEndS -/
def f310_L1 : ((List End) × Int × Int) → Option (((List End) × Int × Int) ⊕ (List End × Int)) := fun s =>
  (bif decide (s.2.2 < (s.1.length : Int)) then ((getI s.1 s.2.2).bind fun c4 => ((getI (s.1.set s.2.2.toNat ({ c4 with Piece := s.2.1 })) s.2.2).bind fun c6 => some (.inl ((s.1.set s.2.2.toNat ({ c4 with Piece := s.2.1 })).set s.2.2.toNat ({ c6 with Side := w64 (s.2.1 + (1:Int)) }), w64 ((w64 (s.2.1 + (1:Int))) + (1:Int)), w64 (s.2.2 + (1:Int)))))) else ((some (s.1, s.2.1)).map Sum.inr))
def f310 (aA0 : List End) (aK1 : Int) : Option (List End × Int) :=
  (loopO (f310_L1) (aA0, aK1, (0:Int)))
theorem f310_run {aA0 : List End} {aK1 : Int} {r : (List End × Int)} {v0 : V} {F0 : List Nat} {H : Heap} {lk : Lk} (hk : f310 aA0 aK1 = some r) (ha : TrIn H aA0 [v0] F0) (hF : ∀ b ∈ F0, b < H.length) (hS : ∀ b ∈ F0, unlocked lk b = true) (hlk : 0 < lk.length := by simp) : ∃ v H1, runL Try.prog hh 310 [v0, .int .i64 aK1] H lk = some (v, H1) ∧ v = .int .i64 r.2 ∧ TrIn H1 r.1 [v0] F0 ∧ H1.length = H.length ∧ ∀ b, b ∉ F0 → H1[b]? = H[b]? := by
  refine run_startR Try.func310 rfl Try.ntmps310 Try.results310 rfl rfl ?_
  have hO := tree_start ha hF
  have hFr := Sees.refl H F0
  unfold f310 at hk
  refine wpL_sq (wpL_rg ?_)
  refine pA (.int _ _) ?_
  refine pE (gn (wpL_sq (wpL_sq (wpL_rg ?_))))
  refine pA (.int _ _) ?_
  refine pE (gn (wpL_bl ?_))
  refine wpL_loopO (F := f310_L1) (fun s S' => ∃ (J : Nat → V) (G : Heap) (H1 : Heap), Sees H H1 F0 ∧ Owns H1 G [Tree F0 F0 s.1 [v0]] ∧ S' = ⟨hav [(0, v0), (1, .int .i64 s.2.1), (5, .int .i64 s.2.2)] J, G⟩) hk ⟨_, _, _, hFr, hO, St.hav _ ⟨rfl, rfl, rfl, trivial⟩⟩ ?_
  rintro ⟨x1, x2, x3⟩ _ y1 ⟨J, G, H1, hFr, hO, rfl⟩ hk hx1
  refine wpL_sq (wpL_sq (wpL_rg ?_))
  refine pM (.int _ _) ?_
  refine pM v0 ?_
  refine pLenT hO 0 tS330 ?_
  refine pBi ?_
  refine pE (gn ?_)
  refine wpL_cd (b := decide (x3 < (x1.length : Int))) (fun hb => ?_) (fun hb => ?_)
  · replace hk := ct hb hk
    refine wpL_sk (gn (wpL_sq (wpL_bl (wpL_sq (wpL_rg ?_)))))
    refine pM v0 ?_
    refine pM (.int _ _) ?_
    refine pM (.int _ _) ?_
    obtain ⟨c4, hc4, hk⟩ := bs hk
    refine pXT hO 0 hc4 tE330 tZ260 (fun b5 hb5 => ?_)
    refine pF tF260_0 ?_
    refine pST foc_End_Piece (y' := x2) hO 0 hb5 hc4 tZ3 (fun _ => ⟨rfl, rfl⟩) hFr hS rfl (fun H1 G hFr hO => ?_)
    refine pE (gn (wpL_sq (wpL_rg ?_)))
    refine pM (.int _ _) ?_
    refine pBi ?_
    refine pA (.int _ _) ?_
    refine pE (gn (wpL_sq (wpL_rg ?_)))
    refine pM v0 ?_
    refine pM (.int _ _) ?_
    refine pM (.int _ _) ?_
    obtain ⟨c6, hc6, hk⟩ := bs hk
    refine pXT hO 0 hc6 tE330 tZ260 (fun b7 hb7 => ?_)
    refine pF tF260_1 ?_
    refine pST foc_End_Side (y' := (w64 (x2 + (1:Int)))) hO 0 hb7 hc6 tZ3 (fun _ => ⟨rfl, rfl⟩) hFr hS rfl (fun H1 G hFr hO => ?_)
    refine pE (gn (wpL_rg ?_))
    refine pM (.int _ _) ?_
    refine pBi ?_
    refine pA (.int _ _) ?_
    refine pE (bn (gn (wpL_rg ?_)))
    refine pM (.int _ _) ?_
    refine pBi ?_
    refine pA (.int _ _) ?_
    refine pE (gn ?_)
    cases hk; exact ⟨_, rfl, _, _, _, hFr, hO, St.hav _ ⟨rfl, rfl, rfl, trivial⟩⟩
  · replace hk := cf hb hk
    refine wpL_ex (ge (ge (be (gn ?_))))
    replace hk := lx hx1 hk
    refine wpL_sq (wpL_rg ?_)
    refine pM (.int _ _) ?_
    refine pA (.int _ _) ?_
    refine pE (gn (wpL_rt ?_))
    replace hk := Option.some.inj hk; subst hk; exact finT hO 0 hFr hF
/-- laws.markJointS -/
def f229_L1 : ((List Joint) × Int × Int) → Option (((List Joint) × Int × Int) ⊕ (List Joint × Int)) := fun s =>
  (bif decide (s.2.2 < (s.1.length : Int)) then ((getI s.1 s.2.2).bind fun c4 => ((f309 (w64 (s.2.1 + (1:Int)))).bind fun v6 => ((getI (s.1.set s.2.2.toNat ({ c4 with Kind := s.2.1 })) s.2.2).bind fun c7 => ((getI ((s.1.set s.2.2.toNat ({ c4 with Kind := s.2.1 })).set s.2.2.toNat ({ c7 with Name := v6 })) s.2.2).bind fun c9 => ((f310 c9.Ends (w64 ((w64 (s.2.1 + (1:Int))) + (1:Int)))).bind fun z12 => some (.inl (((s.1.set s.2.2.toNat ({ c4 with Kind := s.2.1 })).set s.2.2.toNat ({ c7 with Name := v6 })).set s.2.2.toNat ({ c9 with Ends := z12.1 }), z12.2, w64 (s.2.2 + (1:Int))))))))) else ((some (s.1, s.2.1)).map Sum.inr))
def f229 (aA0 : List Joint) (aK1 : Int) : Option (List Joint × Int) :=
  (loopO (f229_L1) (aA0, aK1, (0:Int)))
theorem f229_run {aA0 : List Joint} {aK1 : Int} {r : (List Joint × Int)} {v0 : V} {F0 : List Nat} {H : Heap} {lk : Lk} (hk : f229 aA0 aK1 = some r) (ha : TrIn H aA0 [v0] F0) (hF : ∀ b ∈ F0, b < H.length) (hS : ∀ b ∈ F0, unlocked lk b = true) (hlk : 0 < lk.length := by simp) : ∃ v H1, runL Try.prog hh 229 [v0, .int .i64 aK1] H lk = some (v, H1) ∧ v = .int .i64 r.2 ∧ TrIn H1 r.1 [v0] F0 ∧ H1.length = H.length ∧ ∀ b, b ∉ F0 → H1[b]? = H[b]? := by
  refine run_startR Try.func229 rfl Try.ntmps229 Try.results229 rfl rfl ?_
  have hO := tree_start ha hF
  have hFr := Sees.refl H F0
  unfold f229 at hk
  refine wpL_sq (wpL_rg ?_)
  refine pA (.int _ _) ?_
  refine pE (gn (wpL_sq (wpL_sq (wpL_rg ?_))))
  refine pA (.int _ _) ?_
  refine pE (gn (wpL_bl ?_))
  refine wpL_loopO (F := f229_L1) (fun s S' => ∃ (J : Nat → V) (G : Heap) (H1 : Heap), Sees H H1 F0 ∧ Owns H1 G [Tree F0 F0 s.1 [v0]] ∧ S' = ⟨hav [(0, v0), (1, .int .i64 s.2.1), (5, .int .i64 s.2.2)] J, G⟩) hk ⟨_, _, _, hFr, hO, St.hav _ ⟨rfl, rfl, rfl, trivial⟩⟩ ?_
  rintro ⟨x1, x2, x3⟩ _ y1 ⟨J, G, H1, hFr, hO, rfl⟩ hk hx1
  refine wpL_sq (wpL_sq (wpL_rg ?_))
  refine pM (.int _ _) ?_
  refine pM v0 ?_
  refine pLenT hO 0 tS130 ?_
  refine pBi ?_
  refine pE (gn ?_)
  refine wpL_cd (b := decide (x3 < (x1.length : Int))) (fun hb => ?_) (fun hb => ?_)
  · replace hk := ct hb hk
    refine wpL_sk (gn (wpL_sq (wpL_bl (wpL_sq (wpL_rg ?_)))))
    refine pM v0 ?_
    refine pM (.int _ _) ?_
    refine pM (.int _ _) ?_
    obtain ⟨c4, hc4, hk⟩ := bs hk
    refine pXT hO 0 hc4 tE130 tZ332 (fun b5 hb5 => ?_)
    refine pF tF332_0 ?_
    refine pST foc_Joint_Kind (y' := x2) hO 0 hb5 hc4 tZ3 (fun _ => ⟨rfl, rfl⟩) hFr hS rfl (fun H1 G hFr hO => ?_)
    refine pE (gn (wpL_sq (wpL_rg ?_)))
    refine pM (.int _ _) ?_
    refine pBi ?_
    refine pA (.int _ _) ?_
    refine pE (gn (wpL_sq (wpL_rg ?_)))
    refine pM v0 ?_
    refine pM (.int _ _) ?_
    refine pM (.int _ _) ?_
    obtain ⟨v6, hv6, hk⟩ := bs hk
    refine pCall (fun _ => f309_run hv6) ?_
    obtain ⟨c7, hc7, hk⟩ := bs hk
    refine pXT hO 0 hc7 tE130 tZ332 (fun b8 hb8 => ?_)
    refine pF tF332_1 ?_
    refine pST foc_Joint_Name (y' := v6) hO 0 hb8 hc7 tZ9 (fun _ => ⟨rfl, rfl⟩) hFr hS rfl (fun H1 G hFr hO => ?_)
    refine pE (gn (wpL_sq (wpL_rg ?_)))
    refine pM (.int _ _) ?_
    refine pBi ?_
    refine pA (.int _ _) ?_
    refine pE (gn (wpL_rg ?_))
    refine pM v0 ?_
    refine pM (.int _ _) ?_
    obtain ⟨c9, hc9, hk⟩ := bs hk
    refine pXT hO 0 hc9 tE130 tZ332 (fun b10 hb10 => ?_)
    refine pF tF332_2 ?_
    refine pLT foc_Joint_Ends hO 0 hb10 hc9 tA330 (fun u11 fs11 hs11 => ?_)
    refine pM (.int _ _) ?_
    obtain ⟨z12, hz12, hk⟩ := bs hk
    refine pCT (y' := z12.1) (r := .int .i64 z12.2) hO 0 hs11 (fun _ h => h) hFr hS (fun hF1 hS1 ht1 => f310_run hz12 ht1 hF1 hS1) (fun H1 G hFr hO => ?_)
    refine pA (.int _ _) ?_
    refine pE (bn (gn (wpL_rg ?_)))
    refine pM (.int _ _) ?_
    refine pBi ?_
    refine pA (.int _ _) ?_
    refine pE (gn ?_)
    cases hk; exact ⟨_, rfl, _, _, _, hFr, hO, St.hav _ ⟨rfl, rfl, rfl, trivial⟩⟩
  · replace hk := cf hb hk
    refine wpL_ex (ge (ge (be (gn ?_))))
    replace hk := lx hx1 hk
    refine wpL_sq (wpL_rg ?_)
    refine pM (.int _ _) ?_
    refine pA (.int _ _) ?_
    refine pE (gn (wpL_rt ?_))
    replace hk := Option.some.inj hk; subst hk; exact finT hO 0 hFr hF
/-- laws.markNet -/
def f103 (aA0 : Net) (aK1 : Int) : Option (Net × Int) :=
  ((f228 aA0.Pieces aK1).bind fun z3 => ((f229 (({ aA0 with Pieces := z3.1 }).Joints) z3.2).bind fun z5 => some ({ { aA0 with Pieces := z3.1 } with Joints := z5.1 }, z5.2)))
theorem f103_run {aA0 : Net} {aK1 : Int} {r : (Net × Int)} {v0 : List V} {F0 : List Nat} {H : Heap} {lk : Lk} (hk : f103 aA0 aK1 = some r) (ha : TrIn H aA0 v0 F0) (hF : ∀ b ∈ F0, b < H.length) (hS : ∀ b ∈ F0, unlocked lk b = true) (hlk : 0 < lk.length := by simp) : ∃ v H1, runL Try.prog hh 103 [.agg v0, .int .i64 aK1] H lk = some (v, H1) ∧ v = .int .i64 r.2 ∧ TrIn H1 r.1 v0 F0 ∧ H1.length = H.length ∧ ∀ b, b ∉ F0 → H1[b]? = H[b]? := by
  refine run_startR Try.func103 rfl Try.ntmps103 Try.results103 rfl rfl ?_
  have hO := tree_start ha hF
  have hFr := Sees.refl H F0
  unfold f103 at hk
  refine wpL_sq (wpL_rg ?_)
  refine pBoxT hO 0 tZ132 (fun b1 G hO => ?_)
  refine pA (.int _ _) ?_
  refine pE (gn (wpL_sq (wpL_rg ?_)))
  refine pF tF132_0 ?_
  refine pLTs foc_Net_Pieces hO 0 1 tA129 (fun u2 fs2 hs2 => ?_)
  refine pM (.int _ _) ?_
  obtain ⟨z3, hz3, hk⟩ := bs hk
  refine pCT (y' := z3.1) (r := .int .i64 z3.2) hO 1 hs2 (fun _ h => h) hFr hS (fun hF1 hS1 ht1 => f228_run hz3 ht1 hF1 hS1) (fun H1 G hFr hO => ?_)
  refine pA (.int _ _) ?_
  refine pE (gn (wpL_sq (wpL_rg ?_)))
  refine pF tF132_1 ?_
  refine pLTs foc_Net_Joints hO 0 1 tA130 (fun u4 fs4 hs4 => ?_)
  refine pM (.int _ _) ?_
  obtain ⟨z5, hz5, hk⟩ := bs hk
  refine pCT (y' := z5.1) (r := .int .i64 z5.2) hO 1 hs4 (fun _ h => h) hFr hS (fun hF1 hS1 ht1 => f229_run hz5 ht1 hF1 hS1) (fun H1 G hFr hO => ?_)
  refine pA (.int _ _) ?_
  refine pE (gn (wpL_sq (wpL_rg ?_)))
  refine pM (.int _ _) ?_
  refine pA (.int _ _) ?_
  refine pE (gn (wpL_rt ?_))
  replace hk := Option.some.inj hk; subst hk; exact finT hO 1 hFr hF
/-- laws.markStepS -/
def f179_L1 : ((List Step) × Int × Int) → Option (((List Step) × Int × Int) ⊕ (List Step × Int)) := fun s =>
  (bif decide (s.2.2 < (s.1.length : Int)) then ((getI s.1 s.2.2).bind fun c4 => ((getI (s.1.set s.2.2.toNat ({ c4 with Piece := s.2.1 })) s.2.2).bind fun c6 => some (.inl ((s.1.set s.2.2.toNat ({ c4 with Piece := s.2.1 })).set s.2.2.toNat ({ c6 with Way := w64 (s.2.1 + (1:Int)) }), w64 ((w64 (s.2.1 + (1:Int))) + (1:Int)), w64 (s.2.2 + (1:Int)))))) else ((some (s.1, s.2.1)).map Sum.inr))
def f179 (aA0 : List Step) (aK1 : Int) : Option (List Step × Int) :=
  (loopO (f179_L1) (aA0, aK1, (0:Int)))
theorem f179_run {aA0 : List Step} {aK1 : Int} {r : (List Step × Int)} {v0 : V} {F0 : List Nat} {H : Heap} {lk : Lk} (hk : f179 aA0 aK1 = some r) (ha : TrIn H aA0 [v0] F0) (hF : ∀ b ∈ F0, b < H.length) (hS : ∀ b ∈ F0, unlocked lk b = true) (hlk : 0 < lk.length := by simp) : ∃ v H1, runL Try.prog hh 179 [v0, .int .i64 aK1] H lk = some (v, H1) ∧ v = .int .i64 r.2 ∧ TrIn H1 r.1 [v0] F0 ∧ H1.length = H.length ∧ ∀ b, b ∉ F0 → H1[b]? = H[b]? := by
  refine run_startR Try.func179 rfl Try.ntmps179 Try.results179 rfl rfl ?_
  have hO := tree_start ha hF
  have hFr := Sees.refl H F0
  unfold f179 at hk
  refine wpL_sq (wpL_rg ?_)
  refine pA (.int _ _) ?_
  refine pE (gn (wpL_sq (wpL_sq (wpL_rg ?_))))
  refine pA (.int _ _) ?_
  refine pE (gn (wpL_bl ?_))
  refine wpL_loopO (F := f179_L1) (fun s S' => ∃ (J : Nat → V) (G : Heap) (H1 : Heap), Sees H H1 F0 ∧ Owns H1 G [Tree F0 F0 s.1 [v0]] ∧ S' = ⟨hav [(0, v0), (1, .int .i64 s.2.1), (5, .int .i64 s.2.2)] J, G⟩) hk ⟨_, _, _, hFr, hO, St.hav _ ⟨rfl, rfl, rfl, trivial⟩⟩ ?_
  rintro ⟨x1, x2, x3⟩ _ y1 ⟨J, G, H1, hFr, hO, rfl⟩ hk hx1
  refine wpL_sq (wpL_sq (wpL_rg ?_))
  refine pM (.int _ _) ?_
  refine pM v0 ?_
  refine pLenT hO 0 tS63 ?_
  refine pBi ?_
  refine pE (gn ?_)
  refine wpL_cd (b := decide (x3 < (x1.length : Int))) (fun hb => ?_) (fun hb => ?_)
  · replace hk := ct hb hk
    refine wpL_sk (gn (wpL_sq (wpL_bl (wpL_sq (wpL_rg ?_)))))
    refine pM v0 ?_
    refine pM (.int _ _) ?_
    refine pM (.int _ _) ?_
    obtain ⟨c4, hc4, hk⟩ := bs hk
    refine pXT hO 0 hc4 tE63 tZ258 (fun b5 hb5 => ?_)
    refine pF tF258_0 ?_
    refine pST foc_Step_Piece (y' := x2) hO 0 hb5 hc4 tZ3 (fun _ => ⟨rfl, rfl⟩) hFr hS rfl (fun H1 G hFr hO => ?_)
    refine pE (gn (wpL_sq (wpL_rg ?_)))
    refine pM (.int _ _) ?_
    refine pBi ?_
    refine pA (.int _ _) ?_
    refine pE (gn (wpL_sq (wpL_rg ?_)))
    refine pM v0 ?_
    refine pM (.int _ _) ?_
    refine pM (.int _ _) ?_
    obtain ⟨c6, hc6, hk⟩ := bs hk
    refine pXT hO 0 hc6 tE63 tZ258 (fun b7 hb7 => ?_)
    refine pF tF258_1 ?_
    refine pST foc_Step_Way (y' := (w64 (x2 + (1:Int)))) hO 0 hb7 hc6 tZ3 (fun _ => ⟨rfl, rfl⟩) hFr hS rfl (fun H1 G hFr hO => ?_)
    refine pE (gn (wpL_rg ?_))
    refine pM (.int _ _) ?_
    refine pBi ?_
    refine pA (.int _ _) ?_
    refine pE (bn (gn (wpL_rg ?_)))
    refine pM (.int _ _) ?_
    refine pBi ?_
    refine pA (.int _ _) ?_
    refine pE (gn ?_)
    cases hk; exact ⟨_, rfl, _, _, _, hFr, hO, St.hav _ ⟨rfl, rfl, rfl, trivial⟩⟩
  · replace hk := cf hb hk
    refine wpL_ex (ge (ge (be (gn ?_))))
    replace hk := lx hx1 hk
    refine wpL_sq (wpL_rg ?_)
    refine pM (.int _ _) ?_
    refine pA (.int _ _) ?_
    refine pE (gn (wpL_rt ?_))
    replace hk := Option.some.inj hk; subst hk; exact finT hO 0 hFr hF
/-- laws.markTrain -/
def f108 (aA0 : Train) (aK1 : Int) : Option (Train × Int) :=
  ((f179 aA0.Back aK1).bind fun z3 => some ({ aA0 with Back := z3.1 }, z3.2))
theorem f108_run {aA0 : Train} {aK1 : Int} {r : (Train × Int)} {v0 : List V} {F0 : List Nat} {H : Heap} {lk : Lk} (hk : f108 aA0 aK1 = some r) (ha : TrIn H aA0 v0 F0) (hF : ∀ b ∈ F0, b < H.length) (hS : ∀ b ∈ F0, unlocked lk b = true) (hlk : 0 < lk.length := by simp) : ∃ v H1, runL Try.prog hh 108 [.agg v0, .int .i64 aK1] H lk = some (v, H1) ∧ v = .int .i64 r.2 ∧ TrIn H1 r.1 v0 F0 ∧ H1.length = H.length ∧ ∀ b, b ∉ F0 → H1[b]? = H[b]? := by
  refine run_startR Try.func108 rfl Try.ntmps108 Try.results108 rfl rfl ?_
  have hO := tree_start ha hF
  have hFr := Sees.refl H F0
  unfold f108 at hk
  refine wpL_sq (wpL_rg ?_)
  refine pBoxT hO 0 tZ136 (fun b1 G hO => ?_)
  refine pA (.int _ _) ?_
  refine pE (gn (wpL_sq (wpL_rg ?_)))
  refine pF tF136_2 ?_
  refine pLTs foc_Train_Back hO 0 1 tA63 (fun u2 fs2 hs2 => ?_)
  refine pM (.int _ _) ?_
  obtain ⟨z3, hz3, hk⟩ := bs hk
  refine pCT (y' := z3.1) (r := .int .i64 z3.2) hO 1 hs2 (fun _ h => h) hFr hS (fun hF1 hS1 ht1 => f179_run hz3 ht1 hF1 hS1) (fun H1 G hFr hO => ?_)
  refine pA (.int _ _) ?_
  refine pE (gn (wpL_sq (wpL_rg ?_)))
  refine pM (.int _ _) ?_
  refine pA (.int _ _) ?_
  refine pE (gn (wpL_rt ?_))
  replace hk := Option.some.inj hk; subst hk; exact finT hO 1 hFr hF
/-- laws.markPartS -/
def f113_L1 : ((List Part) × Int × Int) → Option (((List Part) × Int × Int) ⊕ (List Part × Int)) := fun s =>
  (bif decide (s.2.2 < (s.1.length : Int)) then ((getI s.1 s.2.2).bind fun c4 => ((getI (s.1.set s.2.2.toNat ({ c4 with Piece := s.2.1 })) s.2.2).bind fun c6 => ((getI ((s.1.set s.2.2.toNat ({ c4 with Piece := s.2.1 })).set s.2.2.toNat ({ c6 with From := w64 (s.2.1 + (1:Int)) })) s.2.2).bind fun c8 => some (.inl (((s.1.set s.2.2.toNat ({ c4 with Piece := s.2.1 })).set s.2.2.toNat ({ c6 with From := w64 (s.2.1 + (1:Int)) })).set s.2.2.toNat ({ c8 with To := w64 ((w64 (s.2.1 + (1:Int))) + (1:Int)) }), w64 ((w64 ((w64 (s.2.1 + (1:Int))) + (1:Int))) + (1:Int)), w64 (s.2.2 + (1:Int))))))) else ((some (s.1, s.2.1)).map Sum.inr))
def f113 (aA0 : List Part) (aK1 : Int) : Option (List Part × Int) :=
  (loopO (f113_L1) (aA0, aK1, (0:Int)))
theorem f113_run {aA0 : List Part} {aK1 : Int} {r : (List Part × Int)} {v0 : V} {F0 : List Nat} {H : Heap} {lk : Lk} (hk : f113 aA0 aK1 = some r) (ha : TrIn H aA0 [v0] F0) (hF : ∀ b ∈ F0, b < H.length) (hS : ∀ b ∈ F0, unlocked lk b = true) (hlk : 0 < lk.length := by simp) : ∃ v H1, runL Try.prog hh 113 [v0, .int .i64 aK1] H lk = some (v, H1) ∧ v = .int .i64 r.2 ∧ TrIn H1 r.1 [v0] F0 ∧ H1.length = H.length ∧ ∀ b, b ∉ F0 → H1[b]? = H[b]? := by
  refine run_startR Try.func113 rfl Try.ntmps113 Try.results113 rfl rfl ?_
  have hO := tree_start ha hF
  have hFr := Sees.refl H F0
  unfold f113 at hk
  refine wpL_sq (wpL_rg ?_)
  refine pA (.int _ _) ?_
  refine pE (gn (wpL_sq (wpL_sq (wpL_rg ?_))))
  refine pA (.int _ _) ?_
  refine pE (gn (wpL_bl ?_))
  refine wpL_loopO (F := f113_L1) (fun s S' => ∃ (J : Nat → V) (G : Heap) (H1 : Heap), Sees H H1 F0 ∧ Owns H1 G [Tree F0 F0 s.1 [v0]] ∧ S' = ⟨hav [(0, v0), (1, .int .i64 s.2.1), (5, .int .i64 s.2.2)] J, G⟩) hk ⟨_, _, _, hFr, hO, St.hav _ ⟨rfl, rfl, rfl, trivial⟩⟩ ?_
  rintro ⟨x1, x2, x3⟩ _ y1 ⟨J, G, H1, hFr, hO, rfl⟩ hk hx1
  refine wpL_sq (wpL_sq (wpL_rg ?_))
  refine pM (.int _ _) ?_
  refine pM v0 ?_
  refine pLenT hO 0 tS65 ?_
  refine pBi ?_
  refine pE (gn ?_)
  refine wpL_cd (b := decide (x3 < (x1.length : Int))) (fun hb => ?_) (fun hb => ?_)
  · replace hk := ct hb hk
    refine wpL_sk (gn (wpL_sq (wpL_bl (wpL_sq (wpL_rg ?_)))))
    refine pM v0 ?_
    refine pM (.int _ _) ?_
    refine pM (.int _ _) ?_
    obtain ⟨c4, hc4, hk⟩ := bs hk
    refine pXT hO 0 hc4 tE65 tZ271 (fun b5 hb5 => ?_)
    refine pF tF271_0 ?_
    refine pST foc_Part_Piece (y' := x2) hO 0 hb5 hc4 tZ3 (fun _ => ⟨rfl, rfl⟩) hFr hS rfl (fun H1 G hFr hO => ?_)
    refine pE (gn (wpL_sq (wpL_rg ?_)))
    refine pM (.int _ _) ?_
    refine pBi ?_
    refine pA (.int _ _) ?_
    refine pE (gn (wpL_sq (wpL_rg ?_)))
    refine pM v0 ?_
    refine pM (.int _ _) ?_
    refine pM (.int _ _) ?_
    obtain ⟨c6, hc6, hk⟩ := bs hk
    refine pXT hO 0 hc6 tE65 tZ271 (fun b7 hb7 => ?_)
    refine pF tF271_1 ?_
    refine pST foc_Part_From (y' := (w64 (x2 + (1:Int)))) hO 0 hb7 hc6 tZ3 (fun _ => ⟨rfl, rfl⟩) hFr hS rfl (fun H1 G hFr hO => ?_)
    refine pE (gn (wpL_sq (wpL_rg ?_)))
    refine pM (.int _ _) ?_
    refine pBi ?_
    refine pA (.int _ _) ?_
    refine pE (gn (wpL_sq (wpL_rg ?_)))
    refine pM v0 ?_
    refine pM (.int _ _) ?_
    refine pM (.int _ _) ?_
    obtain ⟨c8, hc8, hk⟩ := bs hk
    refine pXT hO 0 hc8 tE65 tZ271 (fun b9 hb9 => ?_)
    refine pF tF271_2 ?_
    refine pST foc_Part_To (y' := (w64 ((w64 (x2 + (1:Int))) + (1:Int)))) hO 0 hb9 hc8 tZ3 (fun _ => ⟨rfl, rfl⟩) hFr hS rfl (fun H1 G hFr hO => ?_)
    refine pE (gn (wpL_rg ?_))
    refine pM (.int _ _) ?_
    refine pBi ?_
    refine pA (.int _ _) ?_
    refine pE (bn (gn (wpL_rg ?_)))
    refine pM (.int _ _) ?_
    refine pBi ?_
    refine pA (.int _ _) ?_
    refine pE (gn ?_)
    cases hk; exact ⟨_, rfl, _, _, _, hFr, hO, St.hav _ ⟨rfl, rfl, rfl, trivial⟩⟩
  · replace hk := cf hb hk
    refine wpL_ex (ge (ge (be (gn ?_))))
    replace hk := lx hx1 hk
    refine wpL_sq (wpL_rg ?_)
    refine pM (.int _ _) ?_
    refine pA (.int _ _) ?_
    refine pE (gn (wpL_rt ?_))
    replace hk := Option.some.inj hk; subst hk; exact finT hO 0 hFr hF
/-- laws.heldPartS -/
def f114_L1 (aA0 : List Part) : (Int × Int) → Option ((Int × Int) ⊕ Int) := fun s =>
  (bif decide (s.2 < (aA0.length : Int)) then ((getI aA0 s.2).bind fun c3 => (bif (c3.Piece != s.1) then ((some (-1:Int)).map Sum.inr) else ((getI aA0 s.2).bind fun c4 => (bif (c4.From != (w64 (s.1 + (1:Int)))) then ((some (-1:Int)).map Sum.inr) else ((getI aA0 s.2).bind fun c5 => (bif (c5.To != (w64 ((w64 (s.1 + (1:Int))) + (1:Int)))) then ((some (-1:Int)).map Sum.inr) else some (.inl (w64 ((w64 ((w64 (s.1 + (1:Int))) + (1:Int))) + (1:Int)), w64 (s.2 + (1:Int)))))))))) else ((some s.1).map Sum.inr))
def f114 (aA0 : List Part) (aK1 : Int) : Option Int :=
  (loopO (f114_L1 aA0) (aK1, (0:Int)))
theorem f114_run {aA0 : List Part} {aK1 : Int} {r : Int} {l1 : Nat} {H : Heap} {lk : Lk} (hk : f114 aA0 aK1 = some r) (hlk : 0 < lk.length := by simp) : runL Try.prog hh 114 [.lit l1 aA0.length ((flatL 0) aA0), .int .i64 aK1] H lk = some (.int .i64 r, H) := by
  refine run_start Try.func114 rfl Try.ntmps114 Try.results114 rfl rfl fun hO => ?_
  unfold f114 at hk
  refine wpL_sq (wpL_rg ?_)
  refine pA (.int _ _) ?_
  refine pE (gn (wpL_sq (wpL_sq (wpL_rg ?_))))
  refine pA (.int _ _) ?_
  refine pE (gn (wpL_bl ?_))
  refine wpL_loopO (F := f114_L1 aA0) (fun s S' => ∃ (J : Nat → V) (G : Heap), Owns H G [] ∧ S' = ⟨hav [(0, .lit l1 aA0.length ((flatL 0) aA0)), (1, .int .i64 s.1), (5, .int .i64 s.2)] J, G⟩) hk ⟨_, _, hO, St.hav _ ⟨rfl, rfl, rfl, trivial⟩⟩ ?_
  rintro ⟨x1, x2⟩ _ y1 ⟨J, G, hO, rfl⟩ hk hx1
  refine wpL_sq (wpL_sq (wpL_rg ?_))
  refine pM (.int _ _) ?_
  refine pM (.lit _ _ _) ?_
  refine pLen tS65 ?_
  refine pBi ?_
  refine pE (gn ?_)
  refine wpL_cd (b := decide (x2 < (aA0.length : Int))) (fun hb => ?_) (fun hb => ?_)
  · replace hk := ct hb hk
    refine wpL_sk (gn (wpL_sq (wpL_bl (wpL_sq (wpL_sq (wpL_rg ?_))))))
    refine pM (.lit _ _ _) ?_
    refine pM (.int _ _) ?_
    obtain ⟨c3, hc3, hk⟩ := bs hk
    refine pX hc3 tE65 tZ271 ?_
    refine pF tF271_0 ?_
    refine pLp (.int _ _) (rd1 (lm := 0) (off := 0) hc3 tA3) ?_
    refine pM (.int _ _) ?_
    refine pBi ?_
    refine pE (gn ?_)
    refine wpL_cd (b := (c3.Piece != x1)) (fun hb => ?_) (fun hb => ?_)
    · replace hk := ct hb hk
      refine wpL_sq (wpL_rg ?_)
      refine pA (.int _ _) ?_
      refine pE (gn (wpL_rt (gr (br (gr (gr (br (gr ?_))))))))
      replace hk := lx hx1 hk
      replace hk := Option.some.inj hk; subst hk; exact fin0 hO
    · replace hk := cf hb hk
      refine wpL_sk (gn (wpL_sq (wpL_rg ?_)))
      refine pM (.int _ _) ?_
      refine pBi ?_
      refine pA (.int _ _) ?_
      refine pE (gn (wpL_sq (wpL_sq (wpL_rg ?_))))
      refine pM (.lit _ _ _) ?_
      refine pM (.int _ _) ?_
      obtain ⟨c4, hc4, hk⟩ := bs hk
      refine pX hc4 tE65 tZ271 ?_
      refine pF tF271_1 ?_
      refine pLp (.int _ _) (rd1 (lm := 0) (off := 1) hc4 tA3) ?_
      refine pM (.int _ _) ?_
      refine pBi ?_
      refine pE (gn ?_)
      refine wpL_cd (b := (c4.From != (w64 (x1 + (1:Int))))) (fun hb => ?_) (fun hb => ?_)
      · replace hk := ct hb hk
        refine wpL_sq (wpL_rg ?_)
        refine pA (.int _ _) ?_
        refine pE (gn (wpL_rt (gr (br (gr (gr (br (gr ?_))))))))
        replace hk := lx hx1 hk
        replace hk := Option.some.inj hk; subst hk; exact fin0 hO
      · replace hk := cf hb hk
        refine wpL_sk (gn (wpL_sq (wpL_rg ?_)))
        refine pM (.int _ _) ?_
        refine pBi ?_
        refine pA (.int _ _) ?_
        refine pE (gn (wpL_sq (wpL_sq (wpL_rg ?_))))
        refine pM (.lit _ _ _) ?_
        refine pM (.int _ _) ?_
        obtain ⟨c5, hc5, hk⟩ := bs hk
        refine pX hc5 tE65 tZ271 ?_
        refine pF tF271_2 ?_
        refine pLp (.int _ _) (rd1 (lm := 0) (off := 2) hc5 tA3) ?_
        refine pM (.int _ _) ?_
        refine pBi ?_
        refine pE (gn ?_)
        refine wpL_cd (b := (c5.To != (w64 ((w64 (x1 + (1:Int))) + (1:Int))))) (fun hb => ?_) (fun hb => ?_)
        · replace hk := ct hb hk
          refine wpL_sq (wpL_rg ?_)
          refine pA (.int _ _) ?_
          refine pE (gn (wpL_rt (gr (br (gr (gr (br (gr ?_))))))))
          replace hk := lx hx1 hk
          replace hk := Option.some.inj hk; subst hk; exact fin0 hO
        · replace hk := cf hb hk
          refine wpL_sk (gn (wpL_rg ?_))
          refine pM (.int _ _) ?_
          refine pBi ?_
          refine pA (.int _ _) ?_
          refine pE (bn (gn (wpL_rg ?_)))
          refine pM (.int _ _) ?_
          refine pBi ?_
          refine pA (.int _ _) ?_
          refine pE (gn ?_)
          cases hk; exact ⟨_, rfl, _, _, hO, St.hav _ ⟨rfl, rfl, rfl, trivial⟩⟩
  · replace hk := cf hb hk
    refine wpL_ex (ge (ge (be (gn ?_))))
    replace hk := lx hx1 hk
    refine wpL_sq (wpL_rg ?_)
    refine pM (.int _ _) ?_
    refine pA (.int _ _) ?_
    refine pE (gn (wpL_rt ?_))
    replace hk := Option.some.inj hk; subst hk; exact fin0 hO
/-- laws.FnExactBody -/
def f19 (aAN0 : Net) (aAT1 : Train) : Option Bool :=
  ((f77 aAN0 (1048576:Int)).bind fun v3 => (bif decide (v3 < (0:Int)) then some true else ((f78 aAT1 v3).bind fun v4 => (bif decide (v4 < (0:Int)) then some true else ((f80 aAN0).bind fun v5 => ((f81 aAT1).bind fun v7 => ((f110 v5 v7).bind fun v9 => ((f80 aAN0).bind fun v12 => ((f81 aAT1).bind fun v15 => ((f111 v12 v15).bind fun v18 => ((f112 v18 v9).bind fun v22 => (bif !v22 then some false else ((f80 aAN0).bind fun v24 => ((f83 v12 v24).bind fun v26 => (bif !v26 then some false else ((f81 aAT1).bind fun v29 => ((f84 v15 v29).bind fun v31 => (bif !v31 then some false else ((f103 v12 (1:Int)).bind fun z34 => ((f108 v15 z34.2).bind fun z35 => ((bif decide (z35.2 < (0:Int)) then some true else ((f112 v18 v9).bind fun v37 => some (!v37))).bind fun t36 => (bif t36 then some false else ((f113 v18 (1:Int)).bind fun z39 => ((f114 z39.1 (1:Int)).bind fun v40 => (bif decide (v40 < (0:Int)) then some false else (bif (v40 != z39.2) then some false else ((f80 aAN0).bind fun v42 => ((f81 aAT1).bind fun v44 => ((f111 v42 v44).bind fun v46 => ((f112 v46 v9).bind fun v50 => (bif !v50 then some false else ((f114 z39.1 (1:Int)).bind fun v52 => (bif decide (v52 < (0:Int)) then some false else (bif (v52 != z39.2) then some false else some true))))))))))))))))))))))))))))))))))
theorem f19_run {aAN0 : Net} {aAT1 : Train} {r : Bool} {l1 l2 m3 l4 : Nat} {H : Heap} {lk : Lk} (hk : f19 aAN0 aAT1 = some r) (hlk : 0 < lk.length := by simp) (hlo : LkOk lk H.length := by simp [LkOk]) : runL Try.prog hh 19 [.agg [.lit l1 aAN0.Pieces.length ((flatL 0) aAN0.Pieces), .lit l2 aAN0.Joints.length (flatL m3 aAN0.Joints)], .agg [.int .i64 aAT1.Front.Piece, .int .i64 aAT1.Front.At, .int .i64 aAT1.Front.Way, .int .i64 aAT1.Long, .lit l4 aAT1.Back.length ((flatL 0) aAT1.Back)]] H lk = some (.bool r, H) := by
  refine run_start Try.func19 rfl Try.ntmps19 Try.results19 rfl rfl fun hO => ?_
  unfold f19 at hk
  refine wpL_sq (wpL_rg ?_)
  refine pBox (cs := [_, _]) hO tZ121 (fun b1 G hO => ?_)
  refine pBox (cs := [_, _, _, _, _]) hO tZ125 (fun b2 G hO => ?_)
  refine pA (.bool _) ?_
  refine pE (gn (wpL_sq (wpL_rg ?_)))
  refine pA (.int _ _) ?_
  refine pE (gn (wpL_sq (wpL_rg ?_)))
  refine pLs hO 1 [_, _] tA121 tZ121 ?_
  refine pM (.int _ _) ?_
  obtain ⟨v3, hv3, hk⟩ := bs hk
  refine pCall (fun _ => f77_run hv3) ?_
  refine pA (.int _ _) ?_
  refine pE (gn (wpL_sq (wpL_sq (wpL_rg ?_))))
  refine pM (.int _ _) ?_
  refine pBi ?_
  refine pE (gn ?_)
  refine wpL_cd (b := decide (v3 < (0:Int))) (fun hb => ?_) (fun hb => ?_)
  · replace hk := ct hb hk
    refine wpL_sq (wpL_rg ?_)
    refine pA (.bool _) ?_
    refine pE (gn (wpL_rt (gr ?_)))
    replace hk := Option.some.inj hk; subst hk; exact fin0 hO
  · replace hk := cf hb hk
    refine wpL_sk (gn (wpL_sq (wpL_rg ?_)))
    refine pLs hO 0 [_, _, _, _, _] tA125 tZ125 ?_
    refine pM (.int _ _) ?_
    obtain ⟨v4, hv4, hk⟩ := bs hk
    refine pCall (fun _ => f78_run hv4) ?_
    refine pA (.int _ _) ?_
    refine pE (gn (wpL_sq (wpL_sq (wpL_rg ?_))))
    refine pM (.int _ _) ?_
    refine pBi ?_
    refine pE (gn ?_)
    refine wpL_cd (b := decide (v4 < (0:Int))) (fun hb => ?_) (fun hb => ?_)
    · replace hk := ct hb hk
      refine wpL_sq (wpL_rg ?_)
      refine pA (.bool _) ?_
      refine pE (gn (wpL_rt (gr ?_)))
      replace hk := Option.some.inj hk; subst hk; exact fin0 hO
    · replace hk := cf hb hk
      refine wpL_sk (gn (wpL_sq ?_))
      refine wpL_drw [(0, true), (2, true), (1, true), (3, false), (4, false), (5, false)] [_, _, _, _, _, _] (by decide +kernel) (by rfl) ?_
      refine pLs hO 1 [_, _] tA121 tZ121 ?_
      refine pLs hO 0 [_, _, _, _, _] tA125 tZ125 ?_
      obtain ⟨v5, hv5, hk⟩ := bs hk
      refine pCNs hO (fun _ => f80_run hv5) (fun u6 F6 G hO => ?_)
      obtain ⟨v7, hv7, hk⟩ := bs hk
      refine pCNs hO (fun _ => f81_run hv7) (fun u8 F8 G hO => ?_)
      obtain ⟨v9, hv9, hk⟩ := bs hk
      obtain ⟨_, hm10⟩ := ls_Net hO (j := 1) rfl (lk.length + 1) 7
      obtain ⟨_, hm11⟩ := ls_Train hO (j := 0) rfl (lk.length + 1) 7
      refine pCall (vs := [(.agg u6), (.agg u8)]) (caps := []) (fun _ => f110_run hv9) ?_ (h3 := (la_cons hm10 (la_cons hm11 la_nil)))
      refine pA (.lit _ _ _) ?_
      refine pE (gn (wpL_sq (wpL_rg ?_)))
      refine pLs hO 3 [_, _] tA121 tZ121 ?_
      obtain ⟨v12, hv12, hk⟩ := bs hk
      refine pCNs hO (fun _ => f80_run hv12) (fun u13 F13 G hO => ?_)
      refine pNew hO tZ132 t0132 (fun b14 G hO => ?_)
      refine pStS hO 0 1 tZ132 rfl (fun G hO => ?_)
      refine pE (gn (wpL_sq (wpL_rg ?_)))
      refine pLs hO 4 [_, _, _, _, _] tA125 tZ125 ?_
      obtain ⟨v15, hv15, hk⟩ := bs hk
      refine pCNs hO (fun _ => f81_run hv15) (fun u16 F16 G hO => ?_)
      refine pNew hO tZ136 t0136 (fun b17 G hO => ?_)
      refine pStS hO 0 1 tZ136 rfl (fun G hO => ?_)
      refine pE (gn (wpL_sq (wpL_rg ?_)))
      refine pLdS hO 2 3 tA132 tZ132 ?_
      refine pLdS hO 0 1 tA136 tZ136 ?_
      obtain ⟨v18, hv18, hk⟩ := bs hk
      obtain ⟨_, hm19⟩ := ls_Net hO (j := 3) rfl (lk.length + 1) 7
      obtain ⟨_, hm20⟩ := ls_Train hO (j := 1) rfl (lk.length + 1) 7
      refine pCN (vs := [(.agg u13), (.agg u16)]) (caps := []) hO (fun _ => f111_run hv18) (fun u21 F21 G hO => ?_) (h3 := (la_cons hm19 (la_cons hm20 la_nil)))
      refine pA u21 ?_
      refine pE (gn (wpL_sq (wpL_sq (wpL_rg ?_))))
      refine pM u21 ?_
      refine pM (.lit _ _ _) ?_
      obtain ⟨v22, hv22, hk⟩ := bs hk
      obtain ⟨_, hm23⟩ := ld_trF hO (j := 0) rfl (lk.length + 1) 8
      refine pCall (vs := [u21, (.lit _ _ _)]) (caps := []) (fun _ => f112_run hv22) ?_ (h3 := (la_cons hm23 (la_cons rfl la_nil)))
      refine pU ?_
      refine pE (gn ?_)
      refine wpL_cd (b := !v22) (fun hb => ?_) (fun hb => ?_)
      · replace hk := ct hb hk
        refine wpL_sq (wpL_rg ?_)
        refine pA (.bool _) ?_
        refine pE (gn (wpL_rt (gr ?_)))
        replace hk := Option.some.inj hk; subst hk; exact fin0 hO
      · replace hk := cf hb hk
        refine wpL_sk (gn (wpL_sq (wpL_sq ?_)))
        refine wpL_drw [(0, true), (1, true), (2, true), (3, false), (4, false)] [_, _, _, _, _] (by decide +kernel) (by rfl) ?_
        refine pLdS hO 3 4 tA132 tZ132 ?_
        refine pLs hO 8 [_, _] tA121 tZ121 ?_
        obtain ⟨v24, hv24, hk⟩ := bs hk
        refine pCNs hO (fun _ => f80_run hv24) (fun u25 F25 G hO => ?_)
        obtain ⟨v26, hv26, hk⟩ := bs hk
        obtain ⟨_, hm27⟩ := ls_Net hO (j := 5) rfl (lk.length + 1) 7
        obtain ⟨_, hm28⟩ := ls_Net hO (j := 0) rfl (lk.length + 1) 7
        refine pCall (vs := [(.agg u13), (.agg u25)]) (caps := []) (fun _ => f83_run hv26) ?_ (h3 := (la_cons hm27 (la_cons hm28 la_nil)))
        refine pU ?_
        refine pE (gn ?_)
        refine wpL_cd (b := !v26) (fun hb => ?_) (fun hb => ?_)
        · replace hk := ct hb hk
          refine wpL_sq (wpL_rg ?_)
          refine pA (.bool _) ?_
          refine pE (gn (wpL_rt (gr ?_)))
          replace hk := Option.some.inj hk; subst hk; exact fin0 hO
        · replace hk := cf hb hk
          refine wpL_sk (gn (wpL_sq (wpL_sq ?_)))
          refine wpL_drw [(0, true), (1, true), (2, true), (3, false), (4, false)] [_, _, _, _, _] (by decide +kernel) (by rfl) ?_
          refine pLdS hO 2 3 tA136 tZ136 ?_
          refine pLs hO 8 [_, _, _, _, _] tA125 tZ125 ?_
          obtain ⟨v29, hv29, hk⟩ := bs hk
          refine pCNs hO (fun _ => f81_run hv29) (fun u30 F30 G hO => ?_)
          obtain ⟨v31, hv31, hk⟩ := bs hk
          obtain ⟨_, hm32⟩ := ls_Train hO (j := 4) rfl (lk.length + 1) 7
          obtain ⟨_, hm33⟩ := ls_Train hO (j := 0) rfl (lk.length + 1) 7
          refine pCall (vs := [(.agg u16), (.agg u30)]) (caps := []) (fun _ => f84_run hv31) ?_ (h3 := (la_cons hm32 (la_cons hm33 la_nil)))
          refine pU ?_
          refine pE (gn ?_)
          refine wpL_cd (b := !v31) (fun hb => ?_) (fun hb => ?_)
          · replace hk := ct hb hk
            refine wpL_sq (wpL_rg ?_)
            refine pA (.bool _) ?_
            refine pE (gn (wpL_rt (gr ?_)))
            replace hk := Option.some.inj hk; subst hk; exact fin0 hO
          · replace hk := cf hb hk
            refine wpL_sk (gn (wpL_sq (wpL_rg ?_)))
            refine pA (.int _ _) ?_
            refine pE (gn (wpL_sq (wpL_rg ?_)))
            refine pLdS hO 5 6 tA132 tZ132 ?_
            refine pM (.int _ _) ?_
            obtain ⟨z34, hz34, hk⟩ := bs hk
            refine pCTo (y' := z34.1) (r := .int .i64 z34.2) hO 6 (Sub.all hO (j := 6) rfl) hlo (fun hF1 hS1 ht1 => f103_run hz34 ht1 hF1 hS1) (fun G hO => ?_)
            refine pA (.int _ _) ?_
            refine pE (gn (wpL_sq (wpL_rg ?_)))
            refine pLdS hO 3 4 tA136 tZ136 ?_
            refine pM (.int _ _) ?_
            obtain ⟨z35, hz35, hk⟩ := bs hk
            refine pCTo (y' := z35.1) (r := .int .i64 z35.2) hO 4 (Sub.all hO (j := 4) rfl) hlo (fun hF1 hS1 ht1 => f108_run hz35 ht1 hF1 hS1) (fun G hO => ?_)
            refine pA (.int _ _) ?_
            refine pE (gn (wpL_sq (wpL_sq (wpL_rg ?_))))
            refine pM (.int _ _) ?_
            refine pBi ?_
            refine pM (.bool _) ?_
            obtain ⟨t36, ht, hk⟩ := bs hk
            refine wpR_mid (l1 := [_, _, _, _, _]) (fun S' => ∃ J, S' = ⟨hav [(2, .ptr b1 0), (3, .ptr b2 0), (6, .lit 0 v9.length ((flatL 0) v9)), (9, u21), (63, .bool t36)] J, G⟩) ?_ ?_
            · refine bc (b := decide (z35.2 < (0:Int))) (fun hg1 => ?_) (fun hg1 => ?_)
              · replace hk := ct hg1 ht
                refine pGn hg1 ?_
                refine pGn hg1 ?_
                refine pGn hg1 ?_
                refine pGn hg1 ?_
                refine pPt hg1 (.bool _) ?_
                cases hk; exact pE ⟨_, St.hav _ ⟨rfl, rfl, rfl, rfl, rfl, trivial⟩⟩
              · replace hk := cf hg1 ht
                refine pGy hg1 ?_
                refine pM u21 ?_
                refine pGy hg1 ?_
                refine pM (.lit _ _ _) ?_
                refine pGy hg1 ?_
                obtain ⟨v37, hv37, hk⟩ := bs hk
                obtain ⟨_, hm38⟩ := ld_trF hO (j := 2) rfl (lk.length + 1) 8
                refine pCall (vs := [u21, (.lit _ _ _)]) (caps := []) (fun _ => f112_run hv37) ?_ (h3 := (la_cons hm38 (la_cons rfl la_nil)))
                refine pGy hg1 ?_
                refine pU ?_
                refine pPf hg1 (.bool _) ?_
                cases hk; exact pE ⟨_, St.hav _ ⟨rfl, rfl, rfl, rfl, rfl, trivial⟩⟩
            · rintro _ ⟨J, rfl⟩
              refine pE (gn ?_)
              refine wpL_cd (b := t36) (fun hb => ?_) (fun hb => ?_)
              · replace hk := ct hb hk
                refine wpL_sq (wpL_rg ?_)
                refine pA (.bool _) ?_
                refine pE (gn (wpL_rt (gr ?_)))
                replace hk := Option.some.inj hk; subst hk; exact fin0 hO
              · replace hk := cf hb hk
                refine wpL_sk (gn (wpL_sq (wpL_rg ?_)))
                refine pA (.int _ _) ?_
                refine pE (gn (wpL_sq (wpL_rg ?_)))
                refine pM u21 ?_
                refine pM (.int _ _) ?_
                obtain ⟨z39, hz39, hk⟩ := bs hk
                refine pCTo (y' := z39.1) (r := .int .i64 z39.2) hO 2 (Sub.all hO (j := 2) rfl) hlo (fun hF1 hS1 ht1 => f113_run hz39 ht1 hF1 hS1) (fun G hO => ?_)
                refine pA (.int _ _) ?_
                refine pE (gn (wpL_sq (wpL_rg ?_)))
                refine pA (.int _ _) ?_
                refine pE (gn (wpL_sq (wpL_rg ?_)))
                refine pM u21 ?_
                refine pM (.int _ _) ?_
                obtain ⟨v40, hv40, hk⟩ := bs hk
                obtain ⟨_, hm41⟩ := ld_trF hO (j := 2) rfl (lk.length + 1) 8
                refine pCall (vs := [u21, (.int _ _)]) (caps := []) (fun _ => f114_run hv40) ?_ (h3 := (la_cons hm41 (la_cons rfl la_nil)))
                refine pA (.int _ _) ?_
                refine pE (gn (wpL_sq (wpL_sq (wpL_rg ?_))))
                refine pM (.int _ _) ?_
                refine pBi ?_
                refine pE (gn ?_)
                refine wpL_cd (b := decide (v40 < (0:Int))) (fun hb => ?_) (fun hb => ?_)
                · replace hk := ct hb hk
                  refine wpL_sq (wpL_rg ?_)
                  refine pA (.bool _) ?_
                  refine pE (gn (wpL_rt (gr ?_)))
                  replace hk := Option.some.inj hk; subst hk; exact fin0 hO
                · replace hk := cf hb hk
                  refine wpL_sk (gn (wpL_sq (wpL_sq (wpL_rg ?_))))
                  refine pM (.int _ _) ?_
                  refine pM (.int _ _) ?_
                  refine pBi ?_
                  refine pE (gn ?_)
                  refine wpL_cd (b := (v40 != z39.2)) (fun hb => ?_) (fun hb => ?_)
                  · replace hk := ct hb hk
                    refine wpL_sq (wpL_rg ?_)
                    refine pA (.bool _) ?_
                    refine pE (gn (wpL_rt (gr ?_)))
                    replace hk := Option.some.inj hk; subst hk; exact fin0 hO
                  · replace hk := cf hb hk
                    refine wpL_sk (gn (wpL_sq ?_))
                    refine wpL_drw [(0, true), (2, true), (1, true), (3, false), (4, false), (5, false)] [_, _, _, _, _, _] (by decide +kernel) (by rfl) ?_
                    refine pLs hO 10 [_, _] tA121 tZ121 ?_
                    refine pLs hO 9 [_, _, _, _, _] tA125 tZ125 ?_
                    obtain ⟨v42, hv42, hk⟩ := bs hk
                    refine pCNs hO (fun _ => f80_run hv42) (fun u43 F43 G hO => ?_)
                    obtain ⟨v44, hv44, hk⟩ := bs hk
                    refine pCNs hO (fun _ => f81_run hv44) (fun u45 F45 G hO => ?_)
                    obtain ⟨v46, hv46, hk⟩ := bs hk
                    obtain ⟨_, hm47⟩ := ls_Net hO (j := 1) rfl (lk.length + 1) 7
                    obtain ⟨_, hm48⟩ := ls_Train hO (j := 0) rfl (lk.length + 1) 7
                    refine pCN (vs := [(.agg u43), (.agg u45)]) (caps := []) hO (fun _ => f111_run hv46) (fun u49 F49 G hO => ?_) (h3 := (la_cons hm47 (la_cons hm48 la_nil)))
                    refine pA u49 ?_
                    refine pE (gn (wpL_sq (wpL_sq (wpL_rg ?_))))
                    refine pM u49 ?_
                    refine pM (.lit _ _ _) ?_
                    obtain ⟨v50, hv50, hk⟩ := bs hk
                    obtain ⟨_, hm51⟩ := ld_trF hO (j := 0) rfl (lk.length + 1) 8
                    refine pCall (vs := [u49, (.lit _ _ _)]) (caps := []) (fun _ => f112_run hv50) ?_ (h3 := (la_cons hm51 (la_cons rfl la_nil)))
                    refine pU ?_
                    refine pE (gn ?_)
                    refine wpL_cd (b := !v50) (fun hb => ?_) (fun hb => ?_)
                    · replace hk := ct hb hk
                      refine wpL_sq (wpL_rg ?_)
                      refine pA (.bool _) ?_
                      refine pE (gn (wpL_rt (gr ?_)))
                      replace hk := Option.some.inj hk; subst hk; exact fin0 hO
                    · replace hk := cf hb hk
                      refine wpL_sk (gn (wpL_sq (wpL_rg ?_)))
                      refine pA (.int _ _) ?_
                      refine pE (gn (wpL_sq (wpL_rg ?_)))
                      refine pM u21 ?_
                      refine pM (.int _ _) ?_
                      obtain ⟨v52, hv52, hk⟩ := bs hk
                      obtain ⟨_, hm53⟩ := ld_trF hO (j := 5) rfl (lk.length + 1) 8
                      refine pCall (vs := [u21, (.int _ _)]) (caps := []) (fun _ => f114_run hv52) ?_ (h3 := (la_cons hm53 (la_cons rfl la_nil)))
                      refine pA (.int _ _) ?_
                      refine pE (gn (wpL_sq (wpL_sq (wpL_rg ?_))))
                      refine pM (.int _ _) ?_
                      refine pBi ?_
                      refine pE (gn ?_)
                      refine wpL_cd (b := decide (v52 < (0:Int))) (fun hb => ?_) (fun hb => ?_)
                      · replace hk := ct hb hk
                        refine wpL_sq (wpL_rg ?_)
                        refine pA (.bool _) ?_
                        refine pE (gn (wpL_rt (gr ?_)))
                        replace hk := Option.some.inj hk; subst hk; exact fin0 hO
                      · replace hk := cf hb hk
                        refine wpL_sk (gn (wpL_sq (wpL_sq (wpL_rg ?_))))
                        refine pM (.int _ _) ?_
                        refine pM (.int _ _) ?_
                        refine pBi ?_
                        refine pE (gn ?_)
                        refine wpL_cd (b := (v52 != z39.2)) (fun hb => ?_) (fun hb => ?_)
                        · replace hk := ct hb hk
                          refine wpL_sq (wpL_rg ?_)
                          refine pA (.bool _) ?_
                          refine pE (gn (wpL_rt (gr ?_)))
                          replace hk := Option.some.inj hk; subst hk; exact fin0 hO
                        · replace hk := cf hb hk
                          refine wpL_sk (gn (wpL_sq (wpL_rg ?_)))
                          refine pA (.bool _) ?_
                          refine pE (gn (wpL_rt ?_))
                          replace hk := Option.some.inj hk; subst hk; exact fin0 hO
end
end Go.Proofs.Ytkfekjcahepfnaa.K
