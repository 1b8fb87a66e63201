/-
  The functions that FnExactMeet reaches, as typed Lean functions, and that the interpreter computes them. Part 2 of 2. No conditions.
-/
import Derived.Test.YtkfekjcahepfnaaDMea
set_option linter.unusedVariables false
set_option linter.unusedSimpArgs false
set_option maxRecDepth 100000
namespace Go.Proofs.Ytkfekjcahepfnaa.K
noncomputable section
/-- impl.NetOk -/
def f288_L3 (aN0 : Net) (x9 : Int) (c10 : Joint) : Int → Option (Int ⊕ (Int ⊕ Fault)) := fun s =>
  (bif decide (s < (c10.Ends.length : Int)) then ((getI c10.Ends s).bind fun c13 => (bif (((decide (c13.Piece < (0:Int)) || decide (c13.Piece ≥ (aN0.Pieces.length : Int))) || decide (c13.Side < (0:Int))) || decide (c13.Side > (1:Int))) then (((some ({ Code := (3:Int), At := x9 } : Fault)).map Sum.inr).map Sum.inr) else some (.inl (w64 (s + (1:Int)))))) else ((some (.inl (w64 (x9 + (1:Int))))).map Sum.inr))
def f288_k5 (x17 : Int) (x18 : List (ByteArray × Bool)) : Option (((List (ByteArray × Bool)) × Int) ⊕ Fault) :=
  some (.inl (x18, w64 (x17 + (1:Int))))
def f288_L7 (x24 : Int) (c25 : Joint) : ((List (End × Int)) × Int) → Option (((List (End × Int)) × Int) ⊕ (((List (End × Int)) × Int) ⊕ Fault)) := fun s =>
  (bif decide (s.2 < (c25.Ends.length : Int)) then ((getI c25.Ends s.2).bind fun c29 => some (.inl (mset c29 (w64 ((mget c29 s.1 0) + (1:Int))) s.1, w64 (s.2 + (1:Int))))) else ((some (.inl (s.1, w64 (x24 + (1:Int))))).map Sum.inr))
def f288_L8 (aN0 : Net) (x23 : List (End × Int)) : Int → Option (Int ⊕ Fault) := fun s =>
  (bif decide (s < (aN0.Pieces.length : Int)) then (bif (((mget ({ Piece := s, Side := (0:Int) } : End) x23 0) != (1:Int)) || ((mget ({ Piece := s, Side := (1:Int) } : End) x23 0) != (1:Int))) then ((some ({ Code := (5:Int), At := s } : Fault)).map Sum.inr) else some (.inl (w64 (s + (1:Int))))) else ((some ({ Code := 0, At := 0 } : Fault)).map Sum.inr))
def f288_L6 (aN0 : Net) : ((List (End × Int)) × Int) → Option (((List (End × Int)) × Int) ⊕ Fault) := fun s =>
  (bif decide (s.2 < (aN0.Joints.length : Int)) then ((getI aN0.Joints s.2).bind fun c25 => (loopO (f288_L7 s.2 c25) (s.1, (0:Int)))) else ((loopO (f288_L8 aN0 s.1) ((0:Int))).map Sum.inr))
def f288_L4 (aN0 : Net) : ((List (ByteArray × Bool)) × Int) → Option (((List (ByteArray × Bool)) × Int) ⊕ Fault) := fun s =>
  (bif decide (s.2 < (aN0.Joints.length : Int)) then ((getI aN0.Joints s.2).bind fun c19 => (bif decide (c19.Kind ≤ (2:Int)) then (bif !(c19.Name.toList == ({ data := #[] } : ByteArray).toList) then ((some ({ Code := (4:Int), At := s.2 } : Fault)).map Sum.inr) else (f288_k5 s.2 s.1)) else ((f335 c19.Name).bind fun v21 => (bif (!v21 || (mget c19.Name s.1 false)) then ((some ({ Code := (4:Int), At := s.2 } : Fault)).map Sum.inr) else (f288_k5 s.2 (mset c19.Name true s.1)))))) else ((loopO (f288_L6 aN0) (([] : List (End × Int)), (0:Int))).map Sum.inr))
def f288_L2 (aN0 : Net) : Int → Option (Int ⊕ Fault) := fun s =>
  (bif decide (s < (aN0.Joints.length : Int)) then ((getI aN0.Joints s).bind fun c10 => (bif ((decide (c10.Kind < (1:Int)) || decide (c10.Kind > (4:Int))) || ((c10.Ends.length : Int) != c10.Kind)) then ((some ({ Code := (3:Int), At := s } : Fault)).map Sum.inr) else (loopO (f288_L3 aN0 s c10) ((0:Int))))) else ((loopO (f288_L4 aN0) (([] : List (ByteArray × Bool)), (0:Int))).map Sum.inr))
def f288_L1 (aN0 : Net) : ((List (ByteArray × Bool)) × Int) → Option (((List (ByteArray × Bool)) × Int) ⊕ Fault) := fun s =>
  (bif decide (s.2 < (aN0.Pieces.length : Int)) then ((getI aN0.Pieces s.2).bind fun c6 => ((f334 c6).bind fun v8 => (bif (!v8 || (mget c6.Name s.1 false)) then ((some ({ Code := (2:Int), At := s.2 } : Fault)).map Sum.inr) else some (.inl (mset c6.Name true s.1, w64 (s.2 + (1:Int))))))) else ((loopO (f288_L2 aN0) ((0:Int))).map Sum.inr))
def f288 (aN0 : Net) : Option Fault :=
  (bif ((((aN0.Pieces.length : Int) == (0:Int)) || decide ((aN0.Pieces.length : Int) > (100:Int))) || decide ((aN0.Joints.length : Int) > (120:Int))) then some ({ Code := (1:Int), At := (0:Int) } : Fault) else (loopO (f288_L1 aN0) (([] : List (ByteArray × Bool)), (0:Int))))
theorem f288_run {aN0 : Net} {r : Fault} {l1 l2 : Nat} {H : Heap} {lk : Lk} (hk : f288 aN0 = some r) (hlk : 0 < lk.length := by simp) : runL Try.prog hh 288 [.agg [.lit l1 aN0.Pieces.length (flat aN0.Pieces), .lit l2 aN0.Joints.length (flat aN0.Joints)]] H lk = some (.agg [.int .i64 r.Code, .int .i64 r.At], H) := by
  refine run_start Try.func288 rfl Try.ntmps288 Try.results288 rfl rfl fun hO => ?_
  unfold f288 at hk
  refine wpL_sq ?_
  refine wpL_rg ?_
  refine pBox (cs := [_, _]) hO tZ132 (fun b1 G hO => ?_)
  refine pNew hO tZ77 t077 (fun b2 G hO => ?_)
  refine pE ?_
  refine gn ?_
  refine wpL_sq ?_
  refine wpL_sq ?_
  refine wpL_rg ?_
  refine pF tF132_0 ?_
  refine pLo hO 1 (.lit _ _ _) tA129 ?_
  refine pLen tS129 ?_
  refine pBi ?_
  refine pM (.bool _) ?_
  refine wpR_mid (l1 := [_, _, _, _, _]) (fun S' => ∃ J, S' = ⟨hav [(1, .ptr b1 0), (2, .ptr b2 0), (27, .bool (((aN0.Pieces.length : Int) == (0:Int)) || decide ((aN0.Pieces.length : Int) > (100:Int))))] J, G⟩) ?_ ?_
  · refine bc (b := ((aN0.Pieces.length : Int) == (0:Int))) (fun hg1 => ?_) (fun hg1 => ?_)
    · refine pGn hg1 ?_
      refine pGn hg1 ?_
      refine pGn hg1 ?_
      refine pGn hg1 ?_
      refine pPt hg1 (.bool _) ?_
      exact pE ⟨_, St.hav _ ⟨rfl, rfl, by rw [hg1]; rfl, trivial⟩⟩
    · refine pGy hg1 ?_
      refine pF tF132_0 ?_
      refine pGy hg1 ?_
      refine pLo hO 1 (.lit _ _ _) tA129 ?_
      refine pGy hg1 ?_
      refine pLen tS129 ?_
      refine pGy hg1 ?_
      refine pBi ?_
      refine pPf hg1 (.bool _) ?_
      exact pE ⟨_, St.hav _ ⟨rfl, rfl, by rw [hg1]; rfl, trivial⟩⟩
  · rintro _ ⟨J, rfl⟩
    refine pM (.bool _) ?_
    refine wpR_mid (l1 := [_, _, _, _, _]) (fun S' => ∃ J, S' = ⟨hav [(1, .ptr b1 0), (2, .ptr b2 0), (33, .bool ((((aN0.Pieces.length : Int) == (0:Int)) || decide ((aN0.Pieces.length : Int) > (100:Int))) || decide ((aN0.Joints.length : Int) > (120:Int))))] J, G⟩) ?_ ?_
    · refine bc (b := (((aN0.Pieces.length : Int) == (0:Int)) || decide ((aN0.Pieces.length : Int) > (100:Int)))) (fun hg1 => ?_) (fun hg1 => ?_)
      · refine pGn hg1 ?_
        refine pGn hg1 ?_
        refine pGn hg1 ?_
        refine pGn hg1 ?_
        refine pPt hg1 (.bool _) ?_
        exact pE ⟨_, St.hav _ ⟨rfl, rfl, by rw [hg1]; rfl, trivial⟩⟩
      · refine pGy hg1 ?_
        refine pF tF132_1 ?_
        refine pGy hg1 ?_
        refine pLo hO 1 (.lit _ _ _) tA130 ?_
        refine pGy hg1 ?_
        refine pLen tS130 ?_
        refine pGy hg1 ?_
        refine pBi ?_
        refine pPf hg1 (.bool _) ?_
        exact pE ⟨_, St.hav _ ⟨rfl, rfl, by rw [hg1]; rfl, trivial⟩⟩
    · rintro _ ⟨J, rfl⟩
      refine pE ?_
      refine gn ?_
      refine wpL_cd (b := ((((aN0.Pieces.length : Int) == (0:Int)) || decide ((aN0.Pieces.length : Int) > (100:Int))) || decide ((aN0.Joints.length : Int) > (120:Int)))) (fun hb => ?_) (fun hb => ?_)
      · replace hk := ct hb hk
        refine wpL_sq ?_
        refine wpL_rg ?_
        refine pBd [_, _] t077 tP77 ?_
        refine pSt (xs := [_, _]) hO 0 tZ77 rfl (fun G hO => ?_)
        refine pE ?_
        refine gn ?_
        refine wpL_rt ?_
        refine gr ?_
        replace hk := Option.some.inj hk; subst hk; exact finZ hO (fz_agg (n := 2) (fz_c (fz_int _ _) (fz_c (fz_int _ _) (fz_n)))) (resS hO 0 [_, _] tA77 tZ77 resN)
      · replace hk := cf hb hk
        refine wpL_sk ?_
        refine gn ?_
        refine wpL_sq ?_
        refine wpL_rg ?_
        refine pMm ByteArray Bool hO (fun b3 G hO => ?_)
        refine pA (.mref _) ?_
        refine pE ?_
        refine gn ?_
        refine wpL_sq ?_
        refine wpL_sq ?_
        refine wpL_rg ?_
        refine pF tF132_0 ?_
        refine pLo hO 2 (.lit _ _ _) tA129 ?_
        refine pLen tS129 ?_
        refine pM (.int _ _) ?_
        refine pE ?_
        refine gn ?_
        refine wpL_bl ?_
        refine wpL_loopO (F := f288_L1 aN0) (fun s S' => ∃ (J : Nat → V) (G : Heap), Owns H G [.blk b3 (.mp (kvs s.1)), .blk b2 (.cells 2 [.int .i64 0, .int .i64 0]), .blk b1 (.cells 2 [.lit l1 aN0.Pieces.length (flat aN0.Pieces), .lit l2 aN0.Joints.length (flat aN0.Joints)])] ∧ S' = ⟨hav [(1, .ptr b1 0), (2, .ptr b2 0), (3, .mref b3), (37, .lit l1 aN0.Pieces.length (flat aN0.Pieces)), (38, .int .i64 (aN0.Pieces.length : Int)), (39, .int .i64 s.2)] J, G⟩) hk ⟨_, _, hO, St.hav _ ⟨rfl, rfl, rfl, rfl, rfl, rfl, trivial⟩⟩ ?_
        rintro ⟨x4, x5⟩ _ y1 ⟨J, G, hO, rfl⟩ hk hx1
        refine wpL_sq ?_
        refine wpL_rg ?_
        refine pBi ?_
        refine pE ?_
        refine gn ?_
        refine wpL_sq ?_
        refine wpL_cd (b := decide (x5 < (aN0.Pieces.length : Int))) (fun hb => ?_) (fun hb => ?_)
        · replace hk := ct hb hk
          refine wpL_sk ?_
          refine gn ?_
          refine wpL_sq ?_
          refine wpL_bl ?_
          refine wpL_sq ?_
          refine wpL_rg ?_
          refine pM (.int _ _) ?_
          obtain ⟨c6, hc6, hk⟩ := bs hk
          refine pX hc6 tE129 tZ266 ?_
          refine pLp (.agg [_, _, _, _]) (rd2 (off := 0) hc6 tA266 tZ266) ?_
          refine pNew hO tZ266 t0266 (fun b7 G hO => ?_)
          refine pA (.int _ _) ?_
          refine pSt (xs := [_, _, _, _]) hO 0 tZ266 rfl (fun G hO => ?_)
          refine pE ?_
          refine gn ?_
          refine wpL_sq ?_
          refine wpL_sq ?_
          refine wpL_rg ?_
          refine pLs hO 0 [_, _, _, _] tA266 tZ266 ?_
          obtain ⟨v8, hv8, hk⟩ := bs hk
          refine pCall (fun _ => f334_run hv8) ?_
          refine pU ?_
          refine pM (.bool _) ?_
          refine wpR_mid (l1 := [_, _, _, _, _]) (fun S' => ∃ J, S' = ⟨hav [(1, .ptr b1 0), (2, .ptr b2 0), (3, .mref b3), (4, .int .i64 x5), (5, .ptr b7 0), (37, .lit l1 aN0.Pieces.length (flat aN0.Pieces)), (38, .int .i64 (aN0.Pieces.length : Int)), (39, .int .i64 x5), (52, .bool (!v8 || (mget c6.Name x4 false)))] J, G⟩) ?_ ?_
          · refine bc (b := !v8) (fun hg1 => ?_) (fun hg1 => ?_)
            · refine pGn hg1 ?_
              refine pGn hg1 ?_
              refine pGn hg1 ?_
              refine pGn hg1 ?_
              refine pPt hg1 (.bool _) ?_
              exact pE ⟨_, St.hav _ ⟨rfl, rfl, rfl, rfl, rfl, rfl, rfl, rfl, by rw [hg1]; rfl, trivial⟩⟩
            · refine pGy hg1 ?_
              refine pM (.mref _) ?_
              refine pGy hg1 ?_
              refine pF tF266_0 ?_
              refine pGy hg1 ?_
              refine pLo hO 0 (.str _) tA9 ?_
              refine pGy hg1 ?_
              refine pLk c6.Name (false : Bool) (hO.get (k := 1) rfl).1 tM377 fit_str tY4 ?_
              refine pPf hg1 (.bool _) ?_
              exact pE ⟨_, St.hav _ ⟨rfl, rfl, rfl, rfl, rfl, rfl, rfl, rfl, by rw [hg1]; rfl, trivial⟩⟩
          · rintro _ ⟨J, rfl⟩
            refine pE ?_
            refine gn ?_
            refine wpL_cd (b := (!v8 || (mget c6.Name x4 false))) (fun hb => ?_) (fun hb => ?_)
            · replace hk := ct hb hk
              refine wpL_sq ?_
              refine wpL_rg ?_
              refine pM (.int _ _) ?_
              refine pBd [_, _] t077 tP77 ?_
              refine pSt (xs := [_, _]) hO 2 tZ77 rfl (fun G hO => ?_)
              refine pE ?_
              refine gn ?_
              refine wpL_rt ?_
              refine gr (br (gr (gr (br (gr ?_)))))
              replace hk := lx hx1 hk
              replace hk := Option.some.inj hk; subst hk; exact finZ hO (fz_agg (n := 2) (fz_c (fz_int _ _) (fz_c (fz_int _ _) (fz_n)))) (resS hO 2 [_, _] tA77 tZ77 resN)
            · replace hk := cf hb hk
              refine wpL_sk ?_
              refine gn ?_
              refine wpL_rg ?_
              refine pM (.mref _) ?_
              refine pF tF266_0 ?_
              refine pLo hO 0 (.str _) tA9 ?_
              refine pUp hO 1 c6.Name true tM377 fit_str rfl (fun G hO => ?_)
              refine pE ?_
              refine bn (gn ?_)
              refine wpL_rg ?_
              refine pBi ?_
              refine pM (.int _ _) ?_
              refine pE ?_
              refine gn ?_
              cases hk; exact ⟨_, rfl, _, _, (Owns.pick hO [1, 2, 3] (by decide) rfl), St.hav _ ⟨rfl, rfl, rfl, rfl, rfl, rfl, trivial⟩⟩
        · replace hk := cf hb hk
          refine wpL_ex ?_
          refine ge (ge (be (gn ?_)))
          replace hk := lx hx1 hk
          refine wpL_sq ?_
          refine wpL_sq ?_
          refine wpL_rg ?_
          refine pF tF132_1 ?_
          refine pLo hO 2 (.lit _ _ _) tA130 ?_
          refine pLen tS130 ?_
          refine pM (.int _ _) ?_
          refine pE ?_
          refine gn ?_
          refine wpL_bl ?_
          refine wpL_loopO (F := f288_L2 aN0) (fun s S' => ∃ (J : Nat → V) (G : Heap), Owns H G [.blk b2 (.cells 2 [.int .i64 0, .int .i64 0]), .blk b1 (.cells 2 [.lit l1 aN0.Pieces.length (flat aN0.Pieces), .lit l2 aN0.Joints.length (flat aN0.Joints)])] ∧ S' = ⟨hav [(1, .ptr b1 0), (2, .ptr b2 0), (60, .lit l2 aN0.Joints.length (flat aN0.Joints)), (61, .int .i64 (aN0.Joints.length : Int)), (62, .int .i64 s)] J, G⟩) hk ⟨_, _, (Owns.pick hO [1, 2] (by decide) rfl), St.hav _ ⟨rfl, rfl, rfl, rfl, rfl, trivial⟩⟩ ?_
          rintro x9 _ y1 ⟨J, G, hO, rfl⟩ hk hx1
          refine wpL_sq ?_
          refine wpL_rg ?_
          refine pBi ?_
          refine pE ?_
          refine gn ?_
          refine wpL_sq ?_
          refine wpL_cd (b := decide (x9 < (aN0.Joints.length : Int))) (fun hb => ?_) (fun hb => ?_)
          · replace hk := ct hb hk
            refine wpL_sk ?_
            refine gn ?_
            refine wpL_sq ?_
            refine wpL_bl ?_
            refine wpL_sq ?_
            refine wpL_rg ?_
            refine pM (.int _ _) ?_
            obtain ⟨c10, hc10, hk⟩ := bs hk
            refine pX hc10 tE130 tZ332 ?_
            refine pLp (.agg [_, _, _]) (rd2 (off := 0) hc10 tA332 tZ332) ?_
            refine pNew hO tZ332 t0332 (fun b11 G hO => ?_)
            refine pA (.int _ _) ?_
            refine pSt (xs := [_, _, _]) hO 0 tZ332 rfl (fun G hO => ?_)
            refine pE ?_
            refine gn ?_
            refine wpL_sq ?_
            refine wpL_sq ?_
            refine wpL_rg ?_
            refine pF tF332_0 ?_
            refine pLo hO 0 (.int _ _) tA3 ?_
            refine pBi ?_
            refine pM (.bool _) ?_
            refine wpR_mid (l1 := [_, _, _, _]) (fun S' => ∃ J, S' = ⟨hav [(1, .ptr b1 0), (2, .ptr b2 0), (6, .int .i64 x9), (7, .ptr b11 0), (60, .lit l2 aN0.Joints.length (flat aN0.Joints)), (61, .int .i64 (aN0.Joints.length : Int)), (62, .int .i64 x9), (74, .bool (decide (c10.Kind < (1:Int)) || decide (c10.Kind > (4:Int))))] J, G⟩) ?_ ?_
            · refine bc (b := decide (c10.Kind < (1:Int))) (fun hg1 => ?_) (fun hg1 => ?_)
              · refine pGn hg1 ?_
                refine pGn hg1 ?_
                refine pGn hg1 ?_
                refine pPt hg1 (.bool _) ?_
                exact pE ⟨_, St.hav _ ⟨rfl, rfl, rfl, rfl, rfl, rfl, rfl, by rw [hg1]; rfl, trivial⟩⟩
              · refine pGy hg1 ?_
                refine pF tF332_0 ?_
                refine pGy hg1 ?_
                refine pLo hO 0 (.int _ _) tA3 ?_
                refine pGy hg1 ?_
                refine pBi ?_
                refine pPf hg1 (.bool _) ?_
                exact pE ⟨_, St.hav _ ⟨rfl, rfl, rfl, rfl, rfl, rfl, rfl, by rw [hg1]; rfl, trivial⟩⟩
            · rintro _ ⟨J, rfl⟩
              refine pM (.bool _) ?_
              refine wpR_mid (l1 := [_, _, _, _, _, _, _]) (fun S' => ∃ J, S' = ⟨hav [(1, .ptr b1 0), (2, .ptr b2 0), (6, .int .i64 x9), (7, .ptr b11 0), (60, .lit l2 aN0.Joints.length (flat aN0.Joints)), (61, .int .i64 (aN0.Joints.length : Int)), (62, .int .i64 x9), (82, .bool ((decide (c10.Kind < (1:Int)) || decide (c10.Kind > (4:Int))) || ((c10.Ends.length : Int) != c10.Kind)))] J, G⟩) ?_ ?_
              · refine bc (b := (decide (c10.Kind < (1:Int)) || decide (c10.Kind > (4:Int)))) (fun hg1 => ?_) (fun hg1 => ?_)
                · refine pGn hg1 ?_
                  refine pGn hg1 ?_
                  refine pGn hg1 ?_
                  refine pGn hg1 ?_
                  refine pGn hg1 ?_
                  refine pGn hg1 ?_
                  refine pPt hg1 (.bool _) ?_
                  exact pE ⟨_, St.hav _ ⟨rfl, rfl, rfl, rfl, rfl, rfl, rfl, by rw [hg1]; rfl, trivial⟩⟩
                · refine pGy hg1 ?_
                  refine pF tF332_2 ?_
                  refine pGy hg1 ?_
                  refine pLo hO 0 (.lit _ _ _) tA330 ?_
                  refine pGy hg1 ?_
                  refine pLen tS330 ?_
                  refine pGy hg1 ?_
                  refine pF tF332_0 ?_
                  refine pGy hg1 ?_
                  refine pLo hO 0 (.int _ _) tA3 ?_
                  refine pGy hg1 ?_
                  refine pBi ?_
                  refine pPf hg1 (.bool _) ?_
                  exact pE ⟨_, St.hav _ ⟨rfl, rfl, rfl, rfl, rfl, rfl, rfl, by rw [hg1]; rfl, trivial⟩⟩
              · rintro _ ⟨J, rfl⟩
                refine pE ?_
                refine gn ?_
                refine wpL_cd (b := ((decide (c10.Kind < (1:Int)) || decide (c10.Kind > (4:Int))) || ((c10.Ends.length : Int) != c10.Kind))) (fun hb => ?_) (fun hb => ?_)
                · replace hk := ct hb hk
                  refine wpL_sq ?_
                  refine wpL_rg ?_
                  refine pM (.int _ _) ?_
                  refine pBd [_, _] t077 tP77 ?_
                  refine pSt (xs := [_, _]) hO 1 tZ77 rfl (fun G hO => ?_)
                  refine pE ?_
                  refine gn ?_
                  refine wpL_rt ?_
                  refine gr (br (gr (gr (br (gr ?_)))))
                  replace hk := lx hx1 hk
                  replace hk := Option.some.inj hk; subst hk; exact finZ hO (fz_agg (n := 2) (fz_c (fz_int _ _) (fz_c (fz_int _ _) (fz_n)))) (resS hO 1 [_, _] tA77 tZ77 resN)
                · replace hk := cf hb hk
                  refine wpL_sk ?_
                  refine gn ?_
                  refine wpL_sq ?_
                  refine wpL_rg ?_
                  refine pF tF332_2 ?_
                  refine pLo hO 0 (.lit _ _ _) tA330 ?_
                  refine pLen tS330 ?_
                  refine pM (.int _ _) ?_
                  refine pE ?_
                  refine gn ?_
                  refine wpL_bl ?_
                  refine wpL_loopO (F := f288_L3 aN0 x9 c10) (fun s S' => ∃ (J : Nat → V) (G : Heap), Owns H G [.blk b2 (.cells 2 [.int .i64 0, .int .i64 0]), .blk b1 (.cells 2 [.lit l1 aN0.Pieces.length (flat aN0.Pieces), .lit l2 aN0.Joints.length (flat aN0.Joints)])] ∧ S' = ⟨hav [(1, .ptr b1 0), (2, .ptr b2 0), (6, .int .i64 x9), (60, .lit l2 aN0.Joints.length (flat aN0.Joints)), (61, .int .i64 (aN0.Joints.length : Int)), (62, .int .i64 x9), (86, .lit 0 c10.Ends.length (flat c10.Ends)), (87, .int .i64 (c10.Ends.length : Int)), (88, .int .i64 s)] J, G⟩) hk ⟨_, _, (Owns.pick hO [1, 2] (by decide) rfl), St.hav _ ⟨rfl, rfl, rfl, rfl, rfl, rfl, rfl, rfl, rfl, trivial⟩⟩ ?_
                  rintro x12 _ y2 ⟨J, G, hO, rfl⟩ hk hx2
                  refine wpL_sq ?_
                  refine wpL_rg ?_
                  refine pBi ?_
                  refine pE ?_
                  refine gn ?_
                  refine wpL_sq ?_
                  refine wpL_cd (b := decide (x12 < (c10.Ends.length : Int))) (fun hb => ?_) (fun hb => ?_)
                  · replace hk := ct hb hk
                    refine wpL_sk ?_
                    refine gn ?_
                    refine wpL_sq ?_
                    refine wpL_bl ?_
                    refine wpL_sq ?_
                    refine wpL_rg ?_
                    obtain ⟨c13, hc13, hk⟩ := bs hk
                    refine pX hc13 tE330 tZ260 ?_
                    refine pLp (.agg [_, _]) (rd2 (off := 0) hc13 tA260 tZ260) ?_
                    refine pNew hO tZ260 t0260 (fun b14 G hO => ?_)
                    refine pSt (xs := [_, _]) hO 0 tZ260 rfl (fun G hO => ?_)
                    refine pE ?_
                    refine gn ?_
                    refine wpL_sq ?_
                    refine wpL_rg ?_
                    refine pF tF260_0 ?_
                    refine pLo hO 0 (.int _ _) tA3 ?_
                    refine pBi ?_
                    refine pM (.bool _) ?_
                    refine wpR_mid (l1 := [_, _, _, _, _, _, _]) (fun S' => ∃ J, S' = ⟨hav [(1, .ptr b1 0), (2, .ptr b2 0), (6, .int .i64 x9), (9, .ptr b14 0), (60, .lit l2 aN0.Joints.length (flat aN0.Joints)), (61, .int .i64 (aN0.Joints.length : Int)), (62, .int .i64 x9), (86, .lit 0 c10.Ends.length (flat c10.Ends)), (87, .int .i64 (c10.Ends.length : Int)), (88, .int .i64 x12), (102, .bool (decide (c13.Piece < (0:Int)) || decide (c13.Piece ≥ (aN0.Pieces.length : Int))))] J, G⟩) ?_ ?_
                    · refine bc (b := decide (c13.Piece < (0:Int))) (fun hg1 => ?_) (fun hg1 => ?_)
                      · refine pGn hg1 ?_
                        refine pGn hg1 ?_
                        refine pGn hg1 ?_
                        refine pGn hg1 ?_
                        refine pGn hg1 ?_
                        refine pGn hg1 ?_
                        refine pPt hg1 (.bool _) ?_
                        exact pE ⟨_, St.hav _ ⟨rfl, rfl, rfl, rfl, rfl, rfl, rfl, rfl, rfl, rfl, by rw [hg1]; rfl, trivial⟩⟩
                      · refine pGy hg1 ?_
                        refine pF tF260_0 ?_
                        refine pGy hg1 ?_
                        refine pLo hO 0 (.int _ _) tA3 ?_
                        refine pGy hg1 ?_
                        refine pF tF132_0 ?_
                        refine pGy hg1 ?_
                        refine pLo hO 2 (.lit _ _ _) tA129 ?_
                        refine pGy hg1 ?_
                        refine pLen tS129 ?_
                        refine pGy hg1 ?_
                        refine pBi ?_
                        refine pPf hg1 (.bool _) ?_
                        exact pE ⟨_, St.hav _ ⟨rfl, rfl, rfl, rfl, rfl, rfl, rfl, rfl, rfl, rfl, by rw [hg1]; rfl, trivial⟩⟩
                    · rintro _ ⟨J, rfl⟩
                      refine pM (.bool _) ?_
                      refine wpR_mid (l1 := [_, _, _, _]) (fun S' => ∃ J, S' = ⟨hav [(1, .ptr b1 0), (2, .ptr b2 0), (6, .int .i64 x9), (9, .ptr b14 0), (60, .lit l2 aN0.Joints.length (flat aN0.Joints)), (61, .int .i64 (aN0.Joints.length : Int)), (62, .int .i64 x9), (86, .lit 0 c10.Ends.length (flat c10.Ends)), (87, .int .i64 (c10.Ends.length : Int)), (88, .int .i64 x12), (107, .bool ((decide (c13.Piece < (0:Int)) || decide (c13.Piece ≥ (aN0.Pieces.length : Int))) || decide (c13.Side < (0:Int))))] J, G⟩) ?_ ?_
                      · refine bc (b := (decide (c13.Piece < (0:Int)) || decide (c13.Piece ≥ (aN0.Pieces.length : Int)))) (fun hg1 => ?_) (fun hg1 => ?_)
                        · refine pGn hg1 ?_
                          refine pGn hg1 ?_
                          refine pGn hg1 ?_
                          refine pPt hg1 (.bool _) ?_
                          exact pE ⟨_, St.hav _ ⟨rfl, rfl, rfl, rfl, rfl, rfl, rfl, rfl, rfl, rfl, by rw [hg1]; rfl, trivial⟩⟩
                        · refine pGy hg1 ?_
                          refine pF tF260_1 ?_
                          refine pGy hg1 ?_
                          refine pLo hO 0 (.int _ _) tA3 ?_
                          refine pGy hg1 ?_
                          refine pBi ?_
                          refine pPf hg1 (.bool _) ?_
                          exact pE ⟨_, St.hav _ ⟨rfl, rfl, rfl, rfl, rfl, rfl, rfl, rfl, rfl, rfl, by rw [hg1]; rfl, trivial⟩⟩
                      · rintro _ ⟨J, rfl⟩
                        refine pM (.bool _) ?_
                        refine wpR_mid (l1 := [_, _, _, _]) (fun S' => ∃ J, S' = ⟨hav [(1, .ptr b1 0), (2, .ptr b2 0), (6, .int .i64 x9), (60, .lit l2 aN0.Joints.length (flat aN0.Joints)), (61, .int .i64 (aN0.Joints.length : Int)), (62, .int .i64 x9), (86, .lit 0 c10.Ends.length (flat c10.Ends)), (87, .int .i64 (c10.Ends.length : Int)), (88, .int .i64 x12), (112, .bool (((decide (c13.Piece < (0:Int)) || decide (c13.Piece ≥ (aN0.Pieces.length : Int))) || decide (c13.Side < (0:Int))) || decide (c13.Side > (1:Int))))] J, G⟩) ?_ ?_
                        · refine bc (b := ((decide (c13.Piece < (0:Int)) || decide (c13.Piece ≥ (aN0.Pieces.length : Int))) || decide (c13.Side < (0:Int)))) (fun hg1 => ?_) (fun hg1 => ?_)
                          · refine pGn hg1 ?_
                            refine pGn hg1 ?_
                            refine pGn hg1 ?_
                            refine pPt hg1 (.bool _) ?_
                            exact pE ⟨_, St.hav _ ⟨rfl, rfl, rfl, rfl, rfl, rfl, rfl, rfl, rfl, by rw [hg1]; rfl, trivial⟩⟩
                          · refine pGy hg1 ?_
                            refine pF tF260_1 ?_
                            refine pGy hg1 ?_
                            refine pLo hO 0 (.int _ _) tA3 ?_
                            refine pGy hg1 ?_
                            refine pBi ?_
                            refine pPf hg1 (.bool _) ?_
                            exact pE ⟨_, St.hav _ ⟨rfl, rfl, rfl, rfl, rfl, rfl, rfl, rfl, rfl, by rw [hg1]; rfl, trivial⟩⟩
                        · rintro _ ⟨J, rfl⟩
                          refine pE ?_
                          refine gn ?_
                          refine wpL_cd (b := (((decide (c13.Piece < (0:Int)) || decide (c13.Piece ≥ (aN0.Pieces.length : Int))) || decide (c13.Side < (0:Int))) || decide (c13.Side > (1:Int)))) (fun hb => ?_) (fun hb => ?_)
                          · replace hk := ct hb hk
                            refine wpL_sq ?_
                            refine wpL_rg ?_
                            refine pM (.int _ _) ?_
                            refine pBd [_, _] t077 tP77 ?_
                            refine pSt (xs := [_, _]) hO 1 tZ77 rfl (fun G hO => ?_)
                            refine pE ?_
                            refine gn ?_
                            refine wpL_rt ?_
                            refine br (gr (gr (br (br (gr (gr (br (gr ?_))))))))
                            replace hk := lx hx2 hk
                            replace hk := lx hx1 hk
                            replace hk := Option.some.inj hk; subst hk; exact finZ hO (fz_agg (n := 2) (fz_c (fz_int _ _) (fz_c (fz_int _ _) (fz_n)))) (resS hO 1 [_, _] tA77 tZ77 resN)
                          · replace hk := cf hb hk
                            refine wpL_sk ?_
                            refine bn (gn ?_)
                            refine wpL_rg ?_
                            refine pBi ?_
                            refine pM (.int _ _) ?_
                            refine pE ?_
                            refine gn ?_
                            cases hk; exact ⟨_, rfl, _, _, (Owns.pick hO [1, 2] (by decide) rfl), St.hav _ ⟨rfl, rfl, rfl, rfl, rfl, rfl, rfl, rfl, rfl, trivial⟩⟩
                  · replace hk := cf hb hk
                    refine wpL_ex ?_
                    refine ge (ge (be (bn (gn ?_))))
                    replace hk := lx hx2 hk
                    refine wpL_rg ?_
                    refine pBi ?_
                    refine pM (.int _ _) ?_
                    refine pE ?_
                    refine gn ?_
                    cases hk; exact ⟨_, rfl, _, _, hO, St.hav _ ⟨rfl, rfl, rfl, rfl, rfl, trivial⟩⟩
          · replace hk := cf hb hk
            refine wpL_ex ?_
            refine ge (ge (be (gn ?_)))
            replace hk := lx hx1 hk
            refine wpL_sq ?_
            refine wpL_rg ?_
            refine pMm ByteArray Bool hO (fun b15 G hO => ?_)
            refine pA (.mref _) ?_
            refine pE ?_
            refine gn ?_
            refine wpL_sq ?_
            refine wpL_sq ?_
            refine wpL_rg ?_
            refine pF tF132_1 ?_
            refine pLo hO 2 (.lit _ _ _) tA130 ?_
            refine pLen tS130 ?_
            refine pM (.int _ _) ?_
            refine pE ?_
            refine gn ?_
            refine wpL_bl ?_
            refine wpL_loopO (F := f288_L4 aN0) (fun s S' => ∃ (J : Nat → V) (G : Heap), Owns H G [.blk b15 (.mp (kvs s.1)), .blk b2 (.cells 2 [.int .i64 0, .int .i64 0]), .blk b1 (.cells 2 [.lit l1 aN0.Pieces.length (flat aN0.Pieces), .lit l2 aN0.Joints.length (flat aN0.Joints)])] ∧ S' = ⟨hav [(1, .ptr b1 0), (2, .ptr b2 0), (3, .mref b15), (119, .lit l2 aN0.Joints.length (flat aN0.Joints)), (120, .int .i64 (aN0.Joints.length : Int)), (121, .int .i64 s.2)] J, G⟩) hk ⟨_, _, hO, St.hav _ ⟨rfl, rfl, rfl, rfl, rfl, rfl, trivial⟩⟩ ?_
            rintro ⟨x16, x17⟩ _ y1 ⟨J, G, hO, rfl⟩ hk hx1
            refine wpL_sq ?_
            refine wpL_rg ?_
            refine pBi ?_
            refine pE ?_
            refine gn ?_
            refine wpL_sq ?_
            refine wpL_cd (b := decide (x17 < (aN0.Joints.length : Int))) (fun hb => ?_) (fun hb => ?_)
            · replace hk := ct hb hk
              refine wpL_sk ?_
              refine gn ?_
              refine wpL_mid (fun S' => ∃ (x18 : List (ByteArray × Bool)) (J : Nat → V) (G : Heap), f288_k5 x17 x18 = some y1 ∧ Owns H G [.blk b15 (.mp (kvs x18)), .blk b2 (.cells 2 [.int .i64 0, .int .i64 0]), .blk b1 (.cells 2 [.lit l1 aN0.Pieces.length (flat aN0.Pieces), .lit l2 aN0.Joints.length (flat aN0.Joints)])] ∧ S' = ⟨hav [(1, .ptr b1 0), (2, .ptr b2 0), (3, .mref b15), (119, .lit l2 aN0.Joints.length (flat aN0.Joints)), (120, .int .i64 (aN0.Joints.length : Int)), (121, .int .i64 x17)] J, G⟩) ?_ ?_
              · refine wpL_bl ?_
                refine wpL_sq ?_
                refine wpL_rg ?_
                refine pM (.int _ _) ?_
                obtain ⟨c19, hc19, hk⟩ := bs hk
                refine pX hc19 tE130 tZ332 ?_
                refine pLp (.agg [_, _, _]) (rd2 (off := 0) hc19 tA332 tZ332) ?_
                refine pNew hO tZ332 t0332 (fun b20 G hO => ?_)
                refine pA (.int _ _) ?_
                refine pSt (xs := [_, _, _]) hO 0 tZ332 rfl (fun G hO => ?_)
                refine pE ?_
                refine gn ?_
                refine wpL_sq ?_
                refine wpL_sq ?_
                refine wpL_rg ?_
                refine pF tF332_0 ?_
                refine pLo hO 0 (.int _ _) tA3 ?_
                refine pBi ?_
                refine pE ?_
                refine gn ?_
                refine wpL_cd (b := decide (c19.Kind ≤ (2:Int))) (fun hb => ?_) (fun hb => ?_)
                · replace hk := ct hb hk
                  refine wpL_sq ?_
                  refine wpL_sq ?_
                  refine wpL_rg ?_
                  refine pF tF332_1 ?_
                  refine pLo hO 0 (.str _) tA9 ?_
                  refine pB (a := .str _) (b := .str _) ?_
                  refine pE ?_
                  refine gn ?_
                  refine wpL_cd (b := !(c19.Name.toList == ({ data := #[] } : ByteArray).toList)) (fun hb => ?_) (fun hb => ?_)
                  · replace hk := ct hb hk
                    refine wpL_sq ?_
                    refine wpL_rg ?_
                    refine pM (.int _ _) ?_
                    refine pBd [_, _] t077 tP77 ?_
                    refine pSt (xs := [_, _]) hO 2 tZ77 rfl (fun G hO => ?_)
                    refine pE ?_
                    refine gn ?_
                    refine wpL_rt ?_
                    refine gr (gr (br (gr (gr (br (gr ?_))))))
                    replace hk := lx hx1 hk
                    replace hk := Option.some.inj hk; subst hk; exact finZ hO (fz_agg (n := 2) (fz_c (fz_int _ _) (fz_c (fz_int _ _) (fz_n)))) (resS hO 2 [_, _] tA77 tZ77 resN)
                  · replace hk := cf hb hk
                    refine wpL_sk ?_
                    refine gn ?_
                    refine wpL_ex ?_
                    refine ge (be (gn ?_))
                    exact ⟨x16, _, _, hk, (Owns.pick hO [1, 2, 3] (by decide) rfl), St.hav _ ⟨rfl, rfl, rfl, rfl, rfl, rfl, trivial⟩⟩
                · replace hk := cf hb hk
                  refine wpL_sk ?_
                  refine gn ?_
                  refine wpL_sq ?_
                  refine wpL_sq ?_
                  refine wpL_rg ?_
                  refine pF tF332_1 ?_
                  refine pLo hO 0 (.str _) tA9 ?_
                  obtain ⟨v21, hv21, hk⟩ := bs hk
                  refine pCall (fun _ => f335_run hv21) ?_
                  refine pU ?_
                  refine pM (.bool _) ?_
                  refine wpR_mid (l1 := [_, _, _, _, _]) (fun S' => ∃ J, S' = ⟨hav [(1, .ptr b1 0), (2, .ptr b2 0), (3, .mref b15), (10, .int .i64 x17), (11, .ptr b20 0), (119, .lit l2 aN0.Joints.length (flat aN0.Joints)), (120, .int .i64 (aN0.Joints.length : Int)), (121, .int .i64 x17), (143, .bool (!v21 || (mget c19.Name x16 false)))] J, G⟩) ?_ ?_
                  · refine bc (b := !v21) (fun hg1 => ?_) (fun hg1 => ?_)
                    · refine pGn hg1 ?_
                      refine pGn hg1 ?_
                      refine pGn hg1 ?_
                      refine pGn hg1 ?_
                      refine pPt hg1 (.bool _) ?_
                      exact pE ⟨_, St.hav _ ⟨rfl, rfl, rfl, rfl, rfl, rfl, rfl, rfl, by rw [hg1]; rfl, trivial⟩⟩
                    · refine pGy hg1 ?_
                      refine pM (.mref _) ?_
                      refine pGy hg1 ?_
                      refine pF tF332_1 ?_
                      refine pGy hg1 ?_
                      refine pLo hO 0 (.str _) tA9 ?_
                      refine pGy hg1 ?_
                      refine pLk c19.Name (false : Bool) (hO.get (k := 1) rfl).1 tM377 fit_str tY4 ?_
                      refine pPf hg1 (.bool _) ?_
                      exact pE ⟨_, St.hav _ ⟨rfl, rfl, rfl, rfl, rfl, rfl, rfl, rfl, by rw [hg1]; rfl, trivial⟩⟩
                  · rintro _ ⟨J, rfl⟩
                    refine pE ?_
                    refine gn ?_
                    refine wpL_cd (b := (!v21 || (mget c19.Name x16 false))) (fun hb => ?_) (fun hb => ?_)
                    · replace hk := ct hb hk
                      refine wpL_sq ?_
                      refine wpL_rg ?_
                      refine pM (.int _ _) ?_
                      refine pBd [_, _] t077 tP77 ?_
                      refine pSt (xs := [_, _]) hO 2 tZ77 rfl (fun G hO => ?_)
                      refine pE ?_
                      refine gn ?_
                      refine wpL_rt ?_
                      refine gr (br (gr (gr (br (gr ?_)))))
                      replace hk := lx hx1 hk
                      replace hk := Option.some.inj hk; subst hk; exact finZ hO (fz_agg (n := 2) (fz_c (fz_int _ _) (fz_c (fz_int _ _) (fz_n)))) (resS hO 2 [_, _] tA77 tZ77 resN)
                    · replace hk := cf hb hk
                      refine wpL_sk ?_
                      refine gn ?_
                      refine wpL_rg ?_
                      refine pM (.mref _) ?_
                      refine pF tF332_1 ?_
                      refine pLo hO 0 (.str _) tA9 ?_
                      refine pUp hO 1 c19.Name true tM377 fit_str rfl (fun G hO => ?_)
                      refine pE ?_
                      refine bn (gn ?_)
                      exact ⟨mset c19.Name true x16, _, _, hk, (Owns.pick hO [1, 2, 3] (by decide) rfl), St.hav _ ⟨rfl, rfl, rfl, rfl, rfl, rfl, trivial⟩⟩
              · rintro _ ⟨x18, J, G, hk, hO, rfl⟩
                refine wpL_rg ?_
                refine pBi ?_
                refine pM (.int _ _) ?_
                refine pE ?_
                refine gn ?_
                cases hk; exact ⟨_, rfl, _, _, hO, St.hav _ ⟨rfl, rfl, rfl, rfl, rfl, rfl, trivial⟩⟩
            · replace hk := cf hb hk
              refine wpL_ex ?_
              refine ge (ge (be (gn ?_)))
              replace hk := lx hx1 hk
              refine wpL_sq ?_
              refine wpL_rg ?_
              refine pMm End Int hO (fun b22 G hO => ?_)
              refine pA (.mref _) ?_
              refine pE ?_
              refine gn ?_
              refine wpL_sq ?_
              refine wpL_sq ?_
              refine wpL_rg ?_
              refine pF tF132_1 ?_
              refine pLo hO 3 (.lit _ _ _) tA130 ?_
              refine pLen tS130 ?_
              refine pM (.int _ _) ?_
              refine pE ?_
              refine gn ?_
              refine wpL_bl ?_
              refine wpL_loopO (F := f288_L6 aN0) (fun s S' => ∃ (J : Nat → V) (G : Heap), Owns H G [.blk b22 (.mp (kvs s.1)), .blk b2 (.cells 2 [.int .i64 0, .int .i64 0]), .blk b1 (.cells 2 [.lit l1 aN0.Pieces.length (flat aN0.Pieces), .lit l2 aN0.Joints.length (flat aN0.Joints)])] ∧ S' = ⟨hav [(1, .ptr b1 0), (2, .ptr b2 0), (12, .mref b22), (152, .lit l2 aN0.Joints.length (flat aN0.Joints)), (153, .int .i64 (aN0.Joints.length : Int)), (154, .int .i64 s.2)] J, G⟩) hk ⟨_, _, (Owns.pick hO [0, 2, 3] (by decide) rfl), St.hav _ ⟨rfl, rfl, rfl, rfl, rfl, rfl, trivial⟩⟩ ?_
              rintro ⟨x23, x24⟩ _ y1 ⟨J, G, hO, rfl⟩ hk hx1
              refine wpL_sq ?_
              refine wpL_rg ?_
              refine pBi ?_
              refine pE ?_
              refine gn ?_
              refine wpL_sq ?_
              refine wpL_cd (b := decide (x24 < (aN0.Joints.length : Int))) (fun hb => ?_) (fun hb => ?_)
              · replace hk := ct hb hk
                refine wpL_sk ?_
                refine gn ?_
                refine wpL_sq ?_
                refine wpL_bl ?_
                refine wpL_sq ?_
                refine wpL_rg ?_
                obtain ⟨c25, hc25, hk⟩ := bs hk
                refine pX hc25 tE130 tZ332 ?_
                refine pLp (.agg [_, _, _]) (rd2 (off := 0) hc25 tA332 tZ332) ?_
                refine pNew hO tZ332 t0332 (fun b26 G hO => ?_)
                refine pSt (xs := [_, _, _]) hO 0 tZ332 rfl (fun G hO => ?_)
                refine pE ?_
                refine gn ?_
                refine wpL_sq ?_
                refine wpL_rg ?_
                refine pF tF332_2 ?_
                refine pLo hO 0 (.lit _ _ _) tA330 ?_
                refine pLen tS330 ?_
                refine pM (.int _ _) ?_
                refine pE ?_
                refine gn ?_
                refine wpL_bl ?_
                refine wpL_loopO (F := f288_L7 x24 c25) (fun s S' => ∃ (J : Nat → V) (G : Heap), Owns H G [.blk b22 (.mp (kvs s.1)), .blk b2 (.cells 2 [.int .i64 0, .int .i64 0]), .blk b1 (.cells 2 [.lit l1 aN0.Pieces.length (flat aN0.Pieces), .lit l2 aN0.Joints.length (flat aN0.Joints)])] ∧ S' = ⟨hav [(1, .ptr b1 0), (2, .ptr b2 0), (12, .mref b22), (152, .lit l2 aN0.Joints.length (flat aN0.Joints)), (153, .int .i64 (aN0.Joints.length : Int)), (154, .int .i64 x24), (159, .lit 0 c25.Ends.length (flat c25.Ends)), (160, .int .i64 (c25.Ends.length : Int)), (161, .int .i64 s.2)] J, G⟩) hk ⟨_, _, (Owns.pick hO [1, 2, 3] (by decide) rfl), St.hav _ ⟨rfl, rfl, rfl, rfl, rfl, rfl, rfl, rfl, rfl, trivial⟩⟩ ?_
                rintro ⟨x27, x28⟩ _ y2 ⟨J, G, hO, rfl⟩ hk hx2
                refine wpL_sq ?_
                refine wpL_rg ?_
                refine pBi ?_
                refine pE ?_
                refine gn ?_
                refine wpL_sq ?_
                refine wpL_cd (b := decide (x28 < (c25.Ends.length : Int))) (fun hb => ?_) (fun hb => ?_)
                · replace hk := ct hb hk
                  refine wpL_sk ?_
                  refine gn ?_
                  refine wpL_sq ?_
                  refine wpL_bl ?_
                  refine wpL_sq ?_
                  refine wpL_rg ?_
                  obtain ⟨c29, hc29, hk⟩ := bs hk
                  refine pX hc29 tE330 tZ260 ?_
                  refine pLp (.agg [_, _]) (rd2 (off := 0) hc29 tA260 tZ260) ?_
                  refine pNew hO tZ260 t0260 (fun b30 G hO => ?_)
                  refine pSt (xs := [_, _]) hO 0 tZ260 rfl (fun G hO => ?_)
                  refine pE ?_
                  refine gn ?_
                  refine wpL_drw [(0, true), (1, true), (2, true), (3, false), (4, true), (5, true), (6, false)] [_, _, _, _, _, _, _] (by decide +kernel) (by rfl) ?_
                  refine pM (.mref _) ?_
                  refine pLs hO 0 [_, _] tA260 tZ260 ?_
                  refine pLk c29 (0 : Int) (hO.get (k := 1) rfl).1 tM379 fitEndK tY3 ?_
                  refine pBi ?_
                  refine pEn hO 1 c29 (0 : Int) tM379 fitEndK tY3 rfl (fun G hO => ?_)
                  refine pEx (.int _ _) ?_
                  refine pEs hO 1 c29 (0 : Int) (w64 ((mget c29 x27 0) + (1:Int))) rfl (fun G hO => ?_)
                  refine pE ?_
                  refine bn (gn ?_)
                  refine wpL_rg ?_
                  refine pBi ?_
                  refine pM (.int _ _) ?_
                  refine pE ?_
                  refine gn ?_
                  cases hk; exact ⟨_, rfl, _, _, (Owns.pick hO [1, 2, 3] (by decide) rfl), St.hav _ ⟨rfl, rfl, rfl, rfl, rfl, rfl, rfl, rfl, rfl, trivial⟩⟩
                · replace hk := cf hb hk
                  refine wpL_ex ?_
                  refine ge (ge (be (bn (gn ?_))))
                  replace hk := lx hx2 hk
                  refine wpL_rg ?_
                  refine pBi ?_
                  refine pM (.int _ _) ?_
                  refine pE ?_
                  refine gn ?_
                  cases hk; exact ⟨_, rfl, _, _, hO, St.hav _ ⟨rfl, rfl, rfl, rfl, rfl, rfl, trivial⟩⟩
              · replace hk := cf hb hk
                refine wpL_ex ?_
                refine ge (ge (be (gn ?_)))
                replace hk := lx hx1 hk
                refine wpL_sq ?_
                refine wpL_sq ?_
                refine wpL_rg ?_
                refine pF tF132_0 ?_
                refine pLo hO 2 (.lit _ _ _) tA129 ?_
                refine pLen tS129 ?_
                refine pM (.int _ _) ?_
                refine pE ?_
                refine gn ?_
                refine wpL_bl ?_
                refine wpL_loopO (F := f288_L8 aN0 x23) (fun s S' => ∃ (J : Nat → V) (G : Heap), Owns H G [.blk b22 (.mp (kvs x23)), .blk b2 (.cells 2 [.int .i64 0, .int .i64 0])] ∧ S' = ⟨hav [(2, .ptr b2 0), (12, .mref b22), (175, .int .i64 (aN0.Pieces.length : Int)), (176, .int .i64 s)] J, G⟩) hk ⟨_, _, (Owns.pick hO [0, 1] (by decide) rfl), St.hav _ ⟨rfl, rfl, rfl, rfl, trivial⟩⟩ ?_
                rintro x31 _ y1 ⟨J, G, hO, rfl⟩ hk hx1
                refine wpL_sq ?_
                refine wpL_rg ?_
                refine pBi ?_
                refine pE ?_
                refine gn ?_
                refine wpL_sq ?_
                refine wpL_cd (b := decide (x31 < (aN0.Pieces.length : Int))) (fun hb => ?_) (fun hb => ?_)
                · replace hk := ct hb hk
                  refine wpL_sk ?_
                  refine gn ?_
                  refine wpL_sq ?_
                  refine wpL_bl ?_
                  refine wpL_sq ?_
                  refine wpL_rg ?_
                  refine pM (.int _ _) ?_
                  refine pA (.int _ _) ?_
                  refine pE ?_
                  refine gn ?_
                  refine wpL_sq ?_
                  refine wpL_rg ?_
                  refine pM (.mref _) ?_
                  refine pM (.int _ _) ?_
                  refine pBd [_, _] t0260 tP260 ?_
                  refine pLk ({ Piece := x31, Side := (0:Int) } : End) (0 : Int) (hO.get (k := 0) rfl).1 tM379 fitEndK tY3 ?_
                  refine pBi ?_
                  refine pM (.bool _) ?_
                  refine wpR_mid (l1 := [_, _, _, _, _, _]) (fun S' => ∃ J, S' = ⟨hav [(2, .ptr b2 0), (12, .mref b22), (17, .int .i64 x31), (175, .int .i64 (aN0.Pieces.length : Int)), (176, .int .i64 x31), (190, .bool (((mget ({ Piece := x31, Side := (0:Int) } : End) x23 0) != (1:Int)) || ((mget ({ Piece := x31, Side := (1:Int) } : End) x23 0) != (1:Int))))] J, G⟩) ?_ ?_
                  · refine bc (b := ((mget ({ Piece := x31, Side := (0:Int) } : End) x23 0) != (1:Int))) (fun hg1 => ?_) (fun hg1 => ?_)
                    · refine pGn hg1 ?_
                      refine pGn hg1 ?_
                      refine pGn hg1 ?_
                      refine pGn hg1 ?_
                      refine pGn hg1 ?_
                      refine pPt hg1 (.bool _) ?_
                      exact pE ⟨_, St.hav _ ⟨rfl, rfl, rfl, rfl, rfl, by rw [hg1]; rfl, trivial⟩⟩
                    · refine pGy hg1 ?_
                      refine pM (.mref _) ?_
                      refine pGy hg1 ?_
                      refine pM (.int _ _) ?_
                      refine pGy hg1 ?_
                      refine pBd [_, _] t0260 tP260 ?_
                      refine pGy hg1 ?_
                      refine pLk ({ Piece := x31, Side := (1:Int) } : End) (0 : Int) (hO.get (k := 0) rfl).1 tM379 fitEndK tY3 ?_
                      refine pGy hg1 ?_
                      refine pBi ?_
                      refine pPf hg1 (.bool _) ?_
                      exact pE ⟨_, St.hav _ ⟨rfl, rfl, rfl, rfl, rfl, by rw [hg1]; rfl, trivial⟩⟩
                  · rintro _ ⟨J, rfl⟩
                    refine pE ?_
                    refine gn ?_
                    refine wpL_cd (b := (((mget ({ Piece := x31, Side := (0:Int) } : End) x23 0) != (1:Int)) || ((mget ({ Piece := x31, Side := (1:Int) } : End) x23 0) != (1:Int)))) (fun hb => ?_) (fun hb => ?_)
                    · replace hk := ct hb hk
                      refine wpL_sq ?_
                      refine wpL_rg ?_
                      refine pM (.int _ _) ?_
                      refine pBd [_, _] t077 tP77 ?_
                      refine pSt (xs := [_, _]) hO 1 tZ77 rfl (fun G hO => ?_)
                      refine pE ?_
                      refine gn ?_
                      refine wpL_rt ?_
                      refine br (gr (gr (br (gr ?_))))
                      replace hk := lx hx1 hk
                      replace hk := Option.some.inj hk; subst hk; exact finZ hO (fz_agg (n := 2) (fz_c (fz_int _ _) (fz_c (fz_int _ _) (fz_n)))) (resS hO 1 [_, _] tA77 tZ77 resN)
                    · replace hk := cf hb hk
                      refine wpL_sk ?_
                      refine bn (gn ?_)
                      refine wpL_rg ?_
                      refine pBi ?_
                      refine pM (.int _ _) ?_
                      refine pE ?_
                      refine gn ?_
                      cases hk; exact ⟨_, rfl, _, _, hO, St.hav _ ⟨rfl, rfl, rfl, rfl, trivial⟩⟩
                · replace hk := cf hb hk
                  refine wpL_ex ?_
                  refine ge (ge (be (gn ?_)))
                  replace hk := lx hx1 hk
                  refine wpL_sq ?_
                  refine wpL_rg ?_
                  refine pBd [_, _] t077 tP77 ?_
                  refine pSt (xs := [_, _]) hO 1 tZ77 rfl (fun G hO => ?_)
                  refine pE ?_
                  refine gn ?_
                  refine wpL_rt ?_
                  replace hk := Option.some.inj hk; subst hk; exact finZ hO (fz_agg (n := 2) (fz_c (fz_int _ _) (fz_c (fz_int _ _) (fz_n)))) (resS hO 1 [_, _] tA77 tZ77 resN)
/-- impl.good -/
def f199 (aN0 : Net) : Option Bool :=
  ((f288 aN0).bind fun v2 => some ((v2.Code == 0) && ((v2.At == 0) && true)))
theorem f199_run {aN0 : Net} {r : Bool} {l1 l2 : Nat} {H : Heap} {lk : Lk} (hk : f199 aN0 = some r) (hlk : 0 < lk.length := by simp) : runL Try.prog hh 199 [.agg [.lit l1 aN0.Pieces.length (flat aN0.Pieces), .lit l2 aN0.Joints.length (flat aN0.Joints)]] H lk = some (.bool r, H) := by
  refine run_start Try.func199 rfl Try.ntmps199 Try.results199 rfl rfl fun hO => ?_
  unfold f199 at hk
  refine wpL_sq ?_
  refine wpL_rg ?_
  refine pBox (cs := [_, _]) hO tZ132 (fun b1 G hO => ?_)
  refine pA (.bool _) ?_
  refine pE ?_
  refine gn ?_
  refine wpL_sq ?_
  refine wpL_rg ?_
  refine pLs hO 0 [_, _] tA132 tZ132 ?_
  obtain ⟨v2, hv2, hk⟩ := bs hk
  refine pCall (fun _ => f288_run hv2) ?_
  refine pBd [_, _] t077 tP77 ?_
  refine pGq tG77 (eqc (eqi _ _ _) (eqc (eqi _ _ _) (rfl))) ?_
  refine pA (.bool _) ?_
  refine pE ?_
  refine gn ?_
  refine wpL_rt ?_
  replace hk := Option.some.inj hk; subst hk; exact fin0 hO
/-- impl.within -/
def f171 (aX0 : Int) (aLo1 : Int) (aHi2 : Int) : Option Bool :=
  some (decide (aX0 ≥ aLo1) && decide (aX0 ≤ aHi2))
theorem f171_run {aX0 : Int} {aLo1 : Int} {aHi2 : Int} {r : Bool} {H : Heap} {lk : Lk} (hk : f171 aX0 aLo1 aHi2 = some r) (hlk : 0 < lk.length := by simp) : runL Try.prog hh 171 [.int .i64 aX0, .int .i64 aLo1, .int .i64 aHi2] H lk = some (.bool r, H) := by
  refine run_start Try.func171 rfl Try.ntmps171 Try.results171 rfl rfl fun hO => ?_
  unfold f171 at hk
  refine wpL_sq ?_
  refine wpL_rg ?_
  refine pA (.bool _) ?_
  refine pE ?_
  refine gn ?_
  refine wpL_sq ?_
  refine wpL_rg ?_
  refine pM (.int _ _) ?_
  refine pM (.int _ _) ?_
  refine pBi ?_
  refine pM (.bool _) ?_
  refine wpR_mid (l1 := [_, _, _, _]) (fun S' => ∃ J, S' = ⟨hav [(14, .bool (decide (aX0 ≥ aLo1) && decide (aX0 ≤ aHi2)))] J, H⟩) ?_ ?_
  · refine bc (b := decide (aX0 ≥ aLo1)) (fun hg1 => ?_) (fun hg1 => ?_)
    · refine pGy hg1 ?_
      refine pM (.int _ _) ?_
      refine pGy hg1 ?_
      refine pM (.int _ _) ?_
      refine pGy hg1 ?_
      refine pBi ?_
      refine pPt hg1 (.bool _) ?_
      exact pE ⟨_, St.hav _ ⟨by rw [hg1]; rfl, trivial⟩⟩
    · refine pGn hg1 ?_
      refine pGn hg1 ?_
      refine pGn hg1 ?_
      refine pPf hg1 (.bool _) ?_
      exact pE ⟨_, St.hav _ ⟨by rw [hg1]; rfl, trivial⟩⟩
  · rintro _ ⟨J, rfl⟩
    refine pA (.bool _) ?_
    refine pE ?_
    refine gn ?_
    refine wpL_rt ?_
    replace hk := Option.some.inj hk; subst hk; exact fin0 hO
/-- impl.spotOk -/
def f226 (aN0 : Net) (aS1 : Spot) : Option Bool :=
  ((f171 aS1.Piece (0:Int) (w64 ((aN0.Pieces.length : Int) - (1:Int)))).bind fun v3 => ((bif v3 then ((getI aN0.Pieces aS1.Piece).bind fun c5 => ((f171 aS1.At (0:Int) c5.Len).bind fun v6 => some v6)) else some false).bind fun t4 => some (t4 && ((aS1.Way == (1:Int)) || (aS1.Way == (-1:Int))))))
theorem f226_run {aN0 : Net} {aS1 : Spot} {r : Bool} {l1 l2 : Nat} {H : Heap} {lk : Lk} (hk : f226 aN0 aS1 = some r) (hlk : 0 < lk.length := by simp) : runL Try.prog hh 226 [.agg [.lit l1 aN0.Pieces.length (flat aN0.Pieces), .lit l2 aN0.Joints.length (flat aN0.Joints)], .agg [.int .i64 aS1.Piece, .int .i64 aS1.At, .int .i64 aS1.Way]] H lk = some (.bool r, H) := by
  refine run_start Try.func226 rfl Try.ntmps226 Try.results226 rfl rfl fun hO => ?_
  unfold f226 at hk
  refine wpL_sq ?_
  refine wpL_rg ?_
  refine pBox (cs := [_, _]) hO tZ132 (fun b1 G hO => ?_)
  refine pBox (cs := [_, _, _]) hO tZ134 (fun b2 G hO => ?_)
  refine pA (.bool _) ?_
  refine pE ?_
  refine gn ?_
  refine wpL_sq ?_
  refine wpL_drw [(0, true), (1, true), (2, true), (3, true), (4, true), (5, true), (6, false), (7, false), (8, true), (9, true), (10, true), (11, true), (12, true), (13, true), (14, true), (15, true), (16, true), (17, false), (18, false), (19, false), (20, false), (21, true), (22, false), (23, false), (24, false), (25, true), (26, false), (27, false), (28, false), (29, false)] [_, _, _, _, _, _, _, _, _, _, _, _, _, _, _, _, _, _, _, _, _, _, _, _, _, _, _, _, _, _] (by decide +kernel) (by rfl) ?_
  refine pF tF134_0 ?_
  refine pLo hO 0 (.int _ _) tA3 ?_
  refine pF tF132_0 ?_
  refine pLo hO 1 (.lit _ _ _) tA129 ?_
  refine pLen tS129 ?_
  refine pBi ?_
  obtain ⟨v3, hv3, hk⟩ := bs hk
  refine pCall (fun _ => f171_run hv3) ?_
  refine pM (.bool _) ?_
  obtain ⟨t4, ht, hk⟩ := bs hk
  refine wpR_mid (l1 := [_, _, _, _, _, _, _, _, _, _, _]) (fun S' => ∃ J, S' = ⟨hav [(3, .ptr b2 0), (23, .bool t4)] J, G⟩) ?_ ?_
  · refine bc (b := v3) (fun hg1 => ?_) (fun hg1 => ?_)
    · replace hk := ct hg1 ht
      refine pGy hg1 ?_
      refine pF tF134_1 ?_
      refine pGy hg1 ?_
      refine pLo hO 0 (.int _ _) tA3 ?_
      refine pGy hg1 ?_
      refine pF tF132_0 ?_
      refine pGy hg1 ?_
      refine pLo hO 1 (.lit _ _ _) tA129 ?_
      refine pGy hg1 ?_
      refine pF tF134_0 ?_
      refine pGy hg1 ?_
      refine pLo hO 0 (.int _ _) tA3 ?_
      refine pGy hg1 ?_
      obtain ⟨c5, hc5, hk⟩ := bs hk
      refine pX hc5 tE129 tZ266 ?_
      refine pGy hg1 ?_
      refine pF tF266_1 ?_
      refine pGy hg1 ?_
      refine pLp (.int _ _) (rd1 (off := 1) hc5 tA3) ?_
      refine pGy hg1 ?_
      obtain ⟨v6, hv6, hk⟩ := bs hk
      refine pCall (fun _ => f171_run hv6) ?_
      refine pPt hg1 (.bool _) ?_
      cases hk; exact pE ⟨_, St.hav _ ⟨rfl, rfl, trivial⟩⟩
    · replace hk := cf hg1 ht
      refine pGn hg1 ?_
      refine pGn hg1 ?_
      refine pGn hg1 ?_
      refine pGn hg1 ?_
      refine pGn hg1 ?_
      refine pGn hg1 ?_
      refine pGn hg1 ?_
      refine pGn hg1 ?_
      refine pGn hg1 ?_
      refine pGn hg1 ?_
      refine pPf hg1 (.bool _) ?_
      cases hk; exact pE ⟨_, St.hav _ ⟨rfl, rfl, trivial⟩⟩
  · rintro _ ⟨J, rfl⟩
    refine pM (.bool _) ?_
    refine wpR_mid (l1 := [_, _, _, _, _, _, _, _, _]) (fun S' => ∃ J, S' = ⟨hav [(33, .bool (t4 && ((aS1.Way == (1:Int)) || (aS1.Way == (-1:Int)))))] J, G⟩) ?_ ?_
    · refine bc (b := t4) (fun hg1 => ?_) (fun hg1 => ?_)
      · refine pGy hg1 ?_
        refine pF tF134_2 ?_
        refine pGy hg1 ?_
        refine pLo hO 0 (.int _ _) tA3 ?_
        refine pGy hg1 ?_
        refine pBi ?_
        refine pGy hg1 ?_
        refine pM (.bool _) ?_
        refine wpR_mid (l1 := [_, _, _, _]) (fun S' => ∃ J, S' = ⟨hav [(24, .bool t4), (32, .bool ((aS1.Way == (1:Int)) || (aS1.Way == (-1:Int))))] J, G⟩) ?_ ?_
        · refine bc (b := (aS1.Way == (1:Int))) (fun hg2 => ?_) (fun hg2 => ?_)
          · refine pGn hg2 ?_
            refine pGn hg2 ?_
            refine pGn hg2 ?_
            refine pGy hg1 ?_
            refine pPt hg2 (.bool _) ?_
            exact pE ⟨_, St.hav _ ⟨rfl, by rw [hg2]; rfl, trivial⟩⟩
          · refine pGy hg2 ?_
            refine pF tF134_2 ?_
            refine pGy hg2 ?_
            refine pLo hO 0 (.int _ _) tA3 ?_
            refine pGy hg2 ?_
            refine pBi ?_
            refine pGy hg1 ?_
            refine pPf hg2 (.bool _) ?_
            exact pE ⟨_, St.hav _ ⟨rfl, by rw [hg2]; rfl, trivial⟩⟩
        · rintro _ ⟨J, rfl⟩
          refine pPt hg1 (.bool _) ?_
          exact pE ⟨_, St.hav _ ⟨by rw [hg1]; rfl, trivial⟩⟩
      · refine pGn hg1 ?_
        refine pGn hg1 ?_
        refine pGn hg1 ?_
        refine pGn hg1 ?_
        refine pGu ?_
        refine pGu ?_
        refine pGu ?_
        refine pGn hg1 ?_
        refine pPf hg1 (.bool _) ?_
        exact pE ⟨_, St.hav _ ⟨by rw [hg1]; rfl, trivial⟩⟩
    · rintro _ ⟨J, rfl⟩
      refine pA (.bool _) ?_
      refine pE ?_
      refine gn ?_
      refine wpL_rt ?_
      replace hk := Option.some.inj hk; subst hk; exact fin0 hO
/-- impl.gone -/
def f289 (aN0 : Net) (aS1 : Spot) : Option Int :=
  (bif (aS1.Way == (1:Int)) then some aS1.At else ((getI aN0.Pieces aS1.Piece).bind fun c3 => some (w64 (c3.Len - aS1.At))))
theorem f289_run {aN0 : Net} {aS1 : Spot} {r : Int} {l1 l2 : Nat} {H : Heap} {lk : Lk} (hk : f289 aN0 aS1 = some r) (hlk : 0 < lk.length := by simp) : runL Try.prog hh 289 [.agg [.lit l1 aN0.Pieces.length (flat aN0.Pieces), .lit l2 aN0.Joints.length (flat aN0.Joints)], .agg [.int .i64 aS1.Piece, .int .i64 aS1.At, .int .i64 aS1.Way]] H lk = some (.int .i64 r, H) := by
  refine run_start Try.func289 rfl Try.ntmps289 Try.results289 rfl rfl fun hO => ?_
  unfold f289 at hk
  refine wpL_sq ?_
  refine wpL_rg ?_
  refine pBox (cs := [_, _]) hO tZ132 (fun b1 G hO => ?_)
  refine pBox (cs := [_, _, _]) hO tZ134 (fun b2 G hO => ?_)
  refine pA (.int _ _) ?_
  refine pE ?_
  refine gn ?_
  refine wpL_sq ?_
  refine wpL_sq ?_
  refine wpL_rg ?_
  refine pF tF134_2 ?_
  refine pLo hO 0 (.int _ _) tA3 ?_
  refine pBi ?_
  refine pE ?_
  refine gn ?_
  refine wpL_cd (b := (aS1.Way == (1:Int))) (fun hb => ?_) (fun hb => ?_)
  · replace hk := ct hb hk
    refine wpL_sq ?_
    refine wpL_rg ?_
    refine pF tF134_1 ?_
    refine pLo hO 0 (.int _ _) tA3 ?_
    refine pA (.int _ _) ?_
    refine pE ?_
    refine gn ?_
    refine wpL_rt ?_
    refine gr ?_
    replace hk := Option.some.inj hk; subst hk; exact fin0 hO
  · replace hk := cf hb hk
    refine wpL_sk ?_
    refine gn ?_
    refine wpL_sq ?_
    refine wpL_drw [(0, true), (1, true), (2, true), (3, true), (4, true), (5, true), (6, true), (7, true), (8, true), (9, false), (10, false)] [_, _, _, _, _, _, _, _, _, _, _] (by decide +kernel) (by rfl) ?_
    refine pF tF132_0 ?_
    refine pLo hO 1 (.lit _ _ _) tA129 ?_
    refine pF tF134_0 ?_
    refine pLo hO 0 (.int _ _) tA3 ?_
    obtain ⟨c3, hc3, hk⟩ := bs hk
    refine pX hc3 tE129 tZ266 ?_
    refine pF tF266_1 ?_
    refine pLp (.int _ _) (rd1 (off := 1) hc3 tA3) ?_
    refine pF tF134_1 ?_
    refine pLo hO 0 (.int _ _) tA3 ?_
    refine pBi ?_
    refine pA (.int _ _) ?_
    refine pE ?_
    refine gn ?_
    refine wpL_rt ?_
    replace hk := Option.some.inj hk; subst hk; exact fin0 hO
/-- impl.looked -/
def f337 (aPiece0 : Int) (aWay1 : Int) : Option End :=
  (bif (aWay1 == (1:Int)) then some ({ Piece := aPiece0, Side := (1:Int) } : End) else some ({ Piece := aPiece0, Side := (0:Int) } : End))
theorem f337_run {aPiece0 : Int} {aWay1 : Int} {r : End} {H : Heap} {lk : Lk} (hk : f337 aPiece0 aWay1 = some r) (hlk : 0 < lk.length := by simp) : runL Try.prog hh 337 [.int .i64 aPiece0, .int .i64 aWay1] H lk = some (.agg [.int .i64 r.Piece, .int .i64 r.Side], H) := by
  refine run_start Try.func337 rfl Try.ntmps337 Try.results337 rfl rfl fun hO => ?_
  unfold f337 at hk
  refine wpL_sq ?_
  refine wpL_rg ?_
  refine pNew hO tZ260 t0260 (fun b1 G hO => ?_)
  refine pE ?_
  refine gn ?_
  refine wpL_sq ?_
  refine wpL_sq ?_
  refine wpL_rg ?_
  refine pM (.int _ _) ?_
  refine pBi ?_
  refine pE ?_
  refine gn ?_
  refine wpL_cd (b := (aWay1 == (1:Int))) (fun hb => ?_) (fun hb => ?_)
  · replace hk := ct hb hk
    refine wpL_sq ?_
    refine wpL_rg ?_
    refine pM (.int _ _) ?_
    refine pBd [_, _] t0260 tP260 ?_
    refine pSt (xs := [_, _]) hO 0 tZ260 rfl (fun G hO => ?_)
    refine pE ?_
    refine gn ?_
    refine wpL_rt ?_
    refine gr ?_
    replace hk := Option.some.inj hk; subst hk; exact finZ hO (fz_agg (n := 2) (fz_c (fz_int _ _) (fz_c (fz_int _ _) (fz_n)))) (resS hO 0 [_, _] tA260 tZ260 resN)
  · replace hk := cf hb hk
    refine wpL_sk ?_
    refine gn ?_
    refine wpL_sq ?_
    refine wpL_rg ?_
    refine pM (.int _ _) ?_
    refine pBd [_, _] t0260 tP260 ?_
    refine pSt (xs := [_, _]) hO 0 tZ260 rfl (fun G hO => ?_)
    refine pE ?_
    refine gn ?_
    refine wpL_rt ?_
    replace hk := Option.some.inj hk; subst hk; exact finZ hO (fz_agg (n := 2) (fz_c (fz_int _ _) (fz_c (fz_int _ _) (fz_n)))) (resS hO 0 [_, _] tA260 tZ260 resN)
/-- impl.front -/
def f291 (aS0 : Step) : Option End :=
  ((f337 aS0.Piece aS0.Way).bind fun v3 => some v3)
theorem f291_run {aS0 : Step} {r : End} {H : Heap} {lk : Lk} (hk : f291 aS0 = some r) (hlk : 0 < lk.length := by simp) : runL Try.prog hh 291 [.agg [.int .i64 aS0.Piece, .int .i64 aS0.Way]] H lk = some (.agg [.int .i64 r.Piece, .int .i64 r.Side], H) := by
  refine run_start Try.func291 rfl Try.ntmps291 Try.results291 rfl rfl fun hO => ?_
  unfold f291 at hk
  refine wpL_sq ?_
  refine wpL_rg ?_
  refine pBox (cs := [_, _]) hO tZ258 (fun b1 G hO => ?_)
  refine pNew hO tZ260 t0260 (fun b2 G hO => ?_)
  refine pE ?_
  refine gn ?_
  refine wpL_sq ?_
  refine wpL_rg ?_
  refine pF tF258_0 ?_
  refine pLo hO 1 (.int _ _) tA3 ?_
  refine pF tF258_1 ?_
  refine pLo hO 1 (.int _ _) tA3 ?_
  obtain ⟨v3, hv3, hk⟩ := bs hk
  refine pCall (fun _ => f337_run hv3) ?_
  refine pSt (xs := [_, _]) hO 0 tZ260 rfl (fun G hO => ?_)
  refine pE ?_
  refine gn ?_
  refine wpL_rt ?_
  replace hk := Option.some.inj hk; subst hk; exact finZ hO (fz_agg (n := 2) (fz_c (fz_int _ _) (fz_c (fz_int _ _) (fz_n)))) (resS hO 0 [_, _] tA260 tZ260 resN)
/-- impl.at -/
def f336_L2 (aE1 : End) (x3 : Int) (c4 : Joint) : Int → Option (Int ⊕ (Int ⊕ (Int × Int))) := fun s =>
  (bif decide (s < (c4.Ends.length : Int)) then ((getI c4.Ends s).bind fun c7 => (bif ((aE1.Piece == c7.Piece) && ((aE1.Side == c7.Side) && true)) then (((some (x3, s)).map Sum.inr).map Sum.inr) else some (.inl (w64 (s + (1:Int)))))) else ((some (.inl (w64 (x3 + (1:Int))))).map Sum.inr))
def f336_L1 (aN0 : Net) (aE1 : End) : Int → Option (Int ⊕ (Int × Int)) := fun s =>
  (bif decide (s < (aN0.Joints.length : Int)) then ((getI aN0.Joints s).bind fun c4 => (loopO (f336_L2 aE1 s c4) ((0:Int)))) else ((some ((-1:Int), (-1:Int))).map Sum.inr))
def f336 (aN0 : Net) (aE1 : End) : Option (Int × Int) :=
  (loopO (f336_L1 aN0 aE1) ((0:Int)))
theorem f336_run {aN0 : Net} {aE1 : End} {r : (Int × Int)} {l1 l2 : Nat} {H : Heap} {lk : Lk} (hk : f336 aN0 aE1 = some r) (hlk : 0 < lk.length := by simp) : runL Try.prog hh 336 [.agg [.lit l1 aN0.Pieces.length (flat aN0.Pieces), .lit l2 aN0.Joints.length (flat aN0.Joints)], .agg [.int .i64 aE1.Piece, .int .i64 aE1.Side]] H lk = some (.tup [.int .i64 r.1, .int .i64 r.2], H) := by
  refine run_start Try.func336 rfl Try.ntmps336 Try.results336 rfl rfl fun hO => ?_
  unfold f336 at hk
  refine wpL_sq ?_
  refine wpL_rg ?_
  refine pBox (cs := [_, _]) hO tZ132 (fun b1 G hO => ?_)
  refine pBox (cs := [_, _]) hO tZ260 (fun b2 G hO => ?_)
  refine pA (.int _ _) ?_
  refine pA (.int _ _) ?_
  refine pE ?_
  refine gn ?_
  refine wpL_sq ?_
  refine wpL_sq ?_
  refine wpL_rg ?_
  refine pF tF132_1 ?_
  refine pLo hO 1 (.lit _ _ _) tA130 ?_
  refine pLen tS130 ?_
  refine pM (.int _ _) ?_
  refine pE ?_
  refine gn ?_
  refine wpL_bl ?_
  refine wpL_loopO (F := f336_L1 aN0 aE1) (fun s S' => ∃ (J : Nat → V) (G : Heap), Owns H G [.blk b2 (.cells 2 [.int .i64 aE1.Piece, .int .i64 aE1.Side])] ∧ S' = ⟨hav [(3, .ptr b2 0), (11, .lit l2 aN0.Joints.length (flat aN0.Joints)), (12, .int .i64 (aN0.Joints.length : Int)), (13, .int .i64 s)] J, G⟩) hk ⟨_, _, (Owns.pick hO [0] (by decide) rfl), St.hav _ ⟨rfl, rfl, rfl, rfl, trivial⟩⟩ ?_
  rintro x3 _ y1 ⟨J, G, hO, rfl⟩ hk hx1
  refine wpL_sq ?_
  refine wpL_rg ?_
  refine pBi ?_
  refine pE ?_
  refine gn ?_
  refine wpL_sq ?_
  refine wpL_cd (b := decide (x3 < (aN0.Joints.length : Int))) (fun hb => ?_) (fun hb => ?_)
  · replace hk := ct hb hk
    refine wpL_sk ?_
    refine gn ?_
    refine wpL_sq ?_
    refine wpL_bl ?_
    refine wpL_sq ?_
    refine wpL_rg ?_
    refine pM (.int _ _) ?_
    obtain ⟨c4, hc4, hk⟩ := bs hk
    refine pX hc4 tE130 tZ332 ?_
    refine pLp (.agg [_, _, _]) (rd2 (off := 0) hc4 tA332 tZ332) ?_
    refine pNew hO tZ332 t0332 (fun b5 G hO => ?_)
    refine pA (.int _ _) ?_
    refine pSt (xs := [_, _, _]) hO 0 tZ332 rfl (fun G hO => ?_)
    refine pE ?_
    refine gn ?_
    refine wpL_sq ?_
    refine wpL_rg ?_
    refine pF tF332_2 ?_
    refine pLo hO 0 (.lit _ _ _) tA330 ?_
    refine pLen tS330 ?_
    refine pM (.int _ _) ?_
    refine pE ?_
    refine gn ?_
    refine wpL_bl ?_
    refine wpL_loopO (F := f336_L2 aE1 x3 c4) (fun s S' => ∃ (J : Nat → V) (G : Heap), Owns H G [.blk b2 (.cells 2 [.int .i64 aE1.Piece, .int .i64 aE1.Side])] ∧ S' = ⟨hav [(3, .ptr b2 0), (6, .int .i64 x3), (11, .lit l2 aN0.Joints.length (flat aN0.Joints)), (12, .int .i64 (aN0.Joints.length : Int)), (13, .int .i64 x3), (19, .lit 0 c4.Ends.length (flat c4.Ends)), (20, .int .i64 (c4.Ends.length : Int)), (21, .int .i64 s)] J, G⟩) hk ⟨_, _, (Owns.pick hO [1] (by decide) rfl), St.hav _ ⟨rfl, rfl, rfl, rfl, rfl, rfl, rfl, rfl, trivial⟩⟩ ?_
    rintro x6 _ y2 ⟨J, G, hO, rfl⟩ hk hx2
    refine wpL_sq ?_
    refine wpL_rg ?_
    refine pBi ?_
    refine pE ?_
    refine gn ?_
    refine wpL_sq ?_
    refine wpL_cd (b := decide (x6 < (c4.Ends.length : Int))) (fun hb => ?_) (fun hb => ?_)
    · replace hk := ct hb hk
      refine wpL_sk ?_
      refine gn ?_
      refine wpL_sq ?_
      refine wpL_bl ?_
      refine wpL_sq ?_
      refine wpL_rg ?_
      refine pM (.int _ _) ?_
      obtain ⟨c7, hc7, hk⟩ := bs hk
      refine pX hc7 tE330 tZ260 ?_
      refine pLp (.agg [_, _]) (rd2 (off := 0) hc7 tA260 tZ260) ?_
      refine pNew hO tZ260 t0260 (fun b8 G hO => ?_)
      refine pA (.int _ _) ?_
      refine pSt (xs := [_, _]) hO 0 tZ260 rfl (fun G hO => ?_)
      refine pE ?_
      refine gn ?_
      refine wpL_sq ?_
      refine wpL_rg ?_
      refine pLs hO 1 [_, _] tA260 tZ260 ?_
      refine pLs hO 0 [_, _] tA260 tZ260 ?_
      refine pGq tG260 (eqc (eqi _ _ _) (eqc (eqi _ _ _) (rfl))) ?_
      refine pE ?_
      refine gn ?_
      refine wpL_cd (b := ((aE1.Piece == c7.Piece) && ((aE1.Side == c7.Side) && true))) (fun hb => ?_) (fun hb => ?_)
      · replace hk := ct hb hk
        refine wpL_sq ?_
        refine wpL_rg ?_
        refine pM (.int _ _) ?_
        refine pM (.int _ _) ?_
        refine pA (.int _ _) ?_
        refine pA (.int _ _) ?_
        refine pE ?_
        refine gn ?_
        refine wpL_rt ?_
        refine br (gr (gr (br (br (gr (gr (br (gr ?_))))))))
        replace hk := lx hx2 hk
        replace hk := lx hx1 hk
        replace hk := Option.some.inj hk; subst hk; exact finZ hO (fz_tup (n := 3) (fz_c (fz_int _ _) (fz_c (fz_int _ _) (fz_n)))) (resT (.int _ _) (resT (.int _ _) resN))
      · replace hk := cf hb hk
        refine wpL_sk ?_
        refine bn (gn ?_)
        refine wpL_rg ?_
        refine pBi ?_
        refine pM (.int _ _) ?_
        refine pE ?_
        refine gn ?_
        cases hk; exact ⟨_, rfl, _, _, (Owns.pick hO [1] (by decide) rfl), St.hav _ ⟨rfl, rfl, rfl, rfl, rfl, rfl, rfl, rfl, trivial⟩⟩
    · replace hk := cf hb hk
      refine wpL_ex ?_
      refine ge (ge (be (bn (gn ?_))))
      replace hk := lx hx2 hk
      refine wpL_rg ?_
      refine pBi ?_
      refine pM (.int _ _) ?_
      refine pE ?_
      refine gn ?_
      cases hk; exact ⟨_, rfl, _, _, hO, St.hav _ ⟨rfl, rfl, rfl, rfl, trivial⟩⟩
  · replace hk := cf hb hk
    refine wpL_ex ?_
    refine ge (ge (be (gn ?_)))
    replace hk := lx hx1 hk
    refine wpL_sq ?_
    refine wpL_rg ?_
    refine pA (.int _ _) ?_
    refine pA (.int _ _) ?_
    refine pE ?_
    refine gn ?_
    refine wpL_rt ?_
    replace hk := Option.some.inj hk; subst hk; exact finZ hO (fz_tup (n := 3) (fz_c (fz_int _ _) (fz_c (fz_int _ _) (fz_n)))) (resT (.int _ _) (resT (.int _ _) resN))
/-- impl.over -/
def f290 (aN0 : Net) (aE1 : End) : Option ((List End) × (List Int)) :=
  ((f336 aN0 aE1).bind fun v3 => (bif decide (v3.1 < (0:Int)) then some (([] : List End), ([] : List Int)) else ((getI aN0.Joints v3.1).bind fun c4 => ((getI aN0.Joints v3.1).bind fun c5 => (bif (c5.Kind == (2:Int)) then ((getI c4.Ends (w64 ((1:Int) - v3.2))).bind fun c6 => some (([c6] : List End), ([(0:Int)] : List Int))) else (bif (c5.Kind == (3:Int)) then (bif (v3.2 == (0:Int)) then ((getI c4.Ends (1:Int)).bind fun c9 => ((getI c4.Ends (2:Int)).bind fun c10 => some (([c9, c10] : List End), ([(1:Int), (2:Int)] : List Int)))) else ((getI c4.Ends (0:Int)).bind fun c13 => some (([c13] : List End), ([v3.2] : List Int)))) else (bif (c5.Kind == (4:Int)) then ((getI c4.Ends (xor64 v3.2 (1:Int))).bind fun c16 => some (([c16] : List End), ([(0:Int)] : List Int))) else some (([] : List End), ([] : List Int)))))))))
theorem f290_run {aN0 : Net} {aE1 : End} {r : ((List End) × (List Int))} {l1 l2 : Nat} {H : Heap} {lk : Lk} (hk : f290 aN0 aE1 = some r) (hlk : 0 < lk.length := by simp) : runL Try.prog hh 290 [.agg [.lit l1 aN0.Pieces.length (flat aN0.Pieces), .lit l2 aN0.Joints.length (flat aN0.Joints)], .agg [.int .i64 aE1.Piece, .int .i64 aE1.Side]] H lk = some (.tup [.lit 0 r.1.length (flat r.1), .lit 0 r.2.length (flat r.2)], H) := by
  refine run_start Try.func290 rfl Try.ntmps290 Try.results290 rfl rfl fun hO => ?_
  unfold f290 at hk
  refine wpL_sq ?_
  refine wpL_rg ?_
  refine pBox (cs := [_, _]) hO tZ132 (fun b1 G hO => ?_)
  refine pBox (cs := [_, _]) hO tZ260 (fun b2 G hO => ?_)
  refine pA (.tl 0 []) ?_
  refine pA (.tl 0 []) ?_
  refine pE ?_
  refine gn ?_
  refine wpL_sq ?_
  refine wpL_rg ?_
  refine pLs hO 1 [_, _] tA132 tZ132 ?_
  refine pLs hO 0 [_, _] tA260 tZ260 ?_
  obtain ⟨v3, hv3, hk⟩ := bs hk
  refine pCall (fun _ => f336_run hv3) ?_
  refine pM (.tup [_, _]) ?_
  refine pEx (.int _ _) ?_
  refine pEx (.int _ _) ?_
  refine pA (.int _ _) ?_
  refine pA (.int _ _) ?_
  refine pE ?_
  refine gn ?_
  refine wpL_sq ?_
  refine wpL_sq ?_
  refine wpL_rg ?_
  refine pM (.int _ _) ?_
  refine pBi ?_
  refine pE ?_
  refine gn ?_
  refine wpL_cd (b := decide (v3.1 < (0:Int))) (fun hb => ?_) (fun hb => ?_)
  · replace hk := ct hb hk
    refine wpL_sq ?_
    refine wpL_rg ?_
    refine pA (.tl 0 []) ?_
    refine pA (.tl 0 []) ?_
    refine pE ?_
    refine gn ?_
    refine wpL_rt ?_
    refine gr ?_
    replace hk := Option.some.inj hk; subst hk; exact finZ hO (fz_tup (n := 3) (fz_c (fz_nil (k := 0) End) (fz_c (fz_nil (k := 0) Int) (fz_n)))) (resT (.tl 0 []) (resT (.tl 0 []) resN))
  · replace hk := cf hb hk
    refine wpL_sk ?_
    refine gn ?_
    refine wpL_sq ?_
    refine wpL_rg ?_
    refine pF tF132_1 ?_
    refine pLo hO 1 (.lit _ _ _) tA130 ?_
    refine pM (.int _ _) ?_
    obtain ⟨c4, hc4, hk⟩ := bs hk
    refine pX hc4 tE130 tZ332 ?_
    refine pF tF332_2 ?_
    refine pLp (.lit _ _ _) (rd1 (off := 2) hc4 tA330) ?_
    refine pA (.lit _ _ _) ?_
    refine pE ?_
    refine gn ?_
    refine wpL_sq ?_
    refine wpL_sq ?_
    refine wpL_rg ?_
    refine pF tF132_1 ?_
    refine pLo hO 1 (.lit _ _ _) tA130 ?_
    refine pM (.int _ _) ?_
    obtain ⟨c5, hc5, hk⟩ := bs hk
    refine pX hc5 tE130 tZ332 ?_
    refine pF tF332_0 ?_
    refine pLp (.int _ _) (rd1 (off := 0) hc5 tA3) ?_
    refine pE ?_
    refine gn ?_
    refine wpL_bl ?_
    refine wpL_sq ?_
    refine wpL_rg ?_
    refine pBi ?_
    refine pA (.bool _) ?_
    refine pE ?_
    refine gn ?_
    refine wpL_cd (b := (c5.Kind == (2:Int))) (fun hb => ?_) (fun hb => ?_)
    · replace hk := ct hb hk
      refine wpL_sq ?_
      refine wpL_rg ?_
      refine pM (.lit _ _ _) ?_
      refine pM (.int _ _) ?_
      refine pBi ?_
      obtain ⟨c6, hc6, hk⟩ := bs hk
      refine pX hc6 tE330 tZ260 ?_
      refine pLp (.agg [_, _]) (rd2 (off := 0) hc6 tA260 tZ260) ?_
      refine pBs (ps := [(0, (.agg [_, _]))]) ([c6] : List End) tE330 tZ260 t0260 (emb_cons (emb_agg (α := End) rfl c6) (emb_nil)) ?_
      refine pBs (ps := [(0, (.int _ _))]) ([(0:Int)] : List Int) tE26 tZ3 t03 (emb_cons (emb_int rfl _ _) (emb_nil)) ?_
      refine pA (.tl 1 (flat ([c6] : List End))) ?_
      refine pA (.tl 1 (flat ([(0:Int)] : List Int))) ?_
      refine pE ?_
      refine gn ?_
      refine wpL_rt ?_
      refine br (gr ?_)
      replace hO := Owns.addTl hO lk.length ([c6] : List End)
      replace hO := Owns.addTl hO lk.length ([(0:Int)] : List Int)
      replace hk := Option.some.inj hk; subst hk; exact finZ hO (fz_tup (n := 3) (fz_c (fz_own (xs := ([c6] : List End)) hlk 1) (fz_c (fz_own (xs := ([(0:Int)] : List Int)) hlk 0) (fz_n)))) (resT (.tl 1 (flat ([c6] : List End))) (resT (.tl 1 (flat ([(0:Int)] : List Int))) resN))
    · replace hk := cf hb hk
      refine wpL_sq ?_
      refine wpL_rg ?_
      refine pBi ?_
      refine pA (.bool _) ?_
      refine pE ?_
      refine gn ?_
      refine wpL_cd (b := (c5.Kind == (3:Int))) (fun hb => ?_) (fun hb => ?_)
      · replace hk := ct hb hk
        refine wpL_sq ?_
        refine wpL_sq ?_
        refine wpL_rg ?_
        refine pM (.int _ _) ?_
        refine pBi ?_
        refine pE ?_
        refine gn ?_
        refine wpL_cd (b := (v3.2 == (0:Int))) (fun hb => ?_) (fun hb => ?_)
        · replace hk := ct hb hk
          refine wpL_sq ?_
          refine wpL_drw [(0, true), (1, true), (2, true), (3, true), (4, true), (5, true), (6, false), (7, true), (8, false), (9, false)] [_, _, _, _, _, _, _, _, _, _] (by decide +kernel) (by rfl) ?_
          refine pM (.lit _ _ _) ?_
          obtain ⟨c9, hc9, hk⟩ := bs hk
          refine pX hc9 tE330 tZ260 ?_
          refine pLp (.agg [_, _]) (rd2 (off := 0) hc9 tA260 tZ260) ?_
          refine pM (.lit _ _ _) ?_
          obtain ⟨c10, hc10, hk⟩ := bs hk
          refine pX hc10 tE330 tZ260 ?_
          refine pLp (.agg [_, _]) (rd2 (off := 0) hc10 tA260 tZ260) ?_
          refine pBs (ps := [(0, (.agg [_, _])), (1, (.agg [_, _]))]) ([c9, c10] : List End) tE330 tZ260 t0260 (emb_cons (emb_agg (α := End) rfl c9) (emb_cons (emb_agg (α := End) rfl c10) (emb_nil))) ?_
          refine pBs (ps := [(0, (.int _ _)), (1, (.int _ _))]) ([(1:Int), (2:Int)] : List Int) tE26 tZ3 t03 (emb_cons (emb_int rfl _ _) (emb_cons (emb_int rfl _ _) (emb_nil))) ?_
          refine pA (.tl 2 (flat ([c9, c10] : List End))) ?_
          refine pA (.tl 2 (flat ([(1:Int), (2:Int)] : List Int))) ?_
          refine pE ?_
          refine gn ?_
          refine wpL_rt ?_
          refine gr (br (gr ?_))
          replace hO := Owns.addTl hO lk.length ([c9, c10] : List End)
          replace hO := Owns.addTl hO lk.length ([(1:Int), (2:Int)] : List Int)
          replace hk := Option.some.inj hk; subst hk; exact finZ hO (fz_tup (n := 3) (fz_c (fz_own (xs := ([c9, c10] : List End)) hlk 1) (fz_c (fz_own (xs := ([(1:Int), (2:Int)] : List Int)) hlk 0) (fz_n)))) (resT (.tl 2 (flat ([c9, c10] : List End))) (resT (.tl 2 (flat ([(1:Int), (2:Int)] : List Int))) resN))
        · replace hk := cf hb hk
          refine wpL_sk ?_
          refine gn ?_
          refine wpL_sq ?_
          refine wpL_rg ?_
          refine pM (.lit _ _ _) ?_
          obtain ⟨c13, hc13, hk⟩ := bs hk
          refine pX hc13 tE330 tZ260 ?_
          refine pLp (.agg [_, _]) (rd2 (off := 0) hc13 tA260 tZ260) ?_
          refine pBs (ps := [(0, (.agg [_, _]))]) ([c13] : List End) tE330 tZ260 t0260 (emb_cons (emb_agg (α := End) rfl c13) (emb_nil)) ?_
          refine pM (.int _ _) ?_
          refine pBs (ps := [(0, (.int _ _))]) ([v3.2] : List Int) tE26 tZ3 t03 (emb_cons (emb_int rfl _ _) (emb_nil)) ?_
          refine pA (.tl 1 (flat ([c13] : List End))) ?_
          refine pA (.tl 1 (flat ([v3.2] : List Int))) ?_
          refine pE ?_
          refine gn ?_
          refine wpL_rt ?_
          refine br (gr ?_)
          replace hO := Owns.addTl hO lk.length ([c13] : List End)
          replace hO := Owns.addTl hO lk.length ([v3.2] : List Int)
          replace hk := Option.some.inj hk; subst hk; exact finZ hO (fz_tup (n := 3) (fz_c (fz_own (xs := ([c13] : List End)) hlk 1) (fz_c (fz_own (xs := ([v3.2] : List Int)) hlk 0) (fz_n)))) (resT (.tl 1 (flat ([c13] : List End))) (resT (.tl 1 (flat ([v3.2] : List Int))) resN))
      · replace hk := cf hb hk
        refine wpL_sq ?_
        refine wpL_rg ?_
        refine pBi ?_
        refine pA (.bool _) ?_
        refine pE ?_
        refine gn ?_
        refine wpL_cd (b := (c5.Kind == (4:Int))) (fun hb => ?_) (fun hb => ?_)
        · replace hk := ct hb hk
          refine wpL_sq ?_
          refine wpL_rg ?_
          refine pM (.lit _ _ _) ?_
          refine pM (.int _ _) ?_
          refine pBi ?_
          obtain ⟨c16, hc16, hk⟩ := bs hk
          refine pX hc16 tE330 tZ260 ?_
          refine pLp (.agg [_, _]) (rd2 (off := 0) hc16 tA260 tZ260) ?_
          refine pBs (ps := [(0, (.agg [_, _]))]) ([c16] : List End) tE330 tZ260 t0260 (emb_cons (emb_agg (α := End) rfl c16) (emb_nil)) ?_
          refine pBs (ps := [(0, (.int _ _))]) ([(0:Int)] : List Int) tE26 tZ3 t03 (emb_cons (emb_int rfl _ _) (emb_nil)) ?_
          refine pA (.tl 1 (flat ([c16] : List End))) ?_
          refine pA (.tl 1 (flat ([(0:Int)] : List Int))) ?_
          refine pE ?_
          refine gn ?_
          refine wpL_rt ?_
          refine br (gr ?_)
          replace hO := Owns.addTl hO lk.length ([c16] : List End)
          replace hO := Owns.addTl hO lk.length ([(0:Int)] : List Int)
          replace hk := Option.some.inj hk; subst hk; exact finZ hO (fz_tup (n := 3) (fz_c (fz_own (xs := ([c16] : List End)) hlk 1) (fz_c (fz_own (xs := ([(0:Int)] : List Int)) hlk 0) (fz_n)))) (resT (.tl 1 (flat ([c16] : List End))) (resT (.tl 1 (flat ([(0:Int)] : List Int))) resN))
        · replace hk := cf hb hk
          refine wpL_sk ?_
          refine bn (gn ?_)
          refine wpL_sq ?_
          refine wpL_rg ?_
          refine pA (.tl 0 []) ?_
          refine pA (.tl 0 []) ?_
          refine pE ?_
          refine gn ?_
          refine wpL_rt ?_
          replace hk := Option.some.inj hk; subst hk; exact finZ hO (fz_tup (n := 3) (fz_c (fz_nil (k := 0) End) (fz_c (fz_nil (k := 0) Int) (fz_n)))) (resT (.tl 0 []) (resT (.tl 0 []) resN))
/-- impl.rear -/
def f293 (aS0 : Step) : Option End :=
  ((f337 aS0.Piece (w64 (0 - aS0.Way))).bind fun v3 => some v3)
theorem f293_run {aS0 : Step} {r : End} {H : Heap} {lk : Lk} (hk : f293 aS0 = some r) (hlk : 0 < lk.length := by simp) : runL Try.prog hh 293 [.agg [.int .i64 aS0.Piece, .int .i64 aS0.Way]] H lk = some (.agg [.int .i64 r.Piece, .int .i64 r.Side], H) := by
  refine run_start Try.func293 rfl Try.ntmps293 Try.results293 rfl rfl fun hO => ?_
  unfold f293 at hk
  refine wpL_sq ?_
  refine wpL_rg ?_
  refine pBox (cs := [_, _]) hO tZ258 (fun b1 G hO => ?_)
  refine pNew hO tZ260 t0260 (fun b2 G hO => ?_)
  refine pE ?_
  refine gn ?_
  refine wpL_sq ?_
  refine wpL_rg ?_
  refine pF tF258_0 ?_
  refine pLo hO 1 (.int _ _) tA3 ?_
  refine pF tF258_1 ?_
  refine pLo hO 1 (.int _ _) tA3 ?_
  refine pU ?_
  obtain ⟨v3, hv3, hk⟩ := bs hk
  refine pCall (fun _ => f337_run hv3) ?_
  refine pSt (xs := [_, _]) hO 0 tZ260 rfl (fun G hO => ?_)
  refine pE ?_
  refine gn ?_
  refine wpL_rt ?_
  replace hk := Option.some.inj hk; subst hk; exact finZ hO (fz_agg (n := 2) (fz_c (fz_int _ _) (fz_c (fz_int _ _) (fz_n)))) (resS hO 0 [_, _] tA260 tZ260 resN)
/-- impl.End] -/
def f338_L1 (aS0 : List End) (aV1 : End) : Int → Option (Int ⊕ Int) := fun s =>
  (bif decide (s < (aS0.length : Int)) then ((getI aS0 s).bind fun c3 => (bif ((aV1.Piece == c3.Piece) && ((aV1.Side == c3.Side) && true)) then ((some s).map Sum.inr) else some (.inl (w64 (s + (1:Int)))))) else ((some (-1:Int)).map Sum.inr))
def f338 (aS0 : List End) (aV1 : End) : Option Int :=
  (loopO (f338_L1 aS0 aV1) ((0:Int)))
theorem f338_run {aS0 : List End} {aV1 : End} {r : Int} {l1 : Nat} {H : Heap} {lk : Lk} (hk : f338 aS0 aV1 = some r) (hlk : 0 < lk.length := by simp) : runL Try.prog hh 338 [.lit l1 aS0.length (flat aS0), .agg [.int .i64 aV1.Piece, .int .i64 aV1.Side]] H lk = some (.int .i64 r, H) := by
  refine run_start Try.func338 rfl Try.ntmps338 Try.results338 rfl rfl fun hO => ?_
  unfold f338 at hk
  refine wpL_sq ?_
  refine wpL_rg ?_
  refine pBox (cs := [_, _]) hO tZ260 (fun b1 G hO => ?_)
  refine pA (.int _ _) ?_
  refine pE ?_
  refine gn ?_
  refine wpL_sq ?_
  refine wpL_sq ?_
  refine wpL_rg ?_
  refine pM (.lit _ _ _) ?_
  refine pLen tS330 ?_
  refine pM (.int _ _) ?_
  refine pE ?_
  refine gn ?_
  refine wpL_bl ?_
  refine wpL_loopO (F := f338_L1 aS0 aV1) (fun s S' => ∃ (J : Nat → V) (G : Heap), Owns H G [.blk b1 (.cells 2 [.int .i64 aV1.Piece, .int .i64 aV1.Side])] ∧ S' = ⟨hav [(0, .lit l1 aS0.length (flat aS0)), (3, .ptr b1 0), (7, .int .i64 (aS0.length : Int)), (8, .int .i64 s)] J, G⟩) hk ⟨_, _, hO, St.hav _ ⟨rfl, rfl, rfl, rfl, trivial⟩⟩ ?_
  rintro x2 _ y1 ⟨J, G, hO, rfl⟩ hk hx1
  refine wpL_sq ?_
  refine wpL_rg ?_
  refine pBi ?_
  refine pE ?_
  refine gn ?_
  refine wpL_sq ?_
  refine wpL_cd (b := decide (x2 < (aS0.length : Int))) (fun hb => ?_) (fun hb => ?_)
  · replace hk := ct hb hk
    refine wpL_sk ?_
    refine gn ?_
    refine wpL_sq ?_
    refine wpL_bl ?_
    refine wpL_sq ?_
    refine wpL_rg ?_
    refine pM (.int _ _) ?_
    refine pA (.int _ _) ?_
    refine pE ?_
    refine gn ?_
    refine wpL_sq ?_
    refine wpL_drw [(0, true), (1, true), (2, true), (3, true), (4, true), (5, false)] [_, _, _, _, _, _] (by decide +kernel) (by rfl) ?_
    refine pLs hO 0 [_, _] tA260 tZ260 ?_
    refine pM (.lit _ _ _) ?_
    refine pM (.int _ _) ?_
    obtain ⟨c3, hc3, hk⟩ := bs hk
    refine pX hc3 tE330 tZ260 ?_
    refine pLp (.agg [_, _]) (rd2 (off := 0) hc3 tA260 tZ260) ?_
    refine pGq tG260 (eqc (eqi _ _ _) (eqc (eqi _ _ _) (rfl))) ?_
    refine pE ?_
    refine gn ?_
    refine wpL_cd (b := ((aV1.Piece == c3.Piece) && ((aV1.Side == c3.Side) && true))) (fun hb => ?_) (fun hb => ?_)
    · replace hk := ct hb hk
      refine wpL_sq ?_
      refine wpL_rg ?_
      refine pM (.int _ _) ?_
      refine pA (.int _ _) ?_
      refine pE ?_
      refine gn ?_
      refine wpL_rt ?_
      refine br (gr (gr (br (gr ?_))))
      replace hk := lx hx1 hk
      replace hk := Option.some.inj hk; subst hk; exact fin0 hO
    · replace hk := cf hb hk
      refine wpL_sk ?_
      refine bn (gn ?_)
      refine wpL_rg ?_
      refine pBi ?_
      refine pM (.int _ _) ?_
      refine pE ?_
      refine gn ?_
      cases hk; exact ⟨_, rfl, _, _, hO, St.hav _ ⟨rfl, rfl, rfl, rfl, trivial⟩⟩
  · replace hk := cf hb hk
    refine wpL_ex ?_
    refine ge (ge (be (gn ?_)))
    replace hk := lx hx1 hk
    refine wpL_sq ?_
    refine wpL_rg ?_
    refine pA (.int _ _) ?_
    refine pE ?_
    refine gn ?_
    refine wpL_rt ?_
    replace hk := Option.some.inj hk; subst hk; exact fin0 hO
/-- impl.End] -/
def f292 (aS0 : List End) (aV1 : End) : Option Bool :=
  ((f338 aS0 aV1).bind fun v2 => some (decide (v2 ≥ (0:Int))))
theorem f292_run {aS0 : List End} {aV1 : End} {r : Bool} {l1 : Nat} {H : Heap} {lk : Lk} (hk : f292 aS0 aV1 = some r) (hlk : 0 < lk.length := by simp) : runL Try.prog hh 292 [.lit l1 aS0.length (flat aS0), .agg [.int .i64 aV1.Piece, .int .i64 aV1.Side]] H lk = some (.bool r, H) := by
  refine run_start Try.func292 rfl Try.ntmps292 Try.results292 rfl rfl fun hO => ?_
  unfold f292 at hk
  refine wpL_sq ?_
  refine wpL_rg ?_
  refine pBox (cs := [_, _]) hO tZ260 (fun b1 G hO => ?_)
  refine pA (.bool _) ?_
  refine pE ?_
  refine gn ?_
  refine wpL_sq ?_
  refine wpL_rg ?_
  refine pM (.lit _ _ _) ?_
  refine pLs hO 0 [_, _] tA260 tZ260 ?_
  obtain ⟨v2, hv2, hk⟩ := bs hk
  refine pCall (fun _ => f338_run hv2) ?_
  refine pBi ?_
  refine pA (.bool _) ?_
  refine pE ?_
  refine gn ?_
  refine wpL_rt ?_
  replace hk := Option.some.inj hk; subst hk; exact fin0 hO
/-- impl.length -/
def f294 (aN0 : Net) (aS1 : Step) : Option Int :=
  ((getI aN0.Pieces aS1.Piece).bind fun c3 => some c3.Len)
theorem f294_run {aN0 : Net} {aS1 : Step} {r : Int} {l1 l2 : Nat} {H : Heap} {lk : Lk} (hk : f294 aN0 aS1 = some r) (hlk : 0 < lk.length := by simp) : runL Try.prog hh 294 [.agg [.lit l1 aN0.Pieces.length (flat aN0.Pieces), .lit l2 aN0.Joints.length (flat aN0.Joints)], .agg [.int .i64 aS1.Piece, .int .i64 aS1.Way]] H lk = some (.int .i64 r, H) := by
  refine run_start Try.func294 rfl Try.ntmps294 Try.results294 rfl rfl fun hO => ?_
  unfold f294 at hk
  refine wpL_sq ?_
  refine wpL_rg ?_
  refine pBox (cs := [_, _]) hO tZ132 (fun b1 G hO => ?_)
  refine pBox (cs := [_, _]) hO tZ258 (fun b2 G hO => ?_)
  refine pA (.int _ _) ?_
  refine pE ?_
  refine gn ?_
  refine wpL_sq ?_
  refine wpL_rg ?_
  refine pF tF132_0 ?_
  refine pLo hO 1 (.lit _ _ _) tA129 ?_
  refine pF tF258_0 ?_
  refine pLo hO 0 (.int _ _) tA3 ?_
  obtain ⟨c3, hc3, hk⟩ := bs hk
  refine pX hc3 tE129 tZ266 ?_
  refine pF tF266_1 ?_
  refine pLp (.int _ _) (rd1 (off := 1) hc3 tA3) ?_
  refine pA (.int _ _) ?_
  refine pE ?_
  refine gn ?_
  refine wpL_rt ?_
  replace hk := Option.some.inj hk; subst hk; exact fin0 hO
/-- impl.trainOk -/
def f200_L1 (aN0 : Net) (aT1 : Train) : (Int × Int × Int × Int) → Option ((Int × Int × Int × Int) ⊕ Bool) := fun s =>
  (bif decide (s.2.2.2 < (aT1.Back.length : Int)) then ((getI aT1.Back s.2.2.2).bind fun c12 => ((f171 c12.Piece (0:Int) (w64 ((aN0.Pieces.length : Int) - (1:Int)))).bind fun v14 => (bif ((!v14 || ((c12.Way != (1:Int)) && (c12.Way != (-1:Int)))) || decide (s.2.2.1 ≥ aT1.Long)) then ((some false).map Sum.inr) else ((f291 c12).bind fun v15 => ((f290 aN0 v15).bind fun v16 => ((f293 ({ Piece := s.1, Way := s.2.1 } : Step)).bind fun v17 => ((f292 v16.1 v17).bind fun v18 => (bif !v18 then ((some false).map Sum.inr) else ((f294 aN0 c12).bind fun v19 => some (.inl (c12.Piece, c12.Way, w64 (s.2.2.1 + v19), w64 (s.2.2.2 + (1:Int))))))))))))) else ((some (decide (s.2.2.1 ≥ aT1.Long))).map Sum.inr))
def f200 (aN0 : Net) (aT1 : Train) : Option Bool :=
  ((f226 aN0 aT1.Front).bind fun v3 => ((bif !v3 then some true else ((f171 aT1.Long (1:Int) (100000:Int)).bind fun v5 => some (!v5))).bind fun t4 => (bif (t4 || decide ((aT1.Back.length : Int) > (200:Int))) then some false else ((f289 aN0 aT1.Front).bind fun v7 => (loopO (f200_L1 aN0 aT1) (aT1.Front.Piece, aT1.Front.Way, v7, (0:Int)))))))
theorem f200_run {aN0 : Net} {aT1 : Train} {r : Bool} {l1 l2 l3 : Nat} {H : Heap} {lk : Lk} (hk : f200 aN0 aT1 = some r) (hlk : 0 < lk.length := by simp) : runL Try.prog hh 200 [.agg [.lit l1 aN0.Pieces.length (flat aN0.Pieces), .lit l2 aN0.Joints.length (flat aN0.Joints)], .agg [.int .i64 aT1.Front.Piece, .int .i64 aT1.Front.At, .int .i64 aT1.Front.Way, .int .i64 aT1.Long, .lit l3 aT1.Back.length (flat aT1.Back)]] H lk = some (.bool r, H) := by
  refine run_start Try.func200 rfl Try.ntmps200 Try.results200 rfl rfl fun hO => ?_
  unfold f200 at hk
  refine wpL_sq ?_
  refine wpL_rg ?_
  refine pBox (cs := [_, _]) hO tZ132 (fun b1 G hO => ?_)
  refine pBox (cs := [_, _, _, _, _]) hO tZ136 (fun b2 G hO => ?_)
  refine pA (.bool _) ?_
  refine pE ?_
  refine gn ?_
  refine wpL_sq ?_
  refine wpL_sq ?_
  refine wpL_rg ?_
  refine pLs hO 1 [_, _] tA132 tZ132 ?_
  refine pF tF136_0 ?_
  refine pLs hO 0 [_, _, _] tA134 tZ134 ?_
  obtain ⟨v3, hv3, hk⟩ := bs hk
  refine pCall (fun _ => f226_run hv3) ?_
  refine pU ?_
  refine pM (.bool _) ?_
  obtain ⟨t4, ht, hk⟩ := bs hk
  refine wpR_mid (l1 := [_, _, _, _, _]) (fun S' => ∃ J, S' = ⟨hav [(2, .ptr b1 0), (3, .ptr b2 0), (21, .bool t4)] J, G⟩) ?_ ?_
  · refine bc (b := !v3) (fun hg1 => ?_) (fun hg1 => ?_)
    · replace hk := ct hg1 ht
      refine pGn hg1 ?_
      refine pGn hg1 ?_
      refine pGn hg1 ?_
      refine pGn hg1 ?_
      refine pPt hg1 (.bool _) ?_
      cases hk; exact pE ⟨_, St.hav _ ⟨rfl, rfl, rfl, trivial⟩⟩
    · replace hk := cf hg1 ht
      refine pGy hg1 ?_
      refine pF tF136_1 ?_
      refine pGy hg1 ?_
      refine pLo hO 0 (.int _ _) tA3 ?_
      refine pGy hg1 ?_
      obtain ⟨v5, hv5, hk⟩ := bs hk
      refine pCall (fun _ => f171_run hv5) ?_
      refine pGy hg1 ?_
      refine pU ?_
      refine pPf hg1 (.bool _) ?_
      cases hk; exact pE ⟨_, St.hav _ ⟨rfl, rfl, rfl, trivial⟩⟩
  · rintro _ ⟨J, rfl⟩
    refine pM (.bool _) ?_
    refine wpR_mid (l1 := [_, _, _, _, _]) (fun S' => ∃ J, S' = ⟨hav [(2, .ptr b1 0), (3, .ptr b2 0), (27, .bool (t4 || decide ((aT1.Back.length : Int) > (200:Int))))] J, G⟩) ?_ ?_
    · refine bc (b := t4) (fun hg1 => ?_) (fun hg1 => ?_)
      · refine pGn hg1 ?_
        refine pGn hg1 ?_
        refine pGn hg1 ?_
        refine pGn hg1 ?_
        refine pPt hg1 (.bool _) ?_
        exact pE ⟨_, St.hav _ ⟨rfl, rfl, by rw [hg1]; rfl, trivial⟩⟩
      · refine pGy hg1 ?_
        refine pF tF136_2 ?_
        refine pGy hg1 ?_
        refine pLo hO 0 (.lit _ _ _) tA63 ?_
        refine pGy hg1 ?_
        refine pLen tS63 ?_
        refine pGy hg1 ?_
        refine pBi ?_
        refine pPf hg1 (.bool _) ?_
        exact pE ⟨_, St.hav _ ⟨rfl, rfl, by rw [hg1]; rfl, trivial⟩⟩
    · rintro _ ⟨J, rfl⟩
      refine pE ?_
      refine gn ?_
      refine wpL_cd (b := (t4 || decide ((aT1.Back.length : Int) > (200:Int)))) (fun hb => ?_) (fun hb => ?_)
      · replace hk := ct hb hk
        refine wpL_sq ?_
        refine wpL_rg ?_
        refine pA (.bool _) ?_
        refine pE ?_
        refine gn ?_
        refine wpL_rt ?_
        refine gr ?_
        replace hk := Option.some.inj hk; subst hk; exact fin0 hO
      · replace hk := cf hb hk
        refine wpL_sk ?_
        refine gn ?_
        refine wpL_sq ?_
        refine wpL_rg ?_
        refine pF tF136_0 ?_
        refine pF tF134_0 ?_
        refine pLo hO 0 (.int _ _) tA3 ?_
        refine pF tF136_0 ?_
        refine pF tF134_2 ?_
        refine pLo hO 0 (.int _ _) tA3 ?_
        refine pBd [_, _] t0258 tP258 ?_
        refine pNew hO tZ258 t0258 (fun b6 G hO => ?_)
        refine pSt (xs := [_, _]) hO 0 tZ258 rfl (fun G hO => ?_)
        refine pE ?_
        refine gn ?_
        refine wpL_sq ?_
        refine wpL_rg ?_
        refine pLs hO 2 [_, _] tA132 tZ132 ?_
        refine pF tF136_0 ?_
        refine pLs hO 1 [_, _, _] tA134 tZ134 ?_
        obtain ⟨v7, hv7, hk⟩ := bs hk
        refine pCall (fun _ => f289_run hv7) ?_
        refine pA (.int _ _) ?_
        refine pE ?_
        refine gn ?_
        refine wpL_sq ?_
        refine wpL_sq ?_
        refine wpL_rg ?_
        refine pF tF136_2 ?_
        refine pLo hO 1 (.lit _ _ _) tA63 ?_
        refine pLen tS63 ?_
        refine pM (.int _ _) ?_
        refine pE ?_
        refine gn ?_
        refine wpL_bl ?_
        refine wpL_loopO (F := f200_L1 aN0 aT1) (fun s S' => ∃ (J : Nat → V) (G : Heap), Owns H G [.blk b6 (.cells 2 [.int .i64 s.1, .int .i64 s.2.1]), .blk b2 (.cells 5 [.int .i64 aT1.Front.Piece, .int .i64 aT1.Front.At, .int .i64 aT1.Front.Way, .int .i64 aT1.Long, .lit l3 aT1.Back.length (flat aT1.Back)]), .blk b1 (.cells 2 [.lit l1 aN0.Pieces.length (flat aN0.Pieces), .lit l2 aN0.Joints.length (flat aN0.Joints)])] ∧ S' = ⟨hav [(2, .ptr b1 0), (3, .ptr b2 0), (5, .ptr b6 0), (6, .int .i64 s.2.2.1), (40, .lit l3 aT1.Back.length (flat aT1.Back)), (41, .int .i64 (aT1.Back.length : Int)), (42, .int .i64 s.2.2.2)] J, G⟩) hk ⟨_, _, hO, St.hav _ ⟨rfl, rfl, rfl, rfl, rfl, rfl, rfl, trivial⟩⟩ ?_
        rintro ⟨x8, x9, x10, x11⟩ _ y1 ⟨J, G, hO, rfl⟩ hk hx1
        refine wpL_sq ?_
        refine wpL_rg ?_
        refine pBi ?_
        refine pE ?_
        refine gn ?_
        refine wpL_sq ?_
        refine wpL_cd (b := decide (x11 < (aT1.Back.length : Int))) (fun hb => ?_) (fun hb => ?_)
        · replace hk := ct hb hk
          refine wpL_sk ?_
          refine gn ?_
          refine wpL_sq ?_
          refine wpL_bl ?_
          refine wpL_sq ?_
          refine wpL_rg ?_
          obtain ⟨c12, hc12, hk⟩ := bs hk
          refine pX hc12 tE63 tZ258 ?_
          refine pLp (.agg [_, _]) (rd2 (off := 0) hc12 tA258 tZ258) ?_
          refine pNew hO tZ258 t0258 (fun b13 G hO => ?_)
          refine pSt (xs := [_, _]) hO 0 tZ258 rfl (fun G hO => ?_)
          refine pE ?_
          refine gn ?_
          refine wpL_sq ?_
          refine wpL_sq ?_
          refine wpL_rg ?_
          refine pF tF258_0 ?_
          refine pLo hO 0 (.int _ _) tA3 ?_
          refine pF tF132_0 ?_
          refine pLo hO 3 (.lit _ _ _) tA129 ?_
          refine pLen tS129 ?_
          refine pBi ?_
          obtain ⟨v14, hv14, hk⟩ := bs hk
          refine pCall (fun _ => f171_run hv14) ?_
          refine pU ?_
          refine pM (.bool _) ?_
          refine wpR_mid (l1 := [_, _, _, _, _, _, _, _, _]) (fun S' => ∃ J, S' = ⟨hav [(2, .ptr b1 0), (3, .ptr b2 0), (5, .ptr b6 0), (6, .int .i64 x10), (8, .ptr b13 0), (40, .lit l3 aT1.Back.length (flat aT1.Back)), (41, .int .i64 (aT1.Back.length : Int)), (42, .int .i64 x11), (63, .bool (!v14 || ((c12.Way != (1:Int)) && (c12.Way != (-1:Int)))))] J, G⟩) ?_ ?_
          · refine bc (b := !v14) (fun hg1 => ?_) (fun hg1 => ?_)
            · refine pGn hg1 ?_
              refine pGn hg1 ?_
              refine pGn hg1 ?_
              refine pGn hg1 ?_
              refine pGu ?_
              refine pGu ?_
              refine pGu ?_
              refine pGn hg1 ?_
              refine pPt hg1 (.bool _) ?_
              exact pE ⟨_, St.hav _ ⟨rfl, rfl, rfl, rfl, rfl, rfl, rfl, rfl, by rw [hg1]; rfl, trivial⟩⟩
            · refine pGy hg1 ?_
              refine pF tF258_1 ?_
              refine pGy hg1 ?_
              refine pLo hO 0 (.int _ _) tA3 ?_
              refine pGy hg1 ?_
              refine pBi ?_
              refine pGy hg1 ?_
              refine pM (.bool _) ?_
              refine wpR_mid (l1 := [_, _, _, _]) (fun S' => ∃ J, S' = ⟨hav [(2, .ptr b1 0), (3, .ptr b2 0), (5, .ptr b6 0), (6, .int .i64 x10), (8, .ptr b13 0), (40, .lit l3 aT1.Back.length (flat aT1.Back)), (41, .int .i64 (aT1.Back.length : Int)), (42, .int .i64 x11), (54, .bool (!v14)), (62, .bool ((c12.Way != (1:Int)) && (c12.Way != (-1:Int))))] J, G⟩) ?_ ?_
              · refine bc (b := (c12.Way != (1:Int))) (fun hg2 => ?_) (fun hg2 => ?_)
                · refine pGy hg2 ?_
                  refine pF tF258_1 ?_
                  refine pGy hg2 ?_
                  refine pLo hO 0 (.int _ _) tA3 ?_
                  refine pGy hg2 ?_
                  refine pBi ?_
                  refine pGy hg1 ?_
                  refine pPt hg2 (.bool _) ?_
                  exact pE ⟨_, St.hav _ ⟨rfl, rfl, rfl, rfl, rfl, rfl, rfl, rfl, rfl, by rw [hg2]; rfl, trivial⟩⟩
                · refine pGn hg2 ?_
                  refine pGn hg2 ?_
                  refine pGn hg2 ?_
                  refine pGy hg1 ?_
                  refine pPf hg2 (.bool _) ?_
                  exact pE ⟨_, St.hav _ ⟨rfl, rfl, rfl, rfl, rfl, rfl, rfl, rfl, rfl, by rw [hg2]; rfl, trivial⟩⟩
              · rintro _ ⟨J, rfl⟩
                refine pPf hg1 (.bool _) ?_
                exact pE ⟨_, St.hav _ ⟨rfl, rfl, rfl, rfl, rfl, rfl, rfl, rfl, by rw [hg1]; rfl, trivial⟩⟩
          · rintro _ ⟨J, rfl⟩
            refine pM (.bool _) ?_
            refine wpR_mid (l1 := [_, _, _, _, _]) (fun S' => ∃ J, S' = ⟨hav [(2, .ptr b1 0), (3, .ptr b2 0), (5, .ptr b6 0), (6, .int .i64 x10), (8, .ptr b13 0), (40, .lit l3 aT1.Back.length (flat aT1.Back)), (41, .int .i64 (aT1.Back.length : Int)), (42, .int .i64 x11), (69, .bool ((!v14 || ((c12.Way != (1:Int)) && (c12.Way != (-1:Int)))) || decide (x10 ≥ aT1.Long)))] J, G⟩) ?_ ?_
            · refine bc (b := (!v14 || ((c12.Way != (1:Int)) && (c12.Way != (-1:Int))))) (fun hg1 => ?_) (fun hg1 => ?_)
              · refine pGn hg1 ?_
                refine pGn hg1 ?_
                refine pGn hg1 ?_
                refine pGn hg1 ?_
                refine pPt hg1 (.bool _) ?_
                exact pE ⟨_, St.hav _ ⟨rfl, rfl, rfl, rfl, rfl, rfl, rfl, rfl, by rw [hg1]; rfl, trivial⟩⟩
              · refine pGy hg1 ?_
                refine pM (.int _ _) ?_
                refine pGy hg1 ?_
                refine pF tF136_1 ?_
                refine pGy hg1 ?_
                refine pLo hO 2 (.int _ _) tA3 ?_
                refine pGy hg1 ?_
                refine pBi ?_
                refine pPf hg1 (.bool _) ?_
                exact pE ⟨_, St.hav _ ⟨rfl, rfl, rfl, rfl, rfl, rfl, rfl, rfl, by rw [hg1]; rfl, trivial⟩⟩
            · rintro _ ⟨J, rfl⟩
              refine pE ?_
              refine gn ?_
              refine wpL_cd (b := ((!v14 || ((c12.Way != (1:Int)) && (c12.Way != (-1:Int)))) || decide (x10 ≥ aT1.Long))) (fun hb => ?_) (fun hb => ?_)
              · replace hk := ct hb hk
                refine wpL_sq ?_
                refine wpL_rg ?_
                refine pA (.bool _) ?_
                refine pE ?_
                refine gn ?_
                refine wpL_rt ?_
                refine gr (br (gr (gr (br (gr ?_)))))
                replace hk := lx hx1 hk
                replace hk := Option.some.inj hk; subst hk; exact fin0 hO
              · replace hk := cf hb hk
                refine wpL_sk ?_
                refine gn ?_
                refine wpL_sq ?_
                refine wpL_sq ?_
                refine wpL_drw [(0, true), (1, true), (2, true), (3, false), (4, false), (5, false), (6, false), (7, false), (8, false)] [_, _, _, _, _, _, _, _, _] (by decide +kernel) (by rfl) ?_
                refine pLs hO 3 [_, _] tA132 tZ132 ?_
                refine pLs hO 0 [_, _] tA258 tZ258 ?_
                obtain ⟨v15, hv15, hk⟩ := bs hk
                refine pCall (fun _ => f291_run hv15) ?_
                obtain ⟨v16, hv16, hk⟩ := bs hk
                refine pCall (fun _ => f290_run hv16) ?_
                refine pM (.tup [_, _]) ?_
                refine pEx (.lit _ _ _) ?_
                refine pEx (.lit _ _ _) ?_
                refine pA (.lit _ _ _) ?_
                refine pA (.lit _ _ _) ?_
                refine pE ?_
                refine gn ?_
                refine wpL_sq ?_
                refine wpL_rg ?_
                refine pM (.lit _ _ _) ?_
                refine pLs hO 1 [_, _] tA258 tZ258 ?_
                obtain ⟨v17, hv17, hk⟩ := bs hk
                refine pCall (fun _ => f293_run hv17) ?_
                obtain ⟨v18, hv18, hk⟩ := bs hk
                refine pCall (fun _ => f292_run hv18) ?_
                refine pU ?_
                refine pE ?_
                refine gn ?_
                refine wpL_cd (b := !v18) (fun hb => ?_) (fun hb => ?_)
                · replace hk := ct hb hk
                  refine wpL_sq ?_
                  refine wpL_rg ?_
                  refine pA (.bool _) ?_
                  refine pE ?_
                  refine gn ?_
                  refine wpL_rt ?_
                  refine gr (br (gr (gr (br (gr ?_)))))
                  replace hk := lx hx1 hk
                  replace hk := Option.some.inj hk; subst hk; exact fin0 hO
                · replace hk := cf hb hk
                  refine wpL_sk ?_
                  refine gn ?_
                  refine wpL_sq ?_
                  refine wpL_rg ?_
                  refine pLs hO 0 [_, _] tA258 tZ258 ?_
                  refine pSt (xs := [_, _]) hO 1 tZ258 rfl (fun G hO => ?_)
                  refine pE ?_
                  refine gn ?_
                  refine wpL_rg ?_
                  refine pM (.int _ _) ?_
                  refine pLs hO 3 [_, _] tA132 tZ132 ?_
                  refine pLs hO 0 [_, _] tA258 tZ258 ?_
                  obtain ⟨v19, hv19, hk⟩ := bs hk
                  refine pCall (fun _ => f294_run hv19) ?_
                  refine pBi ?_
                  refine pA (.int _ _) ?_
                  refine pE ?_
                  refine bn (gn ?_)
                  refine wpL_rg ?_
                  refine pBi ?_
                  refine pM (.int _ _) ?_
                  refine pE ?_
                  refine gn ?_
                  cases hk; exact ⟨_, rfl, _, _, (Owns.pick hO [1, 2, 3] (by decide) rfl), St.hav _ ⟨rfl, rfl, rfl, rfl, rfl, rfl, rfl, trivial⟩⟩
        · replace hk := cf hb hk
          refine wpL_ex ?_
          refine ge (ge (be (gn ?_)))
          replace hk := lx hx1 hk
          refine wpL_sq ?_
          refine wpL_rg ?_
          refine pM (.int _ _) ?_
          refine pF tF136_1 ?_
          refine pLo hO 1 (.int _ _) tA3 ?_
          refine pBi ?_
          refine pA (.bool _) ?_
          refine pE ?_
          refine gn ?_
          refine wpL_rt ?_
          replace hk := Option.some.inj hk; subst hk; exact fin0 hO
/-- impl.partOf -/
def f340 (aPiece0 : Int) (aA1 : Int) (aB2 : Int) : Option Part :=
  some ({ Piece := aPiece0, From := (if aB2 < aA1 then aB2 else aA1), To := (if aB2 > aA1 then aB2 else aA1) } : Part)
theorem f340_run {aPiece0 : Int} {aA1 : Int} {aB2 : Int} {r : Part} {H : Heap} {lk : Lk} (hk : f340 aPiece0 aA1 aB2 = some r) (hlk : 0 < lk.length := by simp) : runL Try.prog hh 340 [.int .i64 aPiece0, .int .i64 aA1, .int .i64 aB2] H lk = some (.agg [.int .i64 r.Piece, .int .i64 r.From, .int .i64 r.To], H) := by
  refine run_start Try.func340 rfl Try.ntmps340 Try.results340 rfl rfl fun hO => ?_
  unfold f340 at hk
  refine wpL_sq ?_
  refine wpL_rg ?_
  refine pNew hO tZ271 t0271 (fun b1 G hO => ?_)
  refine pE ?_
  refine gn ?_
  refine wpL_sq ?_
  refine wpL_rg ?_
  refine pM (.int _ _) ?_
  refine pM (.int _ _) ?_
  refine pM (.int _ _) ?_
  refine pMin ?_
  refine pM (.int _ _) ?_
  refine pM (.int _ _) ?_
  refine pMax ?_
  refine pBd [_, _, _] t0271 tP271 ?_
  refine pSt (xs := [_, _, _]) hO 0 tZ271 rfl (fun G hO => ?_)
  refine pE ?_
  refine gn ?_
  refine wpL_rt ?_
  replace hk := Option.some.inj hk; subst hk; exact finZ hO (fz_agg (n := 2) (fz_c (fz_int _ _) (fz_c (fz_int _ _) (fz_c (fz_int _ _) (fz_n))))) (resS hO 0 [_, _, _] tA271 tZ271 resN)
/-- impl.lying -/
def f297_k2 (x5 : Int) (x8 : Int) (c9 : Step) (v11 : Int) (x12 : List Part) (x14 : Int) : Option ((Int × (List Part) × Int) ⊕ (List Part)) :=
  ((f340 c9.Piece x14 (w64 (x14 - (w64 ((if v11 < x5 then v11 else x5) * c9.Way))))).bind fun v15 => ((appB 24 x12 ([v15] : List Part)).bind fun z16 => some (.inl (w64 (x5 - (if v11 < x5 then v11 else x5)), z16, w64 (x8 + (1:Int))))))
def f297_L1 (aN0 : Net) (aT1 : Train) : (Int × (List Part) × Int) → Option ((Int × (List Part) × Int) ⊕ (List Part)) := fun s =>
  (bif decide (s.2.2 < (aT1.Back.length : Int)) then ((getI aT1.Back s.2.2).bind fun c9 => ((f294 aN0 c9).bind fun v11 => (bif (c9.Way == (1:Int)) then ((f294 aN0 c9).bind fun v17 => (f297_k2 s.1 s.2.2 c9 v11 s.2.1 v17)) else (f297_k2 s.1 s.2.2 c9 v11 s.2.1 (0:Int))))) else ((some s.2.1).map Sum.inr))
def f297 (aN0 : Net) (aT1 : Train) : Option (List Part) :=
  ((f289 aN0 aT1.Front).bind fun v3 => ((f340 aT1.Front.Piece aT1.Front.At (w64 (aT1.Front.At - (w64 ((if v3 < aT1.Long then v3 else aT1.Long) * aT1.Front.Way))))).bind fun v4 => (loopO (f297_L1 aN0 aT1) (w64 (aT1.Long - (if v3 < aT1.Long then v3 else aT1.Long)), ([v4] : List Part), (0:Int)))))
theorem f297_run {aN0 : Net} {aT1 : Train} {r : (List Part)} {l1 l2 l3 : Nat} {H : Heap} {lk : Lk} (hk : f297 aN0 aT1 = some r) (hlk : 0 < lk.length := by simp) : runL Try.prog hh 297 [.agg [.lit l1 aN0.Pieces.length (flat aN0.Pieces), .lit l2 aN0.Joints.length (flat aN0.Joints)], .agg [.int .i64 aT1.Front.Piece, .int .i64 aT1.Front.At, .int .i64 aT1.Front.Way, .int .i64 aT1.Long, .lit l3 aT1.Back.length (flat aT1.Back)]] H lk = some (.lit 0 r.length (flat r), H) := by
  refine run_start Try.func297 rfl Try.ntmps297 Try.results297 rfl rfl fun hO => ?_
  unfold f297 at hk
  refine wpL_sq ?_
  refine wpL_rg ?_
  refine pBox (cs := [_, _]) hO tZ132 (fun b1 G hO => ?_)
  refine pBox (cs := [_, _, _, _, _]) hO tZ136 (fun b2 G hO => ?_)
  refine pA (.tl 0 []) ?_
  refine pE ?_
  refine gn ?_
  refine wpL_sq ?_
  refine wpL_rg ?_
  refine pF tF136_1 ?_
  refine pLo hO 0 (.int _ _) tA3 ?_
  refine pA (.int _ _) ?_
  refine pE ?_
  refine gn ?_
  refine wpL_sq ?_
  refine wpL_rg ?_
  refine pM (.int _ _) ?_
  refine pLs hO 1 [_, _] tA132 tZ132 ?_
  refine pF tF136_0 ?_
  refine pLs hO 0 [_, _, _] tA134 tZ134 ?_
  obtain ⟨v3, hv3, hk⟩ := bs hk
  refine pCall (fun _ => f289_run hv3) ?_
  refine pMin ?_
  refine pA (.int _ _) ?_
  refine pE ?_
  refine gn ?_
  refine wpL_sq ?_
  refine wpL_rg ?_
  refine pF tF136_0 ?_
  refine pF tF134_0 ?_
  refine pLo hO 0 (.int _ _) tA3 ?_
  refine pF tF136_0 ?_
  refine pF tF134_1 ?_
  refine pLo hO 0 (.int _ _) tA3 ?_
  refine pF tF136_0 ?_
  refine pF tF134_1 ?_
  refine pLo hO 0 (.int _ _) tA3 ?_
  refine pM (.int _ _) ?_
  refine pF tF136_0 ?_
  refine pF tF134_2 ?_
  refine pLo hO 0 (.int _ _) tA3 ?_
  refine pBi ?_
  refine pBi ?_
  obtain ⟨v4, hv4, hk⟩ := bs hk
  refine pCall (fun _ => f340_run hv4) ?_
  refine pBs (ps := [(0, (.agg [_, _, _]))]) ([v4] : List Part) tE65 tZ271 t0271 (emb_cons (emb_agg (α := Part) rfl v4) (emb_nil)) ?_
  refine pA (.tl 1 (flat ([v4] : List Part))) ?_
  refine pE ?_
  refine gn ?_
  refine wpL_sq ?_
  refine wpL_rg ?_
  refine pM (.int _ _) ?_
  refine pM (.int _ _) ?_
  refine pBi ?_
  refine pA (.int _ _) ?_
  refine pE ?_
  refine gn ?_
  refine wpL_sq ?_
  refine wpL_sq ?_
  refine wpL_rg ?_
  refine pF tF136_2 ?_
  refine pLo hO 0 (.lit _ _ _) tA63 ?_
  refine pLen tS63 ?_
  refine pM (.int _ _) ?_
  refine pE ?_
  refine gn ?_
  refine wpL_bl ?_
  refine wpL_loopO (F := f297_L1 aN0 aT1) (fun s S' => ∃ (o6 : V) (J : Nat → V) (G : Heap), Owns H G [.blk b1 (.cells 2 [.lit l1 aN0.Pieces.length (flat aN0.Pieces), .lit l2 aN0.Joints.length (flat aN0.Joints)]), .own o6 lk.length 3 s.2.1.length (flat s.2.1)] ∧ S' = ⟨hav [(2, .ptr b1 0), (5, .int .i64 s.1), (7, o6), (40, .lit l3 aT1.Back.length (flat aT1.Back)), (41, .int .i64 (aT1.Back.length : Int)), (42, .int .i64 s.2.2)] J, G⟩) hk ⟨(.tl 1 (flat ([v4] : List Part))), _, _, (Owns.pick (Owns.addTl hO lk.length ([v4] : List Part)) [2, 0] (by decide) rfl), St.hav _ ⟨rfl, rfl, rfl, rfl, rfl, rfl, trivial⟩⟩ ?_
  rintro ⟨x5, x6, x8⟩ _ y1 ⟨o6, J, G, hO, rfl⟩ hk hx1
  refine wpL_sq ?_
  refine wpL_rg ?_
  refine pBi ?_
  refine pE ?_
  refine gn ?_
  refine wpL_sq ?_
  refine wpL_cd (b := decide (x8 < (aT1.Back.length : Int))) (fun hb => ?_) (fun hb => ?_)
  · replace hk := ct hb hk
    refine wpL_sk ?_
    refine gn ?_
    refine wpL_sq ?_
    refine wpL_bl ?_
    refine wpL_sq ?_
    refine wpL_rg ?_
    obtain ⟨c9, hc9, hk⟩ := bs hk
    refine pX hc9 tE63 tZ258 ?_
    refine pLp (.agg [_, _]) (rd2 (off := 0) hc9 tA258 tZ258) ?_
    refine pNew hO tZ258 t0258 (fun b10 G hO => ?_)
    refine pSt (xs := [_, _]) hO 0 tZ258 rfl (fun G hO => ?_)
    refine pE ?_
    refine gn ?_
    refine wpL_sq ?_
    refine wpL_rg ?_
    refine pM (.int _ _) ?_
    refine pLs hO 1 [_, _] tA132 tZ132 ?_
    refine pLs hO 0 [_, _] tA258 tZ258 ?_
    obtain ⟨v11, hv11, hk⟩ := bs hk
    refine pCall (fun _ => f294_run hv11) ?_
    refine pMin ?_
    refine pA (.int _ _) ?_
    refine pE ?_
    refine gn ?_
    refine wpL_sq ?_
    refine wpL_rg ?_
    refine pA (.int _ _) ?_
    refine pE ?_
    refine gn ?_
    refine wpL_mid (fun S' => ∃ (x12 : List Part) (x14 : Int) (o12 : V) (J : Nat → V) (G : Heap), f297_k2 x5 x8 c9 v11 x12 x14 = some y1 ∧ Owns H G [.blk b10 (.cells 2 [.int .i64 c9.Piece, .int .i64 c9.Way]), .blk b1 (.cells 2 [.lit l1 aN0.Pieces.length (flat aN0.Pieces), .lit l2 aN0.Joints.length (flat aN0.Joints)]), .own o12 lk.length 3 x12.length (flat x12)] ∧ S' = ⟨hav [(2, .ptr b1 0), (5, .int .i64 x5), (6, .int .i64 (if v11 < x5 then v11 else x5)), (7, o12), (9, .ptr b10 0), (10, .int .i64 x14), (40, .lit l3 aT1.Back.length (flat aT1.Back)), (41, .int .i64 (aT1.Back.length : Int)), (42, .int .i64 x8)] J, G⟩) ?_ ?_
    · refine wpL_sq ?_
      refine wpL_rg ?_
      refine pF tF258_1 ?_
      refine pLo hO 0 (.int _ _) tA3 ?_
      refine pBi ?_
      refine pE ?_
      refine gn ?_
      refine wpL_cd (b := (c9.Way == (1:Int))) (fun hb => ?_) (fun hb => ?_)
      · replace hk := ct hb hk
        refine wpL_rg ?_
        refine pLs hO 1 [_, _] tA132 tZ132 ?_
        refine pLs hO 0 [_, _] tA258 tZ258 ?_
        obtain ⟨v17, hv17, hk⟩ := bs hk
        refine pCall (fun _ => f294_run hv17) ?_
        refine pA (.int _ _) ?_
        refine pE ?_
        refine gn ?_
        exact ⟨x6, v17, o6, _, _, hk, hO, St.hav _ ⟨rfl, rfl, rfl, rfl, rfl, rfl, rfl, rfl, rfl, trivial⟩⟩
      · replace hk := cf hb hk
        refine wpL_sk ?_
        refine gn ?_
        exact ⟨x6, (0:Int), o6, _, _, hk, hO, St.hav _ ⟨rfl, rfl, rfl, rfl, rfl, rfl, rfl, rfl, rfl, trivial⟩⟩
    · rintro _ ⟨x12, x14, o12, J, G, hk, hO, rfl⟩
      refine wpL_sq ?_
      refine wpL_rg ?_
      refine pM o12 ?_
      refine pF tF258_0 ?_
      refine pLo hO 0 (.int _ _) tA3 ?_
      refine pM (.int _ _) ?_
      refine pM (.int _ _) ?_
      refine pM (.int _ _) ?_
      refine pF tF258_1 ?_
      refine pLo hO 0 (.int _ _) tA3 ?_
      refine pBi ?_
      refine pBi ?_
      obtain ⟨v15, hv15, hk⟩ := bs hk
      refine pCall (fun _ => f340_run hv15) ?_
      refine pBs (ps := [(0, (.agg [_, _, _]))]) ([v15] : List Part) tE65 tZ271 t0271 (emb_cons (emb_agg (α := Part) rfl v15) (emb_nil)) ?_
      obtain ⟨z16, hz16, hk⟩ := bs hk
      refine pAp (xs := x12) hO 2 hz16 (bears_tl ([v15] : List Part)) tE65 tZ271 tB271 t0271 tE65 rfl (fun o16 G hO => ?_)
      refine pA o16 ?_
      refine pE ?_
      refine gn ?_
      refine wpL_rg ?_
      refine pM (.int _ _) ?_
      refine pM (.int _ _) ?_
      refine pBi ?_
      refine pA (.int _ _) ?_
      refine pE ?_
      refine bn (gn ?_)
      refine wpL_rg ?_
      refine pBi ?_
      refine pM (.int _ _) ?_
      refine pE ?_
      refine gn ?_
      cases hk; exact ⟨_, rfl, o16, _, _, (Owns.pick hO [1, 2] (by decide) rfl), St.hav _ ⟨rfl, rfl, rfl, rfl, rfl, rfl, trivial⟩⟩
  · replace hk := cf hb hk
    refine wpL_ex ?_
    refine ge (ge (be (gn ?_)))
    replace hk := lx hx1 hk
    refine wpL_sq ?_
    refine wpL_rg ?_
    refine pM o6 ?_
    refine pA o6 ?_
    refine pE ?_
    refine gn ?_
    refine wpL_rt ?_
    replace hk := Option.some.inj hk; subst hk; exact finZ hO (fz_own (xs := x6) hlk 1) (resT o6 resN)
/-- impl.body -/
def f232_k2 (x6 : Int) (x7 : List Part) : Option (((List Part) × Int) ⊕ (List Part)) :=
  some (.inl (x7, w64 (x6 + (1:Int))))
def f232_L1 (v3 : (List Part)) : ((List Part) × Int) → Option (((List Part) × Int) ⊕ (List Part)) := fun s =>
  (bif decide (s.2 < (v3.length : Int)) then ((getI v3 s.2).bind fun c9 => (bif decide (c9.From < c9.To) then ((appB 24 s.1 ([c9] : List Part)).bind fun z11 => (f232_k2 s.2 z11)) else (f232_k2 s.2 s.1))) else ((some s.1).map Sum.inr))
def f232 (aN0 : Net) (aT1 : Train) : Option (List Part) :=
  ((f297 aN0 aT1).bind fun v3 => (loopO (f232_L1 v3) (([] : List Part), (0:Int))))
theorem f232_run {aN0 : Net} {aT1 : Train} {r : (List Part)} {l1 l2 l3 : Nat} {H : Heap} {lk : Lk} (hk : f232 aN0 aT1 = some r) (hlk : 0 < lk.length := by simp) : runL Try.prog hh 232 [.agg [.lit l1 aN0.Pieces.length (flat aN0.Pieces), .lit l2 aN0.Joints.length (flat aN0.Joints)], .agg [.int .i64 aT1.Front.Piece, .int .i64 aT1.Front.At, .int .i64 aT1.Front.Way, .int .i64 aT1.Long, .lit l3 aT1.Back.length (flat aT1.Back)]] H lk = some (.lit 0 r.length (flat r), H) := by
  refine run_start Try.func232 rfl Try.ntmps232 Try.results232 rfl rfl fun hO => ?_
  unfold f232 at hk
  refine wpL_sq ?_
  refine wpL_rg ?_
  refine pBox (cs := [_, _]) hO tZ132 (fun b1 G hO => ?_)
  refine pBox (cs := [_, _, _, _, _]) hO tZ136 (fun b2 G hO => ?_)
  refine pA (.tl 0 []) ?_
  refine pE ?_
  refine gn ?_
  refine wpL_sq ?_
  refine wpL_rg ?_
  refine pA (.tl 0 []) ?_
  refine pE ?_
  refine gn ?_
  refine wpL_sq ?_
  refine wpL_sq ?_
  refine wpL_rg ?_
  refine pLs hO 1 [_, _] tA132 tZ132 ?_
  refine pLs hO 0 [_, _, _, _, _] tA136 tZ136 ?_
  obtain ⟨v3, hv3, hk⟩ := bs hk
  refine pCall (fun _ => f297_run hv3) ?_
  refine pLen tS65 ?_
  refine pM (.int _ _) ?_
  refine pE ?_
  refine gn ?_
  refine wpL_bl ?_
  refine wpL_loopO (F := f232_L1 v3) (fun s S' => ∃ (o4 : V) (J : Nat → V) (G : Heap), Owns H G [.own o4 lk.length 3 s.1.length (flat s.1)] ∧ S' = ⟨hav [(5, o4), (10, .lit 0 v3.length (flat v3)), (11, .int .i64 (v3.length : Int)), (12, .int .i64 s.2)] J, G⟩) hk ⟨(.tl 0 []), _, _, (Owns.pick (Owns.addTl hO lk.length ([] : List Part)) [0] (by decide) rfl), St.hav _ ⟨rfl, rfl, rfl, rfl, trivial⟩⟩ ?_
  rintro ⟨x4, x6⟩ _ y1 ⟨o4, J, G, hO, rfl⟩ hk hx1
  refine wpL_sq ?_
  refine wpL_rg ?_
  refine pBi ?_
  refine pE ?_
  refine gn ?_
  refine wpL_sq ?_
  refine wpL_cd (b := decide (x6 < (v3.length : Int))) (fun hb => ?_) (fun hb => ?_)
  · replace hk := ct hb hk
    refine wpL_sk ?_
    refine gn ?_
    refine wpL_mid (fun S' => ∃ (x7 : List Part) (o7 : V) (J : Nat → V) (G : Heap), f232_k2 x6 x7 = some y1 ∧ Owns H G [.own o7 lk.length 3 x7.length (flat x7)] ∧ S' = ⟨hav [(5, o7), (10, .lit 0 v3.length (flat v3)), (11, .int .i64 (v3.length : Int)), (12, .int .i64 x6)] J, G⟩) ?_ ?_
    · refine wpL_bl ?_
      refine wpL_sq ?_
      refine wpL_rg ?_
      obtain ⟨c9, hc9, hk⟩ := bs hk
      refine pX hc9 tE65 tZ271 ?_
      refine pLp (.agg [_, _, _]) (rd2 (off := 0) hc9 tA271 tZ271) ?_
      refine pNew hO tZ271 t0271 (fun b10 G hO => ?_)
      refine pSt (xs := [_, _, _]) hO 0 tZ271 rfl (fun G hO => ?_)
      refine pE ?_
      refine gn ?_
      refine wpL_sq ?_
      refine wpL_rg ?_
      refine pF tF271_1 ?_
      refine pLo hO 0 (.int _ _) tA3 ?_
      refine pF tF271_2 ?_
      refine pLo hO 0 (.int _ _) tA3 ?_
      refine pBi ?_
      refine pE ?_
      refine gn ?_
      refine wpL_cd (b := decide (c9.From < c9.To)) (fun hb => ?_) (fun hb => ?_)
      · replace hk := ct hb hk
        refine wpL_rg ?_
        refine pM o4 ?_
        refine pLs hO 0 [_, _, _] tA271 tZ271 ?_
        refine pBs (ps := [(0, (.agg [_, _, _]))]) ([c9] : List Part) tE65 tZ271 t0271 (emb_cons (emb_agg (α := Part) rfl c9) (emb_nil)) ?_
        obtain ⟨z11, hz11, hk⟩ := bs hk
        refine pAp (xs := x4) hO 1 hz11 (bears_tl ([c9] : List Part)) tE65 tZ271 tB271 t0271 tE65 rfl (fun o11 G hO => ?_)
        refine pA o11 ?_
        refine pE ?_
        refine bn (gn ?_)
        exact ⟨z11, o11, _, _, hk, (Owns.pick hO [1] (by decide) rfl), St.hav _ ⟨rfl, rfl, rfl, rfl, trivial⟩⟩
      · replace hk := cf hb hk
        refine wpL_sk ?_
        refine bn (gn ?_)
        exact ⟨x4, o4, _, _, hk, (Owns.pick hO [1] (by decide) rfl), St.hav _ ⟨rfl, rfl, rfl, rfl, trivial⟩⟩
    · rintro _ ⟨x7, o7, J, G, hk, hO, rfl⟩
      refine wpL_rg ?_
      refine pBi ?_
      refine pM (.int _ _) ?_
      refine pE ?_
      refine gn ?_
      cases hk; exact ⟨_, rfl, o7, _, _, hO, St.hav _ ⟨rfl, rfl, rfl, rfl, trivial⟩⟩
  · replace hk := cf hb hk
    refine wpL_ex ?_
    refine ge (ge (be (gn ?_)))
    replace hk := lx hx1 hk
    refine wpL_sq ?_
    refine wpL_rg ?_
    refine pM o4 ?_
    refine pA o4 ?_
    refine pE ?_
    refine gn ?_
    refine wpL_rt ?_
    replace hk := Option.some.inj hk; subst hk; exact finZ hO (fz_own (xs := x4) hlk 0) (resT o4 resN)
/-- impl.touch -/
def f160_L2 (aB1 : List Part) (x1 : Int) (c2 : Part) : Int → Option (Int ⊕ (Int ⊕ Bool)) := fun s =>
  (bif decide (s < (aB1.length : Int)) then ((getI aB1 s).bind fun c5 => (bif (((c2.Piece == c5.Piece) && decide (c2.From ≤ c5.To)) && decide (c5.From ≤ c2.To)) then (((some true).map Sum.inr).map Sum.inr) else some (.inl (w64 (s + (1:Int)))))) else ((some (.inl (w64 (x1 + (1:Int))))).map Sum.inr))
def f160_L1 (aA0 : List Part) (aB1 : List Part) : Int → Option (Int ⊕ Bool) := fun s =>
  (bif decide (s < (aA0.length : Int)) then ((getI aA0 s).bind fun c2 => (loopO (f160_L2 aB1 s c2) ((0:Int)))) else ((some false).map Sum.inr))
def f160 (aA0 : List Part) (aB1 : List Part) : Option Bool :=
  (loopO (f160_L1 aA0 aB1) ((0:Int)))
theorem f160_run {aA0 : List Part} {aB1 : List Part} {r : Bool} {l1 l2 : Nat} {H : Heap} {lk : Lk} (hk : f160 aA0 aB1 = some r) (hlk : 0 < lk.length := by simp) : runL Try.prog hh 160 [.lit l1 aA0.length (flat aA0), .lit l2 aB1.length (flat aB1)] H lk = some (.bool r, H) := by
  refine run_start Try.func160 rfl Try.ntmps160 Try.results160 rfl rfl fun hO => ?_
  unfold f160 at hk
  refine wpL_sq ?_
  refine wpL_rg ?_
  refine pA (.bool _) ?_
  refine pE ?_
  refine gn ?_
  refine wpL_sq ?_
  refine wpL_sq ?_
  refine wpL_rg ?_
  refine pM (.lit _ _ _) ?_
  refine pLen tS65 ?_
  refine pM (.int _ _) ?_
  refine pE ?_
  refine gn ?_
  refine wpL_bl ?_
  refine wpL_loopO (F := f160_L1 aA0 aB1) (fun s S' => ∃ (J : Nat → V) (G : Heap), Owns H G [] ∧ S' = ⟨hav [(1, .lit l2 aB1.length (flat aB1)), (9, .lit l1 aA0.length (flat aA0)), (10, .int .i64 (aA0.length : Int)), (11, .int .i64 s)] J, G⟩) hk ⟨_, _, hO, St.hav _ ⟨rfl, rfl, rfl, rfl, trivial⟩⟩ ?_
  rintro x1 _ y1 ⟨J, G, hO, rfl⟩ hk hx1
  refine wpL_sq ?_
  refine wpL_rg ?_
  refine pBi ?_
  refine pE ?_
  refine gn ?_
  refine wpL_sq ?_
  refine wpL_cd (b := decide (x1 < (aA0.length : Int))) (fun hb => ?_) (fun hb => ?_)
  · replace hk := ct hb hk
    refine wpL_sk ?_
    refine gn ?_
    refine wpL_sq ?_
    refine wpL_bl ?_
    refine wpL_sq ?_
    refine wpL_rg ?_
    obtain ⟨c2, hc2, hk⟩ := bs hk
    refine pX hc2 tE65 tZ271 ?_
    refine pLp (.agg [_, _, _]) (rd2 (off := 0) hc2 tA271 tZ271) ?_
    refine pNew hO tZ271 t0271 (fun b3 G hO => ?_)
    refine pSt (xs := [_, _, _]) hO 0 tZ271 rfl (fun G hO => ?_)
    refine pE ?_
    refine gn ?_
    refine wpL_sq ?_
    refine wpL_rg ?_
    refine pM (.lit _ _ _) ?_
    refine pLen tS65 ?_
    refine pM (.int _ _) ?_
    refine pE ?_
    refine gn ?_
    refine wpL_bl ?_
    refine wpL_loopO (F := f160_L2 aB1 x1 c2) (fun s S' => ∃ (J : Nat → V) (G : Heap), Owns H G [.blk b3 (.cells 3 [.int .i64 c2.Piece, .int .i64 c2.From, .int .i64 c2.To])] ∧ S' = ⟨hav [(1, .lit l2 aB1.length (flat aB1)), (6, .ptr b3 0), (9, .lit l1 aA0.length (flat aA0)), (10, .int .i64 (aA0.length : Int)), (11, .int .i64 x1), (15, .lit l2 aB1.length (flat aB1)), (16, .int .i64 (aB1.length : Int)), (17, .int .i64 s)] J, G⟩) hk ⟨_, _, hO, St.hav _ ⟨rfl, rfl, rfl, rfl, rfl, rfl, rfl, rfl, trivial⟩⟩ ?_
    rintro x4 _ y2 ⟨J, G, hO, rfl⟩ hk hx2
    refine wpL_sq ?_
    refine wpL_rg ?_
    refine pBi ?_
    refine pE ?_
    refine gn ?_
    refine wpL_sq ?_
    refine wpL_cd (b := decide (x4 < (aB1.length : Int))) (fun hb => ?_) (fun hb => ?_)
    · replace hk := ct hb hk
      refine wpL_sk ?_
      refine gn ?_
      refine wpL_sq ?_
      refine wpL_bl ?_
      refine wpL_sq ?_
      refine wpL_rg ?_
      obtain ⟨c5, hc5, hk⟩ := bs hk
      refine pX hc5 tE65 tZ271 ?_
      refine pLp (.agg [_, _, _]) (rd2 (off := 0) hc5 tA271 tZ271) ?_
      refine pNew hO tZ271 t0271 (fun b6 G hO => ?_)
      refine pSt (xs := [_, _, _]) hO 0 tZ271 rfl (fun G hO => ?_)
      refine pE ?_
      refine gn ?_
      refine wpL_sq ?_
      refine wpL_rg ?_
      refine pF tF271_0 ?_
      refine pLo hO 1 (.int _ _) tA3 ?_
      refine pF tF271_0 ?_
      refine pLo hO 0 (.int _ _) tA3 ?_
      refine pBi ?_
      refine pM (.bool _) ?_
      refine wpR_mid (l1 := [_, _, _, _, _, _]) (fun S' => ∃ J, S' = ⟨hav [(1, .lit l2 aB1.length (flat aB1)), (6, .ptr b3 0), (8, .ptr b6 0), (9, .lit l1 aA0.length (flat aA0)), (10, .int .i64 (aA0.length : Int)), (11, .int .i64 x1), (15, .lit l2 aB1.length (flat aB1)), (16, .int .i64 (aB1.length : Int)), (17, .int .i64 x4), (32, .bool ((c2.Piece == c5.Piece) && decide (c2.From ≤ c5.To)))] J, G⟩) ?_ ?_
      · refine bc (b := (c2.Piece == c5.Piece)) (fun hg1 => ?_) (fun hg1 => ?_)
        · refine pGy hg1 ?_
          refine pF tF271_1 ?_
          refine pGy hg1 ?_
          refine pLo hO 1 (.int _ _) tA3 ?_
          refine pGy hg1 ?_
          refine pF tF271_2 ?_
          refine pGy hg1 ?_
          refine pLo hO 0 (.int _ _) tA3 ?_
          refine pGy hg1 ?_
          refine pBi ?_
          refine pPt hg1 (.bool _) ?_
          exact pE ⟨_, St.hav _ ⟨rfl, rfl, rfl, rfl, rfl, rfl, rfl, rfl, rfl, by rw [hg1]; rfl, trivial⟩⟩
        · refine pGn hg1 ?_
          refine pGn hg1 ?_
          refine pGn hg1 ?_
          refine pGn hg1 ?_
          refine pGn hg1 ?_
          refine pPf hg1 (.bool _) ?_
          exact pE ⟨_, St.hav _ ⟨rfl, rfl, rfl, rfl, rfl, rfl, rfl, rfl, rfl, by rw [hg1]; rfl, trivial⟩⟩
      · rintro _ ⟨J, rfl⟩
        refine pM (.bool _) ?_
        refine wpR_mid (l1 := [_, _, _, _, _, _]) (fun S' => ∃ J, S' = ⟨hav [(1, .lit l2 aB1.length (flat aB1)), (6, .ptr b3 0), (9, .lit l1 aA0.length (flat aA0)), (10, .int .i64 (aA0.length : Int)), (11, .int .i64 x1), (15, .lit l2 aB1.length (flat aB1)), (16, .int .i64 (aB1.length : Int)), (17, .int .i64 x4), (39, .bool (((c2.Piece == c5.Piece) && decide (c2.From ≤ c5.To)) && decide (c5.From ≤ c2.To)))] J, G⟩) ?_ ?_
        · refine bc (b := ((c2.Piece == c5.Piece) && decide (c2.From ≤ c5.To))) (fun hg1 => ?_) (fun hg1 => ?_)
          · refine pGy hg1 ?_
            refine pF tF271_1 ?_
            refine pGy hg1 ?_
            refine pLo hO 0 (.int _ _) tA3 ?_
            refine pGy hg1 ?_
            refine pF tF271_2 ?_
            refine pGy hg1 ?_
            refine pLo hO 1 (.int _ _) tA3 ?_
            refine pGy hg1 ?_
            refine pBi ?_
            refine pPt hg1 (.bool _) ?_
            exact pE ⟨_, St.hav _ ⟨rfl, rfl, rfl, rfl, rfl, rfl, rfl, rfl, by rw [hg1]; rfl, trivial⟩⟩
          · refine pGn hg1 ?_
            refine pGn hg1 ?_
            refine pGn hg1 ?_
            refine pGn hg1 ?_
            refine pGn hg1 ?_
            refine pPf hg1 (.bool _) ?_
            exact pE ⟨_, St.hav _ ⟨rfl, rfl, rfl, rfl, rfl, rfl, rfl, rfl, by rw [hg1]; rfl, trivial⟩⟩
        · rintro _ ⟨J, rfl⟩
          refine pE ?_
          refine gn ?_
          refine wpL_cd (b := (((c2.Piece == c5.Piece) && decide (c2.From ≤ c5.To)) && decide (c5.From ≤ c2.To))) (fun hb => ?_) (fun hb => ?_)
          · replace hk := ct hb hk
            refine wpL_sq ?_
            refine wpL_rg ?_
            refine pA (.bool _) ?_
            refine pE ?_
            refine gn ?_
            refine wpL_rt ?_
            refine br (gr (gr (br (br (gr (gr (br (gr ?_))))))))
            replace hk := lx hx2 hk
            replace hk := lx hx1 hk
            replace hk := Option.some.inj hk; subst hk; exact fin0 hO
          · replace hk := cf hb hk
            refine wpL_sk ?_
            refine bn (gn ?_)
            refine wpL_rg ?_
            refine pBi ?_
            refine pM (.int _ _) ?_
            refine pE ?_
            refine gn ?_
            cases hk; exact ⟨_, rfl, _, _, (Owns.pick hO [1] (by decide) rfl), St.hav _ ⟨rfl, rfl, rfl, rfl, rfl, rfl, rfl, rfl, trivial⟩⟩
    · replace hk := cf hb hk
      refine wpL_ex ?_
      refine ge (ge (be (bn (gn ?_))))
      replace hk := lx hx2 hk
      refine wpL_rg ?_
      refine pBi ?_
      refine pM (.int _ _) ?_
      refine pE ?_
      refine gn ?_
      cases hk; exact ⟨_, rfl, _, _, (Owns.pick hO [] (by decide) rfl), St.hav _ ⟨rfl, rfl, rfl, rfl, trivial⟩⟩
  · replace hk := cf hb hk
    refine wpL_ex ?_
    refine ge (ge (be (gn ?_)))
    replace hk := lx hx1 hk
    refine wpL_sq ?_
    refine wpL_rg ?_
    refine pA (.bool _) ?_
    refine pE ?_
    refine gn ?_
    refine wpL_rt ?_
    replace hk := Option.some.inj hk; subst hk; exact fin0 hO
/-- impl.meet -/
def f207 (aN0 : Net) (aA1 : Train) (aB2 : Train) : Option Bool :=
  ((f232 aN0 aA1).bind fun v4 => ((f232 aN0 aB2).bind fun v5 => ((f160 v4 v5).bind fun v6 => some v6)))
theorem f207_run {aN0 : Net} {aA1 : Train} {aB2 : Train} {r : Bool} {l1 l2 l3 l4 : Nat} {H : Heap} {lk : Lk} (hk : f207 aN0 aA1 aB2 = some r) (hlk : 0 < lk.length := by simp) : runL Try.prog hh 207 [.agg [.lit l1 aN0.Pieces.length (flat aN0.Pieces), .lit l2 aN0.Joints.length (flat aN0.Joints)], .agg [.int .i64 aA1.Front.Piece, .int .i64 aA1.Front.At, .int .i64 aA1.Front.Way, .int .i64 aA1.Long, .lit l3 aA1.Back.length (flat aA1.Back)], .agg [.int .i64 aB2.Front.Piece, .int .i64 aB2.Front.At, .int .i64 aB2.Front.Way, .int .i64 aB2.Long, .lit l4 aB2.Back.length (flat aB2.Back)]] H lk = some (.bool r, H) := by
  refine run_start Try.func207 rfl Try.ntmps207 Try.results207 rfl rfl fun hO => ?_
  unfold f207 at hk
  refine wpL_sq ?_
  refine wpL_rg ?_
  refine pBox (cs := [_, _]) hO tZ132 (fun b1 G hO => ?_)
  refine pBox (cs := [_, _, _, _, _]) hO tZ136 (fun b2 G hO => ?_)
  refine pBox (cs := [_, _, _, _, _]) hO tZ136 (fun b3 G hO => ?_)
  refine pA (.bool _) ?_
  refine pE ?_
  refine gn ?_
  refine wpL_sq ?_
  refine wpL_drw [(0, true), (1, true), (3, true), (4, true), (2, true), (5, false), (6, false), (7, false)] [_, _, _, _, _, _, _, _] (by decide +kernel) (by rfl) ?_
  refine pLs hO 2 [_, _] tA132 tZ132 ?_
  refine pLs hO 1 [_, _, _, _, _] tA136 tZ136 ?_
  refine pLs hO 2 [_, _] tA132 tZ132 ?_
  refine pLs hO 0 [_, _, _, _, _] tA136 tZ136 ?_
  obtain ⟨v4, hv4, hk⟩ := bs hk
  refine pCall (fun _ => f232_run hv4) ?_
  obtain ⟨v5, hv5, hk⟩ := bs hk
  refine pCall (fun _ => f232_run hv5) ?_
  obtain ⟨v6, hv6, hk⟩ := bs hk
  refine pCall (fun _ => f160_run hv6) ?_
  refine pA (.bool _) ?_
  refine pE ?_
  refine gn ?_
  refine wpL_rt ?_
  replace hk := Option.some.inj hk; subst hk; exact fin0 hO
/-- impl.Meet -/
def f89 (aN0 : Net) (aA1 : Train) (aB2 : Train) : Option Bool :=
  ((f199 aN0).bind fun v4 => ((bif v4 then ((f200 aN0 aA1).bind fun v6 => some v6) else some false).bind fun t5 => ((bif t5 then ((f200 aN0 aB2).bind fun v8 => some v8) else some false).bind fun t7 => ((bif t7 then ((f207 aN0 aA1 aB2).bind fun v10 => some v10) else some false).bind fun t9 => some t9))))
theorem f89_run {aN0 : Net} {aA1 : Train} {aB2 : Train} {r : Bool} {l1 l2 l3 l4 : Nat} {H : Heap} {lk : Lk} (hk : f89 aN0 aA1 aB2 = some r) (hlk : 0 < lk.length := by simp) : runL Try.prog hh 89 [.agg [.lit l1 aN0.Pieces.length (flat aN0.Pieces), .lit l2 aN0.Joints.length (flat aN0.Joints)], .agg [.int .i64 aA1.Front.Piece, .int .i64 aA1.Front.At, .int .i64 aA1.Front.Way, .int .i64 aA1.Long, .lit l3 aA1.Back.length (flat aA1.Back)], .agg [.int .i64 aB2.Front.Piece, .int .i64 aB2.Front.At, .int .i64 aB2.Front.Way, .int .i64 aB2.Long, .lit l4 aB2.Back.length (flat aB2.Back)]] H lk = some (.bool r, H) := by
  refine run_start Try.func89 rfl Try.ntmps89 Try.results89 rfl rfl fun hO => ?_
  unfold f89 at hk
  refine wpL_sq ?_
  refine wpL_rg ?_
  refine pBox (cs := [_, _]) hO tZ132 (fun b1 G hO => ?_)
  refine pBox (cs := [_, _, _, _, _]) hO tZ136 (fun b2 G hO => ?_)
  refine pBox (cs := [_, _, _, _, _]) hO tZ136 (fun b3 G hO => ?_)
  refine pA (.bool _) ?_
  refine pE ?_
  refine gn ?_
  refine wpL_sq ?_
  refine wpL_rg ?_
  refine pLs hO 2 [_, _] tA132 tZ132 ?_
  obtain ⟨v4, hv4, hk⟩ := bs hk
  refine pCall (fun _ => f199_run hv4) ?_
  refine pM (.bool _) ?_
  obtain ⟨t5, ht, hk⟩ := bs hk
  refine wpR_mid (l1 := [_, _, _, _]) (fun S' => ∃ J, S' = ⟨hav [(3, .ptr b1 0), (4, .ptr b2 0), (5, .ptr b3 0), (13, .bool t5)] J, G⟩) ?_ ?_
  · refine bc (b := v4) (fun hg1 => ?_) (fun hg1 => ?_)
    · replace hk := ct hg1 ht
      refine pGy hg1 ?_
      refine pLs hO 2 [_, _] tA132 tZ132 ?_
      refine pGy hg1 ?_
      refine pLs hO 1 [_, _, _, _, _] tA136 tZ136 ?_
      refine pGy hg1 ?_
      obtain ⟨v6, hv6, hk⟩ := bs hk
      refine pCall (fun _ => f200_run hv6) ?_
      refine pPt hg1 (.bool _) ?_
      cases hk; exact pE ⟨_, St.hav _ ⟨rfl, rfl, rfl, rfl, trivial⟩⟩
    · replace hk := cf hg1 ht
      refine pGn hg1 ?_
      refine pGn hg1 ?_
      refine pGn hg1 ?_
      refine pPf hg1 (.bool _) ?_
      cases hk; exact pE ⟨_, St.hav _ ⟨rfl, rfl, rfl, rfl, trivial⟩⟩
  · rintro _ ⟨J, rfl⟩
    refine pM (.bool _) ?_
    obtain ⟨t7, ht, hk⟩ := bs hk
    refine wpR_mid (l1 := [_, _, _, _]) (fun S' => ∃ J, S' = ⟨hav [(3, .ptr b1 0), (4, .ptr b2 0), (5, .ptr b3 0), (18, .bool t7)] J, G⟩) ?_ ?_
    · refine bc (b := t5) (fun hg1 => ?_) (fun hg1 => ?_)
      · replace hk := ct hg1 ht
        refine pGy hg1 ?_
        refine pLs hO 2 [_, _] tA132 tZ132 ?_
        refine pGy hg1 ?_
        refine pLs hO 0 [_, _, _, _, _] tA136 tZ136 ?_
        refine pGy hg1 ?_
        obtain ⟨v8, hv8, hk⟩ := bs hk
        refine pCall (fun _ => f200_run hv8) ?_
        refine pPt hg1 (.bool _) ?_
        cases hk; exact pE ⟨_, St.hav _ ⟨rfl, rfl, rfl, rfl, trivial⟩⟩
      · replace hk := cf hg1 ht
        refine pGn hg1 ?_
        refine pGn hg1 ?_
        refine pGn hg1 ?_
        refine pPf hg1 (.bool _) ?_
        cases hk; exact pE ⟨_, St.hav _ ⟨rfl, rfl, rfl, rfl, trivial⟩⟩
    · rintro _ ⟨J, rfl⟩
      refine pM (.bool _) ?_
      obtain ⟨t9, ht, hk⟩ := bs hk
      refine wpR_mid (l1 := [_, _, _, _, _]) (fun S' => ∃ J, S' = ⟨hav [(24, .bool t9)] J, G⟩) ?_ ?_
      · refine bc (b := t7) (fun hg1 => ?_) (fun hg1 => ?_)
        · replace hk := ct hg1 ht
          refine pGy hg1 ?_
          refine pLs hO 2 [_, _] tA132 tZ132 ?_
          refine pGy hg1 ?_
          refine pLs hO 1 [_, _, _, _, _] tA136 tZ136 ?_
          refine pGy hg1 ?_
          refine pLs hO 0 [_, _, _, _, _] tA136 tZ136 ?_
          refine pGy hg1 ?_
          obtain ⟨v10, hv10, hk⟩ := bs hk
          refine pCall (fun _ => f207_run hv10) ?_
          refine pPt hg1 (.bool _) ?_
          cases hk; exact pE ⟨_, St.hav _ ⟨rfl, trivial⟩⟩
        · replace hk := cf hg1 ht
          refine pGn hg1 ?_
          refine pGn hg1 ?_
          refine pGn hg1 ?_
          refine pGn hg1 ?_
          refine pPf hg1 (.bool _) ?_
          cases hk; exact pE ⟨_, St.hav _ ⟨rfl, trivial⟩⟩
      · rintro _ ⟨J, rfl⟩
        refine pA (.bool _) ?_
        refine pE ?_
        refine gn ?_
        refine wpL_rt ?_
        replace hk := Option.some.inj hk; subst hk; exact fin0 hO
/-- laws.eqPiece -/
def f295 (aA0 : Piece) (aB1 : Piece) : Option Bool :=
  (bif !(aA0.Name.toList == aB1.Name.toList) then some false else (bif (aA0.Len != aB1.Len) then some false else (bif (aA0.Speed != aB1.Speed) then some false else (bif (aA0.Brake != aB1.Brake) then some false else some true))))
theorem f295_run {aA0 : Piece} {aB1 : Piece} {r : Bool} {H : Heap} {lk : Lk} (hk : f295 aA0 aB1 = some r) (hlk : 0 < lk.length := by simp) : runL Try.prog hh 295 [.agg [.str aA0.Name, .int .i64 aA0.Len, .int .i64 aA0.Speed, .int .i64 aA0.Brake], .agg [.str aB1.Name, .int .i64 aB1.Len, .int .i64 aB1.Speed, .int .i64 aB1.Brake]] H lk = some (.bool r, H) := by
  refine run_start Try.func295 rfl Try.ntmps295 Try.results295 rfl rfl fun hO => ?_
  unfold f295 at hk
  refine wpL_sq ?_
  refine wpL_rg ?_
  refine pBox (cs := [_, _, _, _]) hO tZ266 (fun b1 G hO => ?_)
  refine pBox (cs := [_, _, _, _]) hO tZ266 (fun b2 G hO => ?_)
  refine pA (.bool _) ?_
  refine pE ?_
  refine gn ?_
  refine wpL_sq ?_
  refine wpL_sq ?_
  refine wpL_rg ?_
  refine pF tF266_0 ?_
  refine pLo hO 1 (.str _) tA9 ?_
  refine pF tF266_0 ?_
  refine pLo hO 0 (.str _) tA9 ?_
  refine pB (a := .str _) (b := .str _) ?_
  refine pE ?_
  refine gn ?_
  refine wpL_cd (b := !(aA0.Name.toList == aB1.Name.toList)) (fun hb => ?_) (fun hb => ?_)
  · replace hk := ct hb hk
    refine wpL_sq ?_
    refine wpL_rg ?_
    refine pA (.bool _) ?_
    refine pE ?_
    refine gn ?_
    refine wpL_rt ?_
    refine gr ?_
    replace hk := Option.some.inj hk; subst hk; exact fin0 hO
  · replace hk := cf hb hk
    refine wpL_sk ?_
    refine gn ?_
    refine wpL_sq ?_
    refine wpL_sq ?_
    refine wpL_rg ?_
    refine pF tF266_1 ?_
    refine pLo hO 1 (.int _ _) tA3 ?_
    refine pF tF266_1 ?_
    refine pLo hO 0 (.int _ _) tA3 ?_
    refine pBi ?_
    refine pE ?_
    refine gn ?_
    refine wpL_cd (b := (aA0.Len != aB1.Len)) (fun hb => ?_) (fun hb => ?_)
    · replace hk := ct hb hk
      refine wpL_sq ?_
      refine wpL_rg ?_
      refine pA (.bool _) ?_
      refine pE ?_
      refine gn ?_
      refine wpL_rt ?_
      refine gr ?_
      replace hk := Option.some.inj hk; subst hk; exact fin0 hO
    · replace hk := cf hb hk
      refine wpL_sk ?_
      refine gn ?_
      refine wpL_sq ?_
      refine wpL_sq ?_
      refine wpL_rg ?_
      refine pF tF266_2 ?_
      refine pLo hO 1 (.int _ _) tA3 ?_
      refine pF tF266_2 ?_
      refine pLo hO 0 (.int _ _) tA3 ?_
      refine pBi ?_
      refine pE ?_
      refine gn ?_
      refine wpL_cd (b := (aA0.Speed != aB1.Speed)) (fun hb => ?_) (fun hb => ?_)
      · replace hk := ct hb hk
        refine wpL_sq ?_
        refine wpL_rg ?_
        refine pA (.bool _) ?_
        refine pE ?_
        refine gn ?_
        refine wpL_rt ?_
        refine gr ?_
        replace hk := Option.some.inj hk; subst hk; exact fin0 hO
      · replace hk := cf hb hk
        refine wpL_sk ?_
        refine gn ?_
        refine wpL_sq ?_
        refine wpL_sq ?_
        refine wpL_rg ?_
        refine pF tF266_3 ?_
        refine pLo hO 1 (.int _ _) tA3 ?_
        refine pF tF266_3 ?_
        refine pLo hO 0 (.int _ _) tA3 ?_
        refine pBi ?_
        refine pE ?_
        refine gn ?_
        refine wpL_cd (b := (aA0.Brake != aB1.Brake)) (fun hb => ?_) (fun hb => ?_)
        · replace hk := ct hb hk
          refine wpL_sq ?_
          refine wpL_rg ?_
          refine pA (.bool _) ?_
          refine pE ?_
          refine gn ?_
          refine wpL_rt ?_
          refine gr ?_
          replace hk := Option.some.inj hk; subst hk; exact fin0 hO
        · replace hk := cf hb hk
          refine wpL_sk ?_
          refine gn ?_
          refine wpL_sq ?_
          refine wpL_rg ?_
          refine pA (.bool _) ?_
          refine pE ?_
          refine gn ?_
          refine wpL_rt ?_
          replace hk := Option.some.inj hk; subst hk; exact fin0 hO
/-- laws.eqPieceS -/
def f201_L1 (aA0 : List Piece) (aB1 : List Piece) : Int → Option (Int ⊕ Bool) := fun s =>
  (bif decide (s < (aA0.length : Int)) then ((getI aA0 s).bind fun c2 => ((getI aB1 s).bind fun c3 => ((f295 c2 c3).bind fun v4 => (bif !v4 then ((some false).map Sum.inr) else some (.inl (w64 (s + (1:Int)))))))) else ((some true).map Sum.inr))
def f201 (aA0 : List Piece) (aB1 : List Piece) : Option Bool :=
  (bif ((aA0.length : Int) != (aB1.length : Int)) then some false else (loopO (f201_L1 aA0 aB1) ((0:Int))))
theorem f201_run {aA0 : List Piece} {aB1 : List Piece} {r : Bool} {l1 l2 : Nat} {H : Heap} {lk : Lk} (hk : f201 aA0 aB1 = some r) (hlk : 0 < lk.length := by simp) : runL Try.prog hh 201 [.lit l1 aA0.length (flat aA0), .lit l2 aB1.length (flat aB1)] H lk = some (.bool r, H) := by
  refine run_start Try.func201 rfl Try.ntmps201 Try.results201 rfl rfl fun hO => ?_
  unfold f201 at hk
  refine wpL_sq ?_
  refine wpL_rg ?_
  refine pA (.bool _) ?_
  refine pE ?_
  refine gn ?_
  refine wpL_sq ?_
  refine wpL_sq ?_
  refine wpL_rg ?_
  refine pM (.lit _ _ _) ?_
  refine pLen tS129 ?_
  refine pM (.lit _ _ _) ?_
  refine pLen tS129 ?_
  refine pBi ?_
  refine pE ?_
  refine gn ?_
  refine wpL_cd (b := ((aA0.length : Int) != (aB1.length : Int))) (fun hb => ?_) (fun hb => ?_)
  · replace hk := ct hb hk
    refine wpL_sq ?_
    refine wpL_rg ?_
    refine pA (.bool _) ?_
    refine pE ?_
    refine gn ?_
    refine wpL_rt ?_
    refine gr ?_
    replace hk := Option.some.inj hk; subst hk; exact fin0 hO
  · replace hk := cf hb hk
    refine wpL_sk ?_
    refine gn ?_
    refine wpL_sq ?_
    refine wpL_sq ?_
    refine wpL_rg ?_
    refine pA (.int _ _) ?_
    refine pE ?_
    refine gn ?_
    refine wpL_bl ?_
    refine wpL_loopO (F := f201_L1 aA0 aB1) (fun s S' => ∃ (J : Nat → V) (G : Heap), Owns H G [] ∧ S' = ⟨hav [(0, .lit l1 aA0.length (flat aA0)), (1, .lit l2 aB1.length (flat aB1)), (5, .int .i64 s)] J, G⟩) hk ⟨_, _, hO, St.hav _ ⟨rfl, rfl, rfl, trivial⟩⟩ ?_
    rintro x1 _ y1 ⟨J, G, hO, rfl⟩ hk hx1
    refine wpL_sq ?_
    refine wpL_sq ?_
    refine wpL_rg ?_
    refine pM (.int _ _) ?_
    refine pM (.lit _ _ _) ?_
    refine pLen tS129 ?_
    refine pBi ?_
    refine pE ?_
    refine gn ?_
    refine wpL_cd (b := decide (x1 < (aA0.length : Int))) (fun hb => ?_) (fun hb => ?_)
    · replace hk := ct hb hk
      refine wpL_sk ?_
      refine gn ?_
      refine wpL_sq ?_
      refine wpL_bl ?_
      refine wpL_sq ?_
      refine wpL_drw [(0, true), (1, true), (2, true), (3, true), (4, true), (5, true), (6, true), (7, true), (8, false), (9, false)] [_, _, _, _, _, _, _, _, _, _] (by decide +kernel) (by rfl) ?_
      refine pM (.lit _ _ _) ?_
      refine pM (.int _ _) ?_
      obtain ⟨c2, hc2, hk⟩ := bs hk
      refine pX hc2 tE129 tZ266 ?_
      refine pLp (.agg [_, _, _, _]) (rd2 (off := 0) hc2 tA266 tZ266) ?_
      refine pM (.lit _ _ _) ?_
      refine pM (.int _ _) ?_
      obtain ⟨c3, hc3, hk⟩ := bs hk
      refine pX hc3 tE129 tZ266 ?_
      refine pLp (.agg [_, _, _, _]) (rd2 (off := 0) hc3 tA266 tZ266) ?_
      obtain ⟨v4, hv4, hk⟩ := bs hk
      refine pCall (fun _ => f295_run hv4) ?_
      refine pU ?_
      refine pE ?_
      refine gn ?_
      refine wpL_cd (b := !v4) (fun hb => ?_) (fun hb => ?_)
      · replace hk := ct hb hk
        refine wpL_sq ?_
        refine wpL_rg ?_
        refine pA (.bool _) ?_
        refine pE ?_
        refine gn ?_
        refine wpL_rt ?_
        refine br (gr (gr (br (gr ?_))))
        replace hk := lx hx1 hk
        replace hk := Option.some.inj hk; subst hk; exact fin0 hO
      · replace hk := cf hb hk
        refine wpL_sk ?_
        refine bn (gn ?_)
        refine wpL_rg ?_
        refine pM (.int _ _) ?_
        refine pBi ?_
        refine pA (.int _ _) ?_
        refine pE ?_
        refine gn ?_
        cases hk; exact ⟨_, rfl, _, _, hO, St.hav _ ⟨rfl, rfl, rfl, trivial⟩⟩
    · replace hk := cf hb hk
      refine wpL_ex ?_
      refine ge (ge (be (gn ?_)))
      replace hk := lx hx1 hk
      refine wpL_sq ?_
      refine wpL_rg ?_
      refine pA (.bool _) ?_
      refine pE ?_
      refine gn ?_
      refine wpL_rt ?_
      replace hk := Option.some.inj hk; subst hk; exact fin0 hO
/-- laws.eqEnd -/
def f354 (aA0 : End) (aB1 : End) : Option Bool :=
  (bif (aA0.Piece != aB1.Piece) then some false else (bif (aA0.Side != aB1.Side) then some false else some true))
theorem f354_run {aA0 : End} {aB1 : End} {r : Bool} {H : Heap} {lk : Lk} (hk : f354 aA0 aB1 = some r) (hlk : 0 < lk.length := by simp) : runL Try.prog hh 354 [.agg [.int .i64 aA0.Piece, .int .i64 aA0.Side], .agg [.int .i64 aB1.Piece, .int .i64 aB1.Side]] H lk = some (.bool r, H) := by
  refine run_start Try.func354 rfl Try.ntmps354 Try.results354 rfl rfl fun hO => ?_
  unfold f354 at hk
  refine wpL_sq ?_
  refine wpL_rg ?_
  refine pBox (cs := [_, _]) hO tZ260 (fun b1 G hO => ?_)
  refine pBox (cs := [_, _]) hO tZ260 (fun b2 G hO => ?_)
  refine pA (.bool _) ?_
  refine pE ?_
  refine gn ?_
  refine wpL_sq ?_
  refine wpL_sq ?_
  refine wpL_rg ?_
  refine pF tF260_0 ?_
  refine pLo hO 1 (.int _ _) tA3 ?_
  refine pF tF260_0 ?_
  refine pLo hO 0 (.int _ _) tA3 ?_
  refine pBi ?_
  refine pE ?_
  refine gn ?_
  refine wpL_cd (b := (aA0.Piece != aB1.Piece)) (fun hb => ?_) (fun hb => ?_)
  · replace hk := ct hb hk
    refine wpL_sq ?_
    refine wpL_rg ?_
    refine pA (.bool _) ?_
    refine pE ?_
    refine gn ?_
    refine wpL_rt ?_
    refine gr ?_
    replace hk := Option.some.inj hk; subst hk; exact fin0 hO
  · replace hk := cf hb hk
    refine wpL_sk ?_
    refine gn ?_
    refine wpL_sq ?_
    refine wpL_sq ?_
    refine wpL_rg ?_
    refine pF tF260_1 ?_
    refine pLo hO 1 (.int _ _) tA3 ?_
    refine pF tF260_1 ?_
    refine pLo hO 0 (.int _ _) tA3 ?_
    refine pBi ?_
    refine pE ?_
    refine gn ?_
    refine wpL_cd (b := (aA0.Side != aB1.Side)) (fun hb => ?_) (fun hb => ?_)
    · replace hk := ct hb hk
      refine wpL_sq ?_
      refine wpL_rg ?_
      refine pA (.bool _) ?_
      refine pE ?_
      refine gn ?_
      refine wpL_rt ?_
      refine gr ?_
      replace hk := Option.some.inj hk; subst hk; exact fin0 hO
    · replace hk := cf hb hk
      refine wpL_sk ?_
      refine gn ?_
      refine wpL_sq ?_
      refine wpL_rg ?_
      refine pA (.bool _) ?_
      refine pE ?_
      refine gn ?_
      refine wpL_rt ?_
      replace hk := Option.some.inj hk; subst hk; exact fin0 hO
/-- laws.eqEndS -/
def f339_L1 (aA0 : List End) (aB1 : List End) : Int → Option (Int ⊕ Bool) := fun s =>
  (bif decide (s < (aA0.length : Int)) then ((getI aA0 s).bind fun c2 => ((getI aB1 s).bind fun c3 => ((f354 c2 c3).bind fun v4 => (bif !v4 then ((some false).map Sum.inr) else some (.inl (w64 (s + (1:Int)))))))) else ((some true).map Sum.inr))
def f339 (aA0 : List End) (aB1 : List End) : Option Bool :=
  (bif ((aA0.length : Int) != (aB1.length : Int)) then some false else (loopO (f339_L1 aA0 aB1) ((0:Int))))
theorem f339_run {aA0 : List End} {aB1 : List End} {r : Bool} {l1 l2 : Nat} {H : Heap} {lk : Lk} (hk : f339 aA0 aB1 = some r) (hlk : 0 < lk.length := by simp) : runL Try.prog hh 339 [.lit l1 aA0.length (flat aA0), .lit l2 aB1.length (flat aB1)] H lk = some (.bool r, H) := by
  refine run_start Try.func339 rfl Try.ntmps339 Try.results339 rfl rfl fun hO => ?_
  unfold f339 at hk
  refine wpL_sq ?_
  refine wpL_rg ?_
  refine pA (.bool _) ?_
  refine pE ?_
  refine gn ?_
  refine wpL_sq ?_
  refine wpL_sq ?_
  refine wpL_rg ?_
  refine pM (.lit _ _ _) ?_
  refine pLen tS330 ?_
  refine pM (.lit _ _ _) ?_
  refine pLen tS330 ?_
  refine pBi ?_
  refine pE ?_
  refine gn ?_
  refine wpL_cd (b := ((aA0.length : Int) != (aB1.length : Int))) (fun hb => ?_) (fun hb => ?_)
  · replace hk := ct hb hk
    refine wpL_sq ?_
    refine wpL_rg ?_
    refine pA (.bool _) ?_
    refine pE ?_
    refine gn ?_
    refine wpL_rt ?_
    refine gr ?_
    replace hk := Option.some.inj hk; subst hk; exact fin0 hO
  · replace hk := cf hb hk
    refine wpL_sk ?_
    refine gn ?_
    refine wpL_sq ?_
    refine wpL_sq ?_
    refine wpL_rg ?_
    refine pA (.int _ _) ?_
    refine pE ?_
    refine gn ?_
    refine wpL_bl ?_
    refine wpL_loopO (F := f339_L1 aA0 aB1) (fun s S' => ∃ (J : Nat → V) (G : Heap), Owns H G [] ∧ S' = ⟨hav [(0, .lit l1 aA0.length (flat aA0)), (1, .lit l2 aB1.length (flat aB1)), (5, .int .i64 s)] J, G⟩) hk ⟨_, _, hO, St.hav _ ⟨rfl, rfl, rfl, trivial⟩⟩ ?_
    rintro x1 _ y1 ⟨J, G, hO, rfl⟩ hk hx1
    refine wpL_sq ?_
    refine wpL_sq ?_
    refine wpL_rg ?_
    refine pM (.int _ _) ?_
    refine pM (.lit _ _ _) ?_
    refine pLen tS330 ?_
    refine pBi ?_
    refine pE ?_
    refine gn ?_
    refine wpL_cd (b := decide (x1 < (aA0.length : Int))) (fun hb => ?_) (fun hb => ?_)
    · replace hk := ct hb hk
      refine wpL_sk ?_
      refine gn ?_
      refine wpL_sq ?_
      refine wpL_bl ?_
      refine wpL_sq ?_
      refine wpL_drw [(0, true), (1, true), (2, true), (3, true), (4, true), (5, true), (6, true), (7, true), (8, false), (9, false)] [_, _, _, _, _, _, _, _, _, _] (by decide +kernel) (by rfl) ?_
      refine pM (.lit _ _ _) ?_
      refine pM (.int _ _) ?_
      obtain ⟨c2, hc2, hk⟩ := bs hk
      refine pX hc2 tE330 tZ260 ?_
      refine pLp (.agg [_, _]) (rd2 (off := 0) hc2 tA260 tZ260) ?_
      refine pM (.lit _ _ _) ?_
      refine pM (.int _ _) ?_
      obtain ⟨c3, hc3, hk⟩ := bs hk
      refine pX hc3 tE330 tZ260 ?_
      refine pLp (.agg [_, _]) (rd2 (off := 0) hc3 tA260 tZ260) ?_
      obtain ⟨v4, hv4, hk⟩ := bs hk
      refine pCall (fun _ => f354_run hv4) ?_
      refine pU ?_
      refine pE ?_
      refine gn ?_
      refine wpL_cd (b := !v4) (fun hb => ?_) (fun hb => ?_)
      · replace hk := ct hb hk
        refine wpL_sq ?_
        refine wpL_rg ?_
        refine pA (.bool _) ?_
        refine pE ?_
        refine gn ?_
        refine wpL_rt ?_
        refine br (gr (gr (br (gr ?_))))
        replace hk := lx hx1 hk
        replace hk := Option.some.inj hk; subst hk; exact fin0 hO
      · replace hk := cf hb hk
        refine wpL_sk ?_
        refine bn (gn ?_)
        refine wpL_rg ?_
        refine pM (.int _ _) ?_
        refine pBi ?_
        refine pA (.int _ _) ?_
        refine pE ?_
        refine gn ?_
        cases hk; exact ⟨_, rfl, _, _, hO, St.hav _ ⟨rfl, rfl, rfl, trivial⟩⟩
    · replace hk := cf hb hk
      refine wpL_ex ?_
      refine ge (ge (be (gn ?_)))
      replace hk := lx hx1 hk
      refine wpL_sq ?_
      refine wpL_rg ?_
      refine pA (.bool _) ?_
      refine pE ?_
      refine gn ?_
      refine wpL_rt ?_
      replace hk := Option.some.inj hk; subst hk; exact fin0 hO
/-- laws.eqJoint -/
def f296 (aA0 : Joint) (aB1 : Joint) : Option Bool :=
  (bif (aA0.Kind != aB1.Kind) then some false else (bif !(aA0.Name.toList == aB1.Name.toList) then some false else ((f339 aA0.Ends aB1.Ends).bind fun v3 => (bif !v3 then some false else some true))))
theorem f296_run {aA0 : Joint} {aB1 : Joint} {r : Bool} {l1 l2 : Nat} {H : Heap} {lk : Lk} (hk : f296 aA0 aB1 = some r) (hlk : 0 < lk.length := by simp) : runL Try.prog hh 296 [.agg [.int .i64 aA0.Kind, .str aA0.Name, .lit l1 aA0.Ends.length (flat aA0.Ends)], .agg [.int .i64 aB1.Kind, .str aB1.Name, .lit l2 aB1.Ends.length (flat aB1.Ends)]] H lk = some (.bool r, H) := by
  refine run_start Try.func296 rfl Try.ntmps296 Try.results296 rfl rfl fun hO => ?_
  unfold f296 at hk
  refine wpL_sq ?_
  refine wpL_rg ?_
  refine pBox (cs := [_, _, _]) hO tZ332 (fun b1 G hO => ?_)
  refine pBox (cs := [_, _, _]) hO tZ332 (fun b2 G hO => ?_)
  refine pA (.bool _) ?_
  refine pE ?_
  refine gn ?_
  refine wpL_sq ?_
  refine wpL_sq ?_
  refine wpL_rg ?_
  refine pF tF332_0 ?_
  refine pLo hO 1 (.int _ _) tA3 ?_
  refine pF tF332_0 ?_
  refine pLo hO 0 (.int _ _) tA3 ?_
  refine pBi ?_
  refine pE ?_
  refine gn ?_
  refine wpL_cd (b := (aA0.Kind != aB1.Kind)) (fun hb => ?_) (fun hb => ?_)
  · replace hk := ct hb hk
    refine wpL_sq ?_
    refine wpL_rg ?_
    refine pA (.bool _) ?_
    refine pE ?_
    refine gn ?_
    refine wpL_rt ?_
    refine gr ?_
    replace hk := Option.some.inj hk; subst hk; exact fin0 hO
  · replace hk := cf hb hk
    refine wpL_sk ?_
    refine gn ?_
    refine wpL_sq ?_
    refine wpL_sq ?_
    refine wpL_rg ?_
    refine pF tF332_1 ?_
    refine pLo hO 1 (.str _) tA9 ?_
    refine pF tF332_1 ?_
    refine pLo hO 0 (.str _) tA9 ?_
    refine pB (a := .str _) (b := .str _) ?_
    refine pE ?_
    refine gn ?_
    refine wpL_cd (b := !(aA0.Name.toList == aB1.Name.toList)) (fun hb => ?_) (fun hb => ?_)
    · replace hk := ct hb hk
      refine wpL_sq ?_
      refine wpL_rg ?_
      refine pA (.bool _) ?_
      refine pE ?_
      refine gn ?_
      refine wpL_rt ?_
      refine gr ?_
      replace hk := Option.some.inj hk; subst hk; exact fin0 hO
    · replace hk := cf hb hk
      refine wpL_sk ?_
      refine gn ?_
      refine wpL_sq ?_
      refine wpL_sq ?_
      refine wpL_rg ?_
      refine pF tF332_2 ?_
      refine pLo hO 1 (.lit _ _ _) tA330 ?_
      refine pF tF332_2 ?_
      refine pLo hO 0 (.lit _ _ _) tA330 ?_
      obtain ⟨v3, hv3, hk⟩ := bs hk
      refine pCall (fun _ => f339_run hv3) ?_
      refine pU ?_
      refine pE ?_
      refine gn ?_
      refine wpL_cd (b := !v3) (fun hb => ?_) (fun hb => ?_)
      · replace hk := ct hb hk
        refine wpL_sq ?_
        refine wpL_rg ?_
        refine pA (.bool _) ?_
        refine pE ?_
        refine gn ?_
        refine wpL_rt ?_
        refine gr ?_
        replace hk := Option.some.inj hk; subst hk; exact fin0 hO
      · replace hk := cf hb hk
        refine wpL_sk ?_
        refine gn ?_
        refine wpL_sq ?_
        refine wpL_rg ?_
        refine pA (.bool _) ?_
        refine pE ?_
        refine gn ?_
        refine wpL_rt ?_
        replace hk := Option.some.inj hk; subst hk; exact fin0 hO
/-- laws.eqJointS -/
def f202_L1 (aA0 : List Joint) (aB1 : List Joint) : Int → Option (Int ⊕ Bool) := fun s =>
  (bif decide (s < (aA0.length : Int)) then ((getI aA0 s).bind fun c2 => ((getI aB1 s).bind fun c3 => ((f296 c2 c3).bind fun v4 => (bif !v4 then ((some false).map Sum.inr) else some (.inl (w64 (s + (1:Int)))))))) else ((some true).map Sum.inr))
def f202 (aA0 : List Joint) (aB1 : List Joint) : Option Bool :=
  (bif ((aA0.length : Int) != (aB1.length : Int)) then some false else (loopO (f202_L1 aA0 aB1) ((0:Int))))
theorem f202_run {aA0 : List Joint} {aB1 : List Joint} {r : Bool} {l1 l2 : Nat} {H : Heap} {lk : Lk} (hk : f202 aA0 aB1 = some r) (hlk : 0 < lk.length := by simp) : runL Try.prog hh 202 [.lit l1 aA0.length (flat aA0), .lit l2 aB1.length (flat aB1)] H lk = some (.bool r, H) := by
  refine run_start Try.func202 rfl Try.ntmps202 Try.results202 rfl rfl fun hO => ?_
  unfold f202 at hk
  refine wpL_sq ?_
  refine wpL_rg ?_
  refine pA (.bool _) ?_
  refine pE ?_
  refine gn ?_
  refine wpL_sq ?_
  refine wpL_sq ?_
  refine wpL_rg ?_
  refine pM (.lit _ _ _) ?_
  refine pLen tS130 ?_
  refine pM (.lit _ _ _) ?_
  refine pLen tS130 ?_
  refine pBi ?_
  refine pE ?_
  refine gn ?_
  refine wpL_cd (b := ((aA0.length : Int) != (aB1.length : Int))) (fun hb => ?_) (fun hb => ?_)
  · replace hk := ct hb hk
    refine wpL_sq ?_
    refine wpL_rg ?_
    refine pA (.bool _) ?_
    refine pE ?_
    refine gn ?_
    refine wpL_rt ?_
    refine gr ?_
    replace hk := Option.some.inj hk; subst hk; exact fin0 hO
  · replace hk := cf hb hk
    refine wpL_sk ?_
    refine gn ?_
    refine wpL_sq ?_
    refine wpL_sq ?_
    refine wpL_rg ?_
    refine pA (.int _ _) ?_
    refine pE ?_
    refine gn ?_
    refine wpL_bl ?_
    refine wpL_loopO (F := f202_L1 aA0 aB1) (fun s S' => ∃ (J : Nat → V) (G : Heap), Owns H G [] ∧ S' = ⟨hav [(0, .lit l1 aA0.length (flat aA0)), (1, .lit l2 aB1.length (flat aB1)), (5, .int .i64 s)] J, G⟩) hk ⟨_, _, hO, St.hav _ ⟨rfl, rfl, rfl, trivial⟩⟩ ?_
    rintro x1 _ y1 ⟨J, G, hO, rfl⟩ hk hx1
    refine wpL_sq ?_
    refine wpL_sq ?_
    refine wpL_rg ?_
    refine pM (.int _ _) ?_
    refine pM (.lit _ _ _) ?_
    refine pLen tS130 ?_
    refine pBi ?_
    refine pE ?_
    refine gn ?_
    refine wpL_cd (b := decide (x1 < (aA0.length : Int))) (fun hb => ?_) (fun hb => ?_)
    · replace hk := ct hb hk
      refine wpL_sk ?_
      refine gn ?_
      refine wpL_sq ?_
      refine wpL_bl ?_
      refine wpL_sq ?_
      refine wpL_drw [(0, true), (1, true), (2, true), (3, true), (4, true), (5, true), (6, true), (7, true), (8, false), (9, false)] [_, _, _, _, _, _, _, _, _, _] (by decide +kernel) (by rfl) ?_
      refine pM (.lit _ _ _) ?_
      refine pM (.int _ _) ?_
      obtain ⟨c2, hc2, hk⟩ := bs hk
      refine pX hc2 tE130 tZ332 ?_
      refine pLp (.agg [_, _, _]) (rd2 (off := 0) hc2 tA332 tZ332) ?_
      refine pM (.lit _ _ _) ?_
      refine pM (.int _ _) ?_
      obtain ⟨c3, hc3, hk⟩ := bs hk
      refine pX hc3 tE130 tZ332 ?_
      refine pLp (.agg [_, _, _]) (rd2 (off := 0) hc3 tA332 tZ332) ?_
      obtain ⟨v4, hv4, hk⟩ := bs hk
      refine pCall (fun _ => f296_run hv4) ?_
      refine pU ?_
      refine pE ?_
      refine gn ?_
      refine wpL_cd (b := !v4) (fun hb => ?_) (fun hb => ?_)
      · replace hk := ct hb hk
        refine wpL_sq ?_
        refine wpL_rg ?_
        refine pA (.bool _) ?_
        refine pE ?_
        refine gn ?_
        refine wpL_rt ?_
        refine br (gr (gr (br (gr ?_))))
        replace hk := lx hx1 hk
        replace hk := Option.some.inj hk; subst hk; exact fin0 hO
      · replace hk := cf hb hk
        refine wpL_sk ?_
        refine bn (gn ?_)
        refine wpL_rg ?_
        refine pM (.int _ _) ?_
        refine pBi ?_
        refine pA (.int _ _) ?_
        refine pE ?_
        refine gn ?_
        cases hk; exact ⟨_, rfl, _, _, hO, St.hav _ ⟨rfl, rfl, rfl, trivial⟩⟩
    · replace hk := cf hb hk
      refine wpL_ex ?_
      refine ge (ge (be (gn ?_)))
      replace hk := lx hx1 hk
      refine wpL_sq ?_
      refine wpL_rg ?_
      refine pA (.bool _) ?_
      refine pE ?_
      refine gn ?_
      refine wpL_rt ?_
      replace hk := Option.some.inj hk; subst hk; exact fin0 hO
/-- laws.eqNet -/
def f83 (aA0 : Net) (aB1 : Net) : Option Bool :=
  ((f201 aA0.Pieces aB1.Pieces).bind fun v3 => (bif !v3 then some false else ((f202 aA0.Joints aB1.Joints).bind fun v4 => (bif !v4 then some false else some true))))
theorem f83_run {aA0 : Net} {aB1 : Net} {r : Bool} {l1 l2 l3 l4 : Nat} {H : Heap} {lk : Lk} (hk : f83 aA0 aB1 = some r) (hlk : 0 < lk.length := by simp) : runL Try.prog hh 83 [.agg [.lit l1 aA0.Pieces.length (flat aA0.Pieces), .lit l2 aA0.Joints.length (flat aA0.Joints)], .agg [.lit l3 aB1.Pieces.length (flat aB1.Pieces), .lit l4 aB1.Joints.length (flat aB1.Joints)]] H lk = some (.bool r, H) := by
  refine run_start Try.func83 rfl Try.ntmps83 Try.results83 rfl rfl fun hO => ?_
  unfold f83 at hk
  refine wpL_sq ?_
  refine wpL_rg ?_
  refine pBox (cs := [_, _]) hO tZ132 (fun b1 G hO => ?_)
  refine pBox (cs := [_, _]) hO tZ132 (fun b2 G hO => ?_)
  refine pA (.bool _) ?_
  refine pE ?_
  refine gn ?_
  refine wpL_sq ?_
  refine wpL_sq ?_
  refine wpL_rg ?_
  refine pF tF132_0 ?_
  refine pLo hO 1 (.lit _ _ _) tA129 ?_
  refine pF tF132_0 ?_
  refine pLo hO 0 (.lit _ _ _) tA129 ?_
  obtain ⟨v3, hv3, hk⟩ := bs hk
  refine pCall (fun _ => f201_run hv3) ?_
  refine pU ?_
  refine pE ?_
  refine gn ?_
  refine wpL_cd (b := !v3) (fun hb => ?_) (fun hb => ?_)
  · replace hk := ct hb hk
    refine wpL_sq ?_
    refine wpL_rg ?_
    refine pA (.bool _) ?_
    refine pE ?_
    refine gn ?_
    refine wpL_rt ?_
    refine gr ?_
    replace hk := Option.some.inj hk; subst hk; exact fin0 hO
  · replace hk := cf hb hk
    refine wpL_sk ?_
    refine gn ?_
    refine wpL_sq ?_
    refine wpL_sq ?_
    refine wpL_rg ?_
    refine pF tF132_1 ?_
    refine pLo hO 1 (.lit _ _ _) tA130 ?_
    refine pF tF132_1 ?_
    refine pLo hO 0 (.lit _ _ _) tA130 ?_
    obtain ⟨v4, hv4, hk⟩ := bs hk
    refine pCall (fun _ => f202_run hv4) ?_
    refine pU ?_
    refine pE ?_
    refine gn ?_
    refine wpL_cd (b := !v4) (fun hb => ?_) (fun hb => ?_)
    · replace hk := ct hb hk
      refine wpL_sq ?_
      refine wpL_rg ?_
      refine pA (.bool _) ?_
      refine pE ?_
      refine gn ?_
      refine wpL_rt ?_
      refine gr ?_
      replace hk := Option.some.inj hk; subst hk; exact fin0 hO
    · replace hk := cf hb hk
      refine wpL_sk ?_
      refine gn ?_
      refine wpL_sq ?_
      refine wpL_rg ?_
      refine pA (.bool _) ?_
      refine pE ?_
      refine gn ?_
      refine wpL_rt ?_
      replace hk := Option.some.inj hk; subst hk; exact fin0 hO
/-- laws.eqSpot -/
def f87 (aA0 : Spot) (aB1 : Spot) : Option Bool :=
  (bif (aA0.Piece != aB1.Piece) then some false else (bif (aA0.At != aB1.At) then some false else (bif (aA0.Way != aB1.Way) then some false else some true)))
theorem f87_run {aA0 : Spot} {aB1 : Spot} {r : Bool} {H : Heap} {lk : Lk} (hk : f87 aA0 aB1 = some r) (hlk : 0 < lk.length := by simp) : runL Try.prog hh 87 [.agg [.int .i64 aA0.Piece, .int .i64 aA0.At, .int .i64 aA0.Way], .agg [.int .i64 aB1.Piece, .int .i64 aB1.At, .int .i64 aB1.Way]] H lk = some (.bool r, H) := by
  refine run_start Try.func87 rfl Try.ntmps87 Try.results87 rfl rfl fun hO => ?_
  unfold f87 at hk
  refine wpL_sq ?_
  refine wpL_rg ?_
  refine pBox (cs := [_, _, _]) hO tZ134 (fun b1 G hO => ?_)
  refine pBox (cs := [_, _, _]) hO tZ134 (fun b2 G hO => ?_)
  refine pA (.bool _) ?_
  refine pE ?_
  refine gn ?_
  refine wpL_sq ?_
  refine wpL_sq ?_
  refine wpL_rg ?_
  refine pF tF134_0 ?_
  refine pLo hO 1 (.int _ _) tA3 ?_
  refine pF tF134_0 ?_
  refine pLo hO 0 (.int _ _) tA3 ?_
  refine pBi ?_
  refine pE ?_
  refine gn ?_
  refine wpL_cd (b := (aA0.Piece != aB1.Piece)) (fun hb => ?_) (fun hb => ?_)
  · replace hk := ct hb hk
    refine wpL_sq ?_
    refine wpL_rg ?_
    refine pA (.bool _) ?_
    refine pE ?_
    refine gn ?_
    refine wpL_rt ?_
    refine gr ?_
    replace hk := Option.some.inj hk; subst hk; exact fin0 hO
  · replace hk := cf hb hk
    refine wpL_sk ?_
    refine gn ?_
    refine wpL_sq ?_
    refine wpL_sq ?_
    refine wpL_rg ?_
    refine pF tF134_1 ?_
    refine pLo hO 1 (.int _ _) tA3 ?_
    refine pF tF134_1 ?_
    refine pLo hO 0 (.int _ _) tA3 ?_
    refine pBi ?_
    refine pE ?_
    refine gn ?_
    refine wpL_cd (b := (aA0.At != aB1.At)) (fun hb => ?_) (fun hb => ?_)
    · replace hk := ct hb hk
      refine wpL_sq ?_
      refine wpL_rg ?_
      refine pA (.bool _) ?_
      refine pE ?_
      refine gn ?_
      refine wpL_rt ?_
      refine gr ?_
      replace hk := Option.some.inj hk; subst hk; exact fin0 hO
    · replace hk := cf hb hk
      refine wpL_sk ?_
      refine gn ?_
      refine wpL_sq ?_
      refine wpL_sq ?_
      refine wpL_rg ?_
      refine pF tF134_2 ?_
      refine pLo hO 1 (.int _ _) tA3 ?_
      refine pF tF134_2 ?_
      refine pLo hO 0 (.int _ _) tA3 ?_
      refine pBi ?_
      refine pE ?_
      refine gn ?_
      refine wpL_cd (b := (aA0.Way != aB1.Way)) (fun hb => ?_) (fun hb => ?_)
      · replace hk := ct hb hk
        refine wpL_sq ?_
        refine wpL_rg ?_
        refine pA (.bool _) ?_
        refine pE ?_
        refine gn ?_
        refine wpL_rt ?_
        refine gr ?_
        replace hk := Option.some.inj hk; subst hk; exact fin0 hO
      · replace hk := cf hb hk
        refine wpL_sk ?_
        refine gn ?_
        refine wpL_sq ?_
        refine wpL_rg ?_
        refine pA (.bool _) ?_
        refine pE ?_
        refine gn ?_
        refine wpL_rt ?_
        replace hk := Option.some.inj hk; subst hk; exact fin0 hO
/-- laws.eqStep -/
def f263 (aA0 : Step) (aB1 : Step) : Option Bool :=
  (bif (aA0.Piece != aB1.Piece) then some false else (bif (aA0.Way != aB1.Way) then some false else some true))
theorem f263_run {aA0 : Step} {aB1 : Step} {r : Bool} {H : Heap} {lk : Lk} (hk : f263 aA0 aB1 = some r) (hlk : 0 < lk.length := by simp) : runL Try.prog hh 263 [.agg [.int .i64 aA0.Piece, .int .i64 aA0.Way], .agg [.int .i64 aB1.Piece, .int .i64 aB1.Way]] H lk = some (.bool r, H) := by
  refine run_start Try.func263 rfl Try.ntmps263 Try.results263 rfl rfl fun hO => ?_
  unfold f263 at hk
  refine wpL_sq ?_
  refine wpL_rg ?_
  refine pBox (cs := [_, _]) hO tZ258 (fun b1 G hO => ?_)
  refine pBox (cs := [_, _]) hO tZ258 (fun b2 G hO => ?_)
  refine pA (.bool _) ?_
  refine pE ?_
  refine gn ?_
  refine wpL_sq ?_
  refine wpL_sq ?_
  refine wpL_rg ?_
  refine pF tF258_0 ?_
  refine pLo hO 1 (.int _ _) tA3 ?_
  refine pF tF258_0 ?_
  refine pLo hO 0 (.int _ _) tA3 ?_
  refine pBi ?_
  refine pE ?_
  refine gn ?_
  refine wpL_cd (b := (aA0.Piece != aB1.Piece)) (fun hb => ?_) (fun hb => ?_)
  · replace hk := ct hb hk
    refine wpL_sq ?_
    refine wpL_rg ?_
    refine pA (.bool _) ?_
    refine pE ?_
    refine gn ?_
    refine wpL_rt ?_
    refine gr ?_
    replace hk := Option.some.inj hk; subst hk; exact fin0 hO
  · replace hk := cf hb hk
    refine wpL_sk ?_
    refine gn ?_
    refine wpL_sq ?_
    refine wpL_sq ?_
    refine wpL_rg ?_
    refine pF tF258_1 ?_
    refine pLo hO 1 (.int _ _) tA3 ?_
    refine pF tF258_1 ?_
    refine pLo hO 0 (.int _ _) tA3 ?_
    refine pBi ?_
    refine pE ?_
    refine gn ?_
    refine wpL_cd (b := (aA0.Way != aB1.Way)) (fun hb => ?_) (fun hb => ?_)
    · replace hk := ct hb hk
      refine wpL_sq ?_
      refine wpL_rg ?_
      refine pA (.bool _) ?_
      refine pE ?_
      refine gn ?_
      refine wpL_rt ?_
      refine gr ?_
      replace hk := Option.some.inj hk; subst hk; exact fin0 hO
    · replace hk := cf hb hk
      refine wpL_sk ?_
      refine gn ?_
      refine wpL_sq ?_
      refine wpL_rg ?_
      refine pA (.bool _) ?_
      refine pE ?_
      refine gn ?_
      refine wpL_rt ?_
      replace hk := Option.some.inj hk; subst hk; exact fin0 hO
/-- laws.eqStepS -/
def f163_L1 (aA0 : List Step) (aB1 : List Step) : Int → Option (Int ⊕ Bool) := fun s =>
  (bif decide (s < (aA0.length : Int)) then ((getI aA0 s).bind fun c2 => ((getI aB1 s).bind fun c3 => ((f263 c2 c3).bind fun v4 => (bif !v4 then ((some false).map Sum.inr) else some (.inl (w64 (s + (1:Int)))))))) else ((some true).map Sum.inr))
def f163 (aA0 : List Step) (aB1 : List Step) : Option Bool :=
  (bif ((aA0.length : Int) != (aB1.length : Int)) then some false else (loopO (f163_L1 aA0 aB1) ((0:Int))))
theorem f163_run {aA0 : List Step} {aB1 : List Step} {r : Bool} {l1 l2 : Nat} {H : Heap} {lk : Lk} (hk : f163 aA0 aB1 = some r) (hlk : 0 < lk.length := by simp) : runL Try.prog hh 163 [.lit l1 aA0.length (flat aA0), .lit l2 aB1.length (flat aB1)] H lk = some (.bool r, H) := by
  refine run_start Try.func163 rfl Try.ntmps163 Try.results163 rfl rfl fun hO => ?_
  unfold f163 at hk
  refine wpL_sq ?_
  refine wpL_rg ?_
  refine pA (.bool _) ?_
  refine pE ?_
  refine gn ?_
  refine wpL_sq ?_
  refine wpL_sq ?_
  refine wpL_rg ?_
  refine pM (.lit _ _ _) ?_
  refine pLen tS63 ?_
  refine pM (.lit _ _ _) ?_
  refine pLen tS63 ?_
  refine pBi ?_
  refine pE ?_
  refine gn ?_
  refine wpL_cd (b := ((aA0.length : Int) != (aB1.length : Int))) (fun hb => ?_) (fun hb => ?_)
  · replace hk := ct hb hk
    refine wpL_sq ?_
    refine wpL_rg ?_
    refine pA (.bool _) ?_
    refine pE ?_
    refine gn ?_
    refine wpL_rt ?_
    refine gr ?_
    replace hk := Option.some.inj hk; subst hk; exact fin0 hO
  · replace hk := cf hb hk
    refine wpL_sk ?_
    refine gn ?_
    refine wpL_sq ?_
    refine wpL_sq ?_
    refine wpL_rg ?_
    refine pA (.int _ _) ?_
    refine pE ?_
    refine gn ?_
    refine wpL_bl ?_
    refine wpL_loopO (F := f163_L1 aA0 aB1) (fun s S' => ∃ (J : Nat → V) (G : Heap), Owns H G [] ∧ S' = ⟨hav [(0, .lit l1 aA0.length (flat aA0)), (1, .lit l2 aB1.length (flat aB1)), (5, .int .i64 s)] J, G⟩) hk ⟨_, _, hO, St.hav _ ⟨rfl, rfl, rfl, trivial⟩⟩ ?_
    rintro x1 _ y1 ⟨J, G, hO, rfl⟩ hk hx1
    refine wpL_sq ?_
    refine wpL_sq ?_
    refine wpL_rg ?_
    refine pM (.int _ _) ?_
    refine pM (.lit _ _ _) ?_
    refine pLen tS63 ?_
    refine pBi ?_
    refine pE ?_
    refine gn ?_
    refine wpL_cd (b := decide (x1 < (aA0.length : Int))) (fun hb => ?_) (fun hb => ?_)
    · replace hk := ct hb hk
      refine wpL_sk ?_
      refine gn ?_
      refine wpL_sq ?_
      refine wpL_bl ?_
      refine wpL_sq ?_
      refine wpL_drw [(0, true), (1, true), (2, true), (3, true), (4, true), (5, true), (6, true), (7, true), (8, false), (9, false)] [_, _, _, _, _, _, _, _, _, _] (by decide +kernel) (by rfl) ?_
      refine pM (.lit _ _ _) ?_
      refine pM (.int _ _) ?_
      obtain ⟨c2, hc2, hk⟩ := bs hk
      refine pX hc2 tE63 tZ258 ?_
      refine pLp (.agg [_, _]) (rd2 (off := 0) hc2 tA258 tZ258) ?_
      refine pM (.lit _ _ _) ?_
      refine pM (.int _ _) ?_
      obtain ⟨c3, hc3, hk⟩ := bs hk
      refine pX hc3 tE63 tZ258 ?_
      refine pLp (.agg [_, _]) (rd2 (off := 0) hc3 tA258 tZ258) ?_
      obtain ⟨v4, hv4, hk⟩ := bs hk
      refine pCall (fun _ => f263_run hv4) ?_
      refine pU ?_
      refine pE ?_
      refine gn ?_
      refine wpL_cd (b := !v4) (fun hb => ?_) (fun hb => ?_)
      · replace hk := ct hb hk
        refine wpL_sq ?_
        refine wpL_rg ?_
        refine pA (.bool _) ?_
        refine pE ?_
        refine gn ?_
        refine wpL_rt ?_
        refine br (gr (gr (br (gr ?_))))
        replace hk := lx hx1 hk
        replace hk := Option.some.inj hk; subst hk; exact fin0 hO
      · replace hk := cf hb hk
        refine wpL_sk ?_
        refine bn (gn ?_)
        refine wpL_rg ?_
        refine pM (.int _ _) ?_
        refine pBi ?_
        refine pA (.int _ _) ?_
        refine pE ?_
        refine gn ?_
        cases hk; exact ⟨_, rfl, _, _, hO, St.hav _ ⟨rfl, rfl, rfl, trivial⟩⟩
    · replace hk := cf hb hk
      refine wpL_ex ?_
      refine ge (ge (be (gn ?_)))
      replace hk := lx hx1 hk
      refine wpL_sq ?_
      refine wpL_rg ?_
      refine pA (.bool _) ?_
      refine pE ?_
      refine gn ?_
      refine wpL_rt ?_
      replace hk := Option.some.inj hk; subst hk; exact fin0 hO
/-- laws.eqTrain -/
def f84 (aA0 : Train) (aB1 : Train) : Option Bool :=
  ((f87 aA0.Front aB1.Front).bind fun v3 => (bif !v3 then some false else (bif (aA0.Long != aB1.Long) then some false else ((f163 aA0.Back aB1.Back).bind fun v4 => (bif !v4 then some false else some true)))))
theorem f84_run {aA0 : Train} {aB1 : Train} {r : Bool} {l1 l2 : Nat} {H : Heap} {lk : Lk} (hk : f84 aA0 aB1 = some r) (hlk : 0 < lk.length := by simp) : runL Try.prog hh 84 [.agg [.int .i64 aA0.Front.Piece, .int .i64 aA0.Front.At, .int .i64 aA0.Front.Way, .int .i64 aA0.Long, .lit l1 aA0.Back.length (flat aA0.Back)], .agg [.int .i64 aB1.Front.Piece, .int .i64 aB1.Front.At, .int .i64 aB1.Front.Way, .int .i64 aB1.Long, .lit l2 aB1.Back.length (flat aB1.Back)]] H lk = some (.bool r, H) := by
  refine run_start Try.func84 rfl Try.ntmps84 Try.results84 rfl rfl fun hO => ?_
  unfold f84 at hk
  refine wpL_sq ?_
  refine wpL_rg ?_
  refine pBox (cs := [_, _, _, _, _]) hO tZ136 (fun b1 G hO => ?_)
  refine pBox (cs := [_, _, _, _, _]) hO tZ136 (fun b2 G hO => ?_)
  refine pA (.bool _) ?_
  refine pE ?_
  refine gn ?_
  refine wpL_sq ?_
  refine wpL_sq ?_
  refine wpL_rg ?_
  refine pF tF136_0 ?_
  refine pLs hO 1 [_, _, _] tA134 tZ134 ?_
  refine pF tF136_0 ?_
  refine pLs hO 0 [_, _, _] tA134 tZ134 ?_
  obtain ⟨v3, hv3, hk⟩ := bs hk
  refine pCall (fun _ => f87_run hv3) ?_
  refine pU ?_
  refine pE ?_
  refine gn ?_
  refine wpL_cd (b := !v3) (fun hb => ?_) (fun hb => ?_)
  · replace hk := ct hb hk
    refine wpL_sq ?_
    refine wpL_rg ?_
    refine pA (.bool _) ?_
    refine pE ?_
    refine gn ?_
    refine wpL_rt ?_
    refine gr ?_
    replace hk := Option.some.inj hk; subst hk; exact fin0 hO
  · replace hk := cf hb hk
    refine wpL_sk ?_
    refine gn ?_
    refine wpL_sq ?_
    refine wpL_sq ?_
    refine wpL_rg ?_
    refine pF tF136_1 ?_
    refine pLo hO 1 (.int _ _) tA3 ?_
    refine pF tF136_1 ?_
    refine pLo hO 0 (.int _ _) tA3 ?_
    refine pBi ?_
    refine pE ?_
    refine gn ?_
    refine wpL_cd (b := (aA0.Long != aB1.Long)) (fun hb => ?_) (fun hb => ?_)
    · replace hk := ct hb hk
      refine wpL_sq ?_
      refine wpL_rg ?_
      refine pA (.bool _) ?_
      refine pE ?_
      refine gn ?_
      refine wpL_rt ?_
      refine gr ?_
      replace hk := Option.some.inj hk; subst hk; exact fin0 hO
    · replace hk := cf hb hk
      refine wpL_sk ?_
      refine gn ?_
      refine wpL_sq ?_
      refine wpL_sq ?_
      refine wpL_rg ?_
      refine pF tF136_2 ?_
      refine pLo hO 1 (.lit _ _ _) tA63 ?_
      refine pF tF136_2 ?_
      refine pLo hO 0 (.lit _ _ _) tA63 ?_
      obtain ⟨v4, hv4, hk⟩ := bs hk
      refine pCall (fun _ => f163_run hv4) ?_
      refine pU ?_
      refine pE ?_
      refine gn ?_
      refine wpL_cd (b := !v4) (fun hb => ?_) (fun hb => ?_)
      · replace hk := ct hb hk
        refine wpL_sq ?_
        refine wpL_rg ?_
        refine pA (.bool _) ?_
        refine pE ?_
        refine gn ?_
        refine wpL_rt ?_
        refine gr ?_
        replace hk := Option.some.inj hk; subst hk; exact fin0 hO
      · replace hk := cf hb hk
        refine wpL_sk ?_
        refine gn ?_
        refine wpL_sq ?_
        refine wpL_rg ?_
        refine pA (.bool _) ?_
        refine pE ?_
        refine gn ?_
        refine wpL_rt ?_
        replace hk := Option.some.inj hk; subst hk; exact fin0 hO
/-- laws.FnExactMeet -/
def f14 (aAN0 : Net) (aAA1 : Train) (aAB2 : Train) : Option Bool :=
  ((f77 aAN0 (1048576:Int)).bind fun v4 => (bif decide (v4 < (0:Int)) then some true else ((f78 aAA1 v4).bind fun v5 => (bif decide (v5 < (0:Int)) then some true else ((f78 aAB2 v5).bind fun v6 => (bif decide (v6 < (0:Int)) then some true else ((f80 aAN0).bind fun v7 => ((f81 aAA1).bind fun v8 => ((f81 aAB2).bind fun v9 => ((f88 v7 v8 v9).bind fun v10 => ((f80 aAN0).bind fun v11 => ((f81 aAA1).bind fun v13 => ((f81 aAB2).bind fun v15 => ((f89 v11 v13 v15).bind fun v17 => (bif !(v17 == v10) then some false else ((f80 aAN0).bind fun v18 => ((f83 v11 v18).bind fun v19 => (bif !v19 then some false else ((f81 aAA1).bind fun v20 => ((f84 v13 v20).bind fun v21 => (bif !v21 then some false else ((f81 aAB2).bind fun v22 => ((f84 v15 v22).bind fun v23 => (bif !v23 then some false else some true))))))))))))))))))))))))
theorem f14_run {aAN0 : Net} {aAA1 : Train} {aAB2 : Train} {r : Bool} {l1 l2 l3 l4 : Nat} {H : Heap} {lk : Lk} (hk : f14 aAN0 aAA1 aAB2 = some r) (hlk : 0 < lk.length := by simp) : runL Try.prog hh 14 [.agg [.lit l1 aAN0.Pieces.length (flat aAN0.Pieces), .lit l2 aAN0.Joints.length (flat aAN0.Joints)], .agg [.int .i64 aAA1.Front.Piece, .int .i64 aAA1.Front.At, .int .i64 aAA1.Front.Way, .int .i64 aAA1.Long, .lit l3 aAA1.Back.length (flat aAA1.Back)], .agg [.int .i64 aAB2.Front.Piece, .int .i64 aAB2.Front.At, .int .i64 aAB2.Front.Way, .int .i64 aAB2.Long, .lit l4 aAB2.Back.length (flat aAB2.Back)]] H lk = some (.bool r, H) := by
  refine run_start Try.func14 rfl Try.ntmps14 Try.results14 rfl rfl fun hO => ?_
  unfold f14 at hk
  refine wpL_sq ?_
  refine wpL_rg ?_
  refine pBox (cs := [_, _]) hO tZ121 (fun b1 G hO => ?_)
  refine pBox (cs := [_, _, _, _, _]) hO tZ125 (fun b2 G hO => ?_)
  refine pBox (cs := [_, _, _, _, _]) hO tZ125 (fun b3 G hO => ?_)
  refine pA (.bool _) ?_
  refine pE ?_
  refine gn ?_
  refine wpL_sq ?_
  refine wpL_rg ?_
  refine pA (.int _ _) ?_
  refine pE ?_
  refine gn ?_
  refine wpL_sq ?_
  refine wpL_rg ?_
  refine pLs hO 2 [_, _] tA121 tZ121 ?_
  refine pM (.int _ _) ?_
  obtain ⟨v4, hv4, hk⟩ := bs hk
  refine pCall (fun _ => f77_run hv4) ?_
  refine pA (.int _ _) ?_
  refine pE ?_
  refine gn ?_
  refine wpL_sq ?_
  refine wpL_sq ?_
  refine wpL_rg ?_
  refine pM (.int _ _) ?_
  refine pBi ?_
  refine pE ?_
  refine gn ?_
  refine wpL_cd (b := decide (v4 < (0:Int))) (fun hb => ?_) (fun hb => ?_)
  · replace hk := ct hb hk
    refine wpL_sq ?_
    refine wpL_rg ?_
    refine pA (.bool _) ?_
    refine pE ?_
    refine gn ?_
    refine wpL_rt ?_
    refine gr ?_
    replace hk := Option.some.inj hk; subst hk; exact fin0 hO
  · replace hk := cf hb hk
    refine wpL_sk ?_
    refine gn ?_
    refine wpL_sq ?_
    refine wpL_rg ?_
    refine pLs hO 1 [_, _, _, _, _] tA125 tZ125 ?_
    refine pM (.int _ _) ?_
    obtain ⟨v5, hv5, hk⟩ := bs hk
    refine pCall (fun _ => f78_run hv5) ?_
    refine pA (.int _ _) ?_
    refine pE ?_
    refine gn ?_
    refine wpL_sq ?_
    refine wpL_sq ?_
    refine wpL_rg ?_
    refine pM (.int _ _) ?_
    refine pBi ?_
    refine pE ?_
    refine gn ?_
    refine wpL_cd (b := decide (v5 < (0:Int))) (fun hb => ?_) (fun hb => ?_)
    · replace hk := ct hb hk
      refine wpL_sq ?_
      refine wpL_rg ?_
      refine pA (.bool _) ?_
      refine pE ?_
      refine gn ?_
      refine wpL_rt ?_
      refine gr ?_
      replace hk := Option.some.inj hk; subst hk; exact fin0 hO
    · replace hk := cf hb hk
      refine wpL_sk ?_
      refine gn ?_
      refine wpL_sq ?_
      refine wpL_rg ?_
      refine pLs hO 0 [_, _, _, _, _] tA125 tZ125 ?_
      refine pM (.int _ _) ?_
      obtain ⟨v6, hv6, hk⟩ := bs hk
      refine pCall (fun _ => f78_run hv6) ?_
      refine pA (.int _ _) ?_
      refine pE ?_
      refine gn ?_
      refine wpL_sq ?_
      refine wpL_sq ?_
      refine wpL_rg ?_
      refine pM (.int _ _) ?_
      refine pBi ?_
      refine pE ?_
      refine gn ?_
      refine wpL_cd (b := decide (v6 < (0:Int))) (fun hb => ?_) (fun hb => ?_)
      · replace hk := ct hb hk
        refine wpL_sq ?_
        refine wpL_rg ?_
        refine pA (.bool _) ?_
        refine pE ?_
        refine gn ?_
        refine wpL_rt ?_
        refine gr ?_
        replace hk := Option.some.inj hk; subst hk; exact fin0 hO
      · replace hk := cf hb hk
        refine wpL_sk ?_
        refine gn ?_
        refine wpL_sq ?_
        refine wpL_drw [(0, true), (2, true), (4, true), (1, true), (3, true), (5, false), (6, false), (7, false)] [_, _, _, _, _, _, _, _] (by decide +kernel) (by rfl) ?_
        refine pLs hO 2 [_, _] tA121 tZ121 ?_
        refine pLs hO 1 [_, _, _, _, _] tA125 tZ125 ?_
        refine pLs hO 0 [_, _, _, _, _] tA125 tZ125 ?_
        obtain ⟨v7, hv7, hk⟩ := bs hk
        refine pCall (fun _ => f80_run hv7) ?_
        obtain ⟨v8, hv8, hk⟩ := bs hk
        refine pCall (fun _ => f81_run hv8) ?_
        obtain ⟨v9, hv9, hk⟩ := bs hk
        refine pCall (fun _ => f81_run hv9) ?_
        obtain ⟨v10, hv10, hk⟩ := bs hk
        refine pCall (fun _ => f88_run hv10) ?_
        refine pA (.bool _) ?_
        refine pE ?_
        refine gn ?_
        refine wpL_sq ?_
        refine wpL_rg ?_
        refine pLs hO 2 [_, _] tA121 tZ121 ?_
        obtain ⟨v11, hv11, hk⟩ := bs hk
        refine pCall (fun _ => f80_run hv11) ?_
        refine pNew hO tZ132 t0132 (fun b12 G hO => ?_)
        refine pSt (xs := [_, _]) hO 0 tZ132 rfl (fun G hO => ?_)
        refine pE ?_
        refine gn ?_
        refine wpL_sq ?_
        refine wpL_rg ?_
        refine pLs hO 2 [_, _, _, _, _] tA125 tZ125 ?_
        obtain ⟨v13, hv13, hk⟩ := bs hk
        refine pCall (fun _ => f81_run hv13) ?_
        refine pNew hO tZ136 t0136 (fun b14 G hO => ?_)
        refine pSt (xs := [_, _, _, _, _]) hO 0 tZ136 rfl (fun G hO => ?_)
        refine pE ?_
        refine gn ?_
        refine wpL_sq ?_
        refine wpL_rg ?_
        refine pLs hO 2 [_, _, _, _, _] tA125 tZ125 ?_
        obtain ⟨v15, hv15, hk⟩ := bs hk
        refine pCall (fun _ => f81_run hv15) ?_
        refine pNew hO tZ136 t0136 (fun b16 G hO => ?_)
        refine pSt (xs := [_, _, _, _, _]) hO 0 tZ136 rfl (fun G hO => ?_)
        refine pE ?_
        refine gn ?_
        refine wpL_sq ?_
        refine wpL_rg ?_
        refine pLs hO 2 [_, _] tA132 tZ132 ?_
        refine pLs hO 1 [_, _, _, _, _] tA136 tZ136 ?_
        refine pLs hO 0 [_, _, _, _, _] tA136 tZ136 ?_
        obtain ⟨v17, hv17, hk⟩ := bs hk
        refine pCall (fun _ => f89_run hv17) ?_
        refine pA (.bool _) ?_
        refine pE ?_
        refine gn ?_
        refine wpL_sq ?_
        refine wpL_sq ?_
        refine wpL_rg ?_
        refine pM (.bool _) ?_
        refine pM (.bool _) ?_
        refine pBn Try.underlying4 ?_
        refine pE ?_
        refine gn ?_
        refine wpL_cd (b := !(v17 == v10)) (fun hb => ?_) (fun hb => ?_)
        · replace hk := ct hb hk
          refine wpL_sq ?_
          refine wpL_rg ?_
          refine pA (.bool _) ?_
          refine pE ?_
          refine gn ?_
          refine wpL_rt ?_
          refine gr ?_
          replace hk := Option.some.inj hk; subst hk; exact fin0 hO
        · replace hk := cf hb hk
          refine wpL_sk ?_
          refine gn ?_
          refine wpL_sq ?_
          refine wpL_sq ?_
          refine wpL_drw [(0, true), (1, true), (2, true), (3, false), (4, false)] [_, _, _, _, _] (by decide +kernel) (by rfl) ?_
          refine pLs hO 2 [_, _] tA132 tZ132 ?_
          refine pLs hO 5 [_, _] tA121 tZ121 ?_
          obtain ⟨v18, hv18, hk⟩ := bs hk
          refine pCall (fun _ => f80_run hv18) ?_
          obtain ⟨v19, hv19, hk⟩ := bs hk
          refine pCall (fun _ => f83_run hv19) ?_
          refine pU ?_
          refine pE ?_
          refine gn ?_
          refine wpL_cd (b := !v19) (fun hb => ?_) (fun hb => ?_)
          · replace hk := ct hb hk
            refine wpL_sq ?_
            refine wpL_rg ?_
            refine pA (.bool _) ?_
            refine pE ?_
            refine gn ?_
            refine wpL_rt ?_
            refine gr ?_
            replace hk := Option.some.inj hk; subst hk; exact fin0 hO
          · replace hk := cf hb hk
            refine wpL_sk ?_
            refine gn ?_
            refine wpL_sq ?_
            refine wpL_sq ?_
            refine wpL_drw [(0, true), (1, true), (2, true), (3, false), (4, false)] [_, _, _, _, _] (by decide +kernel) (by rfl) ?_
            refine pLs hO 1 [_, _, _, _, _] tA136 tZ136 ?_
            refine pLs hO 4 [_, _, _, _, _] tA125 tZ125 ?_
            obtain ⟨v20, hv20, hk⟩ := bs hk
            refine pCall (fun _ => f81_run hv20) ?_
            obtain ⟨v21, hv21, hk⟩ := bs hk
            refine pCall (fun _ => f84_run hv21) ?_
            refine pU ?_
            refine pE ?_
            refine gn ?_
            refine wpL_cd (b := !v21) (fun hb => ?_) (fun hb => ?_)
            · replace hk := ct hb hk
              refine wpL_sq ?_
              refine wpL_rg ?_
              refine pA (.bool _) ?_
              refine pE ?_
              refine gn ?_
              refine wpL_rt ?_
              refine gr ?_
              replace hk := Option.some.inj hk; subst hk; exact fin0 hO
            · replace hk := cf hb hk
              refine wpL_sk ?_
              refine gn ?_
              refine wpL_sq ?_
              refine wpL_sq ?_
              refine wpL_drw [(0, true), (1, true), (2, true), (3, false), (4, false)] [_, _, _, _, _] (by decide +kernel) (by rfl) ?_
              refine pLs hO 0 [_, _, _, _, _] tA136 tZ136 ?_
              refine pLs hO 3 [_, _, _, _, _] tA125 tZ125 ?_
              obtain ⟨v22, hv22, hk⟩ := bs hk
              refine pCall (fun _ => f81_run hv22) ?_
              obtain ⟨v23, hv23, hk⟩ := bs hk
              refine pCall (fun _ => f84_run hv23) ?_
              refine pU ?_
              refine pE ?_
              refine gn ?_
              refine wpL_cd (b := !v23) (fun hb => ?_) (fun hb => ?_)
              · replace hk := ct hb hk
                refine wpL_sq ?_
                refine wpL_rg ?_
                refine pA (.bool _) ?_
                refine pE ?_
                refine gn ?_
                refine wpL_rt ?_
                refine gr ?_
                replace hk := Option.some.inj hk; subst hk; exact fin0 hO
              · replace hk := cf hb hk
                refine wpL_sk ?_
                refine gn ?_
                refine wpL_sq ?_
                refine wpL_rg ?_
                refine pA (.bool _) ?_
                refine pE ?_
                refine gn ?_
                refine wpL_rt ?_
                replace hk := Option.some.inj hk; subst hk; exact fin0 hO
/-- spec.l22lies -/
def f302_L1 (aN0 : Net) (aLies1 : List Int) : Int → Option (Int ⊕ Bool) := fun s =>
  (bif decide (s < (aLies1.length : Int)) then ((getI aLies1 s).bind fun c3 => ((f221 c3 (0:Int) (2:Int)).bind fun v4 => ((bif !v4 then some true else ((bif (c3 != (0:Int)) then ((getI aN0.Joints s).bind fun c7 => some (c7.Kind != (3:Int))) else some false).bind fun t6 => some t6)).bind fun t5 => (bif t5 then ((some false).map Sum.inr) else some (.inl (w64 (s + (1:Int)))))))) else ((some true).map Sum.inr))
def f302 (aN0 : Net) (aLies1 : List Int) : Option Bool :=
  (bif ((aLies1.length : Int) != (aN0.Joints.length : Int)) then some false else (loopO (f302_L1 aN0 aLies1) ((0:Int))))
theorem f302_run {aN0 : Net} {aLies1 : List Int} {r : Bool} {l1 l2 l3 : Nat} {H : Heap} {lk : Lk} (hk : f302 aN0 aLies1 = some r) (hlk : 0 < lk.length := by simp) : runL Try.prog hh 302 [.agg [.lit l1 aN0.Pieces.length (flat aN0.Pieces), .lit l2 aN0.Joints.length (flat aN0.Joints)], .lit l3 aLies1.length (flat aLies1)] H lk = some (.bool r, H) := by
  refine run_start Try.func302 rfl Try.ntmps302 Try.results302 rfl rfl fun hO => ?_
  unfold f302 at hk
  refine wpL_sq ?_
  refine wpL_rg ?_
  refine pBox (cs := [_, _]) hO tZ132 (fun b1 G hO => ?_)
  refine pA (.bool _) ?_
  refine pE ?_
  refine gn ?_
  refine wpL_sq ?_
  refine wpL_sq ?_
  refine wpL_rg ?_
  refine pM (.lit _ _ _) ?_
  refine pLen tS26 ?_
  refine pF tF132_1 ?_
  refine pLo hO 0 (.lit _ _ _) tA130 ?_
  refine pLen tS130 ?_
  refine pBi ?_
  refine pE ?_
  refine gn ?_
  refine wpL_cd (b := ((aLies1.length : Int) != (aN0.Joints.length : Int))) (fun hb => ?_) (fun hb => ?_)
  · replace hk := ct hb hk
    refine wpL_sq ?_
    refine wpL_rg ?_
    refine pA (.bool _) ?_
    refine pE ?_
    refine gn ?_
    refine wpL_rt ?_
    refine gr ?_
    replace hk := Option.some.inj hk; subst hk; exact fin0 hO
  · replace hk := cf hb hk
    refine wpL_sk ?_
    refine gn ?_
    refine wpL_sq ?_
    refine wpL_sq ?_
    refine wpL_rg ?_
    refine pM (.lit _ _ _) ?_
    refine pLen tS26 ?_
    refine pM (.int _ _) ?_
    refine pE ?_
    refine gn ?_
    refine wpL_bl ?_
    refine wpL_loopO (F := f302_L1 aN0 aLies1) (fun s S' => ∃ (J : Nat → V) (G : Heap), Owns H G [.blk b1 (.cells 2 [.lit l1 aN0.Pieces.length (flat aN0.Pieces), .lit l2 aN0.Joints.length (flat aN0.Joints)])] ∧ S' = ⟨hav [(2, .ptr b1 0), (13, .lit l3 aLies1.length (flat aLies1)), (14, .int .i64 (aLies1.length : Int)), (15, .int .i64 s)] J, G⟩) hk ⟨_, _, hO, St.hav _ ⟨rfl, rfl, rfl, rfl, trivial⟩⟩ ?_
    rintro x2 _ y1 ⟨J, G, hO, rfl⟩ hk hx1
    refine wpL_sq ?_
    refine wpL_rg ?_
    refine pBi ?_
    refine pE ?_
    refine gn ?_
    refine wpL_sq ?_
    refine wpL_cd (b := decide (x2 < (aLies1.length : Int))) (fun hb => ?_) (fun hb => ?_)
    · replace hk := ct hb hk
      refine wpL_sk ?_
      refine gn ?_
      refine wpL_sq ?_
      refine wpL_bl ?_
      refine wpL_sq ?_
      refine wpL_rg ?_
      refine pM (.int _ _) ?_
      obtain ⟨c3, hc3, hk⟩ := bs hk
      refine pX hc3 tE26 tZ3 ?_
      refine pLp (.int _ _) (rd1 (off := 0) hc3 tA3) ?_
      refine pA (.int _ _) ?_
      refine pA (.int _ _) ?_
      refine pE ?_
      refine gn ?_
      refine wpL_sq ?_
      refine wpL_rg ?_
      refine pM (.int _ _) ?_
      obtain ⟨v4, hv4, hk⟩ := bs hk
      refine pCall (fun _ => f221_run hv4) ?_
      refine pU ?_
      refine pM (.bool _) ?_
      obtain ⟨t5, ht, hk⟩ := bs hk
      refine wpR_mid (l1 := [_, _, _, _, _, _, _, _, _, _, _, _]) (fun S' => ∃ J, S' = ⟨hav [(2, .ptr b1 0), (13, .lit l3 aLies1.length (flat aLies1)), (14, .int .i64 (aLies1.length : Int)), (15, .int .i64 x2), (35, .bool t5)] J, G⟩) ?_ ?_
      · refine bc (b := !v4) (fun hg1 => ?_) (fun hg1 => ?_)
        · replace hk := ct hg1 ht
          refine pGn hg1 ?_
          refine pGn hg1 ?_
          refine pGn hg1 ?_
          refine pGu ?_
          refine pGu ?_
          refine pGu ?_
          refine pGu ?_
          refine pGu ?_
          refine pGu ?_
          refine pGu ?_
          refine pGn hg1 ?_
          refine pPt hg1 (.bool _) ?_
          cases hk; exact pE ⟨_, St.hav _ ⟨rfl, rfl, rfl, rfl, rfl, trivial⟩⟩
        · replace hk := cf hg1 ht
          refine pGy hg1 ?_
          refine pM (.int _ _) ?_
          refine pGy hg1 ?_
          refine pBi ?_
          refine pGy hg1 ?_
          refine pM (.bool _) ?_
          obtain ⟨t6, ht, hk⟩ := bs hk
          refine wpR_mid (l1 := [_, _, _, _, _, _, _, _]) (fun S' => ∃ J, S' = ⟨hav [(2, .ptr b1 0), (13, .lit l3 aLies1.length (flat aLies1)), (14, .int .i64 (aLies1.length : Int)), (15, .int .i64 x2), (23, .bool (!v4)), (34, .bool t6)] J, G⟩) ?_ ?_
          · refine bc (b := (c3 != (0:Int))) (fun hg2 => ?_) (fun hg2 => ?_)
            · replace hk := ct hg2 ht
              refine pGy hg2 ?_
              refine pF tF132_1 ?_
              refine pGy hg2 ?_
              refine pLo hO 0 (.lit _ _ _) tA130 ?_
              refine pGy hg2 ?_
              refine pM (.int _ _) ?_
              refine pGy hg2 ?_
              obtain ⟨c7, hc7, hk⟩ := bs hk
              refine pX hc7 tE130 tZ332 ?_
              refine pGy hg2 ?_
              refine pF tF332_0 ?_
              refine pGy hg2 ?_
              refine pLp (.int _ _) (rd1 (off := 0) hc7 tA3) ?_
              refine pGy hg2 ?_
              refine pBi ?_
              refine pGy hg1 ?_
              refine pPt hg2 (.bool _) ?_
              cases hk; exact pE ⟨_, St.hav _ ⟨rfl, rfl, rfl, rfl, rfl, rfl, trivial⟩⟩
            · replace hk := cf hg2 ht
              refine pGn hg2 ?_
              refine pGn hg2 ?_
              refine pGn hg2 ?_
              refine pGn hg2 ?_
              refine pGn hg2 ?_
              refine pGn hg2 ?_
              refine pGn hg2 ?_
              refine pGy hg1 ?_
              refine pPf hg2 (.bool _) ?_
              cases hk; exact pE ⟨_, St.hav _ ⟨rfl, rfl, rfl, rfl, rfl, rfl, trivial⟩⟩
          · rintro _ ⟨J, rfl⟩
            refine pPf hg1 (.bool _) ?_
            cases hk; exact pE ⟨_, St.hav _ ⟨rfl, rfl, rfl, rfl, rfl, trivial⟩⟩
      · rintro _ ⟨J, rfl⟩
        refine pE ?_
        refine gn ?_
        refine wpL_cd (b := t5) (fun hb => ?_) (fun hb => ?_)
        · replace hk := ct hb hk
          refine wpL_sq ?_
          refine wpL_rg ?_
          refine pA (.bool _) ?_
          refine pE ?_
          refine gn ?_
          refine wpL_rt ?_
          refine br (gr (gr (br (gr ?_))))
          replace hk := lx hx1 hk
          replace hk := Option.some.inj hk; subst hk; exact fin0 hO
        · replace hk := cf hb hk
          refine wpL_sk ?_
          refine bn (gn ?_)
          refine wpL_rg ?_
          refine pBi ?_
          refine pM (.int _ _) ?_
          refine pE ?_
          refine gn ?_
          cases hk; exact ⟨_, rfl, _, _, hO, St.hav _ ⟨rfl, rfl, rfl, rfl, trivial⟩⟩
    · replace hk := cf hb hk
      refine wpL_ex ?_
      refine ge (ge (be (gn ?_)))
      replace hk := lx hx1 hk
      refine wpL_sq ?_
      refine wpL_rg ?_
      refine pA (.bool _) ?_
      refine pE ?_
      refine gn ?_
      refine wpL_rt ?_
      replace hk := Option.some.inj hk; subst hk; exact fin0 hO
/-- impl.liesOk -/
def f303_L1 (aN0 : Net) (aLies1 : List Int) : Int → Option (Int ⊕ Bool) := fun s =>
  (bif decide (s < (aLies1.length : Int)) then ((getI aLies1 s).bind fun c3 => ((f171 c3 (0:Int) (2:Int)).bind fun v4 => ((bif !v4 then some true else ((bif decide (c3 > (0:Int)) then ((getI aN0.Joints s).bind fun c7 => some (c7.Kind != (3:Int))) else some false).bind fun t6 => some t6)).bind fun t5 => (bif t5 then ((some false).map Sum.inr) else some (.inl (w64 (s + (1:Int)))))))) else ((some true).map Sum.inr))
def f303 (aN0 : Net) (aLies1 : List Int) : Option Bool :=
  (bif ((aLies1.length : Int) != (aN0.Joints.length : Int)) then some false else (loopO (f303_L1 aN0 aLies1) ((0:Int))))
theorem f303_run {aN0 : Net} {aLies1 : List Int} {r : Bool} {l1 l2 l3 : Nat} {H : Heap} {lk : Lk} (hk : f303 aN0 aLies1 = some r) (hlk : 0 < lk.length := by simp) : runL Try.prog hh 303 [.agg [.lit l1 aN0.Pieces.length (flat aN0.Pieces), .lit l2 aN0.Joints.length (flat aN0.Joints)], .lit l3 aLies1.length (flat aLies1)] H lk = some (.bool r, H) := by
  refine run_start Try.func303 rfl Try.ntmps303 Try.results303 rfl rfl fun hO => ?_
  unfold f303 at hk
  refine wpL_sq ?_
  refine wpL_rg ?_
  refine pBox (cs := [_, _]) hO tZ132 (fun b1 G hO => ?_)
  refine pA (.bool _) ?_
  refine pE ?_
  refine gn ?_
  refine wpL_sq ?_
  refine wpL_sq ?_
  refine wpL_rg ?_
  refine pM (.lit _ _ _) ?_
  refine pLen tS26 ?_
  refine pF tF132_1 ?_
  refine pLo hO 0 (.lit _ _ _) tA130 ?_
  refine pLen tS130 ?_
  refine pBi ?_
  refine pE ?_
  refine gn ?_
  refine wpL_cd (b := ((aLies1.length : Int) != (aN0.Joints.length : Int))) (fun hb => ?_) (fun hb => ?_)
  · replace hk := ct hb hk
    refine wpL_sq ?_
    refine wpL_rg ?_
    refine pA (.bool _) ?_
    refine pE ?_
    refine gn ?_
    refine wpL_rt ?_
    refine gr ?_
    replace hk := Option.some.inj hk; subst hk; exact fin0 hO
  · replace hk := cf hb hk
    refine wpL_sk ?_
    refine gn ?_
    refine wpL_sq ?_
    refine wpL_sq ?_
    refine wpL_rg ?_
    refine pM (.lit _ _ _) ?_
    refine pLen tS26 ?_
    refine pM (.int _ _) ?_
    refine pE ?_
    refine gn ?_
    refine wpL_bl ?_
    refine wpL_loopO (F := f303_L1 aN0 aLies1) (fun s S' => ∃ (J : Nat → V) (G : Heap), Owns H G [.blk b1 (.cells 2 [.lit l1 aN0.Pieces.length (flat aN0.Pieces), .lit l2 aN0.Joints.length (flat aN0.Joints)])] ∧ S' = ⟨hav [(2, .ptr b1 0), (13, .lit l3 aLies1.length (flat aLies1)), (14, .int .i64 (aLies1.length : Int)), (15, .int .i64 s)] J, G⟩) hk ⟨_, _, hO, St.hav _ ⟨rfl, rfl, rfl, rfl, trivial⟩⟩ ?_
    rintro x2 _ y1 ⟨J, G, hO, rfl⟩ hk hx1
    refine wpL_sq ?_
    refine wpL_rg ?_
    refine pBi ?_
    refine pE ?_
    refine gn ?_
    refine wpL_sq ?_
    refine wpL_cd (b := decide (x2 < (aLies1.length : Int))) (fun hb => ?_) (fun hb => ?_)
    · replace hk := ct hb hk
      refine wpL_sk ?_
      refine gn ?_
      refine wpL_sq ?_
      refine wpL_bl ?_
      refine wpL_sq ?_
      refine wpL_rg ?_
      refine pM (.int _ _) ?_
      obtain ⟨c3, hc3, hk⟩ := bs hk
      refine pX hc3 tE26 tZ3 ?_
      refine pLp (.int _ _) (rd1 (off := 0) hc3 tA3) ?_
      refine pA (.int _ _) ?_
      refine pA (.int _ _) ?_
      refine pE ?_
      refine gn ?_
      refine wpL_sq ?_
      refine wpL_rg ?_
      refine pM (.int _ _) ?_
      obtain ⟨v4, hv4, hk⟩ := bs hk
      refine pCall (fun _ => f171_run hv4) ?_
      refine pU ?_
      refine pM (.bool _) ?_
      obtain ⟨t5, ht, hk⟩ := bs hk
      refine wpR_mid (l1 := [_, _, _, _, _, _, _, _, _, _, _, _]) (fun S' => ∃ J, S' = ⟨hav [(2, .ptr b1 0), (13, .lit l3 aLies1.length (flat aLies1)), (14, .int .i64 (aLies1.length : Int)), (15, .int .i64 x2), (35, .bool t5)] J, G⟩) ?_ ?_
      · refine bc (b := !v4) (fun hg1 => ?_) (fun hg1 => ?_)
        · replace hk := ct hg1 ht
          refine pGn hg1 ?_
          refine pGn hg1 ?_
          refine pGn hg1 ?_
          refine pGu ?_
          refine pGu ?_
          refine pGu ?_
          refine pGu ?_
          refine pGu ?_
          refine pGu ?_
          refine pGu ?_
          refine pGn hg1 ?_
          refine pPt hg1 (.bool _) ?_
          cases hk; exact pE ⟨_, St.hav _ ⟨rfl, rfl, rfl, rfl, rfl, trivial⟩⟩
        · replace hk := cf hg1 ht
          refine pGy hg1 ?_
          refine pM (.int _ _) ?_
          refine pGy hg1 ?_
          refine pBi ?_
          refine pGy hg1 ?_
          refine pM (.bool _) ?_
          obtain ⟨t6, ht, hk⟩ := bs hk
          refine wpR_mid (l1 := [_, _, _, _, _, _, _, _]) (fun S' => ∃ J, S' = ⟨hav [(2, .ptr b1 0), (13, .lit l3 aLies1.length (flat aLies1)), (14, .int .i64 (aLies1.length : Int)), (15, .int .i64 x2), (23, .bool (!v4)), (34, .bool t6)] J, G⟩) ?_ ?_
          · refine bc (b := decide (c3 > (0:Int))) (fun hg2 => ?_) (fun hg2 => ?_)
            · replace hk := ct hg2 ht
              refine pGy hg2 ?_
              refine pF tF132_1 ?_
              refine pGy hg2 ?_
              refine pLo hO 0 (.lit _ _ _) tA130 ?_
              refine pGy hg2 ?_
              refine pM (.int _ _) ?_
              refine pGy hg2 ?_
              obtain ⟨c7, hc7, hk⟩ := bs hk
              refine pX hc7 tE130 tZ332 ?_
              refine pGy hg2 ?_
              refine pF tF332_0 ?_
              refine pGy hg2 ?_
              refine pLp (.int _ _) (rd1 (off := 0) hc7 tA3) ?_
              refine pGy hg2 ?_
              refine pBi ?_
              refine pGy hg1 ?_
              refine pPt hg2 (.bool _) ?_
              cases hk; exact pE ⟨_, St.hav _ ⟨rfl, rfl, rfl, rfl, rfl, rfl, trivial⟩⟩
            · replace hk := cf hg2 ht
              refine pGn hg2 ?_
              refine pGn hg2 ?_
              refine pGn hg2 ?_
              refine pGn hg2 ?_
              refine pGn hg2 ?_
              refine pGn hg2 ?_
              refine pGn hg2 ?_
              refine pGy hg1 ?_
              refine pPf hg2 (.bool _) ?_
              cases hk; exact pE ⟨_, St.hav _ ⟨rfl, rfl, rfl, rfl, rfl, rfl, trivial⟩⟩
          · rintro _ ⟨J, rfl⟩
            refine pPf hg1 (.bool _) ?_
            cases hk; exact pE ⟨_, St.hav _ ⟨rfl, rfl, rfl, rfl, rfl, trivial⟩⟩
      · rintro _ ⟨J, rfl⟩
        refine pE ?_
        refine gn ?_
        refine wpL_cd (b := t5) (fun hb => ?_) (fun hb => ?_)
        · replace hk := ct hb hk
          refine wpL_sq ?_
          refine wpL_rg ?_
          refine pA (.bool _) ?_
          refine pE ?_
          refine gn ?_
          refine wpL_rt ?_
          refine br (gr (gr (br (gr ?_))))
          replace hk := lx hx1 hk
          replace hk := Option.some.inj hk; subst hk; exact fin0 hO
        · replace hk := cf hb hk
          refine wpL_sk ?_
          refine bn (gn ?_)
          refine wpL_rg ?_
          refine pBi ?_
          refine pM (.int _ _) ?_
          refine pE ?_
          refine gn ?_
          cases hk; exact ⟨_, rfl, _, _, hO, St.hav _ ⟨rfl, rfl, rfl, rfl, trivial⟩⟩
    · replace hk := cf hb hk
      refine wpL_ex ?_
      refine ge (ge (be (gn ?_)))
      replace hk := lx hx1 hk
      refine wpL_sq ?_
      refine wpL_rg ?_
      refine pA (.bool _) ?_
      refine pE ?_
      refine gn ?_
      refine wpL_rt ?_
      replace hk := Option.some.inj hk; subst hk; exact fin0 hO
/-- spec.LiesOk -/
def f216 (aN0 : Net) (aLies1 : List Int) : Option Bool :=
  ((f195 aN0).bind fun v2 => ((bif v2 then ((f302 aN0 aLies1).bind fun v4 => some v4) else some false).bind fun t3 => some t3))
theorem f216_run {aN0 : Net} {aLies1 : List Int} {r : Bool} {l1 l2 l3 : Nat} {H : Heap} {lk : Lk} (hk : f216 aN0 aLies1 = some r) (hlk : 0 < lk.length := by simp) : runL Try.prog hh 216 [.agg [.lit l1 aN0.Pieces.length (flat aN0.Pieces), .lit l2 aN0.Joints.length (flat aN0.Joints)], .lit l3 aLies1.length (flat aLies1)] H lk = some (.bool r, H) := by
  refine run_start Try.func216 rfl Try.ntmps216 Try.results216 rfl rfl fun hO => ?_
  unfold f216 at hk
  refine wpL_sq ?_
  refine wpL_rg ?_
  refine pBox (cs := [_, _]) hO tZ132 (fun b1 G hO => ?_)
  refine pA (.bool _) ?_
  refine pE ?_
  refine gn ?_
  refine wpL_sq ?_
  refine wpL_rg ?_
  refine pLs hO 0 [_, _] tA132 tZ132 ?_
  obtain ⟨v2, hv2, hk⟩ := bs hk
  refine pCall (fun _ => f195_run hv2) ?_
  refine pM (.bool _) ?_
  obtain ⟨t3, ht, hk⟩ := bs hk
  refine wpR_mid (l1 := [_, _, _, _]) (fun S' => ∃ J, S' = ⟨hav [(11, .bool t3)] J, G⟩) ?_ ?_
  · refine bc (b := v2) (fun hg1 => ?_) (fun hg1 => ?_)
    · replace hk := ct hg1 ht
      refine pGy hg1 ?_
      refine pLs hO 0 [_, _] tA132 tZ132 ?_
      refine pGy hg1 ?_
      refine pM (.lit _ _ _) ?_
      refine pGy hg1 ?_
      obtain ⟨v4, hv4, hk⟩ := bs hk
      refine pCall (fun _ => f302_run hv4) ?_
      refine pPt hg1 (.bool _) ?_
      cases hk; exact pE ⟨_, St.hav _ ⟨rfl, trivial⟩⟩
    · replace hk := cf hg1 ht
      refine pGn hg1 ?_
      refine pGn hg1 ?_
      refine pGn hg1 ?_
      refine pPf hg1 (.bool _) ?_
      cases hk; exact pE ⟨_, St.hav _ ⟨rfl, trivial⟩⟩
  · rintro _ ⟨J, rfl⟩
    refine pA (.bool _) ?_
    refine pE ?_
    refine gn ?_
    refine wpL_rt ?_
    replace hk := Option.some.inj hk; subst hk; exact fin0 hO
/-- impl.LiesOk -/
def f218 (aN0 : Net) (aLies1 : List Int) : Option Bool :=
  ((f199 aN0).bind fun v2 => ((bif v2 then ((f303 aN0 aLies1).bind fun v4 => some v4) else some false).bind fun t3 => some t3))
theorem f218_run {aN0 : Net} {aLies1 : List Int} {r : Bool} {l1 l2 l3 : Nat} {H : Heap} {lk : Lk} (hk : f218 aN0 aLies1 = some r) (hlk : 0 < lk.length := by simp) : runL Try.prog hh 218 [.agg [.lit l1 aN0.Pieces.length (flat aN0.Pieces), .lit l2 aN0.Joints.length (flat aN0.Joints)], .lit l3 aLies1.length (flat aLies1)] H lk = some (.bool r, H) := by
  refine run_start Try.func218 rfl Try.ntmps218 Try.results218 rfl rfl fun hO => ?_
  unfold f218 at hk
  refine wpL_sq ?_
  refine wpL_rg ?_
  refine pBox (cs := [_, _]) hO tZ132 (fun b1 G hO => ?_)
  refine pA (.bool _) ?_
  refine pE ?_
  refine gn ?_
  refine wpL_sq ?_
  refine wpL_rg ?_
  refine pLs hO 0 [_, _] tA132 tZ132 ?_
  obtain ⟨v2, hv2, hk⟩ := bs hk
  refine pCall (fun _ => f199_run hv2) ?_
  refine pM (.bool _) ?_
  obtain ⟨t3, ht, hk⟩ := bs hk
  refine wpR_mid (l1 := [_, _, _, _]) (fun S' => ∃ J, S' = ⟨hav [(11, .bool t3)] J, G⟩) ?_ ?_
  · refine bc (b := v2) (fun hg1 => ?_) (fun hg1 => ?_)
    · replace hk := ct hg1 ht
      refine pGy hg1 ?_
      refine pLs hO 0 [_, _] tA132 tZ132 ?_
      refine pGy hg1 ?_
      refine pM (.lit _ _ _) ?_
      refine pGy hg1 ?_
      obtain ⟨v4, hv4, hk⟩ := bs hk
      refine pCall (fun _ => f303_run hv4) ?_
      refine pPt hg1 (.bool _) ?_
      cases hk; exact pE ⟨_, St.hav _ ⟨rfl, trivial⟩⟩
    · replace hk := cf hg1 ht
      refine pGn hg1 ?_
      refine pGn hg1 ?_
      refine pGn hg1 ?_
      refine pPf hg1 (.bool _) ?_
      cases hk; exact pE ⟨_, St.hav _ ⟨rfl, trivial⟩⟩
  · rintro _ ⟨J, rfl⟩
    refine pA (.bool _) ?_
    refine pE ?_
    refine gn ?_
    refine wpL_rt ?_
    replace hk := Option.some.inj hk; subst hk; exact fin0 hO
/-- spec.l23over -/
def f223_k1 (v4 : (Int × Int)) (c5 : Joint) : Option (End × Int × Int) :=
  ((f307 c5 v4.2).bind fun v7 => ((getI v7 (0:Int)).bind fun c8 => some (c8, (0:Int), v4.1)))
def f223 (aN0 : Net) (aLies1 : List Int) (aE2 : End) : Option (End × Int × Int) :=
  ((f306 aN0 aE2).bind fun v4 => ((getI aN0.Joints v4.1).bind fun c5 => (bif (c5.Kind == (1:Int)) then some (aE2, (1:Int), v4.1) else (bif (c5.Kind == (3:Int)) then ((getI aLies1 v4.1).bind fun c9 => (bif (c9 == (0:Int)) then some (aE2, (2:Int), v4.1) else (bif (v4.2 == (0:Int)) then ((getI aLies1 v4.1).bind fun c10 => ((getI c5.Ends c10).bind fun c11 => some (c11, (0:Int), v4.1))) else ((getI aLies1 v4.1).bind fun c12 => (bif (v4.2 != c12) then some (aE2, (3:Int), v4.1) else (f223_k1 v4 c5)))))) else (f223_k1 v4 c5)))))
theorem f223_run {aN0 : Net} {aLies1 : List Int} {aE2 : End} {r : (End × Int × Int)} {l1 l2 l3 : Nat} {H : Heap} {lk : Lk} (hk : f223 aN0 aLies1 aE2 = some r) (hlk : 0 < lk.length := by simp) : runL Try.prog hh 223 [.agg [.lit l1 aN0.Pieces.length (flat aN0.Pieces), .lit l2 aN0.Joints.length (flat aN0.Joints)], .lit l3 aLies1.length (flat aLies1), .agg [.int .i64 aE2.Piece, .int .i64 aE2.Side]] H lk = some (.tup [.agg [.int .i64 r.1.Piece, .int .i64 r.1.Side], .int .i64 r.2.1, .int .i64 r.2.2], H) := by
  refine run_start Try.func223 rfl Try.ntmps223 Try.results223 rfl rfl fun hO => ?_
  unfold f223 at hk
  refine wpL_sq ?_
  refine wpL_rg ?_
  refine pBox (cs := [_, _]) hO tZ132 (fun b1 G hO => ?_)
  refine pBox (cs := [_, _]) hO tZ260 (fun b2 G hO => ?_)
  refine pNew hO tZ260 t0260 (fun b3 G hO => ?_)
  refine pA (.int _ _) ?_
  refine pA (.int _ _) ?_
  refine pE ?_
  refine gn ?_
  refine wpL_sq ?_
  refine wpL_rg ?_
  refine pLs hO 2 [_, _] tA132 tZ132 ?_
  refine pLs hO 1 [_, _] tA260 tZ260 ?_
  obtain ⟨v4, hv4, hk⟩ := bs hk
  refine pCall (fun _ => f306_run hv4) ?_
  refine pM (.tup [_, _]) ?_
  refine pEx (.int _ _) ?_
  refine pEx (.int _ _) ?_
  refine pA (.int _ _) ?_
  refine pA (.int _ _) ?_
  refine pE ?_
  refine gn ?_
  refine wpL_sq ?_
  refine wpL_rg ?_
  refine pF tF132_1 ?_
  refine pLo hO 2 (.lit _ _ _) tA130 ?_
  refine pM (.int _ _) ?_
  obtain ⟨c5, hc5, hk⟩ := bs hk
  refine pX hc5 tE130 tZ332 ?_
  refine pLp (.agg [_, _, _]) (rd2 (off := 0) hc5 tA332 tZ332) ?_
  refine pNew hO tZ332 t0332 (fun b6 G hO => ?_)
  refine pSt (xs := [_, _, _]) hO 0 tZ332 rfl (fun G hO => ?_)
  refine pE ?_
  refine gn ?_
  refine wpL_sq ?_
  refine wpL_sq ?_
  refine wpL_rg ?_
  refine pF tF332_0 ?_
  refine pLo hO 0 (.int _ _) tA3 ?_
  refine pBi ?_
  refine pE ?_
  refine gn ?_
  refine wpL_cd (b := (c5.Kind == (1:Int))) (fun hb => ?_) (fun hb => ?_)
  · replace hk := ct hb hk
    refine wpL_sq ?_
    refine wpL_rg ?_
    refine pLs hO 2 [_, _] tA260 tZ260 ?_
    refine pM (.int _ _) ?_
    refine pSt (xs := [_, _]) hO 1 tZ260 rfl (fun G hO => ?_)
    refine pA (.int _ _) ?_
    refine pA (.int _ _) ?_
    refine pE ?_
    refine gn ?_
    refine wpL_rt ?_
    refine gr ?_
    replace hk := Option.some.inj hk; subst hk; exact finZ hO (fz_tup (n := 3) (fz_c (fz_agg (n := 2) (fz_c (fz_int _ _) (fz_c (fz_int _ _) (fz_n)))) (fz_c (fz_int _ _) (fz_c (fz_int _ _) (fz_n))))) (resS hO 1 [_, _] tA260 tZ260 (resT (.int _ _) (resT (.int _ _) resN)))
  · replace hk := cf hb hk
    refine wpL_sk ?_
    refine gn ?_
    refine wpL_mid (fun S' => ∃  (J : Nat → V) (G : Heap), f223_k1 v4 c5 = some r ∧ Owns H G [.blk b6 (.cells 3 [.int .i64 c5.Kind, .str c5.Name, .lit 0 c5.Ends.length (flat c5.Ends)]), .blk b3 (.cells 2 [.int .i64 0, .int .i64 0])] ∧ S' = ⟨hav [(6, .ptr b3 0), (9, .int .i64 v4.1), (10, .int .i64 v4.2), (11, .ptr b6 0)] J, G⟩) ?_ ?_
    · refine wpL_sq ?_
      refine wpL_rg ?_
      refine pF tF332_0 ?_
      refine pLo hO 0 (.int _ _) tA3 ?_
      refine pBi ?_
      refine pE ?_
      refine gn ?_
      refine wpL_cd (b := (c5.Kind == (3:Int))) (fun hb => ?_) (fun hb => ?_)
      · replace hk := ct hb hk
        refine wpL_sq ?_
        refine wpL_sq ?_
        refine wpL_rg ?_
        refine pM (.lit _ _ _) ?_
        refine pM (.int _ _) ?_
        obtain ⟨c9, hc9, hk⟩ := bs hk
        refine pX hc9 tE26 tZ3 ?_
        refine pLp (.int _ _) (rd1 (off := 0) hc9 tA3) ?_
        refine pBi ?_
        refine pE ?_
        refine gn ?_
        refine wpL_cd (b := (c9 == (0:Int))) (fun hb => ?_) (fun hb => ?_)
        · replace hk := ct hb hk
          refine wpL_sq ?_
          refine wpL_rg ?_
          refine pLs hO 2 [_, _] tA260 tZ260 ?_
          refine pM (.int _ _) ?_
          refine pSt (xs := [_, _]) hO 1 tZ260 rfl (fun G hO => ?_)
          refine pA (.int _ _) ?_
          refine pA (.int _ _) ?_
          refine pE ?_
          refine gn ?_
          refine wpL_rt ?_
          refine gr (gr ?_)
          replace hk := Option.some.inj hk; subst hk; exact finZ hO (fz_tup (n := 3) (fz_c (fz_agg (n := 2) (fz_c (fz_int _ _) (fz_c (fz_int _ _) (fz_n)))) (fz_c (fz_int _ _) (fz_c (fz_int _ _) (fz_n))))) (resS hO 1 [_, _] tA260 tZ260 (resT (.int _ _) (resT (.int _ _) resN)))
        · replace hk := cf hb hk
          refine wpL_sk ?_
          refine gn ?_
          refine wpL_sq ?_
          refine wpL_sq ?_
          refine wpL_rg ?_
          refine pM (.int _ _) ?_
          refine pBi ?_
          refine pE ?_
          refine gn ?_
          refine wpL_cd (b := (v4.2 == (0:Int))) (fun hb => ?_) (fun hb => ?_)
          · replace hk := ct hb hk
            refine wpL_sq ?_
            refine wpL_drw [(0, true), (1, true), (2, true), (3, true), (4, true), (5, true), (6, false), (7, true), (8, true), (9, false), (10, false), (11, false)] [_, _, _, _, _, _, _, _, _, _, _, _] (by decide +kernel) (by rfl) ?_
            refine pF tF332_2 ?_
            refine pLo hO 0 (.lit _ _ _) tA330 ?_
            refine pM (.lit _ _ _) ?_
            refine pM (.int _ _) ?_
            obtain ⟨c10, hc10, hk⟩ := bs hk
            refine pX hc10 tE26 tZ3 ?_
            refine pLp (.int _ _) (rd1 (off := 0) hc10 tA3) ?_
            obtain ⟨c11, hc11, hk⟩ := bs hk
            refine pX hc11 tE330 tZ260 ?_
            refine pLp (.agg [_, _]) (rd2 (off := 0) hc11 tA260 tZ260) ?_
            refine pM (.int _ _) ?_
            refine pSt (xs := [_, _]) hO 1 tZ260 rfl (fun G hO => ?_)
            refine pA (.int _ _) ?_
            refine pA (.int _ _) ?_
            refine pE ?_
            refine gn ?_
            refine wpL_rt ?_
            refine gr (gr ?_)
            replace hk := Option.some.inj hk; subst hk; exact finZ hO (fz_tup (n := 3) (fz_c (fz_agg (n := 2) (fz_c (fz_int _ _) (fz_c (fz_int _ _) (fz_n)))) (fz_c (fz_int _ _) (fz_c (fz_int _ _) (fz_n))))) (resS hO 1 [_, _] tA260 tZ260 (resT (.int _ _) (resT (.int _ _) resN)))
          · replace hk := cf hb hk
            refine wpL_sk ?_
            refine gn ?_
            refine wpL_sq ?_
            refine wpL_rg ?_
            refine pM (.int _ _) ?_
            refine pM (.lit _ _ _) ?_
            refine pM (.int _ _) ?_
            obtain ⟨c12, hc12, hk⟩ := bs hk
            refine pX hc12 tE26 tZ3 ?_
            refine pLp (.int _ _) (rd1 (off := 0) hc12 tA3) ?_
            refine pBi ?_
            refine pE ?_
            refine gn ?_
            refine wpL_cd (b := (v4.2 != c12)) (fun hb => ?_) (fun hb => ?_)
            · replace hk := ct hb hk
              refine wpL_sq ?_
              refine wpL_rg ?_
              refine pLs hO 2 [_, _] tA260 tZ260 ?_
              refine pM (.int _ _) ?_
              refine pSt (xs := [_, _]) hO 1 tZ260 rfl (fun G hO => ?_)
              refine pA (.int _ _) ?_
              refine pA (.int _ _) ?_
              refine pE ?_
              refine gn ?_
              refine wpL_rt ?_
              refine gr ?_
              replace hk := Option.some.inj hk; subst hk; exact finZ hO (fz_tup (n := 3) (fz_c (fz_agg (n := 2) (fz_c (fz_int _ _) (fz_c (fz_int _ _) (fz_n)))) (fz_c (fz_int _ _) (fz_c (fz_int _ _) (fz_n))))) (resS hO 1 [_, _] tA260 tZ260 (resT (.int _ _) (resT (.int _ _) resN)))
            · replace hk := cf hb hk
              refine wpL_sk ?_
              refine gn ?_
              exact ⟨_, _, hk, (Owns.pick hO [0, 1] (by decide) rfl), St.hav _ ⟨rfl, rfl, rfl, rfl, trivial⟩⟩
      · replace hk := cf hb hk
        refine wpL_sk ?_
        refine gn ?_
        exact ⟨_, _, hk, (Owns.pick hO [0, 1] (by decide) rfl), St.hav _ ⟨rfl, rfl, rfl, rfl, trivial⟩⟩
    · rintro _ ⟨J, G, hk, hO, rfl⟩
      refine wpL_sq ?_
      refine wpL_rg ?_
      refine pLs hO 0 [_, _, _] tA332 tZ332 ?_
      refine pM (.int _ _) ?_
      obtain ⟨v7, hv7, hk⟩ := bs hk
      refine pCall (fun _ => f307_run hv7) ?_
      refine pA (.lit _ _ _) ?_
      refine pE ?_
      refine gn ?_
      refine wpL_sq ?_
      refine wpL_rg ?_
      refine pM (.lit _ _ _) ?_
      obtain ⟨c8, hc8, hk⟩ := bs hk
      refine pX hc8 tE330 tZ260 ?_
      refine pLp (.agg [_, _]) (rd2 (off := 0) hc8 tA260 tZ260) ?_
      refine pM (.int _ _) ?_
      refine pSt (xs := [_, _]) hO 1 tZ260 rfl (fun G hO => ?_)
      refine pA (.int _ _) ?_
      refine pA (.int _ _) ?_
      refine pE ?_
      refine gn ?_
      refine wpL_rt ?_
      replace hk := Option.some.inj hk; subst hk; exact finZ hO (fz_tup (n := 3) (fz_c (fz_agg (n := 2) (fz_c (fz_int _ _) (fz_c (fz_int _ _) (fz_n)))) (fz_c (fz_int _ _) (fz_c (fz_int _ _) (fz_n))))) (resS hO 1 [_, _] tA260 tZ260 (resT (.int _ _) (resT (.int _ _) resN)))
/-- impl.cross -/
def f304_k1 (v4 : (Int × Int)) (v5 : ((List End) × (List Int))) : Option (End × Int × Int) :=
  ((getI v5.1 (0:Int)).bind fun c6 => some (c6, (0:Int), v4.1))
def f304 (aN0 : Net) (aLies1 : List Int) (aE2 : End) : Option (End × Int × Int) :=
  ((f336 aN0 aE2).bind fun v4 => ((f290 aN0 aE2).bind fun v5 => ((getI aN0.Joints v4.1).bind fun c7 => (bif (c7.Kind == (1:Int)) then some (({ Piece := 0, Side := 0 } : End), (1:Int), v4.1) else (bif (c7.Kind == (3:Int)) then ((getI aLies1 v4.1).bind fun c8 => (bif (c8 == (0:Int)) then some (({ Piece := 0, Side := 0 } : End), (2:Int), v4.1) else (bif (v4.2 == (0:Int)) then ((getI aLies1 v4.1).bind fun c9 => ((getI v5.1 (w64 (c9 - (1:Int)))).bind fun c10 => some (c10, (0:Int), v4.1))) else ((getI v5.2 (0:Int)).bind fun c11 => ((getI aLies1 v4.1).bind fun c12 => (bif (c11 != c12) then some (({ Piece := 0, Side := 0 } : End), (3:Int), v4.1) else (f304_k1 v4 v5))))))) else (f304_k1 v4 v5))))))
theorem f304_run {aN0 : Net} {aLies1 : List Int} {aE2 : End} {r : (End × Int × Int)} {l1 l2 l3 : Nat} {H : Heap} {lk : Lk} (hk : f304 aN0 aLies1 aE2 = some r) (hlk : 0 < lk.length := by simp) : runL Try.prog hh 304 [.agg [.lit l1 aN0.Pieces.length (flat aN0.Pieces), .lit l2 aN0.Joints.length (flat aN0.Joints)], .lit l3 aLies1.length (flat aLies1), .agg [.int .i64 aE2.Piece, .int .i64 aE2.Side]] H lk = some (.tup [.agg [.int .i64 r.1.Piece, .int .i64 r.1.Side], .int .i64 r.2.1, .int .i64 r.2.2], H) := by
  refine run_start Try.func304 rfl Try.ntmps304 Try.results304 rfl rfl fun hO => ?_
  unfold f304 at hk
  refine wpL_sq ?_
  refine wpL_rg ?_
  refine pBox (cs := [_, _]) hO tZ132 (fun b1 G hO => ?_)
  refine pBox (cs := [_, _]) hO tZ260 (fun b2 G hO => ?_)
  refine pNew hO tZ260 t0260 (fun b3 G hO => ?_)
  refine pA (.int _ _) ?_
  refine pA (.int _ _) ?_
  refine pE ?_
  refine gn ?_
  refine wpL_sq ?_
  refine wpL_rg ?_
  refine pLs hO 2 [_, _] tA132 tZ132 ?_
  refine pLs hO 1 [_, _] tA260 tZ260 ?_
  obtain ⟨v4, hv4, hk⟩ := bs hk
  refine pCall (fun _ => f336_run hv4) ?_
  refine pM (.tup [_, _]) ?_
  refine pEx (.int _ _) ?_
  refine pEx (.int _ _) ?_
  refine pA (.int _ _) ?_
  refine pA (.int _ _) ?_
  refine pE ?_
  refine gn ?_
  refine wpL_sq ?_
  refine wpL_rg ?_
  refine pLs hO 2 [_, _] tA132 tZ132 ?_
  refine pLs hO 1 [_, _] tA260 tZ260 ?_
  obtain ⟨v5, hv5, hk⟩ := bs hk
  refine pCall (fun _ => f290_run hv5) ?_
  refine pM (.tup [_, _]) ?_
  refine pEx (.lit _ _ _) ?_
  refine pEx (.lit _ _ _) ?_
  refine pA (.lit _ _ _) ?_
  refine pA (.lit _ _ _) ?_
  refine pE ?_
  refine gn ?_
  refine wpL_mid (fun S' => ∃  (J : Nat → V) (G : Heap), f304_k1 v4 v5 = some r ∧ Owns H G [.blk b3 (.cells 2 [.int .i64 0, .int .i64 0])] ∧ S' = ⟨hav [(6, .ptr b3 0), (9, .int .i64 v4.1), (11, .lit 0 v5.1.length (flat v5.1))] J, G⟩) ?_ ?_
  · refine wpL_sq ?_
    refine wpL_rg ?_
    refine pF tF132_1 ?_
    refine pLo hO 2 (.lit _ _ _) tA130 ?_
    refine pM (.int _ _) ?_
    obtain ⟨c7, hc7, hk⟩ := bs hk
    refine pX hc7 tE130 tZ332 ?_
    refine pF tF332_0 ?_
    refine pLp (.int _ _) (rd1 (off := 0) hc7 tA3) ?_
    refine pE ?_
    refine gn ?_
    refine wpL_bl ?_
    refine wpL_sq ?_
    refine wpL_rg ?_
    refine pBi ?_
    refine pA (.bool _) ?_
    refine pE ?_
    refine gn ?_
    refine wpL_cd (b := (c7.Kind == (1:Int))) (fun hb => ?_) (fun hb => ?_)
    · replace hk := ct hb hk
      refine wpL_sq ?_
      refine wpL_rg ?_
      refine pBd [_, _] t0260 tP260 ?_
      refine pM (.int _ _) ?_
      refine pSt (xs := [_, _]) hO 0 tZ260 rfl (fun G hO => ?_)
      refine pA (.int _ _) ?_
      refine pA (.int _ _) ?_
      refine pE ?_
      refine gn ?_
      refine wpL_rt ?_
      refine br (gr ?_)
      replace hk := Option.some.inj hk; subst hk; exact finZ hO (fz_tup (n := 3) (fz_c (fz_agg (n := 2) (fz_c (fz_int _ _) (fz_c (fz_int _ _) (fz_n)))) (fz_c (fz_int _ _) (fz_c (fz_int _ _) (fz_n))))) (resS hO 0 [_, _] tA260 tZ260 (resT (.int _ _) (resT (.int _ _) resN)))
    · replace hk := cf hb hk
      refine wpL_sq ?_
      refine wpL_rg ?_
      refine pBi ?_
      refine pA (.bool _) ?_
      refine pE ?_
      refine gn ?_
      refine wpL_cd (b := (c7.Kind == (3:Int))) (fun hb => ?_) (fun hb => ?_)
      · replace hk := ct hb hk
        refine wpL_bl ?_
        refine wpL_sq ?_
        refine wpL_rg ?_
        refine pM (.lit _ _ _) ?_
        refine pM (.int _ _) ?_
        obtain ⟨c8, hc8, hk⟩ := bs hk
        refine pX hc8 tE26 tZ3 ?_
        refine pLp (.int _ _) (rd1 (off := 0) hc8 tA3) ?_
        refine pBi ?_
        refine pA (.bool _) ?_
        refine pE ?_
        refine gn ?_
        refine wpL_cd (b := (c8 == (0:Int))) (fun hb => ?_) (fun hb => ?_)
        · replace hk := ct hb hk
          refine wpL_sq ?_
          refine wpL_rg ?_
          refine pBd [_, _] t0260 tP260 ?_
          refine pM (.int _ _) ?_
          refine pSt (xs := [_, _]) hO 0 tZ260 rfl (fun G hO => ?_)
          refine pA (.int _ _) ?_
          refine pA (.int _ _) ?_
          refine pE ?_
          refine gn ?_
          refine wpL_rt ?_
          refine br (br (gr ?_))
          replace hk := Option.some.inj hk; subst hk; exact finZ hO (fz_tup (n := 3) (fz_c (fz_agg (n := 2) (fz_c (fz_int _ _) (fz_c (fz_int _ _) (fz_n)))) (fz_c (fz_int _ _) (fz_c (fz_int _ _) (fz_n))))) (resS hO 0 [_, _] tA260 tZ260 (resT (.int _ _) (resT (.int _ _) resN)))
        · replace hk := cf hb hk
          refine wpL_sq ?_
          refine wpL_rg ?_
          refine pM (.int _ _) ?_
          refine pBi ?_
          refine pA (.bool _) ?_
          refine pE ?_
          refine gn ?_
          refine wpL_cd (b := (v4.2 == (0:Int))) (fun hb => ?_) (fun hb => ?_)
          · replace hk := ct hb hk
            refine wpL_sq ?_
            refine wpL_rg ?_
            refine pM (.lit _ _ _) ?_
            refine pM (.lit _ _ _) ?_
            refine pM (.int _ _) ?_
            obtain ⟨c9, hc9, hk⟩ := bs hk
            refine pX hc9 tE26 tZ3 ?_
            refine pLp (.int _ _) (rd1 (off := 0) hc9 tA3) ?_
            refine pBi ?_
            obtain ⟨c10, hc10, hk⟩ := bs hk
            refine pX hc10 tE330 tZ260 ?_
            refine pLp (.agg [_, _]) (rd2 (off := 0) hc10 tA260 tZ260) ?_
            refine pM (.int _ _) ?_
            refine pSt (xs := [_, _]) hO 0 tZ260 rfl (fun G hO => ?_)
            refine pA (.int _ _) ?_
            refine pA (.int _ _) ?_
            refine pE ?_
            refine gn ?_
            refine wpL_rt ?_
            refine br (br (gr ?_))
            replace hk := Option.some.inj hk; subst hk; exact finZ hO (fz_tup (n := 3) (fz_c (fz_agg (n := 2) (fz_c (fz_int _ _) (fz_c (fz_int _ _) (fz_n)))) (fz_c (fz_int _ _) (fz_c (fz_int _ _) (fz_n))))) (resS hO 0 [_, _] tA260 tZ260 (resT (.int _ _) (resT (.int _ _) resN)))
          · replace hk := cf hb hk
            refine wpL_sq ?_
            refine wpL_drw [(0, true), (1, true), (2, true), (3, true), (4, true), (5, true), (6, true), (7, false), (8, false)] [_, _, _, _, _, _, _, _, _] (by decide +kernel) (by rfl) ?_
            refine pM (.lit _ _ _) ?_
            obtain ⟨c11, hc11, hk⟩ := bs hk
            refine pX hc11 tE26 tZ3 ?_
            refine pLp (.int _ _) (rd1 (off := 0) hc11 tA3) ?_
            refine pM (.lit _ _ _) ?_
            refine pM (.int _ _) ?_
            obtain ⟨c12, hc12, hk⟩ := bs hk
            refine pX hc12 tE26 tZ3 ?_
            refine pLp (.int _ _) (rd1 (off := 0) hc12 tA3) ?_
            refine pBi ?_
            refine pA (.bool _) ?_
            refine pE ?_
            refine gn ?_
            refine wpL_cd (b := (c11 != c12)) (fun hb => ?_) (fun hb => ?_)
            · replace hk := ct hb hk
              refine wpL_sq ?_
              refine wpL_rg ?_
              refine pBd [_, _] t0260 tP260 ?_
              refine pM (.int _ _) ?_
              refine pSt (xs := [_, _]) hO 0 tZ260 rfl (fun G hO => ?_)
              refine pA (.int _ _) ?_
              refine pA (.int _ _) ?_
              refine pE ?_
              refine gn ?_
              refine wpL_rt ?_
              refine br (br (gr ?_))
              replace hk := Option.some.inj hk; subst hk; exact finZ hO (fz_tup (n := 3) (fz_c (fz_agg (n := 2) (fz_c (fz_int _ _) (fz_c (fz_int _ _) (fz_n)))) (fz_c (fz_int _ _) (fz_c (fz_int _ _) (fz_n))))) (resS hO 0 [_, _] tA260 tZ260 (resT (.int _ _) (resT (.int _ _) resN)))
            · replace hk := cf hb hk
              refine wpL_sk ?_
              refine bn (bn (gn ?_))
              exact ⟨_, _, hk, (Owns.pick hO [0] (by decide) rfl), St.hav _ ⟨rfl, rfl, rfl, trivial⟩⟩
      · replace hk := cf hb hk
        refine wpL_sk ?_
        refine bn (gn ?_)
        exact ⟨_, _, hk, (Owns.pick hO [0] (by decide) rfl), St.hav _ ⟨rfl, rfl, rfl, trivial⟩⟩
  · rintro _ ⟨J, G, hk, hO, rfl⟩
    refine wpL_sq ?_
    refine wpL_rg ?_
    refine pM (.lit _ _ _) ?_
    obtain ⟨c6, hc6, hk⟩ := bs hk
    refine pX hc6 tE330 tZ260 ?_
    refine pLp (.agg [_, _]) (rd2 (off := 0) hc6 tA260 tZ260) ?_
    refine pM (.int _ _) ?_
    refine pSt (xs := [_, _]) hO 0 tZ260 rfl (fun G hO => ?_)
    refine pA (.int _ _) ?_
    refine pA (.int _ _) ?_
    refine pE ?_
    refine gn ?_
    refine wpL_rt ?_
    replace hk := Option.some.inj hk; subst hk; exact finZ hO (fz_tup (n := 3) (fz_c (fz_agg (n := 2) (fz_c (fz_int _ _) (fz_c (fz_int _ _) (fz_n)))) (fz_c (fz_int _ _) (fz_c (fz_int _ _) (fz_n))))) (resS hO 0 [_, _] tA260 tZ260 (resT (.int _ _) (resT (.int _ _) resN)))
/-- spec.l23sits -/
def f217_L1 (aN0 : Net) (aLies1 : List Int) (aT2 : Train) : (Int × Int × Int) → Option ((Int × Int × Int) ⊕ Bool) := fun s =>
  (bif decide (s.2.2 < (aT2.Back.length : Int)) then ((getI aT2.Back s.2.2).bind fun c7 => ((f224 c7.Piece c7.Way).bind fun v9 => ((f223 aN0 aLies1 v9).bind fun v10 => ((bif (v10.2.1 != (0:Int)) then some true else ((f224 s.1 (w64 (0 - s.2.1))).bind fun v13 => some (!((v10.1.Piece == v13.Piece) && ((v10.1.Side == v13.Side) && true))))).bind fun t12 => (bif t12 then ((some false).map Sum.inr) else some (.inl (c7.Piece, c7.Way, w64 (s.2.2 + (1:Int))))))))) else ((some true).map Sum.inr))
def f217 (aN0 : Net) (aLies1 : List Int) (aT2 : Train) : Option Bool :=
  (loopO (f217_L1 aN0 aLies1 aT2) (aT2.Front.Piece, aT2.Front.Way, (0:Int)))
theorem f217_run {aN0 : Net} {aLies1 : List Int} {aT2 : Train} {r : Bool} {l1 l2 l3 l4 : Nat} {H : Heap} {lk : Lk} (hk : f217 aN0 aLies1 aT2 = some r) (hlk : 0 < lk.length := by simp) : runL Try.prog hh 217 [.agg [.lit l1 aN0.Pieces.length (flat aN0.Pieces), .lit l2 aN0.Joints.length (flat aN0.Joints)], .lit l3 aLies1.length (flat aLies1), .agg [.int .i64 aT2.Front.Piece, .int .i64 aT2.Front.At, .int .i64 aT2.Front.Way, .int .i64 aT2.Long, .lit l4 aT2.Back.length (flat aT2.Back)]] H lk = some (.bool r, H) := by
  refine run_start Try.func217 rfl Try.ntmps217 Try.results217 rfl rfl fun hO => ?_
  unfold f217 at hk
  refine wpL_sq ?_
  refine wpL_rg ?_
  refine pBox (cs := [_, _]) hO tZ132 (fun b1 G hO => ?_)
  refine pBox (cs := [_, _, _, _, _]) hO tZ136 (fun b2 G hO => ?_)
  refine pA (.bool _) ?_
  refine pE ?_
  refine gn ?_
  refine wpL_sq ?_
  refine wpL_rg ?_
  refine pF tF136_0 ?_
  refine pF tF134_0 ?_
  refine pLo hO 0 (.int _ _) tA3 ?_
  refine pF tF136_0 ?_
  refine pF tF134_2 ?_
  refine pLo hO 0 (.int _ _) tA3 ?_
  refine pBd [_, _] t0258 tP258 ?_
  refine pNew hO tZ258 t0258 (fun b3 G hO => ?_)
  refine pSt (xs := [_, _]) hO 0 tZ258 rfl (fun G hO => ?_)
  refine pE ?_
  refine gn ?_
  refine wpL_sq ?_
  refine wpL_sq ?_
  refine wpL_rg ?_
  refine pF tF136_2 ?_
  refine pLo hO 1 (.lit _ _ _) tA63 ?_
  refine pLen tS63 ?_
  refine pM (.int _ _) ?_
  refine pE ?_
  refine gn ?_
  refine wpL_bl ?_
  refine wpL_loopO (F := f217_L1 aN0 aLies1 aT2) (fun s S' => ∃ (J : Nat → V) (G : Heap), Owns H G [.blk b3 (.cells 2 [.int .i64 s.1, .int .i64 s.2.1]), .blk b1 (.cells 2 [.lit l1 aN0.Pieces.length (flat aN0.Pieces), .lit l2 aN0.Joints.length (flat aN0.Joints)])] ∧ S' = ⟨hav [(1, .lit l3 aLies1.length (flat aLies1)), (3, .ptr b1 0), (7, .ptr b3 0), (21, .lit l4 aT2.Back.length (flat aT2.Back)), (22, .int .i64 (aT2.Back.length : Int)), (23, .int .i64 s.2.2)] J, G⟩) hk ⟨_, _, (Owns.pick hO [0, 2] (by decide) rfl), St.hav _ ⟨rfl, rfl, rfl, rfl, rfl, rfl, trivial⟩⟩ ?_
  rintro ⟨x4, x5, x6⟩ _ y1 ⟨J, G, hO, rfl⟩ hk hx1
  refine wpL_sq ?_
  refine wpL_rg ?_
  refine pBi ?_
  refine pE ?_
  refine gn ?_
  refine wpL_sq ?_
  refine wpL_cd (b := decide (x6 < (aT2.Back.length : Int))) (fun hb => ?_) (fun hb => ?_)
  · replace hk := ct hb hk
    refine wpL_sk ?_
    refine gn ?_
    refine wpL_sq ?_
    refine wpL_bl ?_
    refine wpL_sq ?_
    refine wpL_rg ?_
    obtain ⟨c7, hc7, hk⟩ := bs hk
    refine pX hc7 tE63 tZ258 ?_
    refine pLp (.agg [_, _]) (rd2 (off := 0) hc7 tA258 tZ258) ?_
    refine pNew hO tZ258 t0258 (fun b8 G hO => ?_)
    refine pSt (xs := [_, _]) hO 0 tZ258 rfl (fun G hO => ?_)
    refine pE ?_
    refine gn ?_
    refine wpL_sq ?_
    refine wpL_drw [(0, true), (1, true), (2, true), (3, true), (4, true), (5, true), (6, true), (7, false), (8, false), (9, false), (10, false), (11, false), (12, true), (13, false), (14, false), (15, false)] [_, _, _, _, _, _, _, _, _, _, _, _, _, _, _, _] (by decide +kernel) (by rfl) ?_
    refine pLs hO 2 [_, _] tA132 tZ132 ?_
    refine pM (.lit _ _ _) ?_
    refine pF tF258_0 ?_
    refine pLo hO 0 (.int _ _) tA3 ?_
    refine pF tF258_1 ?_
    refine pLo hO 0 (.int _ _) tA3 ?_
    obtain ⟨v9, hv9, hk⟩ := bs hk
    refine pCall (fun _ => f224_run hv9) ?_
    obtain ⟨v10, hv10, hk⟩ := bs hk
    refine pCall (fun _ => f223_run hv10) ?_
    refine pM (.tup [_, _, _]) ?_
    refine pEx (.agg [_, _]) ?_
    refine pEx (.int _ _) ?_
    refine pEx (.int _ _) ?_
    refine pNew hO tZ260 t0260 (fun b11 G hO => ?_)
    refine pSt (xs := [_, _]) hO 0 tZ260 rfl (fun G hO => ?_)
    refine pA (.int _ _) ?_
    refine pA (.int _ _) ?_
    refine pE ?_
    refine gn ?_
    refine wpL_sq ?_
    refine wpL_sq ?_
    refine wpL_drw [(0, false), (1, false), (2, false), (3, true), (4, true), (5, true), (6, true), (7, true), (8, true), (9, true), (10, false), (11, false)] [_, _, _, _, _, _, _, _, _, _, _, _] (by decide +kernel) (by rfl) ?_
    refine pM (.int _ _) ?_
    refine pBi ?_
    refine pM (.bool _) ?_
    obtain ⟨t12, ht, hk⟩ := bs hk
    refine wpR_mid (l1 := [_, _, _, _, _, _, _, _, _]) (fun S' => ∃ J, S' = ⟨hav [(1, .lit l3 aLies1.length (flat aLies1)), (3, .ptr b1 0), (7, .ptr b3 0), (9, .ptr b8 0), (21, .lit l4 aT2.Back.length (flat aT2.Back)), (22, .int .i64 (aT2.Back.length : Int)), (23, .int .i64 x6), (50, .bool t12)] J, G⟩) ?_ ?_
    · refine bc (b := (v10.2.1 != (0:Int))) (fun hg1 => ?_) (fun hg1 => ?_)
      · replace hk := ct hg1 ht
        refine pGn hg1 ?_
        refine pGn hg1 ?_
        refine pGn hg1 ?_
        refine pGn hg1 ?_
        refine pGn hg1 ?_
        refine pGn hg1 ?_
        refine pGn hg1 ?_
        refine pGn hg1 ?_
        refine pPt hg1 (.bool _) ?_
        cases hk; exact pE ⟨_, St.hav _ ⟨rfl, rfl, rfl, rfl, rfl, rfl, rfl, rfl, trivial⟩⟩
      · replace hk := cf hg1 ht
        refine pGy hg1 ?_
        refine pLs hO 0 [_, _] tA260 tZ260 ?_
        refine pGy hg1 ?_
        refine pF tF258_0 ?_
        refine pGy hg1 ?_
        refine pLo hO 2 (.int _ _) tA3 ?_
        refine pGy hg1 ?_
        refine pF tF258_1 ?_
        refine pGy hg1 ?_
        refine pLo hO 2 (.int _ _) tA3 ?_
        refine pGy hg1 ?_
        refine pU ?_
        refine pGy hg1 ?_
        obtain ⟨v13, hv13, hk⟩ := bs hk
        refine pCall (fun _ => f224_run hv13) ?_
        refine pGy hg1 ?_
        refine pGne tG260 (eqc (eqi _ _ _) (eqc (eqi _ _ _) (rfl))) ?_
        refine pPf hg1 (.bool _) ?_
        cases hk; exact pE ⟨_, St.hav _ ⟨rfl, rfl, rfl, rfl, rfl, rfl, rfl, rfl, trivial⟩⟩
    · rintro _ ⟨J, rfl⟩
      refine pE ?_
      refine gn ?_
      refine wpL_cd (b := t12) (fun hb => ?_) (fun hb => ?_)
      · replace hk := ct hb hk
        refine wpL_sq ?_
        refine wpL_rg ?_
        refine pA (.bool _) ?_
        refine pE ?_
        refine gn ?_
        refine wpL_rt ?_
        refine gr (br (gr (gr (br (gr ?_)))))
        replace hk := lx hx1 hk
        replace hk := Option.some.inj hk; subst hk; exact fin0 hO
      · replace hk := cf hb hk
        refine wpL_sk ?_
        refine gn ?_
        refine wpL_rg ?_
        refine pLs hO 1 [_, _] tA258 tZ258 ?_
        refine pSt (xs := [_, _]) hO 2 tZ258 rfl (fun G hO => ?_)
        refine pE ?_
        refine bn (gn ?_)
        refine wpL_rg ?_
        refine pBi ?_
        refine pM (.int _ _) ?_
        refine pE ?_
        refine gn ?_
        cases hk; exact ⟨_, rfl, _, _, (Owns.pick hO [2, 3] (by decide) rfl), St.hav _ ⟨rfl, rfl, rfl, rfl, rfl, rfl, trivial⟩⟩
  · replace hk := cf hb hk
    refine wpL_ex ?_
    refine ge (ge (be (gn ?_)))
    replace hk := lx hx1 hk
    refine wpL_sq ?_
    refine wpL_rg ?_
    refine pA (.bool _) ?_
    refine pE ?_
    refine gn ?_
    refine wpL_rt ?_
    replace hk := Option.some.inj hk; subst hk; exact fin0 hO
/-- impl.sits -/
def f219_L1 (aN0 : Net) (aLies1 : List Int) (aT2 : Train) : (Int × Int × Int) → Option ((Int × Int × Int) ⊕ Bool) := fun s =>
  (bif decide (s.2.2 < (aT2.Back.length : Int)) then ((getI aT2.Back s.2.2).bind fun c7 => ((f291 c7).bind fun v9 => ((f304 aN0 aLies1 v9).bind fun v10 => ((bif (v10.2.1 != (0:Int)) then some true else ((f293 ({ Piece := s.1, Way := s.2.1 } : Step)).bind fun v13 => some (!((v10.1.Piece == v13.Piece) && ((v10.1.Side == v13.Side) && true))))).bind fun t12 => (bif t12 then ((some false).map Sum.inr) else some (.inl (c7.Piece, c7.Way, w64 (s.2.2 + (1:Int))))))))) else ((some true).map Sum.inr))
def f219 (aN0 : Net) (aLies1 : List Int) (aT2 : Train) : Option Bool :=
  (loopO (f219_L1 aN0 aLies1 aT2) (aT2.Front.Piece, aT2.Front.Way, (0:Int)))
theorem f219_run {aN0 : Net} {aLies1 : List Int} {aT2 : Train} {r : Bool} {l1 l2 l3 l4 : Nat} {H : Heap} {lk : Lk} (hk : f219 aN0 aLies1 aT2 = some r) (hlk : 0 < lk.length := by simp) : runL Try.prog hh 219 [.agg [.lit l1 aN0.Pieces.length (flat aN0.Pieces), .lit l2 aN0.Joints.length (flat aN0.Joints)], .lit l3 aLies1.length (flat aLies1), .agg [.int .i64 aT2.Front.Piece, .int .i64 aT2.Front.At, .int .i64 aT2.Front.Way, .int .i64 aT2.Long, .lit l4 aT2.Back.length (flat aT2.Back)]] H lk = some (.bool r, H) := by
  refine run_start Try.func219 rfl Try.ntmps219 Try.results219 rfl rfl fun hO => ?_
  unfold f219 at hk
  refine wpL_sq ?_
  refine wpL_rg ?_
  refine pBox (cs := [_, _]) hO tZ132 (fun b1 G hO => ?_)
  refine pBox (cs := [_, _, _, _, _]) hO tZ136 (fun b2 G hO => ?_)
  refine pA (.bool _) ?_
  refine pE ?_
  refine gn ?_
  refine wpL_sq ?_
  refine wpL_rg ?_
  refine pF tF136_0 ?_
  refine pF tF134_0 ?_
  refine pLo hO 0 (.int _ _) tA3 ?_
  refine pF tF136_0 ?_
  refine pF tF134_2 ?_
  refine pLo hO 0 (.int _ _) tA3 ?_
  refine pBd [_, _] t0258 tP258 ?_
  refine pNew hO tZ258 t0258 (fun b3 G hO => ?_)
  refine pSt (xs := [_, _]) hO 0 tZ258 rfl (fun G hO => ?_)
  refine pE ?_
  refine gn ?_
  refine wpL_sq ?_
  refine wpL_sq ?_
  refine wpL_rg ?_
  refine pF tF136_2 ?_
  refine pLo hO 1 (.lit _ _ _) tA63 ?_
  refine pLen tS63 ?_
  refine pM (.int _ _) ?_
  refine pE ?_
  refine gn ?_
  refine wpL_bl ?_
  refine wpL_loopO (F := f219_L1 aN0 aLies1 aT2) (fun s S' => ∃ (J : Nat → V) (G : Heap), Owns H G [.blk b3 (.cells 2 [.int .i64 s.1, .int .i64 s.2.1]), .blk b1 (.cells 2 [.lit l1 aN0.Pieces.length (flat aN0.Pieces), .lit l2 aN0.Joints.length (flat aN0.Joints)])] ∧ S' = ⟨hav [(1, .lit l3 aLies1.length (flat aLies1)), (3, .ptr b1 0), (7, .ptr b3 0), (21, .lit l4 aT2.Back.length (flat aT2.Back)), (22, .int .i64 (aT2.Back.length : Int)), (23, .int .i64 s.2.2)] J, G⟩) hk ⟨_, _, (Owns.pick hO [0, 2] (by decide) rfl), St.hav _ ⟨rfl, rfl, rfl, rfl, rfl, rfl, trivial⟩⟩ ?_
  rintro ⟨x4, x5, x6⟩ _ y1 ⟨J, G, hO, rfl⟩ hk hx1
  refine wpL_sq ?_
  refine wpL_rg ?_
  refine pBi ?_
  refine pE ?_
  refine gn ?_
  refine wpL_sq ?_
  refine wpL_cd (b := decide (x6 < (aT2.Back.length : Int))) (fun hb => ?_) (fun hb => ?_)
  · replace hk := ct hb hk
    refine wpL_sk ?_
    refine gn ?_
    refine wpL_sq ?_
    refine wpL_bl ?_
    refine wpL_sq ?_
    refine wpL_rg ?_
    obtain ⟨c7, hc7, hk⟩ := bs hk
    refine pX hc7 tE63 tZ258 ?_
    refine pLp (.agg [_, _]) (rd2 (off := 0) hc7 tA258 tZ258) ?_
    refine pNew hO tZ258 t0258 (fun b8 G hO => ?_)
    refine pSt (xs := [_, _]) hO 0 tZ258 rfl (fun G hO => ?_)
    refine pE ?_
    refine gn ?_
    refine wpL_sq ?_
    refine wpL_sq ?_
    refine wpL_drw [(0, true), (1, true), (2, true), (3, true), (4, false), (5, false), (6, false), (7, false), (8, false), (9, true), (10, false), (11, false), (12, false)] [_, _, _, _, _, _, _, _, _, _, _, _, _] (by decide +kernel) (by rfl) ?_
    refine pLs hO 2 [_, _] tA132 tZ132 ?_
    refine pM (.lit _ _ _) ?_
    refine pLs hO 0 [_, _] tA258 tZ258 ?_
    obtain ⟨v9, hv9, hk⟩ := bs hk
    refine pCall (fun _ => f291_run hv9) ?_
    obtain ⟨v10, hv10, hk⟩ := bs hk
    refine pCall (fun _ => f304_run hv10) ?_
    refine pM (.tup [_, _, _]) ?_
    refine pEx (.agg [_, _]) ?_
    refine pEx (.int _ _) ?_
    refine pEx (.int _ _) ?_
    refine pNew hO tZ260 t0260 (fun b11 G hO => ?_)
    refine pSt (xs := [_, _]) hO 0 tZ260 rfl (fun G hO => ?_)
    refine pA (.int _ _) ?_
    refine pA (.int _ _) ?_
    refine pE ?_
    refine gn ?_
    refine wpL_sq ?_
    refine wpL_drw [(0, false), (1, false), (2, false), (3, true), (4, true), (5, true), (6, false), (7, false)] [_, _, _, _, _, _, _, _] (by decide +kernel) (by rfl) ?_
    refine pM (.int _ _) ?_
    refine pBi ?_
    refine pM (.bool _) ?_
    obtain ⟨t12, ht, hk⟩ := bs hk
    refine wpR_mid (l1 := [_, _, _, _, _]) (fun S' => ∃ J, S' = ⟨hav [(1, .lit l3 aLies1.length (flat aLies1)), (3, .ptr b1 0), (7, .ptr b3 0), (9, .ptr b8 0), (21, .lit l4 aT2.Back.length (flat aT2.Back)), (22, .int .i64 (aT2.Back.length : Int)), (23, .int .i64 x6), (43, .bool t12)] J, G⟩) ?_ ?_
    · refine bc (b := (v10.2.1 != (0:Int))) (fun hg1 => ?_) (fun hg1 => ?_)
      · replace hk := ct hg1 ht
        refine pGn hg1 ?_
        refine pGn hg1 ?_
        refine pGn hg1 ?_
        refine pGn hg1 ?_
        refine pPt hg1 (.bool _) ?_
        cases hk; exact pE ⟨_, St.hav _ ⟨rfl, rfl, rfl, rfl, rfl, rfl, rfl, rfl, trivial⟩⟩
      · replace hk := cf hg1 ht
        refine pGy hg1 ?_
        refine pLs hO 0 [_, _] tA260 tZ260 ?_
        refine pGy hg1 ?_
        refine pLs hO 2 [_, _] tA258 tZ258 ?_
        refine pGy hg1 ?_
        obtain ⟨v13, hv13, hk⟩ := bs hk
        refine pCall (fun _ => f293_run hv13) ?_
        refine pGy hg1 ?_
        refine pGne tG260 (eqc (eqi _ _ _) (eqc (eqi _ _ _) (rfl))) ?_
        refine pPf hg1 (.bool _) ?_
        cases hk; exact pE ⟨_, St.hav _ ⟨rfl, rfl, rfl, rfl, rfl, rfl, rfl, rfl, trivial⟩⟩
    · rintro _ ⟨J, rfl⟩
      refine pE ?_
      refine gn ?_
      refine wpL_cd (b := t12) (fun hb => ?_) (fun hb => ?_)
      · replace hk := ct hb hk
        refine wpL_sq ?_
        refine wpL_rg ?_
        refine pA (.bool _) ?_
        refine pE ?_
        refine gn ?_
        refine wpL_rt ?_
        refine gr (br (gr (gr (br (gr ?_)))))
        replace hk := lx hx1 hk
        replace hk := Option.some.inj hk; subst hk; exact fin0 hO
      · replace hk := cf hb hk
        refine wpL_sk ?_
        refine gn ?_
        refine wpL_rg ?_
        refine pLs hO 1 [_, _] tA258 tZ258 ?_
        refine pSt (xs := [_, _]) hO 2 tZ258 rfl (fun G hO => ?_)
        refine pE ?_
        refine bn (gn ?_)
        refine wpL_rg ?_
        refine pBi ?_
        refine pM (.int _ _) ?_
        refine pE ?_
        refine gn ?_
        cases hk; exact ⟨_, rfl, _, _, (Owns.pick hO [2, 3] (by decide) rfl), St.hav _ ⟨rfl, rfl, rfl, rfl, rfl, rfl, trivial⟩⟩
  · replace hk := cf hb hk
    refine wpL_ex ?_
    refine ge (ge (be (gn ?_)))
    replace hk := lx hx1 hk
    refine wpL_sq ?_
    refine wpL_rg ?_
    refine pA (.bool _) ?_
    refine pE ?_
    refine gn ?_
    refine wpL_rt ?_
    replace hk := Option.some.inj hk; subst hk; exact fin0 hO
end
end Go.Proofs.Ytkfekjcahepfnaa.K
