/-
 The functions that FnExactMove reaches, as typed Lean functions, and that the interpreter computes them. Part 2 of 3. No conditions.
-/
import Derived.Test.YtblodpbcinkehaaGreatDMva
set_option linter.unusedVariables false
set_option linter.unusedSimpArgs false
set_option maxRecDepth 100000
set_option autoImplicit true
set_option relaxedAutoImplicit true
namespace Go.Proofs.YtblodpbcinkehaaGreat.K
open _root_.Go.Proofs.Tryz renaming prog → ah
open Option.some renaming inj → an
open Int renaming tmod → mR
noncomputable section
variable {H : A4} {lk : Lk}
def Q6 (aS0 : ByteArray) : Int → Option (Int ⊕ Bool) := fun s =>
 (bif decide (s < (aS0.size : Int)) then ((G6 aS0 s).bind fun c2 => (bif !(((decide (c2 ≥ 97) && decide (c2 ≤ 122)) || (decide (c2 ≥ 48) && decide (c2 ≤ 57))) || (c2 == 95)) then ((some false).map Sum.inr) else some (.inl (AV (s + 1))))) else ((some true).map Sum.inr))
def dC (aS0 : ByteArray) : Option Bool :=
 (bif (decide ((aS0.size : Int) < 1) || decide ((aS0.size : Int) > 20)) then some false else (AP (Q6 aS0) ((0:Int))))
theorem Tt (hk : dC aS0 = some r) (hlk : 0 < lk.length := by simp) : Ai ah hh 99 [.str aS0] H lk = some (.bool r, H) := by
 refine AA Tryz.func99 rfl Tryz.ntmps99 Tryz.results99 rfl rfl fun hO => ?_
 unfold dC at hk
 refine sr (pA (.bool _) (pg (AX (sr ?_))))
 refine pM (.str _) ?_
 refine BC Zj ?_
 refine AR ?_
 refine pM (.bool _) ?_
 refine AQ (l1 := [_, _, _, _]) (fun S' => ∃ J, S' = ⟨Aq [(0, .str aS0),(12, .bool (decide ((aS0.size : Int) < 1) || decide ((aS0.size : Int) > 20)))] J, H⟩) ?_ ?_
 ·refine bc (b := decide ((aS0.size : Int) < 1)) ?_ ?_ <;> intro hg
  ·refine Bu hg (Bu hg (Bu hg (EJ hg (.bool _) ?_)))
   exact pE ⟨_, St.Aq _ ⟨rfl, by rw [hg]; rfl, trivial⟩⟩
  refine Ae hg (pM (.str _) (Ae hg ?_))
  refine BC Zj (Ae hg ?_)
  refine AR ?_
  refine EI hg (.bool _) ?_
  exact pE ⟨_, St.Aq _ ⟨rfl, by rw [hg]; rfl, trivial⟩⟩
 rintro _ ⟨J, rfl⟩
 refine pg (B1 hk ?_ ?_) <;> intro hk
 ·refine sr (pA (.bool _) (pg (Ak (gr ?_))))
  cases hk; exact AU hO
 refine B7 (gn (AX (sr (pA (.int _ _) (pg (CE ?_))))))
 refine AJ (F := Q6 aS0) (fun s S' => ∃ J G, A8 H G [] ∧ S' = ⟨Aq [(0, .str aS0),(3, iv s)] J, G⟩) hk ⟨_, _, hO, sh⟩ ?_
 rintro x1 _ y1 ⟨J, G, hO, rfl⟩ hk hx1
 refine AX (sr (pM (.int _ _) ?_))
 refine pM (.str _) ?_
 refine BC Zj ?_
 refine AR (pg (B1 hk ?_ ?_)) <;> intro hk
 ·refine B7 (gn (AX (CE (sr (pM (.str _) ?_)))))
  refine pM (.int _ _) (bk hk fun c2 hc2 hk => ?_)
  refine kY Tryz.underlying9 hc2 ?_
  refine pA (.int _ _) (pg (sr ?_))
  refine pM (.int _ _) ?_
  refine AR ?_
  refine pM (.bool _) ?_
  refine AQ (l1 := [_, _, _]) (fun S' => ∃ J, S' = ⟨Aq [(0, .str aS0),(3, iv x1),(4, .int .u8 c2),(27, .bool (decide (c2 ≥ 97) && decide (c2 ≤ 122)))] J, G⟩) ?_ ?_
  ·refine bc (b := decide (c2 ≥ 97)) ?_ ?_ <;> intro hg
   ·refine Ae hg (pM (.int _ _) (Ae hg ?_))
    refine AR ?_
    refine EJ hg (.bool _) ?_
    exact pE ⟨_, St.Aq _ ⟨rfl, rfl, rfl, by rw [hg]; rfl, trivial⟩⟩
   refine Bu hg (Bu hg (EI hg (.bool _) ?_))
   exact pE ⟨_, St.Aq _ ⟨rfl, rfl, rfl, by rw [hg]; rfl, trivial⟩⟩
  rintro _ ⟨J, rfl⟩
  refine pM (.bool _) ?_
  refine AQ (l1 := [_, _, _, _, _, _, _]) (fun S' => ∃ J, S' = ⟨Aq [(0, .str aS0),(3, iv x1),(4, .int .u8 c2),(35, .bool ((decide (c2 ≥ 97) && decide (c2 ≤ 122)) || (decide (c2 ≥ 48) && decide (c2 ≤ 57))))] J, G⟩) ?_ ?_
  ·refine bc (b := (decide (c2 ≥ 97) && decide (c2 ≤ 122))) ?_ ?_ <;> intro hg
   ·refine Bu hg (Bu hg (Bu hg (K4 (K4 (Bu hg (EJ hg (.bool _) ?_))))))
    exact pE ⟨_, St.Aq _ ⟨rfl, rfl, rfl, by rw [hg]; rfl, trivial⟩⟩
   refine Ae hg (pM (.int _ _) (Ae hg ?_))
   refine AR (Ae hg ?_)
   refine pM (.bool _) ?_
   refine AQ (l1 := [_, _, _]) (fun S' => ∃ J, S' = ⟨Aq [(0, .str aS0),(3, iv x1),(4, .int .u8 c2),(28, .bool (decide (c2 ≥ 97) && decide (c2 ≤ 122))),(34, .bool (decide (c2 ≥ 48) && decide (c2 ≤ 57)))] J, G⟩) ?_ ?_
   ·refine bc (b := decide (c2 ≥ 48)) (fun hg2 => ?_) (fun hg2 => ?_)
    ·refine Ae hg2 (pM (.int _ _) (Ae hg2 ?_))
     refine AR (Ae hg ?_)
     refine EJ hg2 (.bool _) ?_
     exact pE ⟨_, St.Aq _ ⟨rfl, rfl, rfl, rfl, by rw [hg2]; rfl, trivial⟩⟩
    refine Bu hg2 (Bu hg2 (Ae hg (EI hg2 (.bool _) ?_)))
    exact pE ⟨_, St.Aq _ ⟨rfl, rfl, rfl, rfl, by rw [hg2]; rfl, trivial⟩⟩
   rintro _ ⟨J, rfl⟩
   refine EI hg (.bool _) ?_
   exact pE ⟨_, St.Aq _ ⟨rfl, rfl, rfl, by rw [hg]; rfl, trivial⟩⟩
  rintro _ ⟨J, rfl⟩
  refine pM (.bool _) ?_
  refine AQ (l1 := [_, _, _]) (fun S' => ∃ J, S' = ⟨Aq [(0, .str aS0),(3, iv x1),(39, .bool (((decide (c2 ≥ 97) && decide (c2 ≤ 122)) || (decide (c2 ≥ 48) && decide (c2 ≤ 57))) || (c2 == 95)))] J, G⟩) ?_ ?_
  ·refine bc (b := ((decide (c2 ≥ 97) && decide (c2 ≤ 122)) || (decide (c2 ≥ 48) && decide (c2 ≤ 57)))) ?_ ?_ <;> intro hg
   ·refine Bu hg (Bu hg (EJ hg (.bool _) ?_))
    exact pE ⟨_, St.Aq _ ⟨rfl, rfl, by rw [hg]; rfl, trivial⟩⟩
   refine Ae hg (pM (.int _ _) (Ae hg ?_))
   refine AR ?_
   refine EI hg (.bool _) ?_
   exact pE ⟨_, St.Aq _ ⟨rfl, rfl, by rw [hg]; rfl, trivial⟩⟩
  rintro _ ⟨J, rfl⟩
  refine pU (pg (B1 hk ?_ ?_)) <;> intro hk
  ·refine sr (pA (.bool _) (pg (Ak (br (gr (gr (br (gr (have hk := lx hx1 hk; ?_)))))))))
   cases hk; exact AU hO
  refine B7 (bn (gn (Da (pM (.int _ _) ?_))))
  refine AR ?_
  refine pA (.int _ _) (pg ?_)
  cases hk; exact ⟨_, rfl, _, _, hO, sh⟩
 refine Eo (ge (ge (be (gn (have hk := lx hx1 hk; sr (pA (.bool _) (pg (Ak ?_))))))))
 cases hk; exact AU hO
def fX (aP0 : A0) : Option Bool :=
 ((dC aP0.Name).bind fun v2 => some ((((((v2 && decide (aP0.BN ≥ 1)) && decide (aP0.BN ≤ 10000000)) && decide (aP0.Bv ≥ 1)) && decide (aP0.Bv ≤ 10000)) && decide (aP0.CX ≥ 1)) && decide (aP0.CX ≤ 1000)))
theorem Yp (hk : fX aP0 = some r) (hlk : 0 < lk.length := by simp) : Ai ah hh 98 [.agg [.str aP0.Name, iv aP0.BN, iv aP0.Bv, iv aP0.CX]] H lk = some (.bool r, H) := by
 refine AA Tryz.func98 rfl Tryz.ntmps98 Tryz.results98 rfl rfl fun hO => ?_
 unfold fX at hk
 refine sr (Ax (cs := [_, _, _, _]) hO C2 (fun b1 G hO => ?_))
 refine pA (.bool _) (pg (sr ?_))
 refine Ao Fp hO 0 (.str _) OO (bk hk fun v2 hv2 hk => ?_)
 refine AL (fun _ => Tt hv2) ?_
 refine pM (.bool _) ?_
 refine AQ (l1 := [_, _, _, _]) (fun S' => ∃ J, S' = ⟨Aq [(1, .ptr b1 0),(10, .bool (v2 && decide (aP0.BN ≥ 1)))] J, G⟩) ?_ ?_
 ·refine bc (b := v2) ?_ ?_ <;> intro hg
  ·refine Ae hg (pF Ci (Ae hg ?_))
   refine GG hO 0 (.int _ _) B5 (Ae hg ?_)
   refine AR ?_
   refine EJ hg (.bool _) ?_
   exact pE ⟨_, St.Aq _ ⟨rfl, by rw [hg]; rfl, trivial⟩⟩
  refine Bu hg (Bu hg (Bu hg (EI hg (.bool _) ?_)))
  exact pE ⟨_, St.Aq _ ⟨rfl, by rw [hg]; rfl, trivial⟩⟩
 rintro _ ⟨J, rfl⟩
 refine pM (.bool _) ?_
 refine AQ (l1 := [_, _, _, _]) (fun S' => ∃ J, S' = ⟨Aq [(1, .ptr b1 0),(15, .bool ((v2 && decide (aP0.BN ≥ 1)) && decide (aP0.BN ≤ 10000000)))] J, G⟩) ?_ ?_
 ·refine bc (b := (v2 && decide (aP0.BN ≥ 1))) ?_ ?_ <;> intro hg
  ·refine Ae hg (pF Ci (Ae hg ?_))
   refine GG hO 0 (.int _ _) B5 (Ae hg ?_)
   refine AR ?_
   refine EJ hg (.bool _) ?_
   exact pE ⟨_, St.Aq _ ⟨rfl, by rw [hg]; rfl, trivial⟩⟩
  refine Bu hg (Bu hg (Bu hg (EI hg (.bool _) ?_)))
  exact pE ⟨_, St.Aq _ ⟨rfl, by rw [hg]; rfl, trivial⟩⟩
 rintro _ ⟨J, rfl⟩
 refine pM (.bool _) ?_
 refine AQ (l1 := [_, _, _, _]) (fun S' => ∃ J, S' = ⟨Aq [(1, .ptr b1 0),(20, .bool (((v2 && decide (aP0.BN ≥ 1)) && decide (aP0.BN ≤ 10000000)) && decide (aP0.Bv ≥ 1)))] J, G⟩) ?_ ?_
 ·refine bc (b := ((v2 && decide (aP0.BN ≥ 1)) && decide (aP0.BN ≤ 10000000))) ?_ ?_ <;> intro hg
  ·refine Ae hg (pF IL (Ae hg ?_))
   refine GG hO 0 (.int _ _) B5 (Ae hg ?_)
   refine AR ?_
   refine EJ hg (.bool _) ?_
   exact pE ⟨_, St.Aq _ ⟨rfl, by rw [hg]; rfl, trivial⟩⟩
  refine Bu hg (Bu hg (Bu hg (EI hg (.bool _) ?_)))
  exact pE ⟨_, St.Aq _ ⟨rfl, by rw [hg]; rfl, trivial⟩⟩
 rintro _ ⟨J, rfl⟩
 refine pM (.bool _) ?_
 refine AQ (l1 := [_, _, _, _]) (fun S' => ∃ J, S' = ⟨Aq [(1, .ptr b1 0),(25, .bool ((((v2 && decide (aP0.BN ≥ 1)) && decide (aP0.BN ≤ 10000000)) && decide (aP0.Bv ≥ 1)) && decide (aP0.Bv ≤ 10000)))] J, G⟩) ?_ ?_
 ·refine bc (b := (((v2 && decide (aP0.BN ≥ 1)) && decide (aP0.BN ≤ 10000000)) && decide (aP0.Bv ≥ 1))) ?_ ?_ <;> intro hg
  ·refine Ae hg (pF IL (Ae hg ?_))
   refine GG hO 0 (.int _ _) B5 (Ae hg ?_)
   refine AR ?_
   refine EJ hg (.bool _) ?_
   exact pE ⟨_, St.Aq _ ⟨rfl, by rw [hg]; rfl, trivial⟩⟩
  refine Bu hg (Bu hg (Bu hg (EI hg (.bool _) ?_)))
  exact pE ⟨_, St.Aq _ ⟨rfl, by rw [hg]; rfl, trivial⟩⟩
 rintro _ ⟨J, rfl⟩
 refine pM (.bool _) ?_
 refine AQ (l1 := [_, _, _, _]) (fun S' => ∃ J, S' = ⟨Aq [(1, .ptr b1 0),(30, .bool (((((v2 && decide (aP0.BN ≥ 1)) && decide (aP0.BN ≤ 10000000)) && decide (aP0.Bv ≥ 1)) && decide (aP0.Bv ≤ 10000)) && decide (aP0.CX ≥ 1)))] J, G⟩) ?_ ?_
 ·refine bc (b := ((((v2 && decide (aP0.BN ≥ 1)) && decide (aP0.BN ≤ 10000000)) && decide (aP0.Bv ≥ 1)) && decide (aP0.Bv ≤ 10000))) ?_ ?_ <;> intro hg
  ·refine Ae hg (pF IM (Ae hg ?_))
   refine GG hO 0 (.int _ _) B5 (Ae hg ?_)
   refine AR ?_
   refine EJ hg (.bool _) ?_
   exact pE ⟨_, St.Aq _ ⟨rfl, by rw [hg]; rfl, trivial⟩⟩
  refine Bu hg (Bu hg (Bu hg (EI hg (.bool _) ?_)))
  exact pE ⟨_, St.Aq _ ⟨rfl, by rw [hg]; rfl, trivial⟩⟩
 rintro _ ⟨J, rfl⟩
 refine pM (.bool _) ?_
 refine AQ (l1 := [_, _, _, _]) (fun S' => ∃ J, S' = ⟨Aq [(35, .bool ((((((v2 && decide (aP0.BN ≥ 1)) && decide (aP0.BN ≤ 10000000)) && decide (aP0.Bv ≥ 1)) && decide (aP0.Bv ≤ 10000)) && decide (aP0.CX ≥ 1)) && decide (aP0.CX ≤ 1000)))] J, G⟩) ?_ ?_
 ·refine bc (b := (((((v2 && decide (aP0.BN ≥ 1)) && decide (aP0.BN ≤ 10000000)) && decide (aP0.Bv ≥ 1)) && decide (aP0.Bv ≤ 10000)) && decide (aP0.CX ≥ 1))) ?_ ?_ <;> intro hg
  ·refine Ae hg (pF IM (Ae hg ?_))
   refine GG hO 0 (.int _ _) B5 (Ae hg ?_)
   refine AR ?_
   refine EJ hg (.bool _) ?_
   exact pE ⟨_, St.Aq _ ⟨by rw [hg]; rfl, trivial⟩⟩
  refine Bu hg (Bu hg (Bu hg (EI hg (.bool _) ?_)))
  exact pE ⟨_, St.Aq _ ⟨by rw [hg]; rfl, trivial⟩⟩
 rintro _ ⟨J, rfl⟩
 refine pA (.bool _) (pg (Ak ?_))
 cases hk; exact AU hO
def NB (aN0 : Az) (x9 : Int) (c10 : AO) : Int → Option (Int ⊕ (Int ⊕ Bq)) := fun s =>
 (bif decide (s < (c10.Ends.length : Int)) then ((Aa c10.Ends s).bind fun c13 => (bif (((decide (c13.A0 < 0) || decide (c13.A0 ≥ (aN0.A3.length : Int))) || decide (c13.B9 < 0)) || decide (c13.B9 > 1)) then (((some ({ Code := (3:Int), At := x9 } : Bq)).map Sum.inr).map Sum.inr) else some (.inl (AV (s + 1))))) else ((some (.inl (AV (x9 + 1)))).map Sum.inr))
def Q2 (x17 : Int) (x18 : List (ByteArray × Bool)) : Option (((List (ByteArray × Bool)) × Int) ⊕ Bq) :=
 some (.inl (x18, AV (x17 + 1)))
def Q1 (x24 : Int) (c25 : AO) : ((List (Ay × Int)) × Int) → Option (((List (Ay × Int)) × Int) ⊕ (((List (Ay × Int)) × Int) ⊕ Bq)) := fun s =>
 (bif decide (s.2 < (c25.Ends.length : Int)) then ((Aa c25.Ends s.2).bind fun c29 => some (.inl (FH c29 (AV ((DW c29 s.1 0) + 1)) s.1, AV (s.2 + 1)))) else ((some (.inl (s.1, AV (x24 + 1)))).map Sum.inr))
def NF (aN0 : Az) (x23 : List (Ay × Int)) : Int → Option (Int ⊕ Bq) := fun s =>
 (bif decide (s < (aN0.A3.length : Int)) then (bif (((DW ({ A0 := s, B9 := (0:Int) } : Ay) x23 0) != 1) || ((DW ({ A0 := s, B9 := (1:Int) } : Ay) x23 0) != 1)) then ((some ({ Code := (5:Int), At := s } : Bq)).map Sum.inr) else some (.inl (AV (s + 1)))) else ((some ({ Code := 0, At := 0 } : Bq)).map Sum.inr))
def ND (aN0 : Az) : ((List (Ay × Int)) × Int) → Option (((List (Ay × Int)) × Int) ⊕ Bq) := fun s =>
 (bif decide (s.2 < (aN0.A1.length : Int)) then ((Aa aN0.A1 s.2).bind fun c25 => (AP (Q1 s.2 c25) (s.1, (0:Int)))) else ((AP (NF aN0 s.1) ((0:Int))).map Sum.inr))
def NC (aN0 : Az) : ((List (ByteArray × Bool)) × Int) → Option (((List (ByteArray × Bool)) × Int) ⊕ Bq) := fun s =>
 (bif decide (s.2 < (aN0.A1.length : Int)) then ((Aa aN0.A1 s.2).bind fun c19 => (bif decide (c19.Kind ≤ 2) then (bif !(c19.Name.toList == ({ data := #[] } : ByteArray).toList) then ((some ({ Code := (4:Int), At := s.2 } : Bq)).map Sum.inr) else (Q2 s.2 s.1)) else ((dC c19.Name).bind fun v21 => (bif (!v21 || (DW c19.Name s.1 false)) then ((some ({ Code := (4:Int), At := s.2 } : Bq)).map Sum.inr) else (Q2 s.2 (FH c19.Name true s.1)))))) else ((AP (ND aN0) (([] : List (Ay × Int)), (0:Int))).map Sum.inr))
def NA (aN0 : Az) : Int → Option (Int ⊕ Bq) := fun s =>
 (bif decide (s < (aN0.A1.length : Int)) then ((Aa aN0.A1 s).bind fun c10 => (bif ((decide (c10.Kind < 1) || decide (c10.Kind > 4)) || ((c10.Ends.length : Int) != c10.Kind)) then ((some ({ Code := (3:Int), At := s } : Bq)).map Sum.inr) else (AP (NB aN0 s c10) ((0:Int))))) else ((AP (NC aN0) (([] : List (ByteArray × Bool)), (0:Int))).map Sum.inr))
def N9 (aN0 : Az) : ((List (ByteArray × Bool)) × Int) → Option (((List (ByteArray × Bool)) × Int) ⊕ Bq) := fun s =>
 (bif decide (s.2 < (aN0.A3.length : Int)) then ((Aa aN0.A3 s.2).bind fun c6 => ((fX c6).bind fun v8 => (bif (!v8 || (DW c6.Name s.1 false)) then ((some ({ Code := (2:Int), At := s.2 } : Bq)).map Sum.inr) else some (.inl (FH c6.Name true s.1, AV (s.2 + 1)))))) else ((AP (NA aN0) ((0:Int))).map Sum.inr))
def fT (aN0 : Az) : Option Bq :=
 (bif ((((aN0.A3.length : Int) == 0) || decide ((aN0.A3.length : Int) > 100)) || decide ((aN0.A1.length : Int) > 120)) then some ({ Code := (1:Int), At := (0:Int) } : Bq) else (AP (N9 aN0) (([] : List (ByteArray × Bool)), (0:Int))))
theorem Yk (hk : fT aN0 = some r) (hlk : 0 < lk.length := by simp) : Ai ah hh 92 [.agg [A7 l1 0 aN0.A3, A7 l2 m3 aN0.A1]] H lk = some (.agg [iv r.Code, iv r.At], H) := by
 refine AA Tryz.func92 rfl Tryz.ntmps92 Tryz.results92 rfl rfl fun hO => ?_
 unfold fT at hk
 refine sr (Ax (cs := [_, _]) hO B2 (fun b1 G hO => Bd hO Cz FP (fun b2 G hO => pg (AX (sr ?_)))))
 refine Ao C0 hO 1 (.lit _ _ _) Ei ?_
 refine BC IZ ?_
 refine AR ?_
 refine pM (.bool _) ?_
 refine AQ (l1 := [_, _, _, _, _]) (fun S' => ∃ J, S' = ⟨Aq [(1, .ptr b1 0),(2, .ptr b2 0),(27, .bool (((aN0.A3.length : Int) == 0) || decide ((aN0.A3.length : Int) > 100)))] J, G⟩) ?_ ?_
 ·refine bc (b := ((aN0.A3.length : Int) == 0)) ?_ ?_ <;> intro hg
  ·repeat refine Bu hg ?_
   refine EJ hg (.bool _) ?_
   exact pE ⟨_, St.Aq _ ⟨rfl, rfl, by rw [hg]; rfl, trivial⟩⟩
  refine Ae hg (pF C0 (Ae hg ?_))
  refine GG hO 1 (.lit _ _ _) Ei (Ae hg ?_)
  refine BC IZ (Ae hg ?_)
  refine AR ?_
  refine EI hg (.bool _) ?_
  exact pE ⟨_, St.Aq _ ⟨rfl, rfl, by rw [hg]; rfl, trivial⟩⟩
 rintro _ ⟨J, rfl⟩
 refine pM (.bool _) ?_
 refine AQ (l1 := [_, _, _, _, _]) (fun S' => ∃ J, S' = ⟨Aq [(1, .ptr b1 0),(2, .ptr b2 0),(33, .bool ((((aN0.A3.length : Int) == 0) || decide ((aN0.A3.length : Int) > 100)) || decide ((aN0.A1.length : Int) > 120)))] J, G⟩) ?_ ?_
 ·refine bc (b := (((aN0.A3.length : Int) == 0) || decide ((aN0.A3.length : Int) > 100))) ?_ ?_ <;> intro hg
  ·repeat refine Bu hg ?_
   refine EJ hg (.bool _) ?_
   exact pE ⟨_, St.Aq _ ⟨rfl, rfl, by rw [hg]; rfl, trivial⟩⟩
  refine Ae hg (pF Cv (Ae hg ?_))
  refine GG hO 1 (.lit _ _ _) Gj (Ae hg ?_)
  refine BC K2 (Ae hg ?_)
  refine AR ?_
  refine EI hg (.bool _) ?_
  exact pE ⟨_, St.Aq _ ⟨rfl, rfl, by rw [hg]; rfl, trivial⟩⟩
 rintro _ ⟨J, rfl⟩
 refine pg (B1 hk ?_ ?_) <;> intro hk
 ·refine sr (HS [_, _] FP Gm ?_)
  refine CM (xs := [_, _]) hO 0 Cz rfl (fun G hO => pg (Ak (gr ?_)))
  replace hk := an hk; subst hk; exact CP hO (BU (n := 2) (Ac (AD _ _) (Ac (AD _ _) (C8)))) (Cb hO 0 [_, _] HJ Cz Bh)
 refine B7 (gn (sr (jZ ByteArray Bool hO (fun b3 G hO => ?_))))
 refine pA (.D3 _) (pg (AX (sr ?_)))
 refine Ao C0 hO 2 (.lit _ _ _) Ei ?_
 refine BC IZ ?_
 refine pM (.int _ _) (pg (CE ?_))
 refine AJ (F := N9 aN0) (fun s S' => ∃ J G, A8 H G [.B6 b3 (.mp (As s.1)), .B6 b2 (.cells 2 [iv 0, iv 0]), .B6 b1 (.cells 2 [A7 l1 0 aN0.A3, A7 l2 m3 aN0.A1])] ∧ S' = ⟨Aq [(1, .ptr b1 0),(2, .ptr b2 0),(3, .D3 b3),(37, A7 l1 0 aN0.A3),(38, iv (aN0.A3.length : Int)),(39, iv s.2)] J, G⟩) hk ⟨_, _, hO, sh⟩ ?_
 rintro ⟨x4, x5⟩ _ y1 ⟨J, G, hO, rfl⟩ hk hx1
 refine sr (AR (pg (AX (B1 hk ?_ ?_)))) <;> intro hk
 ·refine B7 (gn (AX (CE (sr (pM (.int _ _) (bk hk fun c6 hc6 hk => ?_))))))
  refine pX hc6 GP C2 ?_
  refine DG (.agg [_, _, _, _]) (Fh (lm := 0) (off := 0) hc6 OI C2) (Bd hO C2 Rr (fun b7 G hO => ?_))
  refine pA (.int _ _) ?_
  refine CM (xs := [_, _, _, _]) hO 0 C2 rfl (fun G hO => pg (AX (sr ?_)))
  refine Bj hO 0 [_, _, _, _] OI C2 (bk hk fun v8 hv8 hk => ?_)
  refine AL (fun _ => Yp hv8) ?_
  refine pU ?_
  refine pM (.bool _) ?_
  refine AQ (l1 := [_, _, _, _, _]) (fun S' => ∃ J, S' = ⟨Aq [(1, .ptr b1 0),(2, .ptr b2 0),(3, .D3 b3),(4, iv x5),(5, .ptr b7 0),(37, A7 l1 0 aN0.A3),(38, iv (aN0.A3.length : Int)),(39, iv x5),(52, .bool (!v8 || (DW c6.Name x4 false)))] J, G⟩) ?_ ?_
  ·refine bc (b := !v8) ?_ ?_ <;> intro hg
   ·repeat refine Bu hg ?_
    refine EJ hg (.bool _) ?_
    exact pE ⟨_, St.Aq _ ⟨rfl, rfl, rfl, rfl, rfl, rfl, rfl, rfl, by rw [hg]; rfl, trivial⟩⟩
   refine Ae hg (pM (.D3 _) (Ae hg ?_))
   refine pF Fp (Ae hg ?_)
   refine GG hO 0 (.str _) OO (Ae hg ?_)
   refine gS c6.Name (false : Bool) (hO.get (k := 1) rfl).1 UM ML l7 ?_
   refine EI hg (.bool _) ?_
   exact pE ⟨_, St.Aq _ ⟨rfl, rfl, rfl, rfl, rfl, rfl, rfl, rfl, by rw [hg]; rfl, trivial⟩⟩
  rintro _ ⟨J, rfl⟩
  refine pg (B1 hk ?_ ?_) <;> intro hk
  ·refine sr (pM (.int _ _) ?_)
   refine HS [_, _] FP Gm ?_
   refine CM (xs := [_, _]) hO 2 Cz rfl (fun G hO => pg (Ak (gr (br (gr (gr (br (gr (have hk := lx hx1 hk; ?_)))))))))
   replace hk := an hk; subst hk; exact CP hO (BU (n := 2) (Ac (AD _ _) (Ac (AD _ _) (C8)))) (Cb hO 2 [_, _] HJ Cz Bh)
  refine B7 (gn (Da (pM (.D3 _) ?_)))
  refine Ao Fp hO 0 (.str _) OO ?_
  refine kZ hO 1 c6.Name true UM ML rfl (fun G hO => pE (bn (gn (Da ?_))))
  refine AR ?_
  refine pM (.int _ _) (pg ?_)
  cases hk; exact ⟨_, rfl, _, _, (pk hO [1, 2, 3]), sh⟩
 refine Eo (ge (ge (be (gn (have hk := lx hx1 hk; AX (sr (Ao Cv hO 2 (.lit _ _ _) Gj ?_)))))))
 refine BC K2 ?_
 refine pM (.int _ _) (pg (CE ?_))
 refine AJ (F := NA aN0) (fun s S' => ∃ J G, A8 H G [.B6 b2 (.cells 2 [iv 0, iv 0]), .B6 b1 (.cells 2 [A7 l1 0 aN0.A3, A7 l2 m3 aN0.A1])] ∧ S' = ⟨Aq [(1, .ptr b1 0),(2, .ptr b2 0),(60, A7 l2 m3 aN0.A1),(61, iv (aN0.A1.length : Int)),(62, iv s)] J, G⟩) hk ⟨_, _, (pk hO [1, 2]), sh⟩ ?_
 rintro x9 _ y1 ⟨J, G, hO, rfl⟩ hk hx1
 refine sr (AR (pg (AX (B1 hk ?_ ?_)))) <;> intro hk
 ·refine B7 (gn (AX (CE (sr (pM (.int _ _) (bk hk fun c10 hc10 hk => ?_))))))
  refine pX hc10 Gq BL ?_
  refine DG (.agg [_, _, _]) (Fh (lm := m3) (off := 0) hc10 HI BL) (Bd hO BL J7 (fun b11 G hO => ?_))
  refine pA (.int _ _) ?_
  refine CM (xs := [_, _, _]) hO 0 BL rfl (fun G hO => pg (AX (sr ?_)))
  refine Ao DF hO 0 (.int _ _) B5 ?_
  refine AR ?_
  refine pM (.bool _) ?_
  refine AQ (l1 := [_, _, _, _]) (fun S' => ∃ J, S' = ⟨Aq [(1, .ptr b1 0),(2, .ptr b2 0),(6, iv x9),(7, .ptr b11 0),(60, A7 l2 m3 aN0.A1),(61, iv (aN0.A1.length : Int)),(62, iv x9),(74, .bool (decide (c10.Kind < 1) || decide (c10.Kind > 4)))] J, G⟩) ?_ ?_
  ·refine bc (b := decide (c10.Kind < 1)) ?_ ?_ <;> intro hg
   ·refine Bu hg (Bu hg (Bu hg (EJ hg (.bool _) ?_)))
    exact pE ⟨_, St.Aq _ ⟨rfl, rfl, rfl, rfl, rfl, rfl, rfl, by rw [hg]; rfl, trivial⟩⟩
   refine Ae hg (pF DF (Ae hg ?_))
   refine GG hO 0 (.int _ _) B5 (Ae hg ?_)
   refine AR ?_
   refine EI hg (.bool _) ?_
   exact pE ⟨_, St.Aq _ ⟨rfl, rfl, rfl, rfl, rfl, rfl, rfl, by rw [hg]; rfl, trivial⟩⟩
  rintro _ ⟨J, rfl⟩
  refine pM (.bool _) ?_
  refine AQ (l1 := [_, _, _, _, _, _, _]) (fun S' => ∃ J, S' = ⟨Aq [(1, .ptr b1 0),(2, .ptr b2 0),(6, iv x9),(7, .ptr b11 0),(60, A7 l2 m3 aN0.A1),(61, iv (aN0.A1.length : Int)),(62, iv x9),(82, .bool ((decide (c10.Kind < 1) || decide (c10.Kind > 4)) || ((c10.Ends.length : Int) != c10.Kind)))] J, G⟩) ?_ ?_
  ·refine bc (b := (decide (c10.Kind < 1) || decide (c10.Kind > 4))) ?_ ?_ <;> intro hg
   ·repeat refine Bu hg ?_
    refine EJ hg (.bool _) ?_
    exact pE ⟨_, St.Aq _ ⟨rfl, rfl, rfl, rfl, rfl, rfl, rfl, by rw [hg]; rfl, trivial⟩⟩
   refine Ae hg (pF Cu (Ae hg ?_))
   refine GG hO 0 (.lit _ _ _) FQ (Ae hg ?_)
   refine BC HK (Ae hg ?_)
   refine pF DF (Ae hg ?_)
   refine GG hO 0 (.int _ _) B5 (Ae hg ?_)
   refine AR ?_
   refine EI hg (.bool _) ?_
   exact pE ⟨_, St.Aq _ ⟨rfl, rfl, rfl, rfl, rfl, rfl, rfl, by rw [hg]; rfl, trivial⟩⟩
  rintro _ ⟨J, rfl⟩
  refine pg (B1 hk ?_ ?_) <;> intro hk
  ·refine sr (pM (.int _ _) ?_)
   refine HS [_, _] FP Gm ?_
   refine CM (xs := [_, _]) hO 1 Cz rfl (fun G hO => pg (Ak (gr (br (gr (gr (br (gr (have hk := lx hx1 hk; ?_)))))))))
   replace hk := an hk; subst hk; exact CP hO (BU (n := 2) (Ac (AD _ _) (Ac (AD _ _) (C8)))) (Cb hO 1 [_, _] HJ Cz Bh)
  refine B7 (gn (sr (Ao Cu hO 0 (.lit _ _ _) FQ ?_)))
  refine BC HK ?_
  refine pM (.int _ _) (pg (CE ?_))
  refine AJ (F := NB aN0 x9 c10) (fun s S' => ∃ J G, A8 H G [.B6 b2 (.cells 2 [iv 0, iv 0]), .B6 b1 (.cells 2 [A7 l1 0 aN0.A3, A7 l2 m3 aN0.A1])] ∧ S' = ⟨Aq [(1, .ptr b1 0),(2, .ptr b2 0),(6, iv x9),(60, A7 l2 m3 aN0.A1),(61, iv (aN0.A1.length : Int)),(62, iv x9),(86, A7 m3 0 c10.Ends),(87, iv (c10.Ends.length : Int)),(88, iv s)] J, G⟩) hk ⟨_, _, (pk hO [1, 2]), sh⟩ ?_
  rintro x12 _ y2 ⟨J, G, hO, rfl⟩ hk hx2
  refine sr (AR (pg (AX (B1 hk ?_ ?_)))) <;> intro hk
  ·refine B7 (gn (AX (CE (sr (bk hk fun c13 hc13 hk => pX hc13 CT AS ?_)))))
   refine DG (.agg [_, _]) (Fh (lm := 0) (off := 0) hc13 Bz AS) (Bd hO AS Di (fun b14 G hO => ?_))
   refine CM (xs := [_, _]) hO 0 AS rfl (fun G hO => pg (sr ?_))
   refine Ao Fi hO 0 (.int _ _) B5 ?_
   refine AR ?_
   refine pM (.bool _) ?_
   refine AQ (l1 := [_, _, _, _, _, _, _]) (fun S' => ∃ J, S' = ⟨Aq [(1, .ptr b1 0),(2, .ptr b2 0),(6, iv x9),(9, .ptr b14 0),(60, A7 l2 m3 aN0.A1),(61, iv (aN0.A1.length : Int)),(62, iv x9),(86, A7 m3 0 c10.Ends),(87, iv (c10.Ends.length : Int)),(88, iv x12),(102, .bool (decide (c13.A0 < 0) || decide (c13.A0 ≥ (aN0.A3.length : Int))))] J, G⟩) ?_ ?_
   ·refine bc (b := decide (c13.A0 < 0)) ?_ ?_ <;> intro hg
    ·repeat refine Bu hg ?_
     refine EJ hg (.bool _) ?_
     exact pE ⟨_, St.Aq _ ⟨rfl, rfl, rfl, rfl, rfl, rfl, rfl, rfl, rfl, rfl, by rw [hg]; rfl, trivial⟩⟩
    refine Ae hg (pF Fi (Ae hg ?_))
    refine GG hO 0 (.int _ _) B5 (Ae hg ?_)
    refine pF C0 (Ae hg ?_)
    refine GG hO 2 (.lit _ _ _) Ei (Ae hg ?_)
    refine BC IZ (Ae hg ?_)
    refine AR ?_
    refine EI hg (.bool _) ?_
    exact pE ⟨_, St.Aq _ ⟨rfl, rfl, rfl, rfl, rfl, rfl, rfl, rfl, rfl, rfl, by rw [hg]; rfl, trivial⟩⟩
   rintro _ ⟨J, rfl⟩
   refine pM (.bool _) ?_
   refine AQ (l1 := [_, _, _, _]) (fun S' => ∃ J, S' = ⟨Aq [(1, .ptr b1 0),(2, .ptr b2 0),(6, iv x9),(9, .ptr b14 0),(60, A7 l2 m3 aN0.A1),(61, iv (aN0.A1.length : Int)),(62, iv x9),(86, A7 m3 0 c10.Ends),(87, iv (c10.Ends.length : Int)),(88, iv x12),(107, .bool ((decide (c13.A0 < 0) || decide (c13.A0 ≥ (aN0.A3.length : Int))) || decide (c13.B9 < 0)))] J, G⟩) ?_ ?_
   ·refine bc (b := (decide (c13.A0 < 0) || decide (c13.A0 ≥ (aN0.A3.length : Int)))) ?_ ?_ <;> intro hg
    ·refine Bu hg (Bu hg (Bu hg (EJ hg (.bool _) ?_)))
     exact pE ⟨_, St.Aq _ ⟨rfl, rfl, rfl, rfl, rfl, rfl, rfl, rfl, rfl, rfl, by rw [hg]; rfl, trivial⟩⟩
    refine Ae hg (pF IN (Ae hg ?_))
    refine GG hO 0 (.int _ _) B5 (Ae hg ?_)
    refine AR ?_
    refine EI hg (.bool _) ?_
    exact pE ⟨_, St.Aq _ ⟨rfl, rfl, rfl, rfl, rfl, rfl, rfl, rfl, rfl, rfl, by rw [hg]; rfl, trivial⟩⟩
   rintro _ ⟨J, rfl⟩
   refine pM (.bool _) ?_
   refine AQ (l1 := [_, _, _, _]) (fun S' => ∃ J, S' = ⟨Aq [(1, .ptr b1 0),(2, .ptr b2 0),(6, iv x9),(60, A7 l2 m3 aN0.A1),(61, iv (aN0.A1.length : Int)),(62, iv x9),(86, A7 m3 0 c10.Ends),(87, iv (c10.Ends.length : Int)),(88, iv x12),(112, .bool (((decide (c13.A0 < 0) || decide (c13.A0 ≥ (aN0.A3.length : Int))) || decide (c13.B9 < 0)) || decide (c13.B9 > 1)))] J, G⟩) ?_ ?_
   ·refine bc (b := ((decide (c13.A0 < 0) || decide (c13.A0 ≥ (aN0.A3.length : Int))) || decide (c13.B9 < 0))) ?_ ?_ <;> intro hg
    ·refine Bu hg (Bu hg (Bu hg (EJ hg (.bool _) ?_)))
     exact pE ⟨_, St.Aq _ ⟨rfl, rfl, rfl, rfl, rfl, rfl, rfl, rfl, rfl, by rw [hg]; rfl, trivial⟩⟩
    refine Ae hg (pF IN (Ae hg ?_))
    refine GG hO 0 (.int _ _) B5 (Ae hg ?_)
    refine AR ?_
    refine EI hg (.bool _) ?_
    exact pE ⟨_, St.Aq _ ⟨rfl, rfl, rfl, rfl, rfl, rfl, rfl, rfl, rfl, by rw [hg]; rfl, trivial⟩⟩
   rintro _ ⟨J, rfl⟩
   refine pg (B1 hk ?_ ?_) <;> intro hk
   ·refine sr (pM (.int _ _) ?_)
    refine HS [_, _] FP Gm ?_
    refine CM (xs := [_, _]) hO 1 Cz rfl (fun G hO => pg (Ak (br (gr (gr (br (br (gr (gr (br (gr (have hk := lx hx2 hk; have hk := lx hx1 hk; ?_))))))))))))
    replace hk := an hk; subst hk; exact CP hO (BU (n := 2) (Ac (AD _ _) (Ac (AD _ _) (C8)))) (Cb hO 1 [_, _] HJ Cz Bh)
   refine B7 (bn (gn (Da (AR ?_))))
   refine pM (.int _ _) (pg ?_)
   cases hk; exact ⟨_, rfl, _, _, (pk hO [1, 2]), sh⟩
  refine Eo (ge (ge (be (bn (gn (have hk := lx hx2 hk; Da (AR ?_)))))))
  refine pM (.int _ _) (pg ?_)
  cases hk; exact ⟨_, rfl, _, _, hO, sh⟩
 refine Eo (ge (ge (be (gn (have hk := lx hx1 hk; sr (jZ ByteArray Bool hO (fun b15 G hO => ?_)))))))
 refine pA (.D3 _) (pg (AX (sr ?_)))
 refine Ao Cv hO 2 (.lit _ _ _) Gj ?_
 refine BC K2 ?_
 refine pM (.int _ _) (pg (CE ?_))
 refine AJ (F := NC aN0) (fun s S' => ∃ J G, A8 H G [.B6 b15 (.mp (As s.1)), .B6 b2 (.cells 2 [iv 0, iv 0]), .B6 b1 (.cells 2 [A7 l1 0 aN0.A3, A7 l2 m3 aN0.A1])] ∧ S' = ⟨Aq [(1, .ptr b1 0),(2, .ptr b2 0),(3, .D3 b15),(119, A7 l2 m3 aN0.A1),(120, iv (aN0.A1.length : Int)),(121, iv s.2)] J, G⟩) hk ⟨_, _, hO, sh⟩ ?_
 rintro ⟨x16, x17⟩ _ y1 ⟨J, G, hO, rfl⟩ hk hx1
 refine sr (AR (pg (AX (B1 hk ?_ ?_)))) <;> intro hk
 ·refine B7 (gn (Fq (fun S' => ∃ x18 J G, Q2 x17 x18 = some y1 ∧ A8 H G [.B6 b15 (.mp (As x18)), .B6 b2 (.cells 2 [iv 0, iv 0]), .B6 b1 (.cells 2 [A7 l1 0 aN0.A3, A7 l2 m3 aN0.A1])] ∧ S' = ⟨Aq [(1, .ptr b1 0),(2, .ptr b2 0),(3, .D3 b15),(119, A7 l2 m3 aN0.A1),(120, iv (aN0.A1.length : Int)),(121, iv x17)] J, G⟩) ?_ ?_))
  ·refine CE (sr (pM (.int _ _) (bk hk fun c19 hc19 hk => ?_)))
   refine pX hc19 Gq BL ?_
   refine DG (.agg [_, _, _]) (Fh (lm := m3) (off := 0) hc19 HI BL) (Bd hO BL J7 (fun b20 G hO => ?_))
   refine pA (.int _ _) ?_
   refine CM (xs := [_, _, _]) hO 0 BL rfl (fun G hO => pg (AX (sr ?_)))
   refine Ao DF hO 0 (.int _ _) B5 ?_
   refine AR (pg (B1 hk ?_ ?_)) <;> intro hk
   ·refine AX (sr (Ao EY hO 0 (.str _) OO ?_))
    refine pB (a := .str _) (b := .str _) (pg (B1 hk ?_ ?_)) <;> intro hk
    ·refine sr (pM (.int _ _) ?_)
     refine HS [_, _] FP Gm ?_
     refine CM (xs := [_, _]) hO 2 Cz rfl (fun G hO => pg (Ak (gr (gr (br (gr (gr (br (gr (have hk := lx hx1 hk; ?_))))))))))
     replace hk := an hk; subst hk; exact CP hO (BU (n := 2) (Ac (AD _ _) (Ac (AD _ _) (C8)))) (Cb hO 2 [_, _] HJ Cz Bh)
    exact B7 (gn (Eo (ge (be (gn (⟨x16, _, _, hk, (pk hO [1, 2, 3]), sh⟩))))))
   refine B7 (gn (AX (sr (Ao EY hO 0 (.str _) OO (bk hk fun v21 hv21 hk => ?_)))))
   refine AL (fun _ => Tt hv21) ?_
   refine pU ?_
   refine pM (.bool _) ?_
   refine AQ (l1 := [_, _, _, _, _]) (fun S' => ∃ J, S' = ⟨Aq [(1, .ptr b1 0),(2, .ptr b2 0),(3, .D3 b15),(10, iv x17),(11, .ptr b20 0),(119, A7 l2 m3 aN0.A1),(120, iv (aN0.A1.length : Int)),(121, iv x17),(143, .bool (!v21 || (DW c19.Name x16 false)))] J, G⟩) ?_ ?_
   ·refine bc (b := !v21) ?_ ?_ <;> intro hg
    ·repeat refine Bu hg ?_
     refine EJ hg (.bool _) ?_
     exact pE ⟨_, St.Aq _ ⟨rfl, rfl, rfl, rfl, rfl, rfl, rfl, rfl, by rw [hg]; rfl, trivial⟩⟩
    refine Ae hg (pM (.D3 _) (Ae hg ?_))
    refine pF EY (Ae hg ?_)
    refine GG hO 0 (.str _) OO (Ae hg ?_)
    refine gS c19.Name (false : Bool) (hO.get (k := 1) rfl).1 UM ML l7 ?_
    refine EI hg (.bool _) ?_
    exact pE ⟨_, St.Aq _ ⟨rfl, rfl, rfl, rfl, rfl, rfl, rfl, rfl, by rw [hg]; rfl, trivial⟩⟩
   rintro _ ⟨J, rfl⟩
   refine pg (B1 hk ?_ ?_) <;> intro hk
   ·refine sr (pM (.int _ _) ?_)
    refine HS [_, _] FP Gm ?_
    refine CM (xs := [_, _]) hO 2 Cz rfl (fun G hO => pg (Ak (gr (br (gr (gr (br (gr (have hk := lx hx1 hk; ?_)))))))))
    replace hk := an hk; subst hk; exact CP hO (BU (n := 2) (Ac (AD _ _) (Ac (AD _ _) (C8)))) (Cb hO 2 [_, _] HJ Cz Bh)
   refine B7 (gn (Da (pM (.D3 _) ?_)))
   refine Ao EY hO 0 (.str _) OO ?_
   refine kZ hO 1 c19.Name true UM ML rfl (fun G hO => pE (bn (gn ?_)))
   exact ⟨FH c19.Name true x16, _, _, hk, (pk hO [1, 2, 3]), sh⟩
  rintro _ ⟨x18, J, G, hk, hO, rfl⟩
  refine Da (AR ?_)
  refine pM (.int _ _) (pg ?_)
  cases hk; exact ⟨_, rfl, _, _, hO, sh⟩
 refine Eo (ge (ge (be (gn (have hk := lx hx1 hk; sr (jZ Ay Int hO (fun b22 G hO => ?_)))))))
 refine pA (.D3 _) (pg (AX (sr ?_)))
 refine Ao Cv hO 3 (.lit _ _ _) Gj ?_
 refine BC K2 ?_
 refine pM (.int _ _) (pg (CE ?_))
 refine AJ (F := ND aN0) (fun s S' => ∃ J G, A8 H G [.B6 b22 (.mp (As s.1)), .B6 b2 (.cells 2 [iv 0, iv 0]), .B6 b1 (.cells 2 [A7 l1 0 aN0.A3, A7 l2 m3 aN0.A1])] ∧ S' = ⟨Aq [(1, .ptr b1 0),(2, .ptr b2 0),(12, .D3 b22),(152, A7 l2 m3 aN0.A1),(153, iv (aN0.A1.length : Int)),(154, iv s.2)] J, G⟩) hk ⟨_, _, (pk hO [0, 2, 3]), sh⟩ ?_
 rintro ⟨x23, x24⟩ _ y1 ⟨J, G, hO, rfl⟩ hk hx1
 refine sr (AR (pg (AX (B1 hk ?_ ?_)))) <;> intro hk
 ·refine B7 (gn (AX (CE (sr (bk hk fun c25 hc25 hk => pX hc25 Gq BL ?_)))))
  refine DG (.agg [_, _, _]) (Fh (lm := m3) (off := 0) hc25 HI BL) (Bd hO BL J7 (fun b26 G hO => ?_))
  refine CM (xs := [_, _, _]) hO 0 BL rfl (fun G hO => pg (sr ?_))
  refine Ao Cu hO 0 (.lit _ _ _) FQ ?_
  refine BC HK ?_
  refine pM (.int _ _) (pg (CE ?_))
  refine AJ (F := Q1 x24 c25) (fun s S' => ∃ J G, A8 H G [.B6 b22 (.mp (As s.1)), .B6 b2 (.cells 2 [iv 0, iv 0]), .B6 b1 (.cells 2 [A7 l1 0 aN0.A3, A7 l2 m3 aN0.A1])] ∧ S' = ⟨Aq [(1, .ptr b1 0),(2, .ptr b2 0),(12, .D3 b22),(152, A7 l2 m3 aN0.A1),(153, iv (aN0.A1.length : Int)),(154, iv x24),(159, A7 m3 0 c25.Ends),(160, iv (c25.Ends.length : Int)),(161, iv s.2)] J, G⟩) hk ⟨_, _, (pk hO [1, 2, 3]), sh⟩ ?_
  rintro ⟨x27, x28⟩ _ y2 ⟨J, G, hO, rfl⟩ hk hx2
  refine sr (AR (pg (AX (B1 hk ?_ ?_)))) <;> intro hk
  ·refine B7 (gn (AX (CE (sr (bk hk fun c29 hc29 hk => pX hc29 CT AS ?_)))))
   refine DG (.agg [_, _]) (Fh (lm := 0) (off := 0) hc29 Bz AS) (Bd hO AS Di (fun b30 G hO => ?_))
   refine CM (xs := [_, _]) hO 0 AS rfl (fun G hO => pg ?_)
   refine Hz [1,3,5,6,9,11,12] [_,_,_,_,_,_,_] ?_
   refine pM (.D3 _) ?_
   refine Bj hO 0 [_, _] Bz AS ?_
   refine gS c29 (0 : Int) (hO.get (k := 1) rfl).1 UN MJ j8 ?_
   refine AR ?_
   refine lH hO 1 c29 (0 : Int) UN MJ j8 rfl (fun G hO => ?_)
   refine MA (.int _ _) ?_
   refine lI hO 1 c29 (0 : Int) (AV ((DW c29 x27 0) + 1)) rfl (fun G hO => pE (bn (gn (Da ?_))))
   refine AR ?_
   refine pM (.int _ _) (pg ?_)
   cases hk; exact ⟨_, rfl, _, _, (pk hO [1, 2, 3]), sh⟩
  refine Eo (ge (ge (be (bn (gn (have hk := lx hx2 hk; Da (AR ?_)))))))
  refine pM (.int _ _) (pg ?_)
  cases hk; exact ⟨_, rfl, _, _, hO, sh⟩
 refine Eo (ge (ge (be (gn (have hk := lx hx1 hk; AX (sr (Ao C0 hO 2 (.lit _ _ _) Ei ?_)))))))
 refine BC IZ ?_
 refine pM (.int _ _) (pg (CE ?_))
 refine AJ (F := NF aN0 x23) (fun s S' => ∃ J G, A8 H G [.B6 b22 (.mp (As x23)), .B6 b2 (.cells 2 [iv 0, iv 0])] ∧ S' = ⟨Aq [(2, .ptr b2 0),(12, .D3 b22),(175, iv (aN0.A3.length : Int)),(176, iv s)] J, G⟩) hk ⟨_, _, (pk hO [0, 1]), sh⟩ ?_
 rintro x31 _ y1 ⟨J, G, hO, rfl⟩ hk hx1
 refine sr (AR (pg (AX (B1 hk ?_ ?_)))) <;> intro hk
 ·refine B7 (gn (AX (CE (sr (pM (.int _ _) ?_)))))
  refine pA (.int _ _) (pg (sr ?_))
  refine pM (.D3 _) ?_
  refine pM (.int _ _) ?_
  refine HS [_, _] Di Od ?_
  refine gS ({ A0 := x31, B9 := (0:Int) } : Ay) (0 : Int) (hO.get (k := 0) rfl).1 UN MJ j8 ?_
  refine AR ?_
  refine pM (.bool _) ?_
  refine AQ (l1 := [_, _, _, _, _, _]) (fun S' => ∃ J, S' = ⟨Aq [(2, .ptr b2 0),(12, .D3 b22),(17, iv x31),(175, iv (aN0.A3.length : Int)),(176, iv x31),(190, .bool (((DW ({ A0 := x31, B9 := (0:Int) } : Ay) x23 0) != 1) || ((DW ({ A0 := x31, B9 := (1:Int) } : Ay) x23 0) != 1)))] J, G⟩) ?_ ?_
  ·refine bc (b := ((DW ({ A0 := x31, B9 := (0:Int) } : Ay) x23 0) != 1)) ?_ ?_ <;> intro hg
   ·repeat refine Bu hg ?_
    refine EJ hg (.bool _) ?_
    exact pE ⟨_, St.Aq _ ⟨rfl, rfl, rfl, rfl, rfl, by rw [hg]; rfl, trivial⟩⟩
   refine Ae hg (pM (.D3 _) (Ae hg ?_))
   refine pM (.int _ _) (Ae hg ?_)
   refine HS [_, _] Di Od (Ae hg ?_)
   refine gS ({ A0 := x31, B9 := (1:Int) } : Ay) (0 : Int) (hO.get (k := 0) rfl).1 UN MJ j8 (Ae hg ?_)
   refine AR ?_
   refine EI hg (.bool _) ?_
   exact pE ⟨_, St.Aq _ ⟨rfl, rfl, rfl, rfl, rfl, by rw [hg]; rfl, trivial⟩⟩
  rintro _ ⟨J, rfl⟩
  refine pg (B1 hk ?_ ?_) <;> intro hk
  ·refine sr (pM (.int _ _) ?_)
   refine HS [_, _] FP Gm ?_
   refine CM (xs := [_, _]) hO 1 Cz rfl (fun G hO => pg (Ak (br (gr (gr (br (gr (have hk := lx hx1 hk; ?_))))))))
   replace hk := an hk; subst hk; exact CP hO (BU (n := 2) (Ac (AD _ _) (Ac (AD _ _) (C8)))) (Cb hO 1 [_, _] HJ Cz Bh)
  refine B7 (bn (gn (Da (AR ?_))))
  refine pM (.int _ _) (pg ?_)
  cases hk; exact ⟨_, rfl, _, _, hO, sh⟩
 refine Eo (ge (ge (be (gn (have hk := lx hx1 hk; sr (HS [_, _] FP Gm ?_))))))
 refine CM (xs := [_, _]) hO 1 Cz rfl (fun G hO => pg (Ak ?_))
 replace hk := an hk; subst hk; exact CP hO (BU (n := 2) (Ac (AD _ _) (Ac (AD _ _) (C8)))) (Cb hO 1 [_, _] HJ Cz Bh)
def eZ (aN0 : Az) : Option Bool :=
 ((fT aN0).bind fun v2 => some ((v2.Code == 0) && ((v2.At == 0) && true)))
theorem YR (hk : eZ aN0 = some r) (hlk : 0 < lk.length := by simp) : Ai ah hh 61 [.agg [A7 l1 0 aN0.A3, A7 l2 m3 aN0.A1]] H lk = some (.bool r, H) := by
 refine AA Tryz.func61 rfl Tryz.ntmps61 Tryz.results61 rfl rfl fun hO => ?_
 unfold eZ at hk
 refine sr (Ax (cs := [_, _]) hO B2 (fun b1 G hO => ?_))
 refine pA (.bool _) (pg (sr ?_))
 refine Bj hO 0 [_, _] CL B2 (bk hk fun v2 hv2 hk => ?_)
 refine AL (fun _ => Yk hv2) ?_
 refine HS [_, _] FP Gm ?_
 refine dE iJ (Qn (Qo _ _ _) (Qn (Qo _ _ _) (rfl))) ?_
 refine pA (.bool _) (pg (Ak ?_))
 cases hk; exact AU hO
def XZ (aX0 : Int) (aLo1 : Int) (aHi2 : Int) : Option Bool :=
 some (decide (aX0 ≥ aLo1) && decide (aX0 ≤ aHi2))
theorem JE (hk : XZ aX0 aLo1 aHi2 = some r) (hlk : 0 < lk.length := by simp) : Ai ah hh 31 [iv aX0, iv aLo1, iv aHi2] H lk = some (.bool r, H) := by
 refine AA Tryz.func31 rfl Tryz.ntmps31 Tryz.results31 rfl rfl fun hO => ?_
 unfold XZ at hk
 refine sr (pA (.bool _) (pg (sr ?_)))
 refine pM (.int _ _) ?_
 refine pM (.int _ _) ?_
 refine AR ?_
 refine pM (.bool _) ?_
 refine AQ (l1 := [_, _, _, _]) (fun S' => ∃ J, S' = ⟨Aq [(14, .bool (decide (aX0 ≥ aLo1) && decide (aX0 ≤ aHi2)))] J, H⟩) ?_ ?_
 ·refine bc (b := decide (aX0 ≥ aLo1)) ?_ ?_ <;> intro hg
  ·refine Ae hg (pM (.int _ _) (Ae hg ?_))
   refine pM (.int _ _) (Ae hg ?_)
   refine AR ?_
   refine EJ hg (.bool _) ?_
   exact pE ⟨_, St.Aq _ ⟨by rw [hg]; rfl, trivial⟩⟩
  refine Bu hg (Bu hg (Bu hg (EI hg (.bool _) ?_)))
  exact pE ⟨_, St.Aq _ ⟨by rw [hg]; rfl, trivial⟩⟩
 rintro _ ⟨J, rfl⟩
 refine pA (.bool _) (pg (Ak ?_))
 cases hk; exact AU hO
def Pq (aN0 : Az) (aLies1 : List Int) : Int → Option (Int ⊕ Bool) := fun s =>
 (bif decide (s < (aLies1.length : Int)) then ((Aa aLies1 s).bind fun c3 => ((XZ c3 (0:Int) (2:Int)).bind fun v4 => ((bif !v4 then some true else ((bif decide (c3 > 0) then ((Aa aN0.A1 s).bind fun c7 => some (c7.Kind != 3)) else some false).bind fun t6 => some t6)).bind fun t5 => (bif t5 then ((some false).map Sum.inr) else some (.inl (AV (s + 1))))))) else ((some true).map Sum.inr))
def fA (aN0 : Az) (aLies1 : List Int) : Option Bool :=
 (bif ((aLies1.length : Int) != (aN0.A1.length : Int)) then some false else (AP (Pq aN0 aLies1) ((0:Int))))
theorem YS (hk : fA aN0 aLies1 = some r) (hlk : 0 < lk.length := by simp) : Ai ah hh 62 [.agg [A7 l1 0 aN0.A3, A7 l2 m3 aN0.A1], A7 l4 0 aLies1] H lk = some (.bool r, H) := by
 refine AA Tryz.func62 rfl Tryz.ntmps62 Tryz.results62 rfl rfl fun hO => ?_
 unfold fA at hk
 refine sr (Ax (cs := [_, _]) hO B2 (fun b1 G hO => ?_))
 refine pA (.bool _) (pg (AX (sr ?_)))
 refine pM (.lit _ _ _) ?_
 refine BC OJ ?_
 refine Ao Cv hO 0 (.lit _ _ _) Gj ?_
 refine BC K2 ?_
 refine AR (pg (B1 hk ?_ ?_)) <;> intro hk
 ·refine sr (pA (.bool _) (pg (Ak (gr ?_))))
  cases hk; exact AU hO
 refine B7 (gn (AX (sr (pM (.lit _ _ _) ?_))))
 refine BC OJ ?_
 refine pM (.int _ _) (pg (CE ?_))
 refine AJ (F := Pq aN0 aLies1) (fun s S' => ∃ J G, A8 H G [.B6 b1 (.cells 2 [A7 l1 0 aN0.A3, A7 l2 m3 aN0.A1])] ∧ S' = ⟨Aq [(2, .ptr b1 0),(13, A7 l4 0 aLies1),(14, iv (aLies1.length : Int)),(15, iv s)] J, G⟩) hk ⟨_, _, hO, sh⟩ ?_
 rintro x2 _ y1 ⟨J, G, hO, rfl⟩ hk hx1
 refine sr (AR (pg (AX (B1 hk ?_ ?_)))) <;> intro hk
 ·refine B7 (gn (AX (CE (sr (pM (.int _ _) (bk hk fun c3 hc3 hk => ?_))))))
  refine pX hc3 HV Ey ?_
  refine DG (.int _ _) (IU (lm := 0) (off := 0) hc3 B5) ?_
  refine pA (.int _ _) ?_
  refine pA (.int _ _) (pg (sr ?_))
  refine pM (.int _ _) (bk hk fun v4 hv4 hk => ?_)
  refine AL (fun _ => JE hv4) ?_
  refine pU ?_
  refine pM (.bool _) (bk hk fun t5 ht hk => ?_)
  refine AQ (l1 := [_, _, _, _, _, _, _, _, _, _, _, _]) (fun S' => ∃ J, S' = ⟨Aq [(2, .ptr b1 0),(13, A7 l4 0 aLies1),(14, iv (aLies1.length : Int)),(15, iv x2),(35, .bool t5)] J, G⟩) ?_ ?_
  ·refine bc (b := !v4) ?_ ?_ <;> intro hg
   ·replace hk := ct hg ht
    refine Bu hg (Bu hg (Bu hg (K4 (K4 (K4 (K4 (K4 (K4 (K4 (Bu hg (EJ hg (.bool _) ?_)))))))))))
    cases hk; exact pE ⟨_, sh⟩
   replace hk := cf hg ht
   refine Ae hg (pM (.int _ _) (Ae hg ?_))
   refine AR (Ae hg ?_)
   refine pM (.bool _) (bk hk fun t6 ht hk => ?_)
   refine AQ (l1 := [_, _, _, _, _, _, _, _]) (fun S' => ∃ J, S' = ⟨Aq [(2, .ptr b1 0),(13, A7 l4 0 aLies1),(14, iv (aLies1.length : Int)),(15, iv x2),(23, .bool (!v4)),(34, .bool t6)] J, G⟩) ?_ ?_
   ·refine bc (b := decide (c3 > 0)) (fun hg2 => ?_) (fun hg2 => ?_)
    ·replace hk := ct hg2 ht
     refine Ae hg2 (pF Cv (Ae hg2 ?_))
     refine GG hO 0 (.lit _ _ _) Gj (Ae hg2 ?_)
     refine pM (.int _ _) (Ae hg2 (bk hk fun c7 hc7 hk => ?_))
     refine pX hc7 Gq BL (Ae hg2 ?_)
     refine pF DF (Ae hg2 ?_)
     refine DG (.int _ _) (IU (lm := m3) (off := 0) hc7 B5) (Ae hg2 ?_)
     refine AR (Ae hg ?_)
     refine EJ hg2 (.bool _) ?_
     cases hk; exact pE ⟨_, sh⟩
    replace hk := cf hg2 ht
    repeat refine Bu hg2 ?_
    refine Ae hg (EI hg2 (.bool _) ?_)
    cases hk; exact pE ⟨_, sh⟩
   rintro _ ⟨J, rfl⟩
   refine EI hg (.bool _) ?_
   cases hk; exact pE ⟨_, sh⟩
  rintro _ ⟨J, rfl⟩
  refine pg (B1 hk ?_ ?_) <;> intro hk
  ·refine sr (pA (.bool _) (pg (Ak (br (gr (gr (br (gr (have hk := lx hx1 hk; ?_)))))))))
   cases hk; exact AU hO
  refine B7 (bn (gn (Da (AR ?_))))
  refine pM (.int _ _) (pg ?_)
  cases hk; exact ⟨_, rfl, _, _, hO, sh⟩
 refine Eo (ge (ge (be (gn (have hk := lx hx1 hk; sr (pA (.bool _) (pg (Ak ?_))))))))
 cases hk; exact AU hO
def eD (aN0 : Az) (aLies1 : List Int) : Option Bool :=
 ((eZ aN0).bind fun v2 => ((bif v2 then ((fA aN0 aLies1).bind fun v4 => some v4) else some false).bind fun t3 => some t3))
theorem Y0 (hk : eD aN0 aLies1 = some r) (hlk : 0 < lk.length := by simp) : Ai ah hh 29 [.agg [A7 l1 0 aN0.A3, A7 l2 m3 aN0.A1], A7 l4 0 aLies1] H lk = some (.bool r, H) := by
 refine AA Tryz.func29 rfl Tryz.ntmps29 Tryz.results29 rfl rfl fun hO => ?_
 unfold eD at hk
 refine sr (Ax (cs := [_, _]) hO B2 (fun b1 G hO => ?_))
 refine pA (.bool _) (pg (sr ?_))
 refine Bj hO 0 [_, _] CL B2 (bk hk fun v2 hv2 hk => ?_)
 refine AL (fun _ => YR hv2) ?_
 refine pM (.bool _) (bk hk fun t3 ht hk => ?_)
 refine AQ (l1 := [_, _, _, _]) (fun S' => ∃ J, S' = ⟨Aq [(11, .bool t3)] J, G⟩) ?_ ?_
 ·refine bc (b := v2) ?_ ?_ <;> intro hg
  ·replace hk := ct hg ht
   refine Ae hg (Bj hO 0 [_, _] CL B2 (Ae hg ?_))
   refine pM (.lit _ _ _) (Ae hg (bk hk fun v4 hv4 hk => ?_))
   refine AL (fun _ => YS hv4) ?_
   refine EJ hg (.bool _) ?_
   cases hk; exact pE ⟨_, sh⟩
  replace hk := cf hg ht
  refine Bu hg (Bu hg (Bu hg (EI hg (.bool _) ?_)))
  cases hk; exact pE ⟨_, sh⟩
 rintro _ ⟨J, rfl⟩
 refine pA (.bool _) (pg (Ak ?_))
 cases hk; exact AU hO
def fB (aN0 : Az) (aS1 : CG) : Option Bool :=
 ((XZ aS1.A0 (0:Int) (AV ((aN0.A3.length : Int) - 1))).bind fun v3 => ((bif v3 then ((Aa aN0.A3 aS1.A0).bind fun c5 => ((XZ aS1.At (0:Int) c5.BN).bind fun v6 => some v6)) else some false).bind fun t4 => some (t4 && ((aS1.Way == 1) || (aS1.Way == (-1:Int))))))
theorem YT (hk : fB aN0 aS1 = some r) (hlk : 0 < lk.length := by simp) : Ai ah hh 63 [.agg [A7 l1 0 aN0.A3, A7 l2 m3 aN0.A1], .agg [iv aS1.A0, iv aS1.At, iv aS1.Way]] H lk = some (.bool r, H) := by
 refine AA Tryz.func63 rfl Tryz.ntmps63 Tryz.results63 rfl rfl fun hO => ?_
 unfold fB at hk
 refine sr (Ax (cs := [_, _]) hO B2 (fun b1 G hO => ?_))
 refine Ax (cs := [_, _, _]) hO EC (fun b2 G hO => ?_)
 refine pA (.bool _) (pg (AX ?_))
 refine Hz [1,3,5,7,9,11,12,14,17,19,21,23,25,27,29,31,33,34,36,38,40,43,44,46,48,51,52,54,56,58] [_,_,_,_,_,_,_,_,_,_,_,_,_,_,_,_,_,_,_,_,_,_,_,_,_,_,_,_,_,_] ?_
 refine Ao DT hO 0 (.int _ _) B5 ?_
 refine Ao C0 hO 1 (.lit _ _ _) Ei ?_
 refine BC IZ ?_
 refine AR (bk hk fun v3 hv3 hk => ?_)
 refine AL (fun _ => JE hv3) ?_
 refine pM (.bool _) (bk hk fun t4 ht hk => ?_)
 refine AQ (l1 := [_, _, _, _, _, _, _, _, _, _, _]) (fun S' => ∃ J, S' = ⟨Aq [(3, .ptr b2 0),(23, .bool t4)] J, G⟩) ?_ ?_
 ·refine bc (b := v3) ?_ ?_ <;> intro hg
  ·replace hk := ct hg ht
   refine Ae hg (pF Ej (Ae hg ?_))
   refine GG hO 0 (.int _ _) B5 (Ae hg ?_)
   refine pF C0 (Ae hg ?_)
   refine GG hO 1 (.lit _ _ _) Ei (Ae hg ?_)
   refine pF DT (Ae hg ?_)
   refine GG hO 0 (.int _ _) B5 (Ae hg (bk hk fun c5 hc5 hk => ?_))
   refine pX hc5 GP C2 (Ae hg ?_)
   refine pF Ci (Ae hg ?_)
   refine DG (.int _ _) (IU (lm := 0) (off := 1) hc5 B5) (Ae hg (bk hk fun v6 hv6 hk => ?_))
   refine AL (fun _ => JE hv6) ?_
   refine EJ hg (.bool _) ?_
   cases hk; exact pE ⟨_, sh⟩
  replace hk := cf hg ht
  repeat refine Bu hg ?_
  refine EI hg (.bool _) ?_
  cases hk; exact pE ⟨_, sh⟩
 rintro _ ⟨J, rfl⟩
 refine pM (.bool _) ?_
 refine AQ (l1 := [_, _, _, _, _, _, _, _, _]) (fun S' => ∃ J, S' = ⟨Aq [(33, .bool (t4 && ((aS1.Way == 1) || (aS1.Way == (-1:Int)))))] J, G⟩) ?_ ?_
 ·refine bc (b := t4) ?_ ?_ <;> intro hg
  ·refine Ae hg (pF DU (Ae hg ?_))
   refine GG hO 0 (.int _ _) B5 (Ae hg ?_)
   refine AR (Ae hg ?_)
   refine pM (.bool _) ?_
   refine AQ (l1 := [_, _, _, _]) (fun S' => ∃ J, S' = ⟨Aq [(24, .bool t4),(32, .bool ((aS1.Way == 1) || (aS1.Way == (-1:Int))))] J, G⟩) ?_ ?_
   ·refine bc (b := (aS1.Way == 1)) (fun hg2 => ?_) (fun hg2 => ?_)
    ·refine Bu hg2 (Bu hg2 (Bu hg2 (Ae hg (EJ hg2 (.bool _) ?_))))
     exact pE ⟨_, St.Aq _ ⟨rfl, by rw [hg2]; rfl, trivial⟩⟩
    refine Ae hg2 (pF DU (Ae hg2 ?_))
    refine GG hO 0 (.int _ _) B5 (Ae hg2 ?_)
    refine AR (Ae hg ?_)
    refine EI hg2 (.bool _) ?_
    exact pE ⟨_, St.Aq _ ⟨rfl, by rw [hg2]; rfl, trivial⟩⟩
   rintro _ ⟨J, rfl⟩
   refine EJ hg (.bool _) ?_
   exact pE ⟨_, St.Aq _ ⟨by rw [hg]; rfl, trivial⟩⟩
  repeat refine Bu hg ?_
  refine K4 (K4 (K4 (Bu hg (EI hg (.bool _) ?_))))
  exact pE ⟨_, St.Aq _ ⟨by rw [hg]; rfl, trivial⟩⟩
 rintro _ ⟨J, rfl⟩
 refine pA (.bool _) (pg (Ak ?_))
 cases hk; exact AU hO
def aR (aN0 : Az) (aS1 : CG) : Option Int :=
 (bif (aS1.Way == 1) then some aS1.At else ((Aa aN0.A3 aS1.A0).bind fun c3 => some (AV (c3.BN - aS1.At))))
theorem Pr (hk : aR aN0 aS1 = some r) (hlk : 0 < lk.length := by simp) : Ai ah hh 64 [.agg [A7 l1 0 aN0.A3, A7 l2 m3 aN0.A1], .agg [iv aS1.A0, iv aS1.At, iv aS1.Way]] H lk = some (iv r, H) := by
 refine AA Tryz.func64 rfl Tryz.ntmps64 Tryz.results64 rfl rfl fun hO => ?_
 unfold aR at hk
 refine sr (Ax (cs := [_, _]) hO B2 (fun b1 G hO => ?_))
 refine Ax (cs := [_, _, _]) hO EC (fun b2 G hO => ?_)
 refine pA (.int _ _) (pg (AX (sr ?_)))
 refine Ao DU hO 0 (.int _ _) B5 ?_
 refine AR (pg (B1 hk ?_ ?_)) <;> intro hk
 ·refine sr (Ao Ej hO 0 (.int _ _) B5 ?_)
  refine pA (.int _ _) (pg (Ak (gr ?_)))
  cases hk; exact AU hO
 refine B7 (gn (AX (Hz [1,3,5,7,9,11,13,15,17,18,20] [_,_,_,_,_,_,_,_,_,_,_] ?_)))
 refine Ao C0 hO 1 (.lit _ _ _) Ei ?_
 refine Ao DT hO 0 (.int _ _) B5 (bk hk fun c3 hc3 hk => ?_)
 refine pX hc3 GP C2 ?_
 refine pF Ci ?_
 refine DG (.int _ _) (IU (lm := 0) (off := 1) hc3 B5) ?_
 refine Ao Ej hO 0 (.int _ _) B5 ?_
 refine AR ?_
 refine pA (.int _ _) (pg (Ak ?_))
 cases hk; exact AU hO
def aW (aPiece0 : Int) (aWay1 : Int) : Option Ay :=
 (bif (aWay1 == 1) then some ({ A0 := aPiece0, B9 := (1:Int) } : Ay) else some ({ A0 := aPiece0, B9 := (0:Int) } : Ay))
theorem Pu (hk : aW aPiece0 aWay1 = some r) (hlk : 0 < lk.length := by simp) : Ai ah hh 75 [iv aPiece0, iv aWay1] H lk = some (.agg [iv r.A0, iv r.B9], H) := by
 refine AA Tryz.func75 rfl Tryz.ntmps75 Tryz.results75 rfl rfl fun hO => ?_
 unfold aW at hk
 refine sr (Bd hO AS Di (fun b1 G hO => pg (AX (sr (pM (.int _ _) ?_)))))
 refine AR (pg (B1 hk ?_ ?_)) <;> intro hk
 ·refine sr (pM (.int _ _) ?_)
  refine HS [_, _] Di Od ?_
  refine CM (xs := [_, _]) hO 0 AS rfl (fun G hO => pg (Ak (gr ?_)))
  replace hk := an hk; subst hk; exact CP hO (BU (n := 2) (Ac (AD _ _) (Ac (AD _ _) (C8)))) (Cb hO 0 [_, _] Bz AS Bh)
 refine B7 (gn (sr (pM (.int _ _) ?_)))
 refine HS [_, _] Di Od ?_
 refine CM (xs := [_, _]) hO 0 AS rfl (fun G hO => pg (Ak ?_))
 replace hk := an hk; subst hk; exact CP hO (BU (n := 2) (Ac (AD _ _) (Ac (AD _ _) (C8)))) (Cb hO 0 [_, _] Bz AS Bh)
def cX (aS0 : AW) : Option Ay :=
 ((aW aS0.A0 aS0.Way).bind fun v3 => some v3)
theorem Tj (hk : cX aS0 = some r) (hlk : 0 < lk.length := by simp) : Ai ah hh 66 [.agg [iv aS0.A0, iv aS0.Way]] H lk = some (.agg [iv r.A0, iv r.B9], H) := by
 refine AA Tryz.func66 rfl Tryz.ntmps66 Tryz.results66 rfl rfl fun hO => ?_
 unfold cX at hk
 refine sr (Ax (cs := [_, _]) hO BY (fun b1 G hO => Bd hO AS Di (fun b2 G hO => pg (sr ?_))))
 refine Ao EG hO 1 (.int _ _) B5 ?_
 refine Ao Ek hO 1 (.int _ _) B5 (bk hk fun v3 hv3 hk => ?_)
 refine AL (fun _ => Pu hv3) ?_
 refine CM (xs := [_, _]) hO 0 AS rfl (fun G hO => pg (Ak ?_))
 replace hk := an hk; subst hk; exact CP hO (BU (n := 2) (Ac (AD _ _) (Ac (AD _ _) (C8)))) (Cb hO 0 [_, _] Bz AS Bh)
def Q4 (aE1 : Ay) (x3 : Int) (c4 : AO) : Int → Option (Int ⊕ (Int ⊕ (Int × Int))) := fun s =>
 (bif decide (s < (c4.Ends.length : Int)) then ((Aa c4.Ends s).bind fun c7 => (bif ((aE1.A0 == c7.A0) && ((aE1.B9 == c7.B9) && true)) then (((some (x3, s)).map Sum.inr).map Sum.inr) else some (.inl (AV (s + 1))))) else ((some (.inl (AV (x3 + 1)))).map Sum.inr))
def Q3 (aN0 : Az) (aE1 : Ay) : Int → Option (Int ⊕ (Int × Int)) := fun s =>
 (bif decide (s < (aN0.A1.length : Int)) then ((Aa aN0.A1 s).bind fun c4 => (AP (Q4 aE1 s c4) ((0:Int)))) else ((some ((-1:Int), (-1:Int))).map Sum.inr))
def dB (aN0 : Az) (aE1 : Ay) : Option (Int × Int) :=
 (AP (Q3 aN0 aE1) ((0:Int)))
theorem Ts (hk : dB aN0 aE1 = some r) (hlk : 0 < lk.length := by simp) : Ai ah hh 93 [.agg [A7 l1 0 aN0.A3, A7 l2 m3 aN0.A1], .agg [iv aE1.A0, iv aE1.B9]] H lk = some (.EZ [iv r.1, iv r.2], H) := by
 refine AA Tryz.func93 rfl Tryz.ntmps93 Tryz.results93 rfl rfl fun hO => ?_
 unfold dB at hk
 refine sr (Ax (cs := [_, _]) hO B2 (fun b1 G hO => ?_))
 refine Ax (cs := [_, _]) hO AS (fun b2 G hO => ?_)
 refine pA (.int _ _) ?_
 refine pA (.int _ _) (pg (AX (sr ?_)))
 refine Ao Cv hO 1 (.lit _ _ _) Gj ?_
 refine BC K2 ?_
 refine pM (.int _ _) (pg (CE ?_))
 refine AJ (F := Q3 aN0 aE1) (fun s S' => ∃ J G, A8 H G [.B6 b2 (.cells 2 [iv aE1.A0, iv aE1.B9])] ∧ S' = ⟨Aq [(3, .ptr b2 0),(11, A7 l2 m3 aN0.A1),(12, iv (aN0.A1.length : Int)),(13, iv s)] J, G⟩) hk ⟨_, _, (pk hO [0]), sh⟩ ?_
 rintro x3 _ y1 ⟨J, G, hO, rfl⟩ hk hx1
 refine sr (AR (pg (AX (B1 hk ?_ ?_)))) <;> intro hk
 ·refine B7 (gn (AX (CE (sr (pM (.int _ _) (bk hk fun c4 hc4 hk => ?_))))))
  refine pX hc4 Gq BL ?_
  refine DG (.agg [_, _, _]) (Fh (lm := m3) (off := 0) hc4 HI BL) (Bd hO BL J7 (fun b5 G hO => ?_))
  refine pA (.int _ _) ?_
  refine CM (xs := [_, _, _]) hO 0 BL rfl (fun G hO => pg (sr ?_))
  refine Ao Cu hO 0 (.lit _ _ _) FQ ?_
  refine BC HK ?_
  refine pM (.int _ _) (pg (CE ?_))
  refine AJ (F := Q4 aE1 x3 c4) (fun s S' => ∃ J G, A8 H G [.B6 b2 (.cells 2 [iv aE1.A0, iv aE1.B9])] ∧ S' = ⟨Aq [(3, .ptr b2 0),(6, iv x3),(11, A7 l2 m3 aN0.A1),(12, iv (aN0.A1.length : Int)),(13, iv x3),(19, A7 m3 0 c4.Ends),(20, iv (c4.Ends.length : Int)),(21, iv s)] J, G⟩) hk ⟨_, _, (pk hO [1]), sh⟩ ?_
  rintro x6 _ y2 ⟨J, G, hO, rfl⟩ hk hx2
  refine sr (AR (pg (AX (B1 hk ?_ ?_)))) <;> intro hk
  ·refine B7 (gn (AX (CE (sr (pM (.int _ _) (bk hk fun c7 hc7 hk => ?_))))))
   refine pX hc7 CT AS ?_
   refine DG (.agg [_, _]) (Fh (lm := 0) (off := 0) hc7 Bz AS) (Bd hO AS Di (fun b8 G hO => ?_))
   refine pA (.int _ _) ?_
   refine CM (xs := [_, _]) hO 0 AS rfl (fun G hO => pg (sr ?_))
   refine Bj hO 1 [_, _] Bz AS ?_
   refine Bj hO 0 [_, _] Bz AS ?_
   refine dE TK (Qn (Qo _ _ _) (Qn (Qo _ _ _) (rfl))) (pg (B1 hk ?_ ?_)) <;> intro hk
   ·refine sr (pM (.int _ _) ?_)
    refine pM (.int _ _) ?_
    refine pA (.int _ _) ?_
    refine pA (.int _ _) (pg (Ak (br (gr (gr (br (br (gr (gr (br (gr (have hk := lx hx2 hk; have hk := lx hx1 hk; ?_))))))))))))
    replace hk := an hk; subst hk; exact CP hO (DZ (n := 3) (Ac (AD _ _) (Ac (AD _ _) (C8)))) (Cp (.int _ _) (Cp (.int _ _) Bh))
   refine B7 (bn (gn (Da (AR ?_))))
   refine pM (.int _ _) (pg ?_)
   cases hk; exact ⟨_, rfl, _, _, (pk hO [1]), sh⟩
  refine Eo (ge (ge (be (bn (gn (have hk := lx hx2 hk; Da (AR ?_)))))))
  refine pM (.int _ _) (pg ?_)
  cases hk; exact ⟨_, rfl, _, _, hO, sh⟩
 refine Eo (ge (ge (be (gn (have hk := lx hx1 hk; sr (pA (.int _ _) ?_))))))
 refine pA (.int _ _) (pg (Ak ?_))
 replace hk := an hk; subst hk; exact CP hO (DZ (n := 3) (Ac (AD _ _) (Ac (AD _ _) (C8)))) (Cp (.int _ _) (Cp (.int _ _) Bh))
def aS (aN0 : Az) (aE1 : Ay) : Option ((List Ay) × (List Int)) :=
 ((dB aN0 aE1).bind fun v3 => (bif decide (v3.1 < 0) then some (([] : List Ay), ([] : List Int)) else ((Aa aN0.A1 v3.1).bind fun c4 => ((Aa aN0.A1 v3.1).bind fun c5 => (bif (c5.Kind == 2) then ((Aa c4.Ends (AV ((1:Int) - v3.2))).bind fun c6 => some (([c6] : List Ay), ([(0:Int)] : List Int))) else (bif (c5.Kind == 3) then (bif (v3.2 == 0) then ((Aa c4.Ends (1:Int)).bind fun c9 => ((Aa c4.Ends (2:Int)).bind fun c10 => some (([c9, c10] : List Ay), ([(1:Int), (2:Int)] : List Int)))) else ((Aa c4.Ends (0:Int)).bind fun c13 => some (([c13] : List Ay), ([v3.2] : List Int)))) else (bif (c5.Kind == 4) then ((Aa c4.Ends (iQ v3.2 (1:Int))).bind fun c16 => some (([c16] : List Ay), ([(0:Int)] : List Int))) else some (([] : List Ay), ([] : List Int)))))))))
theorem Ti (hk : aS aN0 aE1 = some r) (hlk : 0 < lk.length := by simp) : Ai ah hh 65 [.agg [A7 l1 0 aN0.A3, A7 l2 m3 aN0.A1], .agg [iv aE1.A0, iv aE1.B9]] H lk = some (.EZ [A7 0 0 r.1, A7 0 0 r.2], H) := by
 refine AA Tryz.func65 rfl Tryz.ntmps65 Tryz.results65 rfl rfl fun hO => ?_
 unfold aS at hk
 refine sr (Ax (cs := [_, _]) hO B2 (fun b1 G hO => ?_))
 refine Ax (cs := [_, _]) hO AS (fun b2 G hO => ?_)
 refine pA (.tl 0 []) ?_
 refine pA (.tl 0 []) (pg (sr ?_))
 refine Bj hO 1 [_, _] CL B2 ?_
 refine Bj hO 0 [_, _] Bz AS (bk hk fun v3 hv3 hk => ?_)
 refine AL (fun _ => Ts hv3) ?_
 refine pM (.EZ [_, _]) ?_
 refine MA (.int _ _) ?_
 refine MA (.int _ _) ?_
 refine pA (.int _ _) ?_
 refine pA (.int _ _) (pg (AX (sr ?_)))
 refine pM (.int _ _) ?_
 refine AR (pg (B1 hk ?_ ?_)) <;> intro hk
 ·refine sr (pA (.tl 0 []) ?_)
  refine pA (.tl 0 []) (pg (Ak (gr ?_)))
  replace hk := an hk; subst hk; exact CP hO (DZ (n := 3) (Ac (NW (k := 0) Ay) (Ac (NW (k := 0) Int) (C8)))) (Cp (.tl 0 []) (Cp (.tl 0 []) Bh))
 refine B7 (gn (sr (Ao Cv hO 1 (.lit _ _ _) Gj ?_)))
 refine pM (.int _ _) (bk hk fun c4 hc4 hk => ?_)
 refine pX hc4 Gq BL ?_
 refine pF Cu ?_
 refine DG (.lit _ _ _) (IU (lm := m3) (off := 2) hc4 FQ) ?_
 refine pA (.lit _ _ _) (pg (AX (sr ?_)))
 refine Ao Cv hO 1 (.lit _ _ _) Gj ?_
 refine pM (.int _ _) (bk hk fun c5 hc5 hk => ?_)
 refine pX hc5 Gq BL ?_
 refine pF DF ?_
 refine DG (.int _ _) (IU (lm := m3) (off := 0) hc5 B5) (pg (CE (sr ?_)))
 refine AR ?_
 refine pA (.bool _) (pg (B1 hk ?_ ?_)) <;> intro hk
 ·refine sr (pM (.lit _ _ _) ?_)
  refine pM (.int _ _) ?_
  refine AR (bk hk fun c6 hc6 hk => ?_)
  refine pX hc6 CT AS ?_
  refine DG (.agg [_, _]) (Fh (lm := 0) (off := 0) hc6 Bz AS) ?_
  refine Rh (ps := [(0, (.agg [_, _]))]) ([c6] : List Ay) CT AS Di (Bc (D8 (α := Ay) c6) (Cs)) ?_
  refine Rh (ps := [(0, (.int _ _))]) ([(0:Int)] : List Int) HV Ey dF (Bc (EM _ _) (Cs)) ?_
  refine pA (.tl 1 (A9 0 ([c6] : List Ay))) ?_
  refine pA (.tl 1 (A9 0 ([(0:Int)] : List Int))) (pg (Ak (br (gr ?_))))
  replace hO := A8.FK hO lk.length ([c6] : List Ay)
  replace hO := A8.FK hO lk.length ([(0:Int)] : List Int)
  replace hk := an hk; subst hk; exact CP hO (DZ (n := 3) (Ac (G8 (xs := ([c6] : List Ay)) hlk 1) (Ac (G8 (xs := ([(0:Int)] : List Int)) hlk 0) (C8)))) (Cp (.tl 1 (A9 0 ([c6] : List Ay))) (Cp (.tl 1 (A9 0 ([(0:Int)] : List Int))) Bh))
 refine sr (AR ?_)
 refine pA (.bool _) (pg (B1 hk ?_ ?_)) <;> intro hk
 ·refine AX (sr (pM (.int _ _) ?_))
  refine AR (pg (B1 hk ?_ ?_)) <;> intro hk
  ·refine AX (Hz [1,3,5,7,9,11,12,15,16,18] [_,_,_,_,_,_,_,_,_,_] ?_)
   refine pM (.lit _ _ _) (bk hk fun c9 hc9 hk => ?_)
   refine pX hc9 CT AS ?_
   refine DG (.agg [_, _]) (Fh (lm := 0) (off := 0) hc9 Bz AS) ?_
   refine pM (.lit _ _ _) (bk hk fun c10 hc10 hk => ?_)
   refine pX hc10 CT AS ?_
   refine DG (.agg [_, _]) (Fh (lm := 0) (off := 0) hc10 Bz AS) ?_
   refine Rh (ps := [(0, (.agg [_, _])), (1, (.agg [_, _]))]) ([c9, c10] : List Ay) CT AS Di (Bc (D8 (α := Ay) c9) (Bc (D8 (α := Ay) c10) (Cs))) ?_
   refine Rh (ps := [(0, (.int _ _)), (1, (.int _ _))]) ([(1:Int), (2:Int)] : List Int) HV Ey dF (Bc (EM _ _) (Bc (EM _ _) (Cs))) ?_
   refine pA (.tl 2 (A9 0 ([c9, c10] : List Ay))) ?_
   refine pA (.tl 2 (A9 0 ([(1:Int), (2:Int)] : List Int))) (pg (Ak (gr (br (gr ?_)))))
   replace hO := A8.FK hO lk.length ([c9, c10] : List Ay)
   replace hO := A8.FK hO lk.length ([(1:Int), (2:Int)] : List Int)
   replace hk := an hk; subst hk; exact CP hO (DZ (n := 3) (Ac (G8 (xs := ([c9, c10] : List Ay)) hlk 1) (Ac (G8 (xs := ([(1:Int), (2:Int)] : List Int)) hlk 0) (C8)))) (Cp (.tl 2 (A9 0 ([c9, c10] : List Ay))) (Cp (.tl 2 (A9 0 ([(1:Int), (2:Int)] : List Int))) Bh))
  refine B7 (gn (sr (pM (.lit _ _ _) (bk hk fun c13 hc13 hk => ?_))))
  refine pX hc13 CT AS ?_
  refine DG (.agg [_, _]) (Fh (lm := 0) (off := 0) hc13 Bz AS) ?_
  refine Rh (ps := [(0, (.agg [_, _]))]) ([c13] : List Ay) CT AS Di (Bc (D8 (α := Ay) c13) (Cs)) ?_
  refine pM (.int _ _) ?_
  refine Rh (ps := [(0, (.int _ _))]) ([v3.2] : List Int) HV Ey dF (Bc (EM _ _) (Cs)) ?_
  refine pA (.tl 1 (A9 0 ([c13] : List Ay))) ?_
  refine pA (.tl 1 (A9 0 ([v3.2] : List Int))) (pg (Ak (br (gr ?_))))
  replace hO := A8.FK hO lk.length ([c13] : List Ay)
  replace hO := A8.FK hO lk.length ([v3.2] : List Int)
  replace hk := an hk; subst hk; exact CP hO (DZ (n := 3) (Ac (G8 (xs := ([c13] : List Ay)) hlk 1) (Ac (G8 (xs := ([v3.2] : List Int)) hlk 0) (C8)))) (Cp (.tl 1 (A9 0 ([c13] : List Ay))) (Cp (.tl 1 (A9 0 ([v3.2] : List Int))) Bh))
 refine sr (AR ?_)
 refine pA (.bool _) (pg (B1 hk ?_ ?_)) <;> intro hk
 ·refine sr (pM (.lit _ _ _) ?_)
  refine pM (.int _ _) ?_
  refine AR (bk hk fun c16 hc16 hk => ?_)
  refine pX hc16 CT AS ?_
  refine DG (.agg [_, _]) (Fh (lm := 0) (off := 0) hc16 Bz AS) ?_
  refine Rh (ps := [(0, (.agg [_, _]))]) ([c16] : List Ay) CT AS Di (Bc (D8 (α := Ay) c16) (Cs)) ?_
  refine Rh (ps := [(0, (.int _ _))]) ([(0:Int)] : List Int) HV Ey dF (Bc (EM _ _) (Cs)) ?_
  refine pA (.tl 1 (A9 0 ([c16] : List Ay))) ?_
  refine pA (.tl 1 (A9 0 ([(0:Int)] : List Int))) (pg (Ak (br (gr ?_))))
  replace hO := A8.FK hO lk.length ([c16] : List Ay)
  replace hO := A8.FK hO lk.length ([(0:Int)] : List Int)
  replace hk := an hk; subst hk; exact CP hO (DZ (n := 3) (Ac (G8 (xs := ([c16] : List Ay)) hlk 1) (Ac (G8 (xs := ([(0:Int)] : List Int)) hlk 0) (C8)))) (Cp (.tl 1 (A9 0 ([c16] : List Ay))) (Cp (.tl 1 (A9 0 ([(0:Int)] : List Int))) Bh))
 refine B7 (bn (gn (sr (pA (.tl 0 []) ?_))))
 refine pA (.tl 0 []) (pg (Ak ?_))
 replace hk := an hk; subst hk; exact CP hO (DZ (n := 3) (Ac (NW (k := 0) Ay) (Ac (NW (k := 0) Int) (C8)))) (Cp (.tl 0 []) (Cp (.tl 0 []) Bh))
def cY (aS0 : AW) : Option Ay :=
 ((aW aS0.A0 (AV (0 - aS0.Way))).bind fun v3 => some v3)
theorem Tk (hk : cY aS0 = some r) (hlk : 0 < lk.length := by simp) : Ai ah hh 68 [.agg [iv aS0.A0, iv aS0.Way]] H lk = some (.agg [iv r.A0, iv r.B9], H) := by
 refine AA Tryz.func68 rfl Tryz.ntmps68 Tryz.results68 rfl rfl fun hO => ?_
 unfold cY at hk
 refine sr (Ax (cs := [_, _]) hO BY (fun b1 G hO => Bd hO AS Di (fun b2 G hO => pg (sr ?_))))
 refine Ao EG hO 1 (.int _ _) B5 ?_
 refine Ao Ek hO 1 (.int _ _) B5 ?_
 refine pU (bk hk fun v3 hv3 hk => ?_)
 refine AL (fun _ => Pu hv3) ?_
 refine CM (xs := [_, _]) hO 0 AS rfl (fun G hO => pg (Ak ?_))
 replace hk := an hk; subst hk; exact CP hO (BU (n := 2) (Ac (AD _ _) (Ac (AD _ _) (C8)))) (Cb hO 0 [_, _] Bz AS Bh)
def NG (aS0 : List Ay) (aV1 : Ay) : Int → Option (Int ⊕ Int) := fun s =>
 (bif decide (s < (aS0.length : Int)) then ((Aa aS0 s).bind fun c3 => (bif ((aV1.A0 == c3.A0) && ((aV1.B9 == c3.B9) && true)) then ((some s).map Sum.inr) else some (.inl (AV (s + 1))))) else ((some (-1:Int)).map Sum.inr))
def iV (aS0 : List Ay) (aV1 : Ay) : Option Int :=
 (AP (NG aS0 aV1) ((0:Int)))
theorem Yl (hk : iV aS0 aV1 = some r) (hlk : 0 < lk.length := by simp) : Ai ah hh 94 [A7 l1 0 aS0, .agg [iv aV1.A0, iv aV1.B9]] H lk = some (iv r, H) := by
 refine AA Tryz.func94 rfl Tryz.ntmps94 Tryz.results94 rfl rfl fun hO => ?_
 unfold iV at hk
 refine sr (Ax (cs := [_, _]) hO AS (fun b1 G hO => ?_))
 refine pA (.int _ _) (pg (AX (sr ?_)))
 refine pM (.lit _ _ _) ?_
 refine BC HK ?_
 refine pM (.int _ _) (pg (CE ?_))
 refine AJ (F := NG aS0 aV1) (fun s S' => ∃ J G, A8 H G [.B6 b1 (.cells 2 [iv aV1.A0, iv aV1.B9])] ∧ S' = ⟨Aq [(0, A7 l1 0 aS0),(3, .ptr b1 0),(7, iv (aS0.length : Int)),(8, iv s)] J, G⟩) hk ⟨_, _, hO, sh⟩ ?_
 rintro x2 _ y1 ⟨J, G, hO, rfl⟩ hk hx1
 refine sr (AR (pg (AX (B1 hk ?_ ?_)))) <;> intro hk
 ·refine B7 (gn (AX (CE (sr (pM (.int _ _) ?_)))))
  refine pA (.int _ _) (pg (AX ?_))
  refine Hz [1,3,5,7,9,10] [_,_,_,_,_,_] ?_
  refine Bj hO 0 [_, _] Bz AS ?_
  refine pM (.lit _ _ _) ?_
  refine pM (.int _ _) (bk hk fun c3 hc3 hk => ?_)
  refine pX hc3 CT AS ?_
  refine DG (.agg [_, _]) (Fh (lm := 0) (off := 0) hc3 Bz AS) ?_
  refine dE TK (Qn (Qo _ _ _) (Qn (Qo _ _ _) (rfl))) (pg (B1 hk ?_ ?_)) <;> intro hk
  ·refine sr (pM (.int _ _) ?_)
   refine pA (.int _ _) (pg (Ak (br (gr (gr (br (gr (have hk := lx hx1 hk; ?_))))))))
   cases hk; exact AU hO
  refine B7 (bn (gn (Da (AR ?_))))
  refine pM (.int _ _) (pg ?_)
  cases hk; exact ⟨_, rfl, _, _, hO, sh⟩
 refine Eo (ge (ge (be (gn (have hk := lx hx1 hk; sr (pA (.int _ _) (pg (Ak ?_))))))))
 cases hk; exact AU hO
def fC (aS0 : List Ay) (aV1 : Ay) : Option Bool :=
 ((iV aS0 aV1).bind fun v2 => some (decide (v2 ≥ 0)))
theorem YU (hk : fC aS0 aV1 = some r) (hlk : 0 < lk.length := by simp) : Ai ah hh 67 [A7 l1 0 aS0, .agg [iv aV1.A0, iv aV1.B9]] H lk = some (.bool r, H) := by
 refine AA Tryz.func67 rfl Tryz.ntmps67 Tryz.results67 rfl rfl fun hO => ?_
 unfold fC at hk
 refine sr (Ax (cs := [_, _]) hO AS (fun b1 G hO => ?_))
 refine pA (.bool _) (pg (sr ?_))
 refine pM (.lit _ _ _) ?_
 refine Bj hO 0 [_, _] Bz AS (bk hk fun v2 hv2 hk => ?_)
 refine AL (fun _ => Yl hv2) ?_
 refine AR ?_
 refine pA (.bool _) (pg (Ak ?_))
 cases hk; exact AU hO
def aT (aN0 : Az) (aS1 : AW) : Option Int :=
 ((Aa aN0.A3 aS1.A0).bind fun c3 => some c3.BN)
theorem Tl (hk : aT aN0 aS1 = some r) (hlk : 0 < lk.length := by simp) : Ai ah hh 69 [.agg [A7 l1 0 aN0.A3, A7 l2 m3 aN0.A1], .agg [iv aS1.A0, iv aS1.Way]] H lk = some (iv r, H) := by
 refine AA Tryz.func69 rfl Tryz.ntmps69 Tryz.results69 rfl rfl fun hO => ?_
 unfold aT at hk
 refine sr (Ax (cs := [_, _]) hO B2 (fun b1 G hO => ?_))
 refine Ax (cs := [_, _]) hO BY (fun b2 G hO => ?_)
 refine pA (.int _ _) (pg (sr ?_))
 refine Ao C0 hO 1 (.lit _ _ _) Ei ?_
 refine Ao EG hO 0 (.int _ _) B5 (bk hk fun c3 hc3 hk => ?_)
 refine pX hc3 GP C2 ?_
 refine pF Ci ?_
 refine DG (.int _ _) (IU (lm := 0) (off := 1) hc3 B5) ?_
 refine pA (.int _ _) (pg (Ak ?_))
 cases hk; exact AU hO
def Jl (aN0 : Az) (aT1 : AB) : (Int × Int × Int × Int) → Option ((Int × Int × Int × Int) ⊕ Bool) := fun s =>
 (bif decide (s.2.2.2 < (aT1.AF.length : Int)) then ((Aa aT1.AF s.2.2.2).bind fun c12 => ((XZ c12.A0 (0:Int) (AV ((aN0.A3.length : Int) - 1))).bind fun v14 => (bif ((!v14 || ((c12.Way != 1) && (c12.Way != (-1:Int)))) || decide (s.2.2.1 ≥ aT1.AI)) then ((some false).map Sum.inr) else ((cX c12).bind fun v15 => ((aS aN0 v15).bind fun v16 => ((cY ({ A0 := s.1, Way := s.2.1 } : AW)).bind fun v17 => ((fC v16.1 v17).bind fun v18 => (bif !v18 then ((some false).map Sum.inr) else ((aT aN0 c12).bind fun v19 => some (.inl (c12.A0, c12.Way, AV (s.2.2.1 + v19), AV (s.2.2.2 + 1)))))))))))) else ((some (decide (s.2.2.1 ≥ aT1.AI))).map Sum.inr))
def eE (aN0 : Az) (aT1 : AB) : Option Bool :=
 ((fB aN0 aT1.A5).bind fun v3 => ((bif !v3 then some true else ((XZ aT1.AI (1:Int) (100000:Int)).bind fun v5 => some (!v5))).bind fun t4 => (bif (t4 || decide ((aT1.AF.length : Int) > 200)) then some false else ((aR aN0 aT1.A5).bind fun v7 => (AP (Jl aN0 aT1) (aT1.A5.A0, aT1.A5.Way, v7, (0:Int)))))))
theorem Y1 (hk : eE aN0 aT1 = some r) (hlk : 0 < lk.length := by simp) : Ai ah hh 30 [.agg [A7 l1 0 aN0.A3, A7 l2 m3 aN0.A1], .agg [iv aT1.A5.A0, iv aT1.A5.At, iv aT1.A5.Way, iv aT1.AI, A7 l4 0 aT1.AF]] H lk = some (.bool r, H) := by
 refine AA Tryz.func30 rfl Tryz.ntmps30 Tryz.results30 rfl rfl fun hO => ?_
 unfold eE at hk
 refine sr (Ax (cs := [_, _]) hO B2 (fun b1 G hO => ?_))
 refine Ax (cs := [_, _, _, _, _]) hO Bt (fun b2 G hO => ?_)
 refine pA (.bool _) (pg (AX (sr ?_)))
 refine Bj hO 1 [_, _] CL B2 ?_
 refine pF CR ?_
 refine Bj hO 0 [_, _, _] J8 EC (bk hk fun v3 hv3 hk => ?_)
 refine AL (fun _ => YT hv3) ?_
 refine pU ?_
 refine pM (.bool _) (bk hk fun t4 ht hk => ?_)
 refine AQ (l1 := [_, _, _, _, _]) (fun S' => ∃ J, S' = ⟨Aq [(2, .ptr b1 0),(3, .ptr b2 0),(21, .bool t4)] J, G⟩) ?_ ?_
 ·refine bc (b := !v3) ?_ ?_ <;> intro hg
  ·replace hk := ct hg ht
   repeat refine Bu hg ?_
   refine EJ hg (.bool _) ?_
   cases hk; exact pE ⟨_, sh⟩
  replace hk := cf hg ht
  refine Ae hg (pF GC (Ae hg ?_))
  refine GG hO 0 (.int _ _) B5 (Ae hg (bk hk fun v5 hv5 hk => ?_))
  refine AL (fun _ => JE hv5) (Ae hg ?_)
  refine pU ?_
  refine EI hg (.bool _) ?_
  cases hk; exact pE ⟨_, sh⟩
 rintro _ ⟨J, rfl⟩
 refine pM (.bool _) ?_
 refine AQ (l1 := [_, _, _, _, _]) (fun S' => ∃ J, S' = ⟨Aq [(2, .ptr b1 0),(3, .ptr b2 0),(27, .bool (t4 || decide ((aT1.AF.length : Int) > 200)))] J, G⟩) ?_ ?_
 ·refine bc (b := t4) ?_ ?_ <;> intro hg
  ·repeat refine Bu hg ?_
   refine EJ hg (.bool _) ?_
   exact pE ⟨_, St.Aq _ ⟨rfl, rfl, by rw [hg]; rfl, trivial⟩⟩
  refine Ae hg (pF DD (Ae hg ?_))
  refine GG hO 0 (.lit _ _ _) IY (Ae hg ?_)
  refine BC K1 (Ae hg ?_)
  refine AR ?_
  refine EI hg (.bool _) ?_
  exact pE ⟨_, St.Aq _ ⟨rfl, rfl, by rw [hg]; rfl, trivial⟩⟩
 rintro _ ⟨J, rfl⟩
 refine pg (B1 hk ?_ ?_) <;> intro hk
 ·refine sr (pA (.bool _) (pg (Ak (gr ?_))))
  cases hk; exact AU hO
 refine B7 (gn (sr (pF CR ?_)))
 refine Ao DT hO 0 (.int _ _) B5 ?_
 refine pF CR ?_
 refine Ao DU hO 0 (.int _ _) B5 ?_
 refine HS [_, _] G4 VP (Bd hO BY G4 (fun b6 G hO => ?_))
 refine CM (xs := [_, _]) hO 0 BY rfl (fun G hO => pg (sr ?_))
 refine Bj hO 2 [_, _] CL B2 ?_
 refine pF CR ?_
 refine Bj hO 1 [_, _, _] J8 EC (bk hk fun v7 hv7 hk => ?_)
 refine AL (fun _ => Pr hv7) ?_
 refine pA (.int _ _) (pg (AX (sr ?_)))
 refine Ao DD hO 1 (.lit _ _ _) IY ?_
 refine BC K1 ?_
 refine pM (.int _ _) (pg (CE ?_))
 refine AJ (F := Jl aN0 aT1) (fun s S' => ∃ J G, A8 H G [.B6 b6 (.cells 2 [iv s.1, iv s.2.1]), .B6 b2 (.cells 5 [iv aT1.A5.A0, iv aT1.A5.At, iv aT1.A5.Way, iv aT1.AI, A7 l4 0 aT1.AF]), .B6 b1 (.cells 2 [A7 l1 0 aN0.A3, A7 l2 m3 aN0.A1])] ∧ S' = ⟨Aq [(2, .ptr b1 0),(3, .ptr b2 0),(5, .ptr b6 0),(6, iv s.2.2.1),(40, A7 l4 0 aT1.AF),(41, iv (aT1.AF.length : Int)),(42, iv s.2.2.2)] J, G⟩) hk ⟨_, _, hO, sh⟩ ?_
 rintro ⟨x8, x9, x10, x11⟩ _ y1 ⟨J, G, hO, rfl⟩ hk hx1
 refine sr (AR (pg (AX (B1 hk ?_ ?_)))) <;> intro hk
 ·refine B7 (gn (AX (CE (sr (bk hk fun c12 hc12 hk => pX hc12 GB BY ?_)))))
  refine DG (.agg [_, _]) (Fh (lm := 0) (off := 0) hc12 Gk BY) (Bd hO BY G4 (fun b13 G hO => ?_))
  refine CM (xs := [_, _]) hO 0 BY rfl (fun G hO => pg (AX (sr ?_)))
  refine Ao EG hO 0 (.int _ _) B5 ?_
  refine Ao C0 hO 3 (.lit _ _ _) Ei ?_
  refine BC IZ ?_
  refine AR (bk hk fun v14 hv14 hk => ?_)
  refine AL (fun _ => JE hv14) ?_
  refine pU ?_
  refine pM (.bool _) ?_
  refine AQ (l1 := [_, _, _, _, _, _, _, _, _]) (fun S' => ∃ J, S' = ⟨Aq [(2, .ptr b1 0),(3, .ptr b2 0),(5, .ptr b6 0),(6, iv x10),(8, .ptr b13 0),(40, A7 l4 0 aT1.AF),(41, iv (aT1.AF.length : Int)),(42, iv x11),(63, .bool (!v14 || ((c12.Way != 1) && (c12.Way != (-1:Int)))))] J, G⟩) ?_ ?_
  ·refine bc (b := !v14) ?_ ?_ <;> intro hg
   ·repeat refine Bu hg ?_
    refine K4 (K4 (K4 (Bu hg (EJ hg (.bool _) ?_))))
    exact pE ⟨_, St.Aq _ ⟨rfl, rfl, rfl, rfl, rfl, rfl, rfl, rfl, by rw [hg]; rfl, trivial⟩⟩
   refine Ae hg (pF Ek (Ae hg ?_))
   refine GG hO 0 (.int _ _) B5 (Ae hg ?_)
   refine AR (Ae hg ?_)
   refine pM (.bool _) ?_
   refine AQ (l1 := [_, _, _, _]) (fun S' => ∃ J, S' = ⟨Aq [(2, .ptr b1 0),(3, .ptr b2 0),(5, .ptr b6 0),(6, iv x10),(8, .ptr b13 0),(40, A7 l4 0 aT1.AF),(41, iv (aT1.AF.length : Int)),(42, iv x11),(54, .bool (!v14)),(62, .bool ((c12.Way != 1) && (c12.Way != (-1:Int))))] J, G⟩) ?_ ?_
   ·refine bc (b := (c12.Way != 1)) (fun hg2 => ?_) (fun hg2 => ?_)
    ·refine Ae hg2 (pF Ek (Ae hg2 ?_))
     refine GG hO 0 (.int _ _) B5 (Ae hg2 ?_)
     refine AR (Ae hg ?_)
     refine EJ hg2 (.bool _) ?_
     exact pE ⟨_, St.Aq _ ⟨rfl, rfl, rfl, rfl, rfl, rfl, rfl, rfl, rfl, by rw [hg2]; rfl, trivial⟩⟩
    refine Bu hg2 (Bu hg2 (Bu hg2 (Ae hg (EI hg2 (.bool _) ?_))))
    exact pE ⟨_, St.Aq _ ⟨rfl, rfl, rfl, rfl, rfl, rfl, rfl, rfl, rfl, by rw [hg2]; rfl, trivial⟩⟩
   rintro _ ⟨J, rfl⟩
   refine EI hg (.bool _) ?_
   exact pE ⟨_, St.Aq _ ⟨rfl, rfl, rfl, rfl, rfl, rfl, rfl, rfl, by rw [hg]; rfl, trivial⟩⟩
  rintro _ ⟨J, rfl⟩
  refine pM (.bool _) ?_
  refine AQ (l1 := [_, _, _, _, _]) (fun S' => ∃ J, S' = ⟨Aq [(2, .ptr b1 0),(3, .ptr b2 0),(5, .ptr b6 0),(6, iv x10),(8, .ptr b13 0),(40, A7 l4 0 aT1.AF),(41, iv (aT1.AF.length : Int)),(42, iv x11),(69, .bool ((!v14 || ((c12.Way != 1) && (c12.Way != (-1:Int)))) || decide (x10 ≥ aT1.AI)))] J, G⟩) ?_ ?_
  ·refine bc (b := (!v14 || ((c12.Way != 1) && (c12.Way != (-1:Int))))) ?_ ?_ <;> intro hg
   ·repeat refine Bu hg ?_
    refine EJ hg (.bool _) ?_
    exact pE ⟨_, St.Aq _ ⟨rfl, rfl, rfl, rfl, rfl, rfl, rfl, rfl, by rw [hg]; rfl, trivial⟩⟩
   refine Ae hg (pM (.int _ _) (Ae hg ?_))
   refine pF GC (Ae hg ?_)
   refine GG hO 2 (.int _ _) B5 (Ae hg ?_)
   refine AR ?_
   refine EI hg (.bool _) ?_
   exact pE ⟨_, St.Aq _ ⟨rfl, rfl, rfl, rfl, rfl, rfl, rfl, rfl, by rw [hg]; rfl, trivial⟩⟩
  rintro _ ⟨J, rfl⟩
  refine pg (B1 hk ?_ ?_) <;> intro hk
  ·refine sr (pA (.bool _) (pg (Ak (gr (br (gr (gr (br (gr (have hk := lx hx1 hk; ?_))))))))))
   cases hk; exact AU hO
  refine B7 (gn (AX (AX (Hz [1,3,5,6,8,10,12,14,16] [_,_,_,_,_,_,_,_,_] ?_))))
  refine Bj hO 3 [_, _] CL B2 ?_
  refine Bj hO 0 [_, _] Gk BY (bk hk fun v15 hv15 hk => ?_)
  refine AL (fun _ => Tj hv15) (bk hk fun v16 hv16 hk => ?_)
  refine AL (fun _ => Ti hv16) ?_
  refine pM (.EZ [_, _]) ?_
  refine MA (.lit _ _ _) ?_
  refine MA (.lit _ _ _) ?_
  refine pA (.lit _ _ _) ?_
  refine pA (.lit _ _ _) (pg (sr ?_))
  refine pM (.lit _ _ _) ?_
  refine Bj hO 1 [_, _] Gk BY (bk hk fun v17 hv17 hk => ?_)
  refine AL (fun _ => Tk hv17) (bk hk fun v18 hv18 hk => ?_)
  refine AL (fun _ => YU hv18) ?_
  refine pU (pg (B1 hk ?_ ?_)) <;> intro hk
  ·refine sr (pA (.bool _) (pg (Ak (gr (br (gr (gr (br (gr (have hk := lx hx1 hk; ?_))))))))))
   cases hk; exact AU hO
  refine B7 (gn (sr (Bj hO 0 [_, _] Gk BY ?_)))
  refine CM (xs := [_, _]) hO 1 BY rfl (fun G hO => pg (Da ?_))
  refine pM (.int _ _) ?_
  refine Bj hO 3 [_, _] CL B2 ?_
  refine Bj hO 0 [_, _] Gk BY (bk hk fun v19 hv19 hk => ?_)
  refine AL (fun _ => Tl hv19) ?_
  refine AR ?_
  refine pA (.int _ _) (pE (bn (gn (Da ?_))))
  refine AR ?_
  refine pM (.int _ _) (pg ?_)
  cases hk; exact ⟨_, rfl, _, _, (pk hO [1, 2, 3]), sh⟩
 refine Eo (ge (ge (be (gn (have hk := lx hx1 hk; sr (pM (.int _ _) ?_))))))
 refine Ao GC hO 1 (.int _ _) B5 ?_
 refine AR ?_
 refine pA (.bool _) (pg (Ak ?_))
 cases hk; exact AU hO
def Pt (v4 : (Int × Int)) (v5 : ((List Ay) × (List Int))) : Option (Ay × Int × Int) :=
 ((Aa v5.1 (0:Int)).bind fun c6 => some (c6, (0:Int), v4.1))
def aV (aN0 : Az) (aLies1 : List Int) (aE2 : Ay) : Option (Ay × Int × Int) :=
 ((dB aN0 aE2).bind fun v4 => ((aS aN0 aE2).bind fun v5 => ((Aa aN0.A1 v4.1).bind fun c7 => (bif (c7.Kind == 1) then some (({ A0 := 0, B9 := 0 } : Ay), (1:Int), v4.1) else (bif (c7.Kind == 3) then ((Aa aLies1 v4.1).bind fun c8 => (bif (c8 == 0) then some (({ A0 := 0, B9 := 0 } : Ay), (2:Int), v4.1) else (bif (v4.2 == 0) then ((Aa aLies1 v4.1).bind fun c9 => ((Aa v5.1 (AV (c9 - 1))).bind fun c10 => some (c10, (0:Int), v4.1))) else ((Aa v5.2 (0:Int)).bind fun c11 => ((Aa aLies1 v4.1).bind fun c12 => (bif (c11 != c12) then some (({ A0 := 0, B9 := 0 } : Ay), (3:Int), v4.1) else (Pt v4 v5))))))) else (Pt v4 v5))))))
theorem Tn (hk : aV aN0 aLies1 aE2 = some r) (hlk : 0 < lk.length := by simp) : Ai ah hh 74 [.agg [A7 l1 0 aN0.A3, A7 l2 m3 aN0.A1], A7 l4 0 aLies1, .agg [iv aE2.A0, iv aE2.B9]] H lk = some (.EZ [.agg [iv r.1.A0, iv r.1.B9], iv r.2.1, iv r.2.2], H) := by
 refine AA Tryz.func74 rfl Tryz.ntmps74 Tryz.results74 rfl rfl fun hO => ?_
 unfold aV at hk
 refine sr (Ax (cs := [_, _]) hO B2 (fun b1 G hO => ?_))
 refine Ax (cs := [_, _]) hO AS (fun b2 G hO => Bd hO AS Di (fun b3 G hO => ?_))
 refine pA (.int _ _) ?_
 refine pA (.int _ _) (pg (sr ?_))
 refine Bj hO 2 [_, _] CL B2 ?_
 refine Bj hO 1 [_, _] Bz AS (bk hk fun v4 hv4 hk => ?_)
 refine AL (fun _ => Ts hv4) ?_
 refine pM (.EZ [_, _]) ?_
 refine MA (.int _ _) ?_
 refine MA (.int _ _) ?_
 refine pA (.int _ _) ?_
 refine pA (.int _ _) (pg (sr ?_))
 refine Bj hO 2 [_, _] CL B2 ?_
 refine Bj hO 1 [_, _] Bz AS (bk hk fun v5 hv5 hk => ?_)
 refine AL (fun _ => Ti hv5) ?_
 refine pM (.EZ [_, _]) ?_
 refine MA (.lit _ _ _) ?_
 refine MA (.lit _ _ _) ?_
 refine pA (.lit _ _ _) ?_
 refine pA (.lit _ _ _) (pg ?_)
 refine Fq (fun S' => ∃  (J : Nat → V) (G : A4), Pt v4 v5 = some r ∧ A8 H G [.B6 b3 (.cells 2 [iv 0, iv 0])] ∧ S' = ⟨Aq [(6, .ptr b3 0),(9, iv v4.1),(11, A7 0 0 v5.1)] J, G⟩) ?_ ?_
 ·refine sr (Ao Cv hO 2 (.lit _ _ _) Gj ?_)
  refine pM (.int _ _) (bk hk fun c7 hc7 hk => ?_)
  refine pX hc7 Gq BL ?_
  refine pF DF ?_
  refine DG (.int _ _) (IU (lm := m3) (off := 0) hc7 B5) (pg (CE (sr ?_)))
  refine AR ?_
  refine pA (.bool _) (pg (B1 hk ?_ ?_)) <;> intro hk
  ·refine sr (HS [_, _] Di Od ?_)
   refine pM (.int _ _) ?_
   refine CM (xs := [_, _]) hO 0 AS rfl (fun G hO => ?_)
   refine pA (.int _ _) ?_
   refine pA (.int _ _) (pg (Ak (br (gr ?_))))
   replace hk := an hk; subst hk; exact CP hO (DZ (n := 3) (Ac (BU (n := 2) (Ac (AD _ _) (Ac (AD _ _) (C8)))) (Ac (AD _ _) (Ac (AD _ _) (C8))))) (Cb hO 0 [_, _] Bz AS (Cp (.int _ _) (Cp (.int _ _) Bh)))
  refine sr (AR ?_)
  refine pA (.bool _) (pg (B1 hk ?_ ?_)) <;> intro hk
  ·refine CE (sr (pM (.lit _ _ _) ?_))
   refine pM (.int _ _) (bk hk fun c8 hc8 hk => ?_)
   refine pX hc8 HV Ey ?_
   refine DG (.int _ _) (IU (lm := 0) (off := 0) hc8 B5) ?_
   refine AR ?_
   refine pA (.bool _) (pg (B1 hk ?_ ?_)) <;> intro hk
   ·refine sr (HS [_, _] Di Od ?_)
    refine pM (.int _ _) ?_
    refine CM (xs := [_, _]) hO 0 AS rfl (fun G hO => ?_)
    refine pA (.int _ _) ?_
    refine pA (.int _ _) (pg (Ak (br (br (gr ?_)))))
    replace hk := an hk; subst hk; exact CP hO (DZ (n := 3) (Ac (BU (n := 2) (Ac (AD _ _) (Ac (AD _ _) (C8)))) (Ac (AD _ _) (Ac (AD _ _) (C8))))) (Cb hO 0 [_, _] Bz AS (Cp (.int _ _) (Cp (.int _ _) Bh)))
   refine sr (pM (.int _ _) ?_)
   refine AR ?_
   refine pA (.bool _) (pg (B1 hk ?_ ?_)) <;> intro hk
   ·refine sr (pM (.lit _ _ _) ?_)
    refine pM (.lit _ _ _) ?_
    refine pM (.int _ _) (bk hk fun c9 hc9 hk => ?_)
    refine pX hc9 HV Ey ?_
    refine DG (.int _ _) (IU (lm := 0) (off := 0) hc9 B5) ?_
    refine AR (bk hk fun c10 hc10 hk => ?_)
    refine pX hc10 CT AS ?_
    refine DG (.agg [_, _]) (Fh (lm := 0) (off := 0) hc10 Bz AS) ?_
    refine pM (.int _ _) ?_
    refine CM (xs := [_, _]) hO 0 AS rfl (fun G hO => ?_)
    refine pA (.int _ _) ?_
    refine pA (.int _ _) (pg (Ak (br (br (gr ?_)))))
    replace hk := an hk; subst hk; exact CP hO (DZ (n := 3) (Ac (BU (n := 2) (Ac (AD _ _) (Ac (AD _ _) (C8)))) (Ac (AD _ _) (Ac (AD _ _) (C8))))) (Cb hO 0 [_, _] Bz AS (Cp (.int _ _) (Cp (.int _ _) Bh)))
   refine AX (Hz [1,3,5,7,9,11,13,14,16] [_,_,_,_,_,_,_,_,_] ?_)
   refine pM (.lit _ _ _) (bk hk fun c11 hc11 hk => ?_)
   refine pX hc11 HV Ey ?_
   refine DG (.int _ _) (IU (lm := 0) (off := 0) hc11 B5) ?_
   refine pM (.lit _ _ _) ?_
   refine pM (.int _ _) (bk hk fun c12 hc12 hk => ?_)
   refine pX hc12 HV Ey ?_
   refine DG (.int _ _) (IU (lm := 0) (off := 0) hc12 B5) ?_
   refine AR ?_
   refine pA (.bool _) (pg (B1 hk ?_ ?_)) <;> intro hk
   ·refine sr (HS [_, _] Di Od ?_)
    refine pM (.int _ _) ?_
    refine CM (xs := [_, _]) hO 0 AS rfl (fun G hO => ?_)
    refine pA (.int _ _) ?_
    refine pA (.int _ _) (pg (Ak (br (br (gr ?_)))))
    replace hk := an hk; subst hk; exact CP hO (DZ (n := 3) (Ac (BU (n := 2) (Ac (AD _ _) (Ac (AD _ _) (C8)))) (Ac (AD _ _) (Ac (AD _ _) (C8))))) (Cb hO 0 [_, _] Bz AS (Cp (.int _ _) (Cp (.int _ _) Bh)))
   exact B7 (bn (bn (gn (⟨_, _, hk, (pk hO [0]), sh⟩))))
  exact B7 (bn (gn (⟨_, _, hk, (pk hO [0]), sh⟩)))
 rintro _ ⟨J, G, hk, hO, rfl⟩
 refine sr (pM (.lit _ _ _) (bk hk fun c6 hc6 hk => ?_))
 refine pX hc6 CT AS ?_
 refine DG (.agg [_, _]) (Fh (lm := 0) (off := 0) hc6 Bz AS) ?_
 refine pM (.int _ _) ?_
 refine CM (xs := [_, _]) hO 0 AS rfl (fun G hO => ?_)
 refine pA (.int _ _) ?_
 refine pA (.int _ _) (pg (Ak ?_))
 replace hk := an hk; subst hk; exact CP hO (DZ (n := 3) (Ac (BU (n := 2) (Ac (AD _ _) (Ac (AD _ _) (C8)))) (Ac (AD _ _) (Ac (AD _ _) (C8))))) (Cb hO 0 [_, _] Bz AS (Cp (.int _ _) (Cp (.int _ _) Bh)))
def Ps (aN0 : Az) (aLies1 : List Int) (aT2 : AB) : (Int × Int × Int) → Option ((Int × Int × Int) ⊕ Bool) := fun s =>
 (bif decide (s.2.2 < (aT2.AF.length : Int)) then ((Aa aT2.AF s.2.2).bind fun c7 => ((cX c7).bind fun v9 => ((aV aN0 aLies1 v9).bind fun v10 => ((bif (v10.2.1 != 0) then some true else ((cY ({ A0 := s.1, Way := s.2.1 } : AW)).bind fun v13 => some (!((v10.1.A0 == v13.A0) && ((v10.1.B9 == v13.B9) && true))))).bind fun t12 => (bif t12 then ((some false).map Sum.inr) else some (.inl (c7.A0, c7.Way, AV (s.2.2 + 1)))))))) else ((some true).map Sum.inr))
def fD (aN0 : Az) (aLies1 : List Int) (aT2 : AB) : Option Bool :=
 (AP (Ps aN0 aLies1 aT2) (aT2.A5.A0, aT2.A5.Way, (0:Int)))
theorem YV (hk : fD aN0 aLies1 aT2 = some r) (hlk : 0 < lk.length := by simp) : Ai ah hh 71 [.agg [A7 l1 0 aN0.A3, A7 l2 m3 aN0.A1], A7 l4 0 aLies1, .agg [iv aT2.A5.A0, iv aT2.A5.At, iv aT2.A5.Way, iv aT2.AI, A7 l5 0 aT2.AF]] H lk = some (.bool r, H) := by
 refine AA Tryz.func71 rfl Tryz.ntmps71 Tryz.results71 rfl rfl fun hO => ?_
 unfold fD at hk
 refine sr (Ax (cs := [_, _]) hO B2 (fun b1 G hO => ?_))
 refine Ax (cs := [_, _, _, _, _]) hO Bt (fun b2 G hO => ?_)
 refine pA (.bool _) (pg (sr ?_))
 refine pF CR ?_
 refine Ao DT hO 0 (.int _ _) B5 ?_
 refine pF CR ?_
 refine Ao DU hO 0 (.int _ _) B5 ?_
 refine HS [_, _] G4 VP (Bd hO BY G4 (fun b3 G hO => ?_))
 refine CM (xs := [_, _]) hO 0 BY rfl (fun G hO => pg (AX (sr ?_)))
 refine Ao DD hO 1 (.lit _ _ _) IY ?_
 refine BC K1 ?_
 refine pM (.int _ _) (pg (CE ?_))
 refine AJ (F := Ps aN0 aLies1 aT2) (fun s S' => ∃ J G, A8 H G [.B6 b3 (.cells 2 [iv s.1, iv s.2.1]), .B6 b1 (.cells 2 [A7 l1 0 aN0.A3, A7 l2 m3 aN0.A1])] ∧ S' = ⟨Aq [(1, A7 l4 0 aLies1),(3, .ptr b1 0),(7, .ptr b3 0),(21, A7 l5 0 aT2.AF),(22, iv (aT2.AF.length : Int)),(23, iv s.2.2)] J, G⟩) hk ⟨_, _, (pk hO [0, 2]), sh⟩ ?_
 rintro ⟨x4, x5, x6⟩ _ y1 ⟨J, G, hO, rfl⟩ hk hx1
 refine sr (AR (pg (AX (B1 hk ?_ ?_)))) <;> intro hk
 ·refine B7 (gn (AX (CE (sr (bk hk fun c7 hc7 hk => pX hc7 GB BY ?_)))))
  refine DG (.agg [_, _]) (Fh (lm := 0) (off := 0) hc7 Gk BY) (Bd hO BY G4 (fun b8 G hO => ?_))
  refine CM (xs := [_, _]) hO 0 BY rfl (fun G hO => pg (AX (AX ?_)))
  refine Hz [1,3,5,7,8,10,12,14,16,19,20,22,24] [_,_,_,_,_,_,_,_,_,_,_,_,_] ?_
  refine Bj hO 2 [_, _] CL B2 ?_
  refine pM (.lit _ _ _) ?_
  refine Bj hO 0 [_, _] Gk BY (bk hk fun v9 hv9 hk => ?_)
  refine AL (fun _ => Tj hv9) (bk hk fun v10 hv10 hk => ?_)
  refine AL (fun _ => Tn hv10) ?_
  refine pM (.EZ [_, _, _]) ?_
  refine MA (.agg [_, _]) ?_
  refine MA (.int _ _) ?_
  refine MA (.int _ _) (Bd hO AS Di (fun b11 G hO => ?_))
  refine CM (xs := [_, _]) hO 0 AS rfl (fun G hO => ?_)
  refine pA (.int _ _) ?_
  refine pA (.int _ _) (pg (AX ?_))
  refine Hz [0,2,4,7,9,11,12,14] [_,_,_,_,_,_,_,_] ?_
  refine pM (.int _ _) ?_
  refine AR ?_
  refine pM (.bool _) (bk hk fun t12 ht hk => ?_)
  refine AQ (l1 := [_, _, _, _, _]) (fun S' => ∃ J, S' = ⟨Aq [(1, A7 l4 0 aLies1),(3, .ptr b1 0),(7, .ptr b3 0),(9, .ptr b8 0),(21, A7 l5 0 aT2.AF),(22, iv (aT2.AF.length : Int)),(23, iv x6),(43, .bool t12)] J, G⟩) ?_ ?_
  ·refine bc (b := (v10.2.1 != 0)) ?_ ?_ <;> intro hg
   ·replace hk := ct hg ht
    repeat refine Bu hg ?_
    refine EJ hg (.bool _) ?_
    cases hk; exact pE ⟨_, sh⟩
   replace hk := cf hg ht
   refine Ae hg (Bj hO 0 [_, _] Bz AS (Ae hg ?_))
   refine Bj hO 2 [_, _] Gk BY (Ae hg (bk hk fun v13 hv13 hk => ?_))
   refine AL (fun _ => Tk hv13) (Ae hg ?_)
   refine gQ TK (Qn (Qo _ _ _) (Qn (Qo _ _ _) (rfl))) ?_
   refine EI hg (.bool _) ?_
   cases hk; exact pE ⟨_, sh⟩
  rintro _ ⟨J, rfl⟩
  refine pg (B1 hk ?_ ?_) <;> intro hk
  ·refine sr (pA (.bool _) (pg (Ak (gr (br (gr (gr (br (gr (have hk := lx hx1 hk; ?_))))))))))
   cases hk; exact AU hO
  refine B7 (gn (Da (Bj hO 1 [_, _] Gk BY ?_)))
  refine CM (xs := [_, _]) hO 2 BY rfl (fun G hO => pE (bn (gn (Da ?_))))
  refine AR ?_
  refine pM (.int _ _) (pg ?_)
  cases hk; exact ⟨_, rfl, _, _, (pk hO [2, 3]), sh⟩
 refine Eo (ge (ge (be (gn (have hk := lx hx1 hk; sr (pA (.bool _) (pg (Ak ?_))))))))
 cases hk; exact AU hO
def Xc (aPiece0 : Int) (aA1 : Int) (aB2 : Int) : Option BD :=
 some ({ A0 := aPiece0, GV := (if aB2 < aA1 then aB2 else aA1), To := (if aB2 > aA1 then aB2 else aA1) } : BD)
theorem YW (hk : Xc aPiece0 aA1 aB2 = some r) (hlk : 0 < lk.length := by simp) : Ai ah hh 72 [iv aPiece0, iv aA1, iv aB2] H lk = some (.agg [iv r.A0, iv r.GV, iv r.To], H) := by
 refine AA Tryz.func72 rfl Tryz.ntmps72 Tryz.results72 rfl rfl fun hO => ?_
 unfold Xc at hk
 refine sr (Bd hO Gr Rs (fun b1 G hO => pg (sr (pM (.int _ _) ?_))))
 refine pM (.int _ _) ?_
 refine pM (.int _ _) ?_
 refine gT ?_
 refine pM (.int _ _) ?_
 refine pM (.int _ _) ?_
 refine jX ?_
 refine HS [_, _, _] Rs iK ?_
 refine CM (xs := [_, _, _]) hO 0 Gr rfl (fun G hO => pg (Ak ?_))
 replace hk := an hk; subst hk; exact CP hO (BU (n := 2) (Ac (AD _ _) (Ac (AD _ _) (Ac (AD _ _) (C8))))) (Cb hO 0 [_, _, _] ZB Gr Bh)
def N4 (aT1 : AB) (x6 : List AW) : Option AB :=
 some ({ A5 := aT1.A5, AI := aT1.AI, AF := x6 } : AB)
def I4 (aN0 : Az) (aT1 : AB) : ((List AW) × Int × Int) → Option (((List AW) × Int × Int) ⊕ AB) := fun s =>
 (bif decide (s.2.2 < (aT1.AF.length : Int)) then ((Aa s.1 s.2.2).bind fun c13 => (bif decide (s.2.1 ≥ aT1.AI) then ((TH s.1 (0:Int) s.2.2).bind fun y16 => ((N4 aT1 y16).map Sum.inr)) else ((aT aN0 c13).bind fun v19 => some (.inl (s.1, AV (s.2.1 + v19), AV (s.2.2 + 1)))))) else ((N4 aT1 s.1).map Sum.inr))
def ZX (aN0 : Az) (aT1 : AB) : Option AB :=
 ((aR aN0 aT1.A5).bind fun v5 => (AP (I4 aN0 aT1) (aT1.AF, v5, (0:Int))))
theorem Tm (hk : ZX aN0 aT1 = some r) (hw0 : Qr H F0 (aT1.AF) w0) (hlk : 0 < lk.length := by simp) : ∃ v H1, Ai ah hh 73 [.agg [A7 l1 0 aN0.A3, A7 l2 m3 aN0.A1], .agg [iv aT1.A5.A0, iv aT1.A5.At, iv aT1.A5.Way, iv aT1.AI, w0]] H lk = some (v, H1) ∧ H1 = H ∧ ∃ w, v = .agg [iv r.A5.A0, iv r.A5.At, iv r.A5.Way, iv r.AI, w] ∧ Qr H F0 (r.AF) w := by
 refine BA Tryz.func73 rfl Tryz.ntmps73 Tryz.results73 rfl rfl ?_
 have hO := VA hw0
 unfold ZX at hk
 refine sr (Ax (cs := [_, _]) hO B2 (fun b1 G hO => ?_))
 have hc3 := FC (OA hO (j := 1) rfl)
 refine Ax (cs := [_, _, _, _, _]) hO Bt (fun b2 G hO => ?_) (h3 := (AE rfl (AE rfl (AE rfl (AE rfl (AE hc3.2 DM))))))
 refine Bd hO Bt Qf (fun b4 G hO => pg (sr (Bj hO 2 [_, _] CL B2 ?_)))
 refine pF CR ?_
 refine Bj hO 1 [_, _, _] J8 EC (bk hk fun v5 hv5 hk => ?_)
 refine AL (fun _ => Pr hv5) ?_
 refine pA (.int _ _) (pg ?_)
 refine Fq (fun S' => ∃ x6 o6 J G, N4 aT1 x6 = some r ∧ A8 H G [.B6 b4 (.cells 5 [iv 0, iv 0, iv 0, iv 0, (.tl 0 [])]), S9 H F0 x6 o6, .B6 b2 (.cells 5 [iv aT1.A5.A0, iv aT1.A5.At, iv aT1.A5.Way, iv aT1.AI, o6])] ∧ S' = ⟨Aq [(3, .ptr b2 0),(4, .ptr b4 0)] J, G⟩) ?_ ?_
 ·refine sr (Ao DD hO 1 w0 IY ?_)
  refine Zf (Md (OA hO (j := 3) rfl)) K1 ?_
  refine pM (.int _ _) (pg (CE ?_))
  refine AJ (F := I4 aN0 aT1) (fun s S' => ∃ o9 J G, A8 H G [.B6 b4 (.cells 5 [iv 0, iv 0, iv 0, iv 0, (.tl 0 [])]), S9 H F0 s.1 o9, .B6 b2 (.cells 5 [iv aT1.A5.A0, iv aT1.A5.At, iv aT1.A5.Way, iv aT1.AI, o9]), .B6 b1 (.cells 2 [A7 l1 0 aN0.A3, A7 l2 m3 aN0.A1])] ∧ S' = ⟨Aq [(2, .ptr b1 0),(3, .ptr b2 0),(4, .ptr b4 0),(5, iv s.2.1),(13, o9),(14, iv (aT1.AF.length : Int)),(15, iv s.2.2)] J, G⟩) hk ⟨w0, _, _, (pk hO [0, 3, 1, 2]), sh⟩ ?_
  rintro ⟨x9, x11, x12⟩ _ y1 ⟨o9, J, G, hO, rfl⟩ hk hx1
  refine sr (AR (pg (AX (B1 hk ?_ ?_)))) <;> intro hk
  ·refine B7 (gn (AX (CE (sr (pM (.int _ _) (bk hk fun c13 hc13 hk => ?_))))))
   refine lK (OA hO (j := 1) rfl) hc13 GB BY (fun lv14 => ?_)
   refine DG (.agg [_, _]) (Fh (lm := 0) (off := 0) hc13 Gk BY) (Bd hO BY G4 (fun b15 G hO => ?_))
   refine pA (.int _ _) ?_
   refine CM (xs := [_, _]) hO 0 BY rfl (fun G hO => pg (AX (sr ?_)))
   refine pM (.int _ _) ?_
   refine Ao GC hO 3 (.int _ _) B5 ?_
   refine AR (pg (B1 hk ?_ ?_)) <;> intro hk
   ·refine sr (Ao DD hO 3 o9 IY ?_)
    refine pM (.int _ _) (bk hk fun y16 hy16 hk => ?_)
    refine k8 hO 2 hc13 hy16 GB BY (fun w17 hO => ?_)
    refine pF DD ?_
    have hc18 := FC (OA hO (j := 0) rfl)
    refine CM (xs := [_]) hO 4 XH rfl (fun G hO => ?_) (h3 := hc18.1) (h6 := EP hc18.2)
    refine pg (Eo (ge (bo rfl (ge (ge (be (gn (have hk := lx hx1 hk; ?_))))))))
    exact ⟨y16, w17, _, _, hk, (pk hO [2, 0, 4]), sh⟩
   refine B7 (gn (Da (pM (.int _ _) ?_)))
   refine Bj hO 4 [_, _] CL B2 ?_
   refine Bj hO 0 [_, _] Gk BY (bk hk fun v19 hv19 hk => ?_)
   refine AL (fun _ => Tl hv19) ?_
   refine AR ?_
   refine pA (.int _ _) (pE (bn (gn (Da ?_))))
   refine AR ?_
   refine pM (.int _ _) (pg ?_)
   cases hk; exact ⟨_, rfl, o9, _, _, (pk hO [1, 2, 3, 4]), sh⟩
  exact Eo (ge (ge (be (gn (have hk := lx hx1 hk; ⟨x9, o9, _, _, hk, (pk hO [0, 1, 2]), sh⟩)))))
 rintro _ ⟨x6, o6, J, G, hk, hO, rfl⟩
 refine sr (Bj hO 2 [_, _, _, _, _] Eh Bt ?_)
 have hc8 := FC (OA hO (j := 1) rfl)
 refine CM (xs := [_, _, _, _, _]) hO 0 Bt rfl (fun G hO => ?_) (h6 := (AE rfl (AE rfl (AE rfl (AE rfl (AE hc8.2 DM))))))
 refine pg (Ak ?_)
 replace hk := an hk; subst hk; exact bG (cs := [iv aT1.A5.A0, iv aT1.A5.At, iv aT1.A5.Way, iv aT1.AI]) hO 1 hlk (Cb hO 0 [_, _, _, _, _] Eh Bt Bh)
def cZ (aN0 : Az) (aE1 : Ay) : Option Le :=
 (bif (aE1.B9 == 0) then some ({ Fj := aE1.A0, VX := (0:Int), Ld := (1:Int) } : Le) else ((Aa aN0.A3 aE1.A0).bind fun c4 => some ({ Fj := aE1.A0, VX := c4.BN, Ld := (-1:Int) } : Le)))
theorem YX (hk : cZ aN0 aE1 = some r) (hlk : 0 < lk.length := by simp) : Ai ah hh 76 [.agg [A7 l1 0 aN0.A3, A7 l2 m3 aN0.A1], .agg [iv aE1.A0, iv aE1.B9]] H lk = some (.agg [iv r.Fj, iv r.VX, iv r.Ld], H) := by
 refine AA Tryz.func76 rfl Tryz.ntmps76 Tryz.results76 rfl rfl fun hO => ?_
 unfold cZ at hk
 refine sr (Ax (cs := [_, _]) hO B2 (fun b1 G hO => ?_))
 refine Ax (cs := [_, _]) hO AS (fun b2 G hO => Bd hO OK UL (fun b3 G hO => pg (AX (sr ?_))))
 refine Ao IN hO 1 (.int _ _) B5 ?_
 refine AR (pg (B1 hk ?_ ?_)) <;> intro hk
 ·refine sr (Ao Fi hO 1 (.int _ _) B5 ?_)
  refine HS [_, _, _] UL Zi ?_
  refine CM (xs := [_, _, _]) hO 0 OK rfl (fun G hO => pg (Ak (gr ?_)))
  replace hk := an hk; subst hk; exact CP hO (BU (n := 2) (Ac (AD _ _) (Ac (AD _ _) (Ac (AD _ _) (C8))))) (Cb hO 0 [_, _, _] Zh OK Bh)
 refine B7 (gn (AX (Hz [1,3,5,7,9,11,13,15,17,18,20] [_,_,_,_,_,_,_,_,_,_,_] ?_)))
 refine Ao Fi hO 1 (.int _ _) B5 ?_
 refine Ao C0 hO 2 (.lit _ _ _) Ei ?_
 refine Ao Fi hO 1 (.int _ _) B5 (bk hk fun c4 hc4 hk => ?_)
 refine pX hc4 GP C2 ?_
 refine pF Ci ?_
 refine DG (.int _ _) (IU (lm := 0) (off := 1) hc4 B5) ?_
 refine HS [_, _, _] UL Zi ?_
 refine CM (xs := [_, _, _]) hO 0 OK rfl (fun G hO => pg (Ak ?_))
 replace hk := an hk; subst hk; exact CP hO (BU (n := 2) (Ac (AD _ _) (Ac (AD _ _) (Ac (AD _ _) (C8))))) (Cb hO 0 [_, _, _] Zh OK Bh)
def Kz (aN0 : Az) (aLies1 : List Int) (aT2 : AB) (aFar3 : Int) (x13 : Int) (x14 : Int) (x15 : Int) (x16 : Int) (x17 : Int) (c23 : A0) (v24 : Int) (x25 : List AW) (x27 : List BD) : Option ((Int × Int × Int × Int × Int × (List AW) × (List BD)) ⊕ BF) :=
 ((ZX aN0 ({ A5 := ({ A0 := x14, At := AV (x15 + (AV ((if (AV (aFar3 - x13)) < (AV (c23.BN - v24)) then (AV (aFar3 - x13)) else (AV (c23.BN - v24))) * x16))), Way := x16 } : CG), AI := x17, AF := x25 } : AB)).bind fun v29 => (bif ((AV (x13 + (if (AV (aFar3 - x13)) < (AV (c23.BN - v24)) then (AV (aFar3 - x13)) else (AV (c23.BN - v24))))) == aFar3) then ((some ({ Code := 0, MT := AV (x13 + (if (AV (aFar3 - x13)) < (AV (c23.BN - v24)) then (AV (aFar3 - x13)) else (AV (c23.BN - v24)))), AO := (-1:Int), AB := ({ A5 := v29.A5, AI := v29.AI, AF := v29.AF } : AB), Dp := x27 } : BF)).map Sum.inr) else ((aW v29.A5.A0 v29.A5.Way).bind fun v34 => ((aV aN0 aLies1 v34).bind fun v35 => (bif (v35.2.1 != 0) then ((some ({ Code := v35.2.1, MT := AV (x13 + (if (AV (aFar3 - x13)) < (AV (c23.BN - v24)) then (AV (aFar3 - x13)) else (AV (c23.BN - v24)))), AO := v35.2.2, AB := ({ A5 := v29.A5, AI := v29.AI, AF := v29.AF } : AB), Dp := x27 } : BF)).map Sum.inr) else ((cZ aN0 v35.1).bind fun v39 => ((JU 16 ([({ A0 := v29.A5.A0, Way := v29.A5.Way } : AW)] : List AW) v29.AF).bind fun z42 => ((ZX aN0 ({ A5 := ({ A0 := v39.Fj, At := v39.VX, Way := v39.Ld } : CG), AI := aT2.AI, AF := z42 } : AB)).bind fun v46 => (bif decide ((v46.AF.length : Int) > 200) then ((some ({ Code := (6:Int), MT := AV (x13 + (if (AV (aFar3 - x13)) < (AV (c23.BN - v24)) then (AV (aFar3 - x13)) else (AV (c23.BN - v24)))), AO := v35.2.2, AB := ({ A5 := v29.A5, AI := v29.AI, AF := v29.AF } : AB), Dp := x27 } : BF)).map Sum.inr) else some (.inl (AV (x13 + (if (AV (aFar3 - x13)) < (AV (c23.BN - v24)) then (AV (aFar3 - x13)) else (AV (c23.BN - v24)))), v46.A5.A0, v46.A5.At, v46.A5.Way, v46.AI, v46.AF, x27)))))))))))
def Jm (aN0 : Az) (aLies1 : List Int) (aT2 : AB) (aFar3 : Int) : (Int × Int × Int × Int × Int × (List AW) × (List BD)) → Option ((Int × Int × Int × Int × Int × (List AW) × (List BD)) ⊕ BF) := fun s =>
 ((Aa aN0.A3 s.2.1).bind fun c23 => ((aR aN0 ({ A0 := s.2.1, At := s.2.2.1, Way := s.2.2.2.1 } : CG)).bind fun v24 => (bif decide ((if (AV (aFar3 - s.1)) < (AV (c23.BN - v24)) then (AV (aFar3 - s.1)) else (AV (c23.BN - v24))) > 0) then ((Xc s.2.1 s.2.2.1 (AV (s.2.2.1 + (AV ((if (AV (aFar3 - s.1)) < (AV (c23.BN - v24)) then (AV (aFar3 - s.1)) else (AV (c23.BN - v24))) * s.2.2.2.1))))).bind fun v52 => ((JU 24 s.2.2.2.2.2.2 ([v52] : List BD)).bind fun z54 => (Kz aN0 aLies1 aT2 aFar3 s.1 s.2.1 s.2.2.1 s.2.2.2.1 s.2.2.2.2.1 c23 v24 s.2.2.2.2.2.1 z54))) else (Kz aN0 aLies1 aT2 aFar3 s.1 s.2.1 s.2.2.1 s.2.2.2.1 s.2.2.2.2.1 c23 v24 s.2.2.2.2.2.1 s.2.2.2.2.2.2))))
def iU (aN0 : Az) (aLies1 : List Int) (aT2 : AB) (aFar3 : Int) : Option BF :=
 ((JU 16 ([] : List AW) aT2.AF).bind fun z4 => ((fD aN0 aLies1 ({ A5 := aT2.A5, AI := aT2.AI, AF := z4 } : AB)).bind fun v10 => (bif !v10 then some ({ Code := (4:Int), MT := 0, AO := (-1:Int), AB := ({ A5 := aT2.A5, AI := aT2.AI, AF := z4 } : AB), Dp := ([] : List BD) } : BF) else (AP (Jm aN0 aLies1 aT2 aFar3) (0, aT2.A5.A0, aT2.A5.At, aT2.A5.Way, aT2.AI, z4, ([] : List BD))))))
theorem Y2 (hk : iU aN0 aLies1 aT2 aFar3 = some r) (hlk : 0 < lk.length := by simp) : ∃ v H1, Ai ah hh 32 [.agg [A7 l1 0 aN0.A3, A7 l2 m3 aN0.A1], A7 l4 0 aLies1, .agg [iv aT2.A5.A0, iv aT2.A5.At, iv aT2.A5.Way, iv aT2.AI, A7 l5 0 aT2.AF], iv aFar3] H lk = some (v, H1) ∧ HM H r v H1 := by
 refine BA Tryz.func32 rfl Tryz.ntmps32 Tryz.results32 rfl rfl ?_
 have hO := A8.nil H
 unfold iU at hk
 refine sr (Ax (cs := [_, _]) hO B2 (fun b1 G hO => ?_))
 refine Ax (cs := [_, _, _, _, _]) hO Bt (fun b2 G hO => Bd hO Cc LX (fun b3 G hO => pg (sr ?_)))
 refine Ao DD hO 1 (.lit _ _ _) IY (bk hk fun z4 hz4 hk => ?_)
 refine bS (xs := aT2.AF) hO hz4 Tryz.func70 kM GB BY X7 G4 (fun o4 G hno4 hO => ?_)
 refine pF DD ?_
 have hc6 := CF hO (j := 0) rfl
 refine CM (xs := [_]) hO 2 XH rfl (fun G hO => ?_) (h3 := hc6.1) (h6 := EP hc6.2)
 refine pg (sr (Bj hO 2 [_, _, _, _, _] Eh Bt ?_))
 have hc7 := CF hO (j := 0) rfl
 refine HS [iv 0, iv 0, iv (-1:Int), iv aT2.A5.A0, iv aT2.A5.At, iv aT2.A5.Way, iv aT2.AI, o4, (.tl 0 [])] LX ZK ?_ (ps := [(2, iv (-1:Int)), (3, .agg [iv aT2.A5.A0, iv aT2.A5.At, iv aT2.A5.Way, iv aT2.AI, o4])]) (h2 := (Dx (i := 2) (off := 2) (sz := 1) (v := iv (-1:Int)) (ce := [iv (-1:Int)]) rfl (AE rfl DM) (Dx (i := 3) (off := 3) (sz := 5) (v := .agg [iv aT2.A5.A0, iv aT2.A5.At, iv aT2.A5.Way, iv aT2.AI, o4]) (ce := [iv aT2.A5.A0, iv aT2.A5.At, iv aT2.A5.Way, iv aT2.AI, o4]) rfl (AE rfl (AE rfl (AE rfl (AE rfl (AE hc7.2 DM))))) rfl)))
 refine Bd hO Cc LX (fun b8 G hO => ?_)
 have hc9 := CF hO (j := 1) rfl
 refine Jv (xs := [_, _, _, _, _, _, _, _, _]) [_, _, _, _, _, _, _, _, _] hO 0 Cc rfl (fun G hO => ?_) (h6 := (AE rfl (AE rfl (AE rfl (AE rfl (AE rfl (AE rfl (AE rfl (AE hc9.2 (AE rfl DM))))))))))
 refine pg (AX (sr (Bj hO 4 [_, _] CL B2 ?_)))
 refine pM (.lit _ _ _) ?_
 refine Bj hO 3 [_, _, _, _, _] Eh Bt (bk hk fun v10 hv10 hk => ?_)
 obtain ⟨lw11, hw11⟩ := WZ hO 1 (lk.length + 1)
 refine AL (vs := [(.agg [_, _]), (.lit _ _ _), (.agg [_, _, _, _, _])]) (caps := []) (fun _ => YV hv10) ?_ (h3 := (BB rfl (BB rfl (BB (QL (Cg rfl (Cg rfl (Cg rfl (Cg rfl (Cg (hw11 5) QO)))))) Eg))))
 refine pU (pg (B1 hk ?_ ?_)) <;> intro hk
 ·refine sr (pF J9 ?_)
  refine Jv (xs := [_]) [_, _, _, _, _, _, _, _, _] hO 0 Ey rfl (fun G hO => pg (sr ?_))
  refine Bj hO 0 [_, _, _, _, _, _, _, _, _] GA Cc ?_
  have hc12 := CF hO (j := 1) rfl
  refine Jv (xs := [_, _, _, _, _, _, _, _, _]) [_, _, _, _, _, _, _, _, _] hO 2 Cc rfl (fun G hO => ?_) (h6 := (AE rfl (AE rfl (AE rfl (AE rfl (AE rfl (AE rfl (AE rfl (AE hc12.2 (AE rfl DM))))))))))
  refine pg (Ak (gr ?_))
  replace hk := an hk; subst hk; exact Ez hO (Ew (Ad (c1 := [_]) (Bo (4:Int)) (Ad (c1 := [_]) (Bo 0) (Ad (c1 := [_]) (Bo (-1:Int)) (Ad (c1 := [_, _, _, _, _]) (ET (Ad (c1 := [_, _, _]) (Jd (α := CG) aT2.A5) (Ad (c1 := [_]) (Bo aT2.AI) (La hno4 hlk 1)))) (LZ BD)))))) (Cb hO 2 [_, _, _, _, _, _, _, _, _] GA Cc Bh)
 refine B7 (gn (CE (AJ (F := Jm aN0 aLies1 aT2 aFar3) (fun s S' => ∃ o18 o20 j22 F19 J G, Nz o20 ∧ A8 H G [S8 lk.length F19 s.2.2.2.2.2.1 o18, .own o20 lk.length 3 s.2.2.2.2.2.2.length (A9 0 s.2.2.2.2.2.2), .B6 b8 (.cells 9 [iv 0, iv s.1, iv (-1:Int), iv s.2.1, iv s.2.2.1, iv s.2.2.2.1, iv s.2.2.2.2.1, o18, o20]), .B6 b3 (.cells 9 [iv 0, iv 0, iv 0, iv 0, iv 0, iv 0, iv 0, (.tl 0 []), (.tl 0 [])]), .B6 b2 (.cells 5 [iv aT2.A5.A0, iv aT2.A5.At, iv aT2.A5.Way, iv aT2.AI, j22]), .B6 b1 (.cells 2 [A7 l1 0 aN0.A3, A7 l2 m3 aN0.A1])] ∧ S' = ⟨Aq [(1, A7 l4 0 aLies1),(3, iv aFar3),(4, .ptr b1 0),(6, .ptr b2 0),(8, .ptr b3 0),(9, .ptr b8 0)] J, G⟩) hk ⟨o4, (.tl 0 []), o4, (Bf.DC (.own o4 lk.length 2 z4.length (A9 0 z4))), _, _, Nz.nil, (A8.pick (A8.FK (A8.gU (xs := z4) hO 1 hno4) lk.length ([] : List BD)) [2, 0, 1, 3, 4, 5] (by decide) rfl), sh⟩ ?_)))
 rintro ⟨x13, x14, x15, x16, x17, x18, x20⟩ _ y1 ⟨o18, o20, j22, F19, J, G, hno20, hO, rfl⟩ hk hx1
 refine CE (sr (pF DE ?_))
 refine pF CR ?_
 refine pA (.ptr _ _) (pg (AX ?_))
 refine Hz [1,3,5,7,9,11,13,15,17,19,21,23,25,27,28,30] [_,_,_,_,_,_,_,_,_,_,_,_,_,_,_,_] ?_
 refine Ao C0 hO 5 (.lit _ _ _) Ei ?_
 refine pM (.ptr _ _) ?_
 refine LN ?_
 refine Ao DT hO 2 (.int _ _) B5 (bk hk fun c23 hc23 hk => ?_)
 refine pX hc23 GP C2 ?_
 refine pF Ci ?_
 refine DG (.int _ _) (IU (lm := 0) (off := 1) hc23 B5) ?_
 refine Bj hO 5 [_, _] CL B2 ?_
 refine pM (.ptr _ _) ?_
 refine LN ?_
 refine Bj hO 2 [_, _, _] J8 EC (bk hk fun v24 hv24 hk => ?_)
 refine AL (fun _ => Pr hv24) ?_
 refine AR ?_
 refine pA (.int _ _) (pg (sr ?_))
 refine pM (.int _ _) ?_
 refine pM (.int _ _) ?_
 refine Ao Gl hO 2 (.int _ _) B5 ?_
 refine AR ?_
 refine gT ?_
 refine pA (.int _ _) (pg ?_)
 refine Fq (fun S' => ∃ x25 x27 o25 o27 F26 J G, Kz aN0 aLies1 aT2 aFar3 x13 x14 x15 x16 x17 c23 v24 x25 x27 = some y1 ∧ Nz o27 ∧ A8 H G [S8 lk.length F26 x25 o25, .own o27 lk.length 3 x27.length (A9 0 x27), .B6 b8 (.cells 9 [iv 0, iv x13, iv (-1:Int), iv x14, iv x15, iv x16, iv x17, o25, o27]), .B6 b3 (.cells 9 [iv 0, iv 0, iv 0, iv 0, iv 0, iv 0, iv 0, (.tl 0 []), (.tl 0 [])]), .B6 b2 (.cells 5 [iv aT2.A5.A0, iv aT2.A5.At, iv aT2.A5.Way, iv aT2.AI, j22]), .B6 b1 (.cells 2 [A7 l1 0 aN0.A3, A7 l2 m3 aN0.A1])] ∧ S' = ⟨Aq [(1, A7 l4 0 aLies1),(3, iv aFar3),(4, .ptr b1 0),(6, .ptr b2 0),(8, .ptr b3 0),(9, .ptr b8 0),(10, .ptr b8 3),(12, iv (if (AV (aFar3 - x13)) < (AV (c23.BN - v24)) then (AV (aFar3 - x13)) else (AV (c23.BN - v24))))] J, G⟩) ?_ ?_
 ·refine sr (pM (.int _ _) ?_)
  refine AR (pg (B1 hk ?_ ?_)) <;> intro hk
  ·refine Hz [1,3,5,7,9,11,13,15,17,19,21,23,25,27,29,31,33,35,37,39,41,43,45,46,48,50] [_,_,_,_,_,_,_,_,_,_,_,_,_,_,_,_,_,_,_,_,_,_,_,_,_,_] ?_
   refine Ao JA hO 2 o20 VO ?_
   refine pM (.ptr _ _) ?_
   refine LN ?_
   refine Ao DT hO 2 (.int _ _) B5 ?_
   refine pM (.ptr _ _) ?_
   refine LN ?_
   refine Ao Ej hO 2 (.int _ _) B5 ?_
   refine pM (.ptr _ _) ?_
   refine LN ?_
   refine Ao Ej hO 2 (.int _ _) B5 ?_
   refine pM (.int _ _) ?_
   refine pM (.ptr _ _) ?_
   refine LN ?_
   refine Ao DU hO 2 (.int _ _) B5 ?_
   refine AR ?_
   refine AR (bk hk fun v52 hv52 hk => ?_)
   refine AL (fun _ => YW hv52) ?_
   refine gO (ps := [(0, (.agg [_, _, _]))]) hO ([v52] : List BD) Kg Gr Rs (Bc (D8 (α := BD) v52) (Cs)) rfl (fun o53 G hno53 hO => bk hk fun z54 hz54 hk => ?_)
   refine gN (xs := x20) hO 2 hz54 (UY hO (j := 0) rfl) Kg Gr iF Rs Kg rfl (fun o54 G hno54 hO => ?_)
   replace hno54 := hno54 hno20
   refine pF JA ?_
   have hc55 := CF hO (j := 2) rfl
   refine Jv (xs := [_]) [_, _, _, _, _, _, _, _, _] hO 3 iN rfl (fun G hO => ?_) (h3 := hc55.1) (h6 := EP hc55.2)
   exact pg (⟨x18, z54, o18, o54, F19, _, _, hk, hno54, (pk hO [1, 2, 3, 4, 5, 6]), sh⟩)
  exact B7 (gn (⟨x18, x20, o18, o20, F19, _, _, hk, hno20, hO, sh⟩))
 rintro _ ⟨x25, x27, o25, o27, F26, J, G, hk, hno27, hO, rfl⟩
 refine AX (Hz [1,3,5,7,9,11,13,15,17,19,20,22,24,26] [_,_,_,_,_,_,_,_,_,_,_,_,_,_] ?_)
 refine pM (.ptr _ _) ?_
 refine LN ?_
 refine Ao Ej hO 2 (.int _ _) B5 ?_
 refine pM (.int _ _) ?_
 refine pM (.ptr _ _) ?_
 refine LN ?_
 refine Ao DU hO 2 (.int _ _) B5 ?_
 refine AR ?_
 refine AR ?_
 refine LN ?_
 refine pF Ej ?_
 refine Jv (xs := [_]) [_, _, _, _, _, _, _, _, _] hO 2 Ey rfl (fun G hO => pg (sr ?_))
 refine Ao Gl hO 2 (.int _ _) B5 ?_
 refine pM (.int _ _) ?_
 refine AR ?_
 refine pF Gl ?_
 refine Jv (xs := [_]) [_, _, _, _, _, _, _, _, _] hO 2 Ey rfl (fun G hO => pg (sr ?_))
 refine Bj hO 5 [_, _] CL B2 ?_
 refine pF DE ?_
 refine Bj hO 2 [_, _, _, _, _] Eh Bt (bk hk fun v29 hv29 hk => ?_)
 refine Ze (vs := [(.agg [_, _]), (.agg [_, _, _, _, _])]) (caps := []) (cs := [iv v29.A5.A0, iv v29.A5.At, iv v29.A5.Way, iv v29.AI]) hO 0 (fun _ F hw => Tm hv29 hw) (fun u30 F30 hO => ?_) (gD rfl (gF gE))
 refine pF DE ?_
 have hc31 := FC (HB hO (j := 0) rfl)
 refine Jv (xs := [_, _, _, _, _]) [_, _, _, _, _, _, _, _, _] hO 2 Bt rfl (fun G hO => ?_) (h6 := (AE rfl (AE rfl (AE rfl (AE rfl (AE hc31.2 DM))))))
 refine pg (AX (sr (Ao Gl hO 2 (.int _ _) B5 ?_)))
 refine pM (.int _ _) ?_
 refine AR (pg (B1 hk ?_ ?_)) <;> intro hk
 ·refine sr (Bj hO 2 [_, _, _, _, _, _, _, _, _] GA Cc ?_)
  have hc32 := FC (HB hO (j := 0) rfl)
  have hc33 := CF hO (j := 1) rfl
  refine Jv (xs := [_, _, _, _, _, _, _, _, _]) [_, _, _, _, _, _, _, _, _] hO 3 Cc rfl (fun G hO => ?_) (h6 := (AE rfl (AE rfl (AE rfl (AE rfl (AE rfl (AE rfl (AE rfl (AE hc32.2 (AE hc33.2 DM))))))))))
  refine pg (Ak (gr (br (gr (br (have hk := lx hx1 hk; ?_))))))
  replace hk := an hk; subst hk; exact Ez hO (Ew (Ad (c1 := [_]) (Bo 0) (Ad (c1 := [_]) (Bo (AV (x13 + (if (AV (aFar3 - x13)) < (AV (c23.BN - v24)) then (AV (aFar3 - x13)) else (AV (c23.BN - v24)))))) (Ad (c1 := [_]) (Bo (-1:Int)) (Ad (c1 := [_, _, _, _, _]) (ET (Ad (c1 := [_, _, _]) (Jd (α := CG) v29.A5) (Ad (c1 := [_]) (Bo v29.AI) (TM (xs := v29.AF) hlk 0)))) (La hno27 hlk 0)))))) (Cb hO 3 [_, _, _, _, _, _, _, _, _] GA Cc Bh)
 refine B7 (gn (AX (Hz [1,3,5,7,9,11,13,15,17,19,21,22,24,26,28,30,33,34,36,38] [_,_,_,_,_,_,_,_,_,_,_,_,_,_,_,_,_,_,_,_] ?_)))
 refine Bj hO 5 [_, _] CL B2 ?_
 refine pM (.lit _ _ _) ?_
 refine pM (.ptr _ _) ?_
 refine LN ?_
 refine Ao DT hO 2 (.int _ _) B5 ?_
 refine pM (.ptr _ _) ?_
 refine LN ?_
 refine Ao DU hO 2 (.int _ _) B5 (bk hk fun v34 hv34 hk => ?_)
 refine AL (fun _ => Pu hv34) (bk hk fun v35 hv35 hk => ?_)
 refine AL (fun _ => Tn hv35) ?_
 refine pM (.EZ [_, _, _]) ?_
 refine MA (.agg [_, _]) ?_
 refine MA (.int _ _) ?_
 refine MA (.int _ _) (Bd hO AS Di (fun b36 G hO => ?_))
 refine CM (xs := [_, _]) hO 0 AS rfl (fun G hO => ?_)
 refine pA (.int _ _) ?_
 refine pA (.int _ _) (pg (AX (sr ?_)))
 refine pM (.int _ _) ?_
 refine AR (pg (B1 hk ?_ ?_)) <;> intro hk
 ·refine sr (pM (.int _ _) ?_)
  refine pM (.int _ _) ?_
  refine pF J9 ?_
  refine Jv (xs := [_]) [_, _, _, _, _, _, _, _, _] hO 3 Ey rfl (fun G hO => ?_)
  refine pF LY ?_
  refine Jv (xs := [_]) [_, _, _, _, _, _, _, _, _] hO 3 Ey rfl (fun G hO => pg (sr ?_))
  refine Bj hO 3 [_, _, _, _, _, _, _, _, _] GA Cc ?_
  have hc37 := FC (HB hO (j := 1) rfl)
  have hc38 := CF hO (j := 2) rfl
  refine Jv (xs := [_, _, _, _, _, _, _, _, _]) [_, _, _, _, _, _, _, _, _] hO 4 Cc rfl (fun G hO => ?_) (h6 := (AE rfl (AE rfl (AE rfl (AE rfl (AE rfl (AE rfl (AE rfl (AE hc37.2 (AE hc38.2 DM))))))))))
  refine pg (Ak (gr (br (gr (br (have hk := lx hx1 hk; ?_))))))
  replace hk := an hk; subst hk; exact Ez hO (Ew (Ad (c1 := [_]) (Bo v35.2.1) (Ad (c1 := [_]) (Bo (AV (x13 + (if (AV (aFar3 - x13)) < (AV (c23.BN - v24)) then (AV (aFar3 - x13)) else (AV (c23.BN - v24)))))) (Ad (c1 := [_]) (Bo v35.2.2) (Ad (c1 := [_, _, _, _, _]) (ET (Ad (c1 := [_, _, _]) (Jd (α := CG) v29.A5) (Ad (c1 := [_]) (Bo v29.AI) (TM (xs := v29.AF) hlk 1)))) (La hno27 hlk 1)))))) (Cb hO 4 [_, _, _, _, _, _, _, _, _] GA Cc Bh)
 refine B7 (gn (sr (Bj hO 6 [_, _] CL B2 ?_)))
 refine Bj hO 0 [_, _] Bz AS (bk hk fun v39 hv39 hk => ?_)
 refine AL (fun _ => YX hv39) (Bd hO OK UL (fun b40 G hO => ?_))
 refine CM (xs := [_, _, _]) hO 0 OK rfl (fun G hO => pg (AX ?_))
 refine Hz [1,3,5,7,9,11,13,15,17,19,21,23,25,27,29,31,33,35,39,41,43,37,45,46,49,50] [_,_,_,_,_,_,_,_,_,_,_,_,_,_,_,_,_,_,_,_,_,_,_,_,_,_] ?_
 refine Ao ZE hO 0 (.int _ _) B5 ?_
 refine Ao ZF hO 0 (.int _ _) B5 ?_
 refine Ao ZG hO 0 (.int _ _) B5 ?_
 refine HS [_, _, _] TJ cH ?_
 refine Ao GC hO 6 (.int _ _) B5 ?_
 refine pM (.ptr _ _) ?_
 refine LN ?_
 refine Ao DT hO 4 (.int _ _) B5 ?_
 refine pM (.ptr _ _) ?_
 refine LN ?_
 refine Ao DU hO 4 (.int _ _) B5 ?_
 refine HS [_, _] G4 VP ?_
 refine pF DE ?_
 refine Ao DD hO 4 u30 IY ?_
 refine gO (ps := [(0, (.agg [_, _]))]) hO ([({ A0 := v29.A5.A0, Way := v29.A5.Way } : AW)] : List AW) GB BY G4 (Bc (D8 (α := AW) ({ A0 := v29.A5.A0, Way := v29.A5.Way } : AW)) (Cs)) rfl (fun o41 G hno41 hO => bk hk fun z42 hz42 hk => ?_)
 refine gN (xs := ([({ A0 := v29.A5.A0, Way := v29.A5.Way } : AW)] : List AW)) hO 0 hz42 (Md (HB hO (j := 3) rfl)) GB BY X7 G4 GB rfl (fun o42 G hno42 hO => ?_)
 replace hno42 := hno42 hno41
 have hc43 := CF hO (j := 0) rfl
 refine HS [iv v39.Fj, iv v39.VX, iv v39.Ld, iv aT2.AI, o42] Qf kP ?_ (ps := [(0, .agg [iv v39.Fj, iv v39.VX, iv v39.Ld]), (1, iv aT2.AI), (2, o42)]) (h2 := (Dx (i := 0) (off := 0) (sz := 3) (v := .agg [iv v39.Fj, iv v39.VX, iv v39.Ld]) (ce := [iv v39.Fj, iv v39.VX, iv v39.Ld]) rfl (AE rfl (AE rfl (AE rfl DM))) (Dx (i := 1) (off := 3) (sz := 1) (v := iv aT2.AI) (ce := [iv aT2.AI]) rfl (AE rfl DM) (Dx (i := 2) (off := 4) (sz := 1) (v := o42) (ce := [o42]) hc43.1 (AE hc43.2 DM) rfl))))
 refine Bd hO Bt Qf (fun b44 G hO => ?_)
 have hc45 := CF hO (j := 1) rfl
 refine CM (xs := [_, _, _, _, _]) hO 0 Bt rfl (fun G hO => ?_) (h6 := (AE rfl (AE rfl (AE rfl (AE rfl (AE hc45.2 DM))))))
 refine pg (sr (Bj hO 9 [_, _] CL B2 ?_))
 refine Bj hO 0 [_, _, _, _, _] Eh Bt ?_
 replace hO := A8.gU (xs := z42) hO 1 hno42
 refine bk hk fun v46 hv46 hk => Ze (vs := [(.agg [_, _]), (.agg [_, _, _, _, _])]) (caps := []) (cs := [iv v46.A5.A0, iv v46.A5.At, iv v46.A5.Way, iv v46.AI]) hO 1 (fun _ F hw => Tm hv46 hw) (fun u47 F47 hO => ?_) (gD rfl (gF gE))
 have hc48 := FC (HB hO (j := 1) rfl)
 refine CM (xs := [_, _, _, _, _]) hO 0 Bt rfl (fun G hO => ?_) (h6 := (AE rfl (AE rfl (AE rfl (AE rfl (AE hc48.2 DM))))))
 refine pg (AX (sr (Ao DD hO 0 u47 IY ?_)))
 refine Zf (Md (HB hO (j := 1) rfl)) K1 ?_
 refine AR (pg (B1 hk ?_ ?_)) <;> intro hk
 ·refine sr (pM (.int _ _) ?_)
  refine pF J9 ?_
  refine Jv (xs := [_]) [_, _, _, _, _, _, _, _, _] hO 6 Ey rfl (fun G hO => ?_)
  refine pF LY ?_
  refine Jv (xs := [_]) [_, _, _, _, _, _, _, _, _] hO 6 Ey rfl (fun G hO => pg (sr ?_))
  refine Bj hO 6 [_, _, _, _, _, _, _, _, _] GA Cc ?_
  have hc49 := FC (HB hO (j := 4) rfl)
  have hc50 := CF hO (j := 5) rfl
  refine Jv (xs := [_, _, _, _, _, _, _, _, _]) [_, _, _, _, _, _, _, _, _] hO 7 Cc rfl (fun G hO => ?_) (h6 := (AE rfl (AE rfl (AE rfl (AE rfl (AE rfl (AE rfl (AE rfl (AE hc49.2 (AE hc50.2 DM))))))))))
  refine pg (Ak (gr (br (gr (br (have hk := lx hx1 hk; ?_))))))
  replace hk := an hk; subst hk; exact Ez hO (Ew (Ad (c1 := [_]) (Bo (6:Int)) (Ad (c1 := [_]) (Bo (AV (x13 + (if (AV (aFar3 - x13)) < (AV (c23.BN - v24)) then (AV (aFar3 - x13)) else (AV (c23.BN - v24)))))) (Ad (c1 := [_]) (Bo v35.2.2) (Ad (c1 := [_, _, _, _, _]) (ET (Ad (c1 := [_, _, _]) (Jd (α := CG) v29.A5) (Ad (c1 := [_]) (Bo v29.AI) (TM (xs := v29.AF) hlk 4)))) (La hno27 hlk 4)))))) (Cb hO 7 [_, _, _, _, _, _, _, _, _] GA Cc Bh)
 refine B7 (gn (Da (Bj hO 0 [_, _, _, _, _] Eh Bt ?_)))
 refine pF DE ?_
 have hc51 := FC (HB hO (j := 1) rfl)
 refine Jv (xs := [_, _, _, _, _]) [_, _, _, _, _, _, _, _, _] hO 6 Bt rfl (fun G hO => ?_) (h6 := (AE rfl (AE rfl (AE rfl (AE rfl (AE hc51.2 DM))))))
 refine pE (bn (gn ?_))
 cases hk; exact ⟨_, rfl, u47, o27, j22, F47, _, _, hno27, (pk hO [1, 5, 6, 7, 8, 9]), sh⟩
def cQ (aN0 : Az) (aLies1 : List Int) (aT2 : AB) (aFar3 : Int) : Option BF :=
 ((eD aN0 aLies1).bind fun v4 => ((bif !v4 then some true else ((eE aN0 aT2).bind fun v6 => some (!v6))).bind fun t5 => ((bif t5 then some true else ((XZ aFar3 (0:Int) (10000:Int)).bind fun v8 => some (!v8))).bind fun t7 => (bif t7 then some ({ Code := (5:Int), MT := 0, AO := 0, AB := ({ A5 := ({ A0 := 0, At := 0, Way := 0 } : CG), AI := 0, AF := ([] : List AW) } : AB), Dp := ([] : List BD) } : BF) else ((iU aN0 aLies1 aT2 aFar3).bind fun v9 => some v9)))))
theorem Tc (hk : cQ aN0 aLies1 aT2 aFar3 = some r) (hlk : 0 < lk.length := by simp) : ∃ v H1, Ai ah hh 10 [.agg [A7 l1 0 aN0.A3, A7 l2 m3 aN0.A1], A7 l4 0 aLies1, .agg [iv aT2.A5.A0, iv aT2.A5.At, iv aT2.A5.Way, iv aT2.AI, A7 l5 0 aT2.AF], iv aFar3] H lk = some (v, H1) ∧ HM H r v H1 := by
 refine BA Tryz.func10 rfl Tryz.ntmps10 Tryz.results10 rfl rfl ?_
 have hO := A8.nil H
 unfold cQ at hk
 refine sr (Ax (cs := [_, _]) hO B2 (fun b1 G hO => ?_))
 refine Ax (cs := [_, _, _, _, _]) hO Bt (fun b2 G hO => Bd hO Cc LX (fun b3 G hO => pg (AX (sr ?_))))
 refine Bj hO 2 [_, _] CL B2 ?_
 refine pM (.lit _ _ _) (bk hk fun v4 hv4 hk => ?_)
 refine AL (fun _ => Y0 hv4) ?_
 refine pU ?_
 refine pM (.bool _) (bk hk fun t5 ht hk => ?_)
 refine AQ (l1 := [_, _, _, _, _]) (fun S' => ∃ J, S' = ⟨Aq [(1, A7 l4 0 aLies1),(3, iv aFar3),(4, .ptr b1 0),(6, .ptr b2 0),(8, .ptr b3 0),(18, .bool t5)] J, G⟩) ?_ ?_
 ·refine bc (b := !v4) ?_ ?_ <;> intro hg
  ·replace hk := ct hg ht
   repeat refine Bu hg ?_
   refine EJ hg (.bool _) ?_
   cases hk; exact pE ⟨_, sh⟩
  replace hk := cf hg ht
  refine Ae hg (Bj hO 2 [_, _] CL B2 (Ae hg ?_))
  refine Bj hO 1 [_, _, _, _, _] Eh Bt (Ae hg (bk hk fun v6 hv6 hk => ?_))
  refine AL (fun _ => Y1 hv6) (Ae hg ?_)
  refine pU ?_
  refine EI hg (.bool _) ?_
  cases hk; exact pE ⟨_, sh⟩
 rintro _ ⟨J, rfl⟩
 refine pM (.bool _) (bk hk fun t7 ht hk => ?_)
 refine AQ (l1 := [_, _, _, _]) (fun S' => ∃ J, S' = ⟨Aq [(1, A7 l4 0 aLies1),(3, iv aFar3),(4, .ptr b1 0),(6, .ptr b2 0),(8, .ptr b3 0),(23, .bool t7)] J, G⟩) ?_ ?_
 ·refine bc (b := t5) ?_ ?_ <;> intro hg
  ·replace hk := ct hg ht
   refine Bu hg (Bu hg (Bu hg (EJ hg (.bool _) ?_)))
   cases hk; exact pE ⟨_, sh⟩
  replace hk := cf hg ht
  refine Ae hg (pM (.int _ _) (Ae hg (bk hk fun v8 hv8 hk => ?_)))
  refine AL (fun _ => JE hv8) (Ae hg ?_)
  refine pU ?_
  refine EI hg (.bool _) ?_
  cases hk; exact pE ⟨_, sh⟩
 rintro _ ⟨J, rfl⟩
 refine pg (B1 hk ?_ ?_) <;> intro hk
 ·refine sr (HS [_, _, _, _, _, _, _, _, _] LX ZK ?_)
  refine Jv (xs := [_, _, _, _, _, _, _, _, _]) [_, _, _, _, _, _, _, _, _] hO 0 Cc rfl (fun G hO => pg (Ak (gr ?_)))
  replace hk := an hk; subst hk; exact Ez hO (Ew (Ad (c1 := [_]) (Bo (5:Int)) (Ad (c1 := [_]) (Bo 0) (Ad (c1 := [_]) (Bo 0) (Ad (c1 := [_, _, _, _, _]) (ET (Ad (c1 := [_, _, _]) (Jd (α := CG) ({ A0 := 0, At := 0, Way := 0 } : CG)) (Ad (c1 := [_]) (Bo 0) (LZ AW)))) (LZ BD)))))) (Cb hO 0 [_, _, _, _, _, _, _, _, _] GA Cc Bh)
 refine B7 (gn (sr (Bj hO 2 [_, _] CL B2 ?_)))
 refine pM (.lit _ _ _) ?_
 refine Bj hO 1 [_, _, _, _, _] Eh Bt ?_
 refine pM (.int _ _) (bk hk fun v9 hv9 hk => ?_)
 refine IW hO (fun _ => Y2 hv9) (fun u10 F10 G hO => ?_)
 refine Ri hO 1 0 Cc rfl (fun G hO => pg (Ak ?_))
 replace hk := an hk; subst hk; exact Ez hO (GQ 0) (Zg hO 1 0 GA Cc Bh)
def eI (aA0 : CG) (aB1 : CG) : Option Bool :=
 (bif (aA0.A0 != aB1.A0) then some false else (bif (aA0.At != aB1.At) then some false else (bif (aA0.Way != aB1.Way) then some false else some true)))
theorem Y6 (hk : eI aA0 aB1 = some r) (hlk : 0 < lk.length := by simp) : Ai ah hh 36 [.agg [iv aA0.A0, iv aA0.At, iv aA0.Way], .agg [iv aB1.A0, iv aB1.At, iv aB1.Way]] H lk = some (.bool r, H) := by
 refine AA Tryz.func36 rfl Tryz.ntmps36 Tryz.results36 rfl rfl fun hO => ?_
 unfold eI at hk
 refine sr (Ax (cs := [_, _, _]) hO EC (fun b1 G hO => ?_))
 refine Ax (cs := [_, _, _]) hO EC (fun b2 G hO => ?_)
 refine pA (.bool _) (pg (AX (sr ?_)))
 refine Ao DT hO 1 (.int _ _) B5 ?_
 refine Ao DT hO 0 (.int _ _) B5 ?_
 refine AR (pg (B1 hk ?_ ?_)) <;> intro hk
 ·refine sr (pA (.bool _) (pg (Ak (gr ?_))))
  cases hk; exact AU hO
 refine B7 (gn (AX (sr (Ao Ej hO 1 (.int _ _) B5 ?_))))
 refine Ao Ej hO 0 (.int _ _) B5 ?_
 refine AR (pg (B1 hk ?_ ?_)) <;> intro hk
 ·refine sr (pA (.bool _) (pg (Ak (gr ?_))))
  cases hk; exact AU hO
 refine B7 (gn (AX (sr (Ao DU hO 1 (.int _ _) B5 ?_))))
 refine Ao DU hO 0 (.int _ _) B5 ?_
 refine AR (pg (B1 hk ?_ ?_)) <;> intro hk
 ·refine sr (pA (.bool _) (pg (Ak (gr ?_))))
  cases hk; exact AU hO
 refine B7 (gn (sr (pA (.bool _) (pg (Ak ?_)))))
 cases hk; exact AU hO
def fI (aA0 : AW) (aB1 : AW) : Option Bool :=
 (bif (aA0.A0 != aB1.A0) then some false else (bif (aA0.Way != aB1.Way) then some false else some true))
theorem Yb (hk : fI aA0 aB1 = some r) (hlk : 0 < lk.length := by simp) : Ai ah hh 80 [.agg [iv aA0.A0, iv aA0.Way], .agg [iv aB1.A0, iv aB1.Way]] H lk = some (.bool r, H) := by
 refine AA Tryz.func80 rfl Tryz.ntmps80 Tryz.results80 rfl rfl fun hO => ?_
 unfold fI at hk
 refine sr (Ax (cs := [_, _]) hO BY (fun b1 G hO => ?_))
 refine Ax (cs := [_, _]) hO BY (fun b2 G hO => ?_)
 refine pA (.bool _) (pg (AX (sr ?_)))
 refine Ao EG hO 1 (.int _ _) B5 ?_
 refine Ao EG hO 0 (.int _ _) B5 ?_
 refine AR (pg (B1 hk ?_ ?_)) <;> intro hk
 ·refine sr (pA (.bool _) (pg (Ak (gr ?_))))
  cases hk; exact AU hO
 refine B7 (gn (AX (sr (Ao Ek hO 1 (.int _ _) B5 ?_))))
 refine Ao Ek hO 0 (.int _ _) B5 ?_
 refine AR (pg (B1 hk ?_ ?_)) <;> intro hk
 ·refine sr (pA (.bool _) (pg (Ak (gr ?_))))
  cases hk; exact AU hO
 refine B7 (gn (sr (pA (.bool _) (pg (Ak ?_)))))
 cases hk; exact AU hO
def Mw (aA0 : List AW) (aB1 : List AW) : Int → Option (Int ⊕ Bool) := fun s =>
 (bif decide (s < (aA0.length : Int)) then ((Aa aA0 s).bind fun c2 => ((Aa aB1 s).bind fun c3 => ((fI c2 c3).bind fun v4 => (bif !v4 then ((some false).map Sum.inr) else some (.inl (AV (s + 1))))))) else ((some true).map Sum.inr))
def eJ (aA0 : List AW) (aB1 : List AW) : Option Bool :=
 (bif ((aA0.length : Int) != (aB1.length : Int)) then some false else (AP (Mw aA0 aB1) ((0:Int))))
theorem Y7 (hk : eJ aA0 aB1 = some r) (hlk : 0 < lk.length := by simp) : Ai ah hh 37 [A7 l1 0 aA0, A7 l2 0 aB1] H lk = some (.bool r, H) := by
 refine AA Tryz.func37 rfl Tryz.ntmps37 Tryz.results37 rfl rfl fun hO => ?_
 unfold eJ at hk
 refine sr (pA (.bool _) (pg (AX (sr ?_))))
 refine pM (.lit _ _ _) ?_
 refine BC K1 ?_
 refine pM (.lit _ _ _) ?_
 refine BC K1 ?_
 refine AR (pg (B1 hk ?_ ?_)) <;> intro hk
 ·refine sr (pA (.bool _) (pg (Ak (gr ?_))))
  cases hk; exact AU hO
 refine B7 (gn (AX (sr (pA (.int _ _) (pg (CE ?_))))))
 refine AJ (F := Mw aA0 aB1) (fun s S' => ∃ J G, A8 H G [] ∧ S' = ⟨Aq [(0, A7 l1 0 aA0),(1, A7 l2 0 aB1),(5, iv s)] J, G⟩) hk ⟨_, _, hO, sh⟩ ?_
 rintro x1 _ y1 ⟨J, G, hO, rfl⟩ hk hx1
 refine AX (sr (pM (.int _ _) ?_))
 refine pM (.lit _ _ _) ?_
 refine BC K1 ?_
 refine AR (pg (B1 hk ?_ ?_)) <;> intro hk
 ·refine B7 (gn (AX (CE (AX (Hz [1,3,5,7,9,11,13,15,16,18] [_,_,_,_,_,_,_,_,_,_] ?_)))))
  refine pM (.lit _ _ _) ?_
  refine pM (.int _ _) (bk hk fun c2 hc2 hk => ?_)
  refine pX hc2 GB BY ?_
  refine DG (.agg [_, _]) (Fh (lm := 0) (off := 0) hc2 Gk BY) ?_
  refine pM (.lit _ _ _) ?_
  refine pM (.int _ _) (bk hk fun c3 hc3 hk => ?_)
  refine pX hc3 GB BY ?_
  refine DG (.agg [_, _]) (Fh (lm := 0) (off := 0) hc3 Gk BY) (bk hk fun v4 hv4 hk => ?_)
  refine AL (fun _ => Yb hv4) ?_
  refine pU (pg (B1 hk ?_ ?_)) <;> intro hk
  ·refine sr (pA (.bool _) (pg (Ak (br (gr (gr (br (gr (have hk := lx hx1 hk; ?_)))))))))
   cases hk; exact AU hO
  refine B7 (bn (gn (Da (pM (.int _ _) ?_))))
  refine AR ?_
  refine pA (.int _ _) (pg ?_)
  cases hk; exact ⟨_, rfl, _, _, hO, sh⟩
 refine Eo (ge (ge (be (gn (have hk := lx hx1 hk; sr (pA (.bool _) (pg (Ak ?_))))))))
 cases hk; exact AU hO
def cR (aA0 : AB) (aB1 : AB) : Option Bool :=
 ((eI aA0.A5 aB1.A5).bind fun v3 => (bif !v3 then some false else (bif (aA0.AI != aB1.AI) then some false else ((eJ aA0.AF aB1.AF).bind fun v4 => (bif !v4 then some false else some true)))))
theorem Td (hk : cR aA0 aB1 = some r) (hlk : 0 < lk.length := by simp) : Ai ah hh 14 [.agg [iv aA0.A5.A0, iv aA0.A5.At, iv aA0.A5.Way, iv aA0.AI, A7 l1 0 aA0.AF], .agg [iv aB1.A5.A0, iv aB1.A5.At, iv aB1.A5.Way, iv aB1.AI, A7 l2 0 aB1.AF]] H lk = some (.bool r, H) := by
 refine AA Tryz.func14 rfl Tryz.ntmps14 Tryz.results14 rfl rfl fun hO => ?_
 unfold cR at hk
 refine sr (Ax (cs := [_, _, _, _, _]) hO Bt (fun b1 G hO => ?_))
 refine Ax (cs := [_, _, _, _, _]) hO Bt (fun b2 G hO => ?_)
 refine pA (.bool _) (pg (AX (sr ?_)))
 refine pF CR ?_
 refine Bj hO 1 [_, _, _] J8 EC ?_
 refine pF CR ?_
 refine Bj hO 0 [_, _, _] J8 EC (bk hk fun v3 hv3 hk => ?_)
 refine AL (fun _ => Y6 hv3) ?_
 refine pU (pg (B1 hk ?_ ?_)) <;> intro hk
 ·refine sr (pA (.bool _) (pg (Ak (gr ?_))))
  cases hk; exact AU hO
 refine B7 (gn (AX (sr (Ao GC hO 1 (.int _ _) B5 ?_))))
 refine Ao GC hO 0 (.int _ _) B5 ?_
 refine AR (pg (B1 hk ?_ ?_)) <;> intro hk
 ·refine sr (pA (.bool _) (pg (Ak (gr ?_))))
  cases hk; exact AU hO
 refine B7 (gn (AX (sr (Ao DD hO 1 (.lit _ _ _) IY ?_))))
 refine Ao DD hO 0 (.lit _ _ _) IY (bk hk fun v4 hv4 hk => ?_)
 refine AL (fun _ => Y7 hv4) ?_
 refine pU (pg (B1 hk ?_ ?_)) <;> intro hk
 ·refine sr (pA (.bool _) (pg (Ak (gr ?_))))
  cases hk; exact AU hO
 refine B7 (gn (sr (pA (.bool _) (pg (Ak ?_)))))
 cases hk; exact AU hO
def fE (aA0 : BD) (aB1 : BD) : Option Bool :=
 (bif (aA0.A0 != aB1.A0) then some false else (bif (aA0.GV != aB1.GV) then some false else (bif (aA0.To != aB1.To) then some false else some true)))
theorem YY (hk : fE aA0 aB1 = some r) (hlk : 0 < lk.length := by simp) : Ai ah hh 77 [.agg [iv aA0.A0, iv aA0.GV, iv aA0.To], .agg [iv aB1.A0, iv aB1.GV, iv aB1.To]] H lk = some (.bool r, H) := by
 refine AA Tryz.func77 rfl Tryz.ntmps77 Tryz.results77 rfl rfl fun hO => ?_
 unfold fE at hk
 refine sr (Ax (cs := [_, _, _]) hO Gr (fun b1 G hO => ?_))
 refine Ax (cs := [_, _, _]) hO Gr (fun b2 G hO => ?_)
 refine pA (.bool _) (pg (AX (sr ?_)))
 refine Ao Qg hO 1 (.int _ _) B5 ?_
 refine Ao Qg hO 0 (.int _ _) B5 ?_
 refine AR (pg (B1 hk ?_ ?_)) <;> intro hk
 ·refine sr (pA (.bool _) (pg (Ak (gr ?_))))
  cases hk; exact AU hO
 refine B7 (gn (AX (sr (Ao Qh hO 1 (.int _ _) B5 ?_))))
 refine Ao Qh hO 0 (.int _ _) B5 ?_
 refine AR (pg (B1 hk ?_ ?_)) <;> intro hk
 ·refine sr (pA (.bool _) (pg (Ak (gr ?_))))
  cases hk; exact AU hO
 refine B7 (gn (AX (sr (Ao Qi hO 1 (.int _ _) B5 ?_))))
 refine Ao Qi hO 0 (.int _ _) B5 ?_
 refine AR (pg (B1 hk ?_ ?_)) <;> intro hk
 ·refine sr (pA (.bool _) (pg (Ak (gr ?_))))
  cases hk; exact AU hO
 refine B7 (gn (sr (pA (.bool _) (pg (Ak ?_)))))
 cases hk; exact AU hO
def Mt (aA0 : List BD) (aB1 : List BD) : Int → Option (Int ⊕ Bool) := fun s =>
 (bif decide (s < (aA0.length : Int)) then ((Aa aA0 s).bind fun c2 => ((Aa aB1 s).bind fun c3 => ((fE c2 c3).bind fun v4 => (bif !v4 then ((some false).map Sum.inr) else some (.inl (AV (s + 1))))))) else ((some true).map Sum.inr))
def eF (aA0 : List BD) (aB1 : List BD) : Option Bool :=
 (bif ((aA0.length : Int) != (aB1.length : Int)) then some false else (AP (Mt aA0 aB1) ((0:Int))))
theorem Y3 (hk : eF aA0 aB1 = some r) (hlk : 0 < lk.length := by simp) : Ai ah hh 33 [A7 l1 0 aA0, A7 l2 0 aB1] H lk = some (.bool r, H) := by
 refine AA Tryz.func33 rfl Tryz.ntmps33 Tryz.results33 rfl rfl fun hO => ?_
 unfold eF at hk
 refine sr (pA (.bool _) (pg (AX (sr ?_))))
 refine pM (.lit _ _ _) ?_
 refine BC XE ?_
 refine pM (.lit _ _ _) ?_
 refine BC XE ?_
 refine AR (pg (B1 hk ?_ ?_)) <;> intro hk
 ·refine sr (pA (.bool _) (pg (Ak (gr ?_))))
  cases hk; exact AU hO
 refine B7 (gn (AX (sr (pA (.int _ _) (pg (CE ?_))))))
 refine AJ (F := Mt aA0 aB1) (fun s S' => ∃ J G, A8 H G [] ∧ S' = ⟨Aq [(0, A7 l1 0 aA0),(1, A7 l2 0 aB1),(5, iv s)] J, G⟩) hk ⟨_, _, hO, sh⟩ ?_
 rintro x1 _ y1 ⟨J, G, hO, rfl⟩ hk hx1
 refine AX (sr (pM (.int _ _) ?_))
 refine pM (.lit _ _ _) ?_
 refine BC XE ?_
 refine AR (pg (B1 hk ?_ ?_)) <;> intro hk
 ·refine B7 (gn (AX (CE (AX (Hz [1,3,5,7,9,11,13,15,16,18] [_,_,_,_,_,_,_,_,_,_] ?_)))))
  refine pM (.lit _ _ _) ?_
  refine pM (.int _ _) (bk hk fun c2 hc2 hk => ?_)
  refine pX hc2 Kg Gr ?_
  refine DG (.agg [_, _, _]) (Fh (lm := 0) (off := 0) hc2 ZB Gr) ?_
  refine pM (.lit _ _ _) ?_
  refine pM (.int _ _) (bk hk fun c3 hc3 hk => ?_)
  refine pX hc3 Kg Gr ?_
  refine DG (.agg [_, _, _]) (Fh (lm := 0) (off := 0) hc3 ZB Gr) (bk hk fun v4 hv4 hk => ?_)
  refine AL (fun _ => YY hv4) ?_
  refine pU (pg (B1 hk ?_ ?_)) <;> intro hk
  ·refine sr (pA (.bool _) (pg (Ak (br (gr (gr (br (gr (have hk := lx hx1 hk; ?_)))))))))
   cases hk; exact AU hO
  refine B7 (bn (gn (Da (pM (.int _ _) ?_))))
  refine AR ?_
  refine pA (.int _ _) (pg ?_)
  cases hk; exact ⟨_, rfl, _, _, hO, sh⟩
 refine Eo (ge (ge (be (gn (have hk := lx hx1 hk; sr (pA (.bool _) (pg (Ak ?_))))))))
 cases hk; exact AU hO
def Zu (aA0 : BF) (aB1 : BF) : Option Bool :=
 (bif (aA0.Code != aB1.Code) then some false else (bif (aA0.MT != aB1.MT) then some false else (bif (aA0.AO != aB1.AO) then some false else ((cR aA0.AB aB1.AB).bind fun v3 => (bif !v3 then some false else ((eF aA0.Dp aB1.Dp).bind fun v4 => (bif !v4 then some false else some true)))))))
theorem Pk (hk : Zu aA0 aB1 = some r) (hlk : 0 < lk.length := by simp) : Ai ah hh 11 [.agg [iv aA0.Code, iv aA0.MT, iv aA0.AO, iv aA0.AB.A5.A0, iv aA0.AB.A5.At, iv aA0.AB.A5.Way, iv aA0.AB.AI, A7 l1 0 aA0.AB.AF, A7 l2 0 aA0.Dp], .agg [iv aB1.Code, iv aB1.MT, iv aB1.AO, iv aB1.AB.A5.A0, iv aB1.AB.A5.At, iv aB1.AB.A5.Way, iv aB1.AB.AI, A7 l3 0 aB1.AB.AF, A7 l4 0 aB1.Dp]] H lk = some (.bool r, H) := by
 refine AA Tryz.func11 rfl Tryz.ntmps11 Tryz.results11 rfl rfl fun hO => ?_
 unfold Zu at hk
 refine sr (Ax (cs := [_, _, _, _, _, _, _, _, _]) hO Cc (fun b1 G hO => ?_))
 refine Ax (cs := [_, _, _, _, _, _, _, _, _]) hO Cc (fun b2 G hO => ?_)
 refine pA (.bool _) (pg (AX (sr ?_)))
 refine Ao J9 hO 1 (.int _ _) B5 ?_
 refine Ao J9 hO 0 (.int _ _) B5 ?_
 refine AR (pg (B1 hk ?_ ?_)) <;> intro hk
 ·refine sr (pA (.bool _) (pg (Ak (gr ?_))))
  cases hk; exact AU hO
 refine B7 (gn (AX (sr (Ao Gl hO 1 (.int _ _) B5 ?_))))
 refine Ao Gl hO 0 (.int _ _) B5 ?_
 refine AR (pg (B1 hk ?_ ?_)) <;> intro hk
 ·refine sr (pA (.bool _) (pg (Ak (gr ?_))))
  cases hk; exact AU hO
 refine B7 (gn (AX (sr (Ao LY hO 1 (.int _ _) B5 ?_))))
 refine Ao LY hO 0 (.int _ _) B5 ?_
 refine AR (pg (B1 hk ?_ ?_)) <;> intro hk
 ·refine sr (pA (.bool _) (pg (Ak (gr ?_))))
  cases hk; exact AU hO
 refine B7 (gn (AX (sr (pF DE ?_))))
 refine Bj hO 1 [_, _, _, _, _] Eh Bt ?_
 refine pF DE ?_
 refine Bj hO 0 [_, _, _, _, _] Eh Bt (bk hk fun v3 hv3 hk => ?_)
 refine AL (fun _ => Td hv3) ?_
 refine pU (pg (B1 hk ?_ ?_)) <;> intro hk
 ·refine sr (pA (.bool _) (pg (Ak (gr ?_))))
  cases hk; exact AU hO
 refine B7 (gn (AX (sr (Ao JA hO 1 (.lit _ _ _) VO ?_))))
 refine Ao JA hO 0 (.lit _ _ _) VO (bk hk fun v4 hv4 hk => ?_)
 refine AL (fun _ => Y3 hv4) ?_
 refine pU (pg (B1 hk ?_ ?_)) <;> intro hk
 ·refine sr (pA (.bool _) (pg (Ak (gr ?_))))
  cases hk; exact AU hO
 refine B7 (gn (sr (pA (.bool _) (pg (Ak ?_)))))
 cases hk; exact AU hO
def fF (aA0 : A0) (aB1 : A0) : Option Bool :=
 (bif !(aA0.Name.toList == aB1.Name.toList) then some false else (bif (aA0.BN != aB1.BN) then some false else (bif (aA0.Bv != aB1.Bv) then some false else (bif (aA0.CX != aB1.CX) then some false else some true))))
theorem YZ (hk : fF aA0 aB1 = some r) (hlk : 0 < lk.length := by simp) : Ai ah hh 78 [.agg [.str aA0.Name, iv aA0.BN, iv aA0.Bv, iv aA0.CX], .agg [.str aB1.Name, iv aB1.BN, iv aB1.Bv, iv aB1.CX]] H lk = some (.bool r, H) := by
 refine AA Tryz.func78 rfl Tryz.ntmps78 Tryz.results78 rfl rfl fun hO => ?_
 unfold fF at hk
 refine sr (Ax (cs := [_, _, _, _]) hO C2 (fun b1 G hO => ?_))
 refine Ax (cs := [_, _, _, _]) hO C2 (fun b2 G hO => ?_)
 refine pA (.bool _) (pg (AX (sr ?_)))
 refine Ao Fp hO 1 (.str _) OO ?_
 refine Ao Fp hO 0 (.str _) OO ?_
 refine pB (a := .str _) (b := .str _) (pg (B1 hk ?_ ?_)) <;> intro hk
 ·refine sr (pA (.bool _) (pg (Ak (gr ?_))))
  cases hk; exact AU hO
 refine B7 (gn (AX (sr (Ao Ci hO 1 (.int _ _) B5 ?_))))
 refine Ao Ci hO 0 (.int _ _) B5 ?_
 refine AR (pg (B1 hk ?_ ?_)) <;> intro hk
 ·refine sr (pA (.bool _) (pg (Ak (gr ?_))))
  cases hk; exact AU hO
 refine B7 (gn (AX (sr (Ao IL hO 1 (.int _ _) B5 ?_))))
 refine Ao IL hO 0 (.int _ _) B5 ?_
 refine AR (pg (B1 hk ?_ ?_)) <;> intro hk
 ·refine sr (pA (.bool _) (pg (Ak (gr ?_))))
  cases hk; exact AU hO
 refine B7 (gn (AX (sr (Ao IM hO 1 (.int _ _) B5 ?_))))
 refine Ao IM hO 0 (.int _ _) B5 ?_
 refine AR (pg (B1 hk ?_ ?_)) <;> intro hk
 ·refine sr (pA (.bool _) (pg (Ak (gr ?_))))
  cases hk; exact AU hO
 refine B7 (gn (sr (pA (.bool _) (pg (Ak ?_)))))
 cases hk; exact AU hO
def Mu (aA0 : List A0) (aB1 : List A0) : Int → Option (Int ⊕ Bool) := fun s =>
 (bif decide (s < (aA0.length : Int)) then ((Aa aA0 s).bind fun c2 => ((Aa aB1 s).bind fun c3 => ((fF c2 c3).bind fun v4 => (bif !v4 then ((some false).map Sum.inr) else some (.inl (AV (s + 1))))))) else ((some true).map Sum.inr))
def eG (aA0 : List A0) (aB1 : List A0) : Option Bool :=
 (bif ((aA0.length : Int) != (aB1.length : Int)) then some false else (AP (Mu aA0 aB1) ((0:Int))))
theorem Y4 (hk : eG aA0 aB1 = some r) (hlk : 0 < lk.length := by simp) : Ai ah hh 34 [A7 l1 0 aA0, A7 l2 0 aB1] H lk = some (.bool r, H) := by
 refine AA Tryz.func34 rfl Tryz.ntmps34 Tryz.results34 rfl rfl fun hO => ?_
 unfold eG at hk
 refine sr (pA (.bool _) (pg (AX (sr ?_))))
 refine pM (.lit _ _ _) ?_
 refine BC IZ ?_
 refine pM (.lit _ _ _) ?_
 refine BC IZ ?_
 refine AR (pg (B1 hk ?_ ?_)) <;> intro hk
 ·refine sr (pA (.bool _) (pg (Ak (gr ?_))))
  cases hk; exact AU hO
 refine B7 (gn (AX (sr (pA (.int _ _) (pg (CE ?_))))))
 refine AJ (F := Mu aA0 aB1) (fun s S' => ∃ J G, A8 H G [] ∧ S' = ⟨Aq [(0, A7 l1 0 aA0),(1, A7 l2 0 aB1),(5, iv s)] J, G⟩) hk ⟨_, _, hO, sh⟩ ?_
 rintro x1 _ y1 ⟨J, G, hO, rfl⟩ hk hx1
 refine AX (sr (pM (.int _ _) ?_))
 refine pM (.lit _ _ _) ?_
 refine BC IZ ?_
 refine AR (pg (B1 hk ?_ ?_)) <;> intro hk
 ·refine B7 (gn (AX (CE (AX (Hz [1,3,5,7,9,11,13,15,16,18] [_,_,_,_,_,_,_,_,_,_] ?_)))))
  refine pM (.lit _ _ _) ?_
  refine pM (.int _ _) (bk hk fun c2 hc2 hk => ?_)
  refine pX hc2 GP C2 ?_
  refine DG (.agg [_, _, _, _]) (Fh (lm := 0) (off := 0) hc2 OI C2) ?_
  refine pM (.lit _ _ _) ?_
  refine pM (.int _ _) (bk hk fun c3 hc3 hk => ?_)
  refine pX hc3 GP C2 ?_
  refine DG (.agg [_, _, _, _]) (Fh (lm := 0) (off := 0) hc3 OI C2) (bk hk fun v4 hv4 hk => ?_)
  refine AL (fun _ => YZ hv4) ?_
  refine pU (pg (B1 hk ?_ ?_)) <;> intro hk
  ·refine sr (pA (.bool _) (pg (Ak (br (gr (gr (br (gr (have hk := lx hx1 hk; ?_)))))))))
   cases hk; exact AU hO
  refine B7 (bn (gn (Da (pM (.int _ _) ?_))))
  refine AR ?_
  refine pA (.int _ _) (pg ?_)
  cases hk; exact ⟨_, rfl, _, _, hO, sh⟩
 refine Eo (ge (ge (be (gn (have hk := lx hx1 hk; sr (pA (.bool _) (pg (Ak ?_))))))))
 cases hk; exact AU hO
def Vu (aA0 : Ay) (aB1 : Ay) : Option Bool :=
 (bif (aA0.A0 != aB1.A0) then some false else (bif (aA0.B9 != aB1.B9) then some false else some true))
theorem Vv (hk : Vu aA0 aB1 = some r) (hlk : 0 < lk.length := by simp) : Ai ah hh 100 [.agg [iv aA0.A0, iv aA0.B9], .agg [iv aB1.A0, iv aB1.B9]] H lk = some (.bool r, H) := by
 refine AA Tryz.func100 rfl Tryz.ntmps100 Tryz.results100 rfl rfl fun hO => ?_
 unfold Vu at hk
 refine sr (Ax (cs := [_, _]) hO AS (fun b1 G hO => ?_))
 refine Ax (cs := [_, _]) hO AS (fun b2 G hO => ?_)
 refine pA (.bool _) (pg (AX (sr ?_)))
 refine Ao Fi hO 1 (.int _ _) B5 ?_
 refine Ao Fi hO 0 (.int _ _) B5 ?_
 refine AR (pg (B1 hk ?_ ?_)) <;> intro hk
 ·refine sr (pA (.bool _) (pg (Ak (gr ?_))))
  cases hk; exact AU hO
 refine B7 (gn (AX (sr (Ao IN hO 1 (.int _ _) B5 ?_))))
 refine Ao IN hO 0 (.int _ _) B5 ?_
 refine AR (pg (B1 hk ?_ ?_)) <;> intro hk
 ·refine sr (pA (.bool _) (pg (Ak (gr ?_))))
  cases hk; exact AU hO
 refine B7 (gn (sr (pA (.bool _) (pg (Ak ?_)))))
 cases hk; exact AU hO
def NH (aA0 : List Ay) (aB1 : List Ay) : Int → Option (Int ⊕ Bool) := fun s =>
 (bif decide (s < (aA0.length : Int)) then ((Aa aA0 s).bind fun c2 => ((Aa aB1 s).bind fun c3 => ((Vu c2 c3).bind fun v4 => (bif !v4 then ((some false).map Sum.inr) else some (.inl (AV (s + 1))))))) else ((some true).map Sum.inr))
def fU (aA0 : List Ay) (aB1 : List Ay) : Option Bool :=
 (bif ((aA0.length : Int) != (aB1.length : Int)) then some false else (AP (NH aA0 aB1) ((0:Int))))
theorem Ym (hk : fU aA0 aB1 = some r) (hlk : 0 < lk.length := by simp) : Ai ah hh 95 [A7 l1 0 aA0, A7 l2 0 aB1] H lk = some (.bool r, H) := by
 refine AA Tryz.func95 rfl Tryz.ntmps95 Tryz.results95 rfl rfl fun hO => ?_
 unfold fU at hk
 refine sr (pA (.bool _) (pg (AX (sr ?_))))
 refine pM (.lit _ _ _) ?_
 refine BC HK ?_
 refine pM (.lit _ _ _) ?_
 refine BC HK ?_
 refine AR (pg (B1 hk ?_ ?_)) <;> intro hk
 ·refine sr (pA (.bool _) (pg (Ak (gr ?_))))
  cases hk; exact AU hO
 refine B7 (gn (AX (sr (pA (.int _ _) (pg (CE ?_))))))
 refine AJ (F := NH aA0 aB1) (fun s S' => ∃ J G, A8 H G [] ∧ S' = ⟨Aq [(0, A7 l1 0 aA0),(1, A7 l2 0 aB1),(5, iv s)] J, G⟩) hk ⟨_, _, hO, sh⟩ ?_
 rintro x1 _ y1 ⟨J, G, hO, rfl⟩ hk hx1
 refine AX (sr (pM (.int _ _) ?_))
 refine pM (.lit _ _ _) ?_
 refine BC HK ?_
 refine AR (pg (B1 hk ?_ ?_)) <;> intro hk
 ·refine B7 (gn (AX (CE (AX (Hz [1,3,5,7,9,11,13,15,16,18] [_,_,_,_,_,_,_,_,_,_] ?_)))))
  refine pM (.lit _ _ _) ?_
  refine pM (.int _ _) (bk hk fun c2 hc2 hk => ?_)
  refine pX hc2 CT AS ?_
  refine DG (.agg [_, _]) (Fh (lm := 0) (off := 0) hc2 Bz AS) ?_
  refine pM (.lit _ _ _) ?_
  refine pM (.int _ _) (bk hk fun c3 hc3 hk => ?_)
  refine pX hc3 CT AS ?_
  refine DG (.agg [_, _]) (Fh (lm := 0) (off := 0) hc3 Bz AS) (bk hk fun v4 hv4 hk => ?_)
  refine AL (fun _ => Vv hv4) ?_
  refine pU (pg (B1 hk ?_ ?_)) <;> intro hk
  ·refine sr (pA (.bool _) (pg (Ak (br (gr (gr (br (gr (have hk := lx hx1 hk; ?_)))))))))
   cases hk; exact AU hO
  refine B7 (bn (gn (Da (pM (.int _ _) ?_))))
  refine AR ?_
  refine pA (.int _ _) (pg ?_)
  cases hk; exact ⟨_, rfl, _, _, hO, sh⟩
 refine Eo (ge (ge (be (gn (have hk := lx hx1 hk; sr (pA (.bool _) (pg (Ak ?_))))))))
 cases hk; exact AU hO
def fG (aA0 : AO) (aB1 : AO) : Option Bool :=
 (bif (aA0.Kind != aB1.Kind) then some false else (bif !(aA0.Name.toList == aB1.Name.toList) then some false else ((fU aA0.Ends aB1.Ends).bind fun v3 => (bif !v3 then some false else some true))))
theorem Ya (hk : fG aA0 aB1 = some r) (hlk : 0 < lk.length := by simp) : Ai ah hh 79 [.agg [iv aA0.Kind, .str aA0.Name, A7 l1 0 aA0.Ends], .agg [iv aB1.Kind, .str aB1.Name, A7 l2 0 aB1.Ends]] H lk = some (.bool r, H) := by
 refine AA Tryz.func79 rfl Tryz.ntmps79 Tryz.results79 rfl rfl fun hO => ?_
 unfold fG at hk
 refine sr (Ax (cs := [_, _, _]) hO BL (fun b1 G hO => ?_))
 refine Ax (cs := [_, _, _]) hO BL (fun b2 G hO => ?_)
 refine pA (.bool _) (pg (AX (sr ?_)))
 refine Ao DF hO 1 (.int _ _) B5 ?_
 refine Ao DF hO 0 (.int _ _) B5 ?_
 refine AR (pg (B1 hk ?_ ?_)) <;> intro hk
 ·refine sr (pA (.bool _) (pg (Ak (gr ?_))))
  cases hk; exact AU hO
 refine B7 (gn (AX (sr (Ao EY hO 1 (.str _) OO ?_))))
 refine Ao EY hO 0 (.str _) OO ?_
 refine pB (a := .str _) (b := .str _) (pg (B1 hk ?_ ?_)) <;> intro hk
 ·refine sr (pA (.bool _) (pg (Ak (gr ?_))))
  cases hk; exact AU hO
 refine B7 (gn (AX (sr (Ao Cu hO 1 (.lit _ _ _) FQ ?_))))
 refine Ao Cu hO 0 (.lit _ _ _) FQ (bk hk fun v3 hv3 hk => ?_)
 refine AL (fun _ => Ym hv3) ?_
 refine pU (pg (B1 hk ?_ ?_)) <;> intro hk
 ·refine sr (pA (.bool _) (pg (Ak (gr ?_))))
  cases hk; exact AU hO
 refine B7 (gn (sr (pA (.bool _) (pg (Ak ?_)))))
 cases hk; exact AU hO
def Mv (aA0 : List AO) (aB1 : List AO) : Int → Option (Int ⊕ Bool) := fun s =>
 (bif decide (s < (aA0.length : Int)) then ((Aa aA0 s).bind fun c2 => ((Aa aB1 s).bind fun c3 => ((fG c2 c3).bind fun v4 => (bif !v4 then ((some false).map Sum.inr) else some (.inl (AV (s + 1))))))) else ((some true).map Sum.inr))
def eH (aA0 : List AO) (aB1 : List AO) : Option Bool :=
 (bif ((aA0.length : Int) != (aB1.length : Int)) then some false else (AP (Mv aA0 aB1) ((0:Int))))
theorem Y5 (hk : eH aA0 aB1 = some r) (hlk : 0 < lk.length := by simp) : Ai ah hh 35 [A7 l1 m2 aA0, A7 l3 m4 aB1] H lk = some (.bool r, H) := by
 refine AA Tryz.func35 rfl Tryz.ntmps35 Tryz.results35 rfl rfl fun hO => ?_
 unfold eH at hk
 refine sr (pA (.bool _) (pg (AX (sr ?_))))
 refine pM (.lit _ _ _) ?_
 refine BC K2 ?_
 refine pM (.lit _ _ _) ?_
 refine BC K2 ?_
 refine AR (pg (B1 hk ?_ ?_)) <;> intro hk
 ·refine sr (pA (.bool _) (pg (Ak (gr ?_))))
  cases hk; exact AU hO
 refine B7 (gn (AX (sr (pA (.int _ _) (pg (CE ?_))))))
 refine AJ (F := Mv aA0 aB1) (fun s S' => ∃ J G, A8 H G [] ∧ S' = ⟨Aq [(0, A7 l1 m2 aA0),(1, A7 l3 m4 aB1),(5, iv s)] J, G⟩) hk ⟨_, _, hO, sh⟩ ?_
 rintro x1 _ y1 ⟨J, G, hO, rfl⟩ hk hx1
 refine AX (sr (pM (.int _ _) ?_))
 refine pM (.lit _ _ _) ?_
 refine BC K2 ?_
 refine AR (pg (B1 hk ?_ ?_)) <;> intro hk
 ·refine B7 (gn (AX (CE (AX (Hz [1,3,5,7,9,11,13,15,16,18] [_,_,_,_,_,_,_,_,_,_] ?_)))))
  refine pM (.lit _ _ _) ?_
  refine pM (.int _ _) (bk hk fun c2 hc2 hk => ?_)
  refine pX hc2 Gq BL ?_
  refine DG (.agg [_, _, _]) (Fh (lm := m2) (off := 0) hc2 HI BL) ?_
  refine pM (.lit _ _ _) ?_
  refine pM (.int _ _) (bk hk fun c3 hc3 hk => ?_)
  refine pX hc3 Gq BL ?_
  refine DG (.agg [_, _, _]) (Fh (lm := m4) (off := 0) hc3 HI BL) (bk hk fun v4 hv4 hk => ?_)
  refine AL (fun _ => Ya hv4) ?_
  refine pU (pg (B1 hk ?_ ?_)) <;> intro hk
  ·refine sr (pA (.bool _) (pg (Ak (br (gr (gr (br (gr (have hk := lx hx1 hk; ?_)))))))))
   cases hk; exact AU hO
  refine B7 (bn (gn (Da (pM (.int _ _) ?_))))
  refine AR ?_
  refine pA (.int _ _) (pg ?_)
  cases hk; exact ⟨_, rfl, _, _, hO, sh⟩
 refine Eo (ge (ge (be (gn (have hk := lx hx1 hk; sr (pA (.bool _) (pg (Ak ?_))))))))
 cases hk; exact AU hO
def dV (aA0 : Az) (aB1 : Az) : Option Bool :=
 ((eG aA0.A3 aB1.A3).bind fun v3 => (bif !v3 then some false else ((eH aA0.A1 aB1.A1).bind fun v4 => (bif !v4 then some false else some true))))
theorem Xm (hk : dV aA0 aB1 = some r) (hlk : 0 < lk.length := by simp) : Ai ah hh 12 [.agg [A7 l1 0 aA0.A3, A7 l2 m3 aA0.A1], .agg [A7 l4 0 aB1.A3, A7 l5 m6 aB1.A1]] H lk = some (.bool r, H) := by
 refine AA Tryz.func12 rfl Tryz.ntmps12 Tryz.results12 rfl rfl fun hO => ?_
 unfold dV at hk
 refine sr (Ax (cs := [_, _]) hO B2 (fun b1 G hO => ?_))
 refine Ax (cs := [_, _]) hO B2 (fun b2 G hO => ?_)
 refine pA (.bool _) (pg (AX (sr ?_)))
 refine Ao C0 hO 1 (.lit _ _ _) Ei ?_
 refine Ao C0 hO 0 (.lit _ _ _) Ei (bk hk fun v3 hv3 hk => ?_)
 refine AL (fun _ => Y4 hv3) ?_
 refine pU (pg (B1 hk ?_ ?_)) <;> intro hk
 ·refine sr (pA (.bool _) (pg (Ak (gr ?_))))
  cases hk; exact AU hO
 refine B7 (gn (AX (sr (Ao Cv hO 1 (.lit _ _ _) Gj ?_))))
 refine Ao Cv hO 0 (.lit _ _ _) Gj (bk hk fun v4 hv4 hk => ?_)
 refine AL (fun _ => Y5 hv4) ?_
 refine pU (pg (B1 hk ?_ ?_)) <;> intro hk
 ·refine sr (pA (.bool _) (pg (Ak (gr ?_))))
  cases hk; exact AU hO
 refine B7 (gn (sr (pA (.bool _) (pg (Ak ?_)))))
 cases hk; exact AU hO
def Mn (aA0 : List Int) (aB1 : List Int) : Int → Option (Int ⊕ Bool) := fun s =>
 (bif decide (s < (aA0.length : Int)) then ((Aa aA0 s).bind fun c2 => ((Aa aB1 s).bind fun c3 => (bif (c2 != c3) then ((some false).map Sum.inr) else some (.inl (AV (s + 1)))))) else ((some true).map Sum.inr))
def dW (aA0 : List Int) (aB1 : List Int) : Option Bool :=
 (bif ((aA0.length : Int) != (aB1.length : Int)) then some false else (AP (Mn aA0 aB1) ((0:Int))))
theorem Xn (hk : dW aA0 aB1 = some r) (hlk : 0 < lk.length := by simp) : Ai ah hh 13 [A7 l1 0 aA0, A7 l2 0 aB1] H lk = some (.bool r, H) := by
 refine AA Tryz.func13 rfl Tryz.ntmps13 Tryz.results13 rfl rfl fun hO => ?_
 unfold dW at hk
 refine sr (pA (.bool _) (pg (AX (sr ?_))))
 refine pM (.lit _ _ _) ?_
 refine BC OJ ?_
 refine pM (.lit _ _ _) ?_
 refine BC OJ ?_
 refine AR (pg (B1 hk ?_ ?_)) <;> intro hk
 ·refine sr (pA (.bool _) (pg (Ak (gr ?_))))
  cases hk; exact AU hO
 refine B7 (gn (AX (sr (pA (.int _ _) (pg (CE ?_))))))
 refine AJ (F := Mn aA0 aB1) (fun s S' => ∃ J G, A8 H G [] ∧ S' = ⟨Aq [(0, A7 l1 0 aA0),(1, A7 l2 0 aB1),(5, iv s)] J, G⟩) hk ⟨_, _, hO, sh⟩ ?_
 rintro x1 _ y1 ⟨J, G, hO, rfl⟩ hk hx1
 refine AX (sr (pM (.int _ _) ?_))
 refine pM (.lit _ _ _) ?_
 refine BC OJ ?_
 refine AR (pg (B1 hk ?_ ?_)) <;> intro hk
 ·refine B7 (gn (AX (CE (AX (Hz [1,3,5,7,9,11,13,15,16] [_,_,_,_,_,_,_,_,_] ?_)))))
  refine pM (.lit _ _ _) ?_
  refine pM (.int _ _) (bk hk fun c2 hc2 hk => ?_)
  refine pX hc2 HV Ey ?_
  refine DG (.int _ _) (IU (lm := 0) (off := 0) hc2 B5) ?_
  refine pM (.lit _ _ _) ?_
  refine pM (.int _ _) (bk hk fun c3 hc3 hk => ?_)
  refine pX hc3 HV Ey ?_
  refine DG (.int _ _) (IU (lm := 0) (off := 0) hc3 B5) ?_
  refine AR (pg (B1 hk ?_ ?_)) <;> intro hk
  ·refine sr (pA (.bool _) (pg (Ak (br (gr (gr (br (gr (have hk := lx hx1 hk; ?_)))))))))
   cases hk; exact AU hO
  refine B7 (bn (gn (Da (pM (.int _ _) ?_))))
  refine AR ?_
  refine pA (.int _ _) (pg ?_)
  cases hk; exact ⟨_, rfl, _, _, hO, sh⟩
 refine Eo (ge (ge (be (gn (have hk := lx hx1 hk; sr (pA (.bool _) (pg (Ak ?_))))))))
 cases hk; exact AU hO
def N5 : (Int × ByteArray) → Option ((Int × ByteArray) ⊕ ByteArray) := fun s =>
 (bif decide (s.1 > 0) then ((Vi (SD ([⟨IntKind.wrap .u8 (AV ((48:Int) + (mR s.1 (10:Int))))⟩] : List U8)) s.2).bind fun c3 => some (.inl (AV (Int.tdiv s.1 (10:Int)), c3))) else (((Vi ({ data := #[109] } : ByteArray) s.2).bind fun c4 => some c4).map Sum.inr))
def ZY (aK0 : Int) : Option ByteArray :=
 (bif decide (aK0 ≤ 0) then some ({ data := #[109, 48] } : ByteArray) else (AP (N5) (aK0, ({ data := #[] } : ByteArray))))
theorem Tp (hk : ZY aK0 = some r) (hlk : 0 < lk.length := by simp) : Ai ah hh 81 [iv aK0] H lk = some (.str r, H) := by
 refine AA Tryz.func81 rfl Tryz.ntmps81 Tryz.results81 rfl rfl fun hO => ?_
 unfold ZY at hk
 refine sr (pA (.str _) (pg (AX (sr ?_))))
 refine pM (.int _ _) ?_
 refine AR (pg (B1 hk ?_ ?_)) <;> intro hk
 ·refine sr (pA (.str _) (pg (Ak (gr ?_))))
  cases hk; exact AU hO
 refine B7 (gn (sr (pA (.str _) (pg (AX (CE ?_))))))
 refine AJ (F := N5) (fun s S' => ∃ J G, A8 H G [] ∧ S' = ⟨Aq [(0, iv s.1),(3, .str s.2)] J, G⟩) hk ⟨_, _, hO, sh⟩ ?_
 rintro ⟨x1, x2⟩ _ y1 ⟨J, G, hO, rfl⟩ hk hx1
 refine AX (sr (pM (.int _ _) ?_))
 refine AR (pg (B1 hk ?_ ?_)) <;> intro hk
 ·refine B7 (gn (CE (sr (pM (.int _ _) ?_))))
  refine AR ?_
  refine AR ?_
  refine lG Tryz.underlying3 Tryz.underlying5 ?_
  refine Rh (ps := [(0, (.int _ _))]) ([⟨IntKind.wrap .u8 (AV ((48:Int) + (mR x1 (10:Int))))⟩] : List U8) iG lO lM (Bc (EM _ _) (Cs)) ?_
  refine jV (ys := ([⟨IntKind.wrap .u8 (AV ((48:Int) + (mR x1 (10:Int))))⟩] : List U8)) Tryz.underlying138 Tryz.underlying9 Tryz.underlying5 ?_
  refine pM (.str _) (bk hk fun c3 hc3 hk => ?_)
  refine gP hc3 ?_
  refine pA (.str _) (pg (Da ?_))
  refine pM (.int _ _) ?_
  refine AR ?_
  refine pA (.int _ _) (pE (bn (gn ?_)))
  cases hk; exact ⟨_, rfl, _, _, hO, sh⟩
 refine Eo (ge (ge (be (gn (have hk := lx hx1 hk; sr (pM (.str _) (bk hk fun c4 hc4 hk => ?_)))))))
 refine gP hc4 ?_
 refine pA (.str _) (pg (Ak ?_))
 cases hk; exact AU hO
def Mx : ((List A0) × Int × Int) → Option (((List A0) × Int × Int) ⊕ (List A0 × Int)) := fun s =>
 (bif decide (s.2.2 < (s.1.length : Int)) then ((ZY s.2.1).bind fun v4 => ((Aa s.1 s.2.2).bind fun c5 => ((Aa (s.1.set s.2.2.toNat ({ c5 with Name := v4 })) s.2.2).bind fun c8 => ((Aa ((s.1.set s.2.2.toNat ({ c5 with Name := v4 })).set s.2.2.toNat ({ c8 with BN := AV (s.2.1 + 1) })) s.2.2).bind fun c11 => ((Aa (((s.1.set s.2.2.toNat ({ c5 with Name := v4 })).set s.2.2.toNat ({ c8 with BN := AV (s.2.1 + 1) })).set s.2.2.toNat ({ c11 with Bv := AV ((AV (s.2.1 + 1)) + 1) })) s.2.2).bind fun c14 => some (.inl ((((s.1.set s.2.2.toNat ({ c5 with Name := v4 })).set s.2.2.toNat ({ c8 with BN := AV (s.2.1 + 1) })).set s.2.2.toNat ({ c11 with Bv := AV ((AV (s.2.1 + 1)) + 1) })).set s.2.2.toNat ({ c14 with CX := AV ((AV ((AV (s.2.1 + 1)) + 1)) + 1) }), AV ((AV ((AV ((AV (s.2.1 + 1)) + 1)) + 1)) + 1), AV (s.2.2 + 1)))))))) else ((some (s.1, s.2.1)).map Sum.inr))
def eK (aA0 : List A0) (aK1 : Int) : Option (List A0 × Int) :=
 (AP (Mx) (aA0, aK1, (0:Int)))
theorem Y8 (hk : eK aA0 aK1 = some r) (ha : D5 H aA0 [v0] F0) (hF : ∀ b ∈ F0, b < H.length) (hS : ∀ b ∈ F0, AT lk b = true) (hlk : 0 < lk.length := by simp) : ∃ v H1, Ai ah hh 38 [v0, iv aK1] H lk = some (v, H1) ∧ v = iv r.2 ∧ D5 H1 r.1 [v0] F0 ∧ H1.length = H.length ∧ ∀ b, b ∉ F0 → H1[b]? = H[b]? := by
 refine BA Tryz.func38 rfl Tryz.ntmps38 Tryz.results38 rfl rfl ?_
 have hO := Dj ha hF
 have hFr := EK.refl H F0
 unfold eK at hk
 refine sr (pA (.int _ _) (pg (AX (sr ?_))))
 refine pA (.int _ _) (pg (CE ?_))
 refine AJ (F := Mx) (fun s S' => ∃ J G H1, EK H H1 F0 ∧ A8 H1 G [Ck F0 F0 s.1 [v0]] ∧ S' = ⟨Aq [(0, v0),(1, iv s.2.1),(5, iv s.2.2)] J, G⟩) hk ⟨_, _, _, hFr, hO, sh⟩ ?_
 rintro ⟨x1, x2, x3⟩ _ y1 ⟨J, G, H1, hFr, hO, rfl⟩ hk hx1
 refine AX (sr (pM (.int _ _) ?_))
 refine pM v0 ?_
 refine PC hO 0 IZ ?_
 refine AR (pg (B1 hk ?_ ?_)) <;> intro hk
 ·refine B7 (gn (AX (CE (sr (pM v0 ?_)))))
  refine pM (.int _ _) ?_
  refine pM (.int _ _) (bk hk fun v4 hv4 hk => ?_)
  refine AL (fun _ => Tp hv4) (bk hk fun c5 hc5 hk => ?_)
  refine S6 hO 0 hc5 GP C2 (fun b6 hb6 => ?_)
  refine pF Fp ?_
  refine U9 NT (y' := v4) hO 0 hb6 hc5 j9 (fun _ => ⟨rfl, rfl⟩) hFr hS rfl (fun H1 G hFr hO => ?_)
  have hc_7 := DO hc5 ({ c5 with Name := v4 } : A0)
  have hv_7 := FD (j := x3.toNat) (y := ({ c5 with Name := v4 } : A0)) hb6
  refine pg (sr (pM (.int _ _) ?_))
  refine AR ?_
  refine pA (.int _ _) (pg (sr ?_))
  refine pM v0 ?_
  refine pM (.int _ _) ?_
  refine pM (.int _ _) (bk hk fun c8 hc8 hk => ?_)
  refine S6 hO 0 hc8 GP C2 (fun b9 hb9 => ?_)
  refine pF Ci ?_
  refine U9 OU (y' := (AV (x2 + 1))) hO 0 hb9 hc8 Ey (fun _ => ⟨rfl, rfl⟩) hFr hS rfl (fun H1 G hFr hO => ?_)
  have hc_10 := DO hc8 ({ c8 with BN := AV (x2 + 1) } : A0)
  have hv_10 := FD (j := x3.toNat) (y := ({ c8 with BN := AV (x2 + 1) } : A0)) hb9
  refine pg (sr (pM (.int _ _) ?_))
  refine AR ?_
  refine pA (.int _ _) (pg (sr ?_))
  refine pM v0 ?_
  refine pM (.int _ _) ?_
  refine pM (.int _ _) (bk hk fun c11 hc11 hk => ?_)
  refine S6 hO 0 hc11 GP C2 (fun b12 hb12 => ?_)
  refine pF IL ?_
  refine U9 M6 (y' := (AV ((AV (x2 + 1)) + 1))) hO 0 hb12 hc11 Ey (fun _ => ⟨rfl, rfl⟩) hFr hS rfl (fun H1 G hFr hO => ?_)
  have hc_13 := DO hc11 ({ c11 with Bv := AV ((AV (x2 + 1)) + 1) } : A0)
  have hv_13 := FD (j := x3.toNat) (y := ({ c11 with Bv := AV ((AV (x2 + 1)) + 1) } : A0)) hb12
  refine pg (sr (pM (.int _ _) ?_))
  refine AR ?_
  refine pA (.int _ _) (pg (sr ?_))
  refine pM v0 ?_
  refine pM (.int _ _) ?_
  refine pM (.int _ _) (bk hk fun c14 hc14 hk => ?_)
  refine S6 hO 0 hc14 GP C2 (fun b15 hb15 => ?_)
  refine pF IM ?_
  refine U9 M5 (y' := (AV ((AV ((AV (x2 + 1)) + 1)) + 1))) hO 0 hb15 hc14 Ey (fun _ => ⟨rfl, rfl⟩) hFr hS rfl (fun H1 G hFr hO => ?_)
  have hc_16 := DO hc14 ({ c14 with CX := AV ((AV ((AV (x2 + 1)) + 1)) + 1) } : A0)
  have hv_16 := FD (j := x3.toNat) (y := ({ c14 with CX := AV ((AV ((AV (x2 + 1)) + 1)) + 1) } : A0)) hb15
  refine pg (Da (pM (.int _ _) ?_))
  refine AR ?_
  refine pA (.int _ _) (pE (bn (gn (Da ?_))))
  refine pM (.int _ _) ?_
  refine AR ?_
  refine pA (.int _ _) (pg ?_)
  cases hk; exact ⟨_, rfl, _, _, _, hFr, hO, sh⟩
 refine Eo (ge (ge (be (gn (have hk := lx hx1 hk; sr (pM (.int _ _) ?_))))))
 refine pA (.int _ _) (pg (Ak ?_))
 replace hk := an hk; subst hk; exact Q8 hO 0 hFr hF
end
end Go.Proofs.YtblodpbcinkehaaGreat.K
