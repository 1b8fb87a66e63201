/-
 Part of a proof. No conditions.
-/
import Derived.Test.YtjklepgidjimfaaGreatDRtb
set_option linter.unusedVariables false
set_option linter.unusedSimpArgs false
set_option maxRecDepth 100000
set_option autoImplicit true
set_option relaxedAutoImplicit true
set_option maxHeartbeats 1000000
namespace Go.Proofs.YtjklepgidjimfaaGreat.K
open _root_.Go.Proofs.Tryz renaming prog → dp
open Option.some renaming inj → dv
open Nat renaming lt_of_le_of_lt → ka, zero_le → ga, le_sub_one_of_lt → ej, one_pos → ig, le_refl → dz
open List renaming mem_singleton → dt
noncomputable section
variable {H : A5} {lk : Lk}
def OL (x3 : Int) (x4 : Int) : Option ((Int × Int) ⊕ Int) :=
 some (.inl (x4, AN (x3 + 1)))
def OK (ah : List AI) (bx : Ep) : (Int × Int) → Option ((Int × Int) ⊕ Int) := fun s =>
 (bif decide (s.2 < (ah.length : Int)) then ((AR ah s.2).bind fun c5 => ((bif (((c5.A1 == bx.Cg) && (c5.Way == bx.FZ)) && decide ((AN ((AN (c5.At - bx.RC)) * bx.FZ)) > 0)) then ((bif decide (s.1 < 0) then some true else ((AR ah s.1).bind fun c9 => some (decide ((AN ((AN (c5.At - c9.At)) * bx.FZ)) < 0)))).bind fun t8 => some t8) else some false).bind fun t7 => (bif t7 then (OL s.2 s.2) else (OL s.2 s.1)))) else ((some s.1).map Sum.inr))
def YF (ah : List AI) (bx : Ep) : Option Int :=
 (AQ (OK ah bx) ((-1:Int), (0:Int)))
theorem aE (hk : YF ah bx = some r) (sn : 0 < lk.length := by simp) : Aw dp hh 179 [A0 l1 0 ah, .agg [iv bx.Cg, iv bx.RC, iv bx.FZ]] H lk = some (iv r, H) := by
 refine AH Tryz.func179 rfl Tryz.ntmps179 Tryz.results179 rfl rfl fun hO => ?_
 unfold YF at hk
 refine sr (C0 (cs := [_, _, _]) hO Kz (fun b1 G hO => ?_))
 refine pA (.int _ _) (pg (sr ?_))
 refine pA (.int _ _) (pg (AU (sr ?_)))
 refine pM (.lit _ _ _) ?_
 refine BE KI ?_
 refine pM (.int _ _) (pg (Bn ?_))
 refine AE (F := OK ah bx) (fun s S' => ∃ J G, A6 H G [.Au b1 (.cells 3 [iv bx.Cg, iv bx.RC, iv bx.FZ])] ∧ S' = ⟨Ao [(0, A0 l1 0 ah),(3, .ptr b1 0),(5, iv s.1),(8, A0 l1 0 ah),(9, iv (ah.length : Int)),(10, iv s.2)] J, G⟩) hk ⟨_, _, hO, sh⟩ ?_
 rintro ⟨x2, x3⟩ _ y1 ⟨J, G, hO, rfl⟩ hk se
 refine sr (AO (pg (AU (As hk ?_ ?_)))) <;> intro hk
 ·refine Av (gn (CX (fun S' => ∃ x4 J G, OL x3 x4 = some y1 ∧ A6 H G [.Au b1 (.cells 3 [iv bx.Cg, iv bx.RC, iv bx.FZ])] ∧ S' = ⟨Ao [(0, A0 l1 0 ah),(3, .ptr b1 0),(5, iv x4),(8, A0 l1 0 ah),(9, iv (ah.length : Int)),(10, iv x3)] J, G⟩) ?_ ?_))
  ·refine Bn (sr (pM (.int _ _) (bk hk fun c5 tx hk => ?_)))
   refine pX tx GM BF ?_
   refine CQ (.agg [_, _, _, _]) (EA (lm := 0) (off := 0) tx H8 BF) (C9 hO BF HL (fun b6 G hO => ?_))
   refine pA (.int _ _) ?_
   refine DR (xs := [_, _, _, _]) hO 0 BF rfl (fun G hO => pg (AU ?_))
   refine GC [1,3,5,7,8,10,13,15,17,19,20,22,24,27,29,31,33,35,37,39,40,42,44,46,48,50,52,55,57,59,61,63,65,67,69,71,73,74,76,78,80] [_,_,_,_,_,_,_,_,_,_,_,_,_,_,_,_,_,_,_,_,_,_,_,_,_,_,_,_,_,_,_,_,_,_,_,_,_,_,_,_,_] ?_
   refine B4 DD hO 0 (.int _ _) B5 ?_
   refine B4 Gp hO 1 (.int _ _) B5 ?_
   refine AO ?_
   refine pM (.bool _) ?_
   refine Aa (l1 := [_, _, _, _, _, _]) (fun S' => ∃ J, S' = ⟨Ao [(0, A0 l1 0 ah),(3, .ptr b1 0),(5, iv x2),(6, iv x3),(7, .ptr b6 0),(8, A0 l1 0 ah),(9, iv (ah.length : Int)),(10, iv x3),(26, .bool ((c5.A1 == bx.Cg) && (c5.Way == bx.FZ)))] J, G⟩) ?_ ?_
   ·refine bc (b := (c5.A1 == bx.Cg)) ?_ ?_ <;> intro hg
    ·refine AZ hg (pF DO (AZ hg ?_))
     refine Eg hO 0 (.int _ _) B5 (AZ hg ?_)
     refine pF HX (AZ hg ?_)
     refine Eg hO 1 (.int _ _) B5 (AZ hg ?_)
     refine AO ?_
     refine Ev hg (.bool _) ?_
     exact pE ⟨_, St.Ao _ ⟨rfl, rfl, rfl, rfl, rfl, rfl, rfl, rfl, by rw [hg]; rfl, trivial⟩⟩
    repeat refine CK hg ?_
    refine Eu hg (.bool _) ?_
    exact pE ⟨_, St.Ao _ ⟨rfl, rfl, rfl, rfl, rfl, rfl, rfl, rfl, by rw [hg]; rfl, trivial⟩⟩
   rintro _ ⟨J, rfl⟩
   refine pM (.bool _) ?_
   refine Aa (l1 := [_, _, _, _, _, _, _, _, _, _]) (fun S' => ∃ J, S' = ⟨Ao [(0, A0 l1 0 ah),(3, .ptr b1 0),(5, iv x2),(6, iv x3),(7, .ptr b6 0),(8, A0 l1 0 ah),(9, iv (ah.length : Int)),(10, iv x3),(37, .bool (((c5.A1 == bx.Cg) && (c5.Way == bx.FZ)) && decide ((AN ((AN (c5.At - bx.RC)) * bx.FZ)) > 0)))] J, G⟩) ?_ ?_
   ·refine bc (b := ((c5.A1 == bx.Cg) && (c5.Way == bx.FZ))) ?_ ?_ <;> intro hg
    ·refine AZ hg (pF CW (AZ hg ?_))
     refine Eg hO 0 (.int _ _) B5 (AZ hg ?_)
     refine pF Jb (AZ hg ?_)
     refine Eg hO 1 (.int _ _) B5 (AZ hg ?_)
     refine AO (AZ hg ?_)
     refine pF HX (AZ hg ?_)
     refine Eg hO 1 (.int _ _) B5 (AZ hg ?_)
     refine AO (AZ hg ?_)
     refine AO ?_
     refine Ev hg (.bool _) ?_
     exact pE ⟨_, St.Ao _ ⟨rfl, rfl, rfl, rfl, rfl, rfl, rfl, rfl, by rw [hg]; rfl, trivial⟩⟩
    repeat refine CK hg ?_
    refine Eu hg (.bool _) ?_
    exact pE ⟨_, St.Ao _ ⟨rfl, rfl, rfl, rfl, rfl, rfl, rfl, rfl, by rw [hg]; rfl, trivial⟩⟩
   rintro _ ⟨J, rfl⟩
   refine pM (.bool _) (bk hk fun t7 ht hk => ?_)
   refine Aa (l1 := [_, _, _, _, _, _, _, _, _, _, _, _, _, _, _, _, _]) (fun S' => ∃ J, S' = ⟨Ao [(0, A0 l1 0 ah),(3, .ptr b1 0),(5, iv x2),(6, iv x3),(8, A0 l1 0 ah),(9, iv (ah.length : Int)),(10, iv x3),(55, .bool t7)] J, G⟩) ?_ ?_
   ·refine bc (b := (((c5.A1 == bx.Cg) && (c5.Way == bx.FZ)) && decide ((AN ((AN (c5.At - bx.RC)) * bx.FZ)) > 0))) ?_ ?_ <;> intro hg
    ·replace hk := ct hg ht
     refine AZ hg (pM (.int _ _) (AZ hg ?_))
     refine AO (AZ hg ?_)
     refine pM (.bool _) (bk hk fun t8 ht hk => ?_)
     refine Aa (l1 := [_, _, _, _, _, _, _, _, _, _, _, _, _]) (fun S' => ∃ J, S' = ⟨Ao [(0, A0 l1 0 ah),(3, .ptr b1 0),(5, iv x2),(6, iv x3),(8, A0 l1 0 ah),(9, iv (ah.length : Int)),(10, iv x3),(38, .bool (((c5.A1 == bx.Cg) && (c5.Way == bx.FZ)) && decide ((AN ((AN (c5.At - bx.RC)) * bx.FZ)) > 0))),(54, .bool t8)] J, G⟩) ?_ ?_
     ·refine bc (b := decide (x2 < 0)) (fun si => ?_) (fun si => ?_)
      ·replace hk := ct si ht
       repeat refine CK si ?_
       refine AZ hg (Ev si (.bool _) ?_)
       cases hk; exact pE ⟨_, sh⟩
      replace hk := cf si ht
      refine AZ si (pF CW (AZ si ?_))
      refine Eg hO 0 (.int _ _) B5 (AZ si ?_)
      refine pM (.lit _ _ _) (AZ si ?_)
      refine pM (.int _ _) (AZ si (bk hk fun c9 vk hk => ?_))
      refine pX vk GM BF (AZ si ?_)
      refine pF CW (AZ si ?_)
      refine CQ (.int _ _) (Gj (lm := 0) (off := 2) vk B5) (AZ si ?_)
      refine AO (AZ si ?_)
      refine pF HX (AZ si ?_)
      refine Eg hO 1 (.int _ _) B5 (AZ si ?_)
      refine AO (AZ si ?_)
      refine AO (AZ hg ?_)
      refine Eu si (.bool _) ?_
      cases hk; exact pE ⟨_, sh⟩
     rintro _ ⟨J, rfl⟩
     refine Ev hg (.bool _) ?_
     cases hk; exact pE ⟨_, sh⟩
    replace hk := cf hg ht
    refine CK hg (CK hg (CK hg (E9 (E9 (E9 (E9 (E9 (E9 (E9 (E9 (E9 (E9 (E9 (E9 (CK hg (Eu hg (.bool _) ?_))))))))))))))))
    cases hk; exact pE ⟨_, sh⟩
   rintro _ ⟨J, rfl⟩
   refine pg (As hk ?_ ?_) <;> intro hk
   ·refine Cj (pM (.int _ _) ?_)
    refine pA (.int _ _) (pE (bn (gn ?_)))
    exact ⟨x3, _, _, hk, (pk hO [1]), sh⟩
   exact Av (bn (gn (⟨x2, _, _, hk, (pk hO [1]), sh⟩)))
  rintro _ ⟨x4, J, G, hk, hO, rfl⟩
  refine Cj (AO ?_)
  refine pM (.int _ _) (pg ?_)
  cases hk; exact ⟨_, rfl, _, _, hO, sh⟩
 refine Dh (ge (ge (be (gn (have hk := lx se hk; sr (pM (.int _ _) ?_))))))
 refine pA (.int _ _) (pg (Ax ?_))
 cases hk; exact Ah hO
def Vw (bg : Int) (bw : Int) (dc : Int) : Option Ai :=
 some (⟨bg, (if dc < bw then dc else bw), (if dc > bw then dc else bw)⟩ : Ai)
theorem PM (hk : Vw bg bw dc = some r) (sn : 0 < lk.length := by simp) : Aw dp hh 180 [iv bg, iv bw, iv dc] H lk = some (.agg [iv r.A1, iv r.AY, iv r.To], H) := by
 refine AH Tryz.func180 rfl Tryz.ntmps180 Tryz.results180 rfl rfl fun hO => ?_
 unfold Vw at hk
 refine sr (C9 hO DB FU (fun b1 G hO => pg (sr (pM (.int _ _) ?_))))
 refine pM (.int _ _) ?_
 refine pM (.int _ _) ?_
 refine rH ?_
 refine pM (.int _ _) ?_
 refine pM (.int _ _) ?_
 refine uE ?_
 refine G9 [_, _, _] FU lF ?_
 refine DR (xs := [_, _, _]) hO 0 DB rfl (fun G hO => pg (Ax ?_))
 replace hk := dv hk; subst hk; exact Cv hO (C8 (n := 2) (BV (Af _ _) (BV (Af _ _) (BV (Af _ _) (Dm))))) (EW hO 0 [_, _, _] Xa DB CC)
def YG (bg : Int) (cq : Int) : Option Ac :=
 (bif (cq == 1) then some (⟨bg, (1:Int)⟩ : Ac) else some (⟨bg, (0:Int)⟩ : Ac))
theorem UN (hk : YG bg cq = some r) (sn : 0 < lk.length := by simp) : Aw dp hh 182 [iv bg, iv cq] H lk = some (.agg [iv r.A1, iv r.BI], H) := by
 refine AH Tryz.func182 rfl Tryz.ntmps182 Tryz.results182 rfl rfl fun hO => ?_
 unfold YG at hk
 refine sr (C9 hO AS Cw (fun b1 G hO => pg (AU (sr (pM (.int _ _) ?_)))))
 refine AO (pg (As hk ?_ ?_)) <;> intro hk
 ·refine sr (pM (.int _ _) ?_)
  refine G9 [_, _] Cw Mm ?_
  refine DR (xs := [_, _]) hO 0 AS rfl (fun G hO => pg (Ax (gr ?_)))
  replace hk := dv hk; subst hk; exact Cv hO (C8 (n := 2) (BV (Af _ _) (BV (Af _ _) (Dm)))) (EW hO 0 [_, _] Br AS CC)
 refine Av (gn (sr (pM (.int _ _) ?_)))
 refine G9 [_, _] Cw Mm ?_
 refine DR (xs := [_, _]) hO 0 AS rfl (fun G hO => pg (Ax ?_))
 replace hk := dv hk; subst hk; exact Cv hO (C8 (n := 2) (BV (Af _ _) (BV (Af _ _) (Dm)))) (EW hO 0 [_, _] Br AS CC)
def ON (bj : Ac) (x3 : Int) (c4 : AG) : Int → Option (Int ⊕ (Int ⊕ (Int × Int))) := fun s =>
 (bif decide (s < (c4.Ends.length : Int)) then ((AR c4.Ends s).bind fun c7 => (bif ((bj.A1 == c7.A1) && ((bj.BI == c7.BI) && true)) then (((some (x3, s)).map Sum.inr).map Sum.inr) else some (.inl (AN (s + 1))))) else ((some (.inl (AN (x3 + 1)))).map Sum.inr))
def OM (af : Bq) (bj : Ac) : Int → Option (Int ⊕ (Int × Int)) := fun s =>
 (bif decide (s < (af.A4.length : Int)) then ((AR af.A4 s).bind fun c4 => (AQ (ON bj s c4) ((0:Int)))) else ((some ((-1:Int), (-1:Int))).map Sum.inr))
def UO (af : Bq) (bj : Ac) : Option (Int × Int) :=
 (AQ (OM af bj) ((0:Int)))
theorem Lw (hk : UO af bj = some r) (sn : 0 < lk.length := by simp) : Aw dp hh 183 [.agg [A0 l1 0 af.A3, A0 l2 m3 af.A4], .agg [iv bj.A1, iv bj.BI]] H lk = some (.Ei [iv r.1, iv r.2], H) := by
 refine AH Tryz.func183 rfl Tryz.ntmps183 Tryz.results183 rfl rfl fun hO => ?_
 unfold UO at hk
 refine sr (C0 (cs := [_, _]) hO CB (fun b1 G hO => ?_))
 refine C0 (cs := [_, _]) hO AS (fun b2 G hO => ?_)
 refine pA (.int _ _) ?_
 refine pA (.int _ _) (pg (AU (sr ?_)))
 refine B4 DK hO 1 (.lit _ _ _) HF ?_
 refine BE NO ?_
 refine pM (.int _ _) (pg (Bn ?_))
 refine AE (F := OM af bj) (fun s S' => ∃ J G, A6 H G [.Au b2 (.cells 2 [iv bj.A1, iv bj.BI])] ∧ S' = ⟨Ao [(3, .ptr b2 0),(11, A0 l2 m3 af.A4),(12, iv (af.A4.length : Int)),(13, iv s)] J, G⟩) hk ⟨_, _, (pk hO [0]), sh⟩ ?_
 rintro x3 _ y1 ⟨J, G, hO, rfl⟩ hk se
 refine sr (AO (pg (AU (As hk ?_ ?_)))) <;> intro hk
 ·refine Av (gn (AU (Bn (sr (pM (.int _ _) (bk hk fun c4 te hk => ?_))))))
  refine pX te HA BY ?_
  refine CQ (.agg [_, _, _]) (EA (lm := m3) (off := 0) te I5 BY) (C9 hO BY Ji (fun b5 G hO => ?_))
  refine pA (.int _ _) ?_
  refine DR (xs := [_, _, _]) hO 0 BY rfl (fun G hO => pg (sr ?_))
  refine B4 Ct hO 0 (.lit _ _ _) Ew ?_
  refine BE HM ?_
  refine pM (.int _ _) (pg (Bn ?_))
  refine AE (F := ON bj x3 c4) (fun s S' => ∃ J G, A6 H G [.Au b2 (.cells 2 [iv bj.A1, iv bj.BI])] ∧ S' = ⟨Ao [(3, .ptr b2 0),(6, iv x3),(11, A0 l2 m3 af.A4),(12, iv (af.A4.length : Int)),(13, iv x3),(19, A0 m3 0 c4.Ends),(20, iv (c4.Ends.length : Int)),(21, iv s)] J, G⟩) hk ⟨_, _, (pk hO [1]), sh⟩ ?_
  rintro x6 _ y2 ⟨J, G, hO, rfl⟩ hk wj
  refine sr (AO (pg (AU (As hk ?_ ?_)))) <;> intro hk
  ·refine Av (gn (AU (Bn (sr (pM (.int _ _) (bk hk fun c7 tw hk => ?_))))))
   refine pX tw CV AS ?_
   refine CQ (.agg [_, _]) (EA (lm := 0) (off := 0) tw Br AS) (C9 hO AS Cw (fun b8 G hO => ?_))
   refine pA (.int _ _) ?_
   refine DR (xs := [_, _]) hO 0 AS rfl (fun G hO => pg (sr ?_))
   refine Eh hO 1 [_, _] Br AS ?_
   refine Eh hO 0 [_, _] Br AS ?_
   refine nI Xh (Tp (Tq _ _ _) (Tp (Tq _ _ _) (rfl))) (pg (As hk ?_ ?_)) <;> intro hk
   ·refine sr (pM (.int _ _) ?_)
    refine pM (.int _ _) ?_
    refine pA (.int _ _) ?_
    refine pA (.int _ _) (pg (Ax (br (gr (gr (br (br (gr (gr (br (gr (have hk := lx wj hk; have hk := lx se hk; ?_))))))))))))
    replace hk := dv hk; subst hk; exact Cv hO (Ic (n := 3) (BV (Af _ _) (BV (Af _ _) (Dm)))) (Dn (.int _ _) (Dn (.int _ _) CC))
   refine Av (bn (gn (Cj (AO ?_))))
   refine pM (.int _ _) (pg ?_)
   cases hk; exact ⟨_, rfl, _, _, (pk hO [1]), sh⟩
  refine Dh (ge (ge (be (bn (gn (have hk := lx wj hk; Cj (AO ?_)))))))
  refine pM (.int _ _) (pg ?_)
  cases hk; exact ⟨_, rfl, _, _, hO, sh⟩
 refine Dh (ge (ge (be (gn (have hk := lx se hk; sr (pA (.int _ _) ?_))))))
 refine pA (.int _ _) (pg (Ax ?_))
 replace hk := dv hk; subst hk; exact Cv hO (Ic (n := 3) (BV (Af _ _) (BV (Af _ _) (Dm)))) (Dn (.int _ _) (Dn (.int _ _) CC))
def Vx (af : Bq) (bj : Ac) : Option (List Ac × List Int) :=
 ((UO af bj).bind fun v3 => (bif decide (v3.1 < 0) then some (([] : List Ac), ([] : List Int)) else ((AR af.A4 v3.1).bind fun c4 => ((AR af.A4 v3.1).bind fun c5 => (bif (c5.Kind == 2) then ((AR c4.Ends (AN ((1:Int) - v3.2))).bind fun c6 => some (([c6] : List Ac), ([(0:Int)] : List Int))) else (bif (c5.Kind == 3) then (bif (v3.2 == 0) then ((AR c4.Ends (1:Int)).bind fun c9 => ((AR c4.Ends (2:Int)).bind fun ss => some (([c9, ss] : List Ac), ([(1:Int), (2:Int)] : List Int)))) else ((AR c4.Ends (0:Int)).bind fun vj => some (([vj] : List Ac), ([v3.2] : List Int)))) else (bif (c5.Kind == 4) then ((AR c4.Ends (sU v3.2 (1:Int))).bind fun c16 => some (([c16] : List Ac), ([(0:Int)] : List Int))) else some (([] : List Ac), ([] : List Int)))))))))
theorem PN (hk : Vx af bj = some r) (sn : 0 < lk.length := by simp) : Aw dp hh 184 [.agg [A0 l1 0 af.A3, A0 l2 m3 af.A4], .agg [iv bj.A1, iv bj.BI]] H lk = some (.Ei [A0 0 0 r.1, A0 0 0 r.2], H) := by
 refine AH Tryz.func184 rfl Tryz.ntmps184 Tryz.results184 rfl rfl fun hO => ?_
 unfold Vx at hk
 refine sr (C0 (cs := [_, _]) hO CB (fun b1 G hO => ?_))
 refine C0 (cs := [_, _]) hO AS (fun b2 G hO => ?_)
 refine pA (.tl 0 []) ?_
 refine pA (.tl 0 []) (pg (sr ?_))
 refine Eh hO 1 [_, _] E4 CB ?_
 refine Eh hO 0 [_, _] Br AS (bk hk fun v3 zi hk => ?_)
 refine Ae (fun _ => Lw zi) ?_
 refine pM (.Ei [_, _]) ?_
 refine Qv (.int _ _) ?_
 refine Qv (.int _ _) ?_
 refine pA (.int _ _) ?_
 refine pA (.int _ _) (pg (AU (sr ?_)))
 refine pM (.int _ _) ?_
 refine AO (pg (As hk ?_ ?_)) <;> intro hk
 ·refine sr (pA (.tl 0 []) ?_)
  refine pA (.tl 0 []) (pg (Ax (gr ?_)))
  replace hk := dv hk; subst hk; exact Cv hO (Ic (n := 3) (BV (LA (k := 0) Ac) (BV (LA (k := 0) Int) (Dm)))) (Dn (.tl 0 []) (Dn (.tl 0 []) CC))
 refine Av (gn (sr (B4 DK hO 1 (.lit _ _ _) HF ?_)))
 refine pM (.int _ _) (bk hk fun c4 te hk => ?_)
 refine pX te HA BY ?_
 refine pF Ct ?_
 refine CQ (.lit _ _ _) (Gj (lm := m3) (off := 2) te Ew) ?_
 refine pA (.lit _ _ _) (pg (AU (sr ?_)))
 refine B4 DK hO 1 (.lit _ _ _) HF ?_
 refine pM (.int _ _) (bk hk fun c5 tx hk => ?_)
 refine pX tx HA BY ?_
 refine pF DE ?_
 refine CQ (.int _ _) (Gj (lm := m3) (off := 0) tx B5) (pg (Bn (sr ?_)))
 refine AO ?_
 refine pA (.bool _) (pg (As hk ?_ ?_)) <;> intro hk
 ·refine sr (pM (.lit _ _ _) ?_)
  refine pM (.int _ _) ?_
  refine AO (bk hk fun c6 xo hk => ?_)
  refine pX xo CV AS ?_
  refine CQ (.agg [_, _]) (EA (lm := 0) (off := 0) xo Br AS) ?_
  refine JQ (ps := [(0, (.agg [_, _]))]) ([c6] : List Ac) CV AS Cw (B2 (Bg (α := Ac) c6) (Bb)) ?_
  refine JQ (ps := [(0, (.int _ _))]) ([(0:Int)] : List Int) I6 G8 XZ (B2 (EZ _ _) (Bb)) ?_
  refine pA (.tl 1 (AB 0 ([c6] : List Ac))) ?_
  refine pA (.tl 1 (AB 0 ([(0:Int)] : List Int))) (pg (Ax (br (gr ?_))))
  replace hO := A6.HI hO lk.length ([c6] : List Ac)
  replace hO := A6.HI hO lk.length ([(0:Int)] : List Int)
  replace hk := dv hk; subst hk; exact Cv hO (Ic (n := 3) (BV (Fx (xs := ([c6] : List Ac)) sn 1) (BV (Fx (xs := ([(0:Int)] : List Int)) sn 0) (Dm)))) (Dn (.tl 1 (AB 0 ([c6] : List Ac))) (Dn (.tl 1 (AB 0 ([(0:Int)] : List Int))) CC))
 refine sr (AO ?_)
 refine pA (.bool _) (pg (As hk ?_ ?_)) <;> intro hk
 ·refine AU (sr (pM (.int _ _) ?_))
  refine AO (pg (As hk ?_ ?_)) <;> intro hk
  ·refine AU (GC [1,3,5,7,9,11,12,15,16,18] [_,_,_,_,_,_,_,_,_,_] ?_)
   refine pM (.lit _ _ _) (bk hk fun c9 vk hk => ?_)
   refine pX vk CV AS ?_
   refine CQ (.agg [_, _]) (EA (lm := 0) (off := 0) vk Br AS) ?_
   refine pM (.lit _ _ _) (bk hk fun ss sy hk => ?_)
   refine pX sy CV AS ?_
   refine CQ (.agg [_, _]) (EA (lm := 0) (off := 0) sy Br AS) ?_
   refine JQ (ps := [(0, (.agg [_, _])), (1, (.agg [_, _]))]) ([c9, ss] : List Ac) CV AS Cw (B2 (Bg (α := Ac) c9) (B2 (Bg (α := Ac) ss) (Bb))) ?_
   refine JQ (ps := [(0, (.int _ _)), (1, (.int _ _))]) ([(1:Int), (2:Int)] : List Int) I6 G8 XZ (B2 (EZ _ _) (B2 (EZ _ _) (Bb))) ?_
   refine pA (.tl 2 (AB 0 ([c9, ss] : List Ac))) ?_
   refine pA (.tl 2 (AB 0 ([(1:Int), (2:Int)] : List Int))) (pg (Ax (gr (br (gr ?_)))))
   replace hO := A6.HI hO lk.length ([c9, ss] : List Ac)
   replace hO := A6.HI hO lk.length ([(1:Int), (2:Int)] : List Int)
   replace hk := dv hk; subst hk; exact Cv hO (Ic (n := 3) (BV (Fx (xs := ([c9, ss] : List Ac)) sn 1) (BV (Fx (xs := ([(1:Int), (2:Int)] : List Int)) sn 0) (Dm)))) (Dn (.tl 2 (AB 0 ([c9, ss] : List Ac))) (Dn (.tl 2 (AB 0 ([(1:Int), (2:Int)] : List Int))) CC))
  refine Av (gn (sr (pM (.lit _ _ _) (bk hk fun vj vq hk => ?_))))
  refine pX vq CV AS ?_
  refine CQ (.agg [_, _]) (EA (lm := 0) (off := 0) vq Br AS) ?_
  refine JQ (ps := [(0, (.agg [_, _]))]) ([vj] : List Ac) CV AS Cw (B2 (Bg (α := Ac) vj) (Bb)) ?_
  refine pM (.int _ _) ?_
  refine JQ (ps := [(0, (.int _ _))]) ([v3.2] : List Int) I6 G8 XZ (B2 (EZ _ _) (Bb)) ?_
  refine pA (.tl 1 (AB 0 ([vj] : List Ac))) ?_
  refine pA (.tl 1 (AB 0 ([v3.2] : List Int))) (pg (Ax (br (gr ?_))))
  replace hO := A6.HI hO lk.length ([vj] : List Ac)
  replace hO := A6.HI hO lk.length ([v3.2] : List Int)
  replace hk := dv hk; subst hk; exact Cv hO (Ic (n := 3) (BV (Fx (xs := ([vj] : List Ac)) sn 1) (BV (Fx (xs := ([v3.2] : List Int)) sn 0) (Dm)))) (Dn (.tl 1 (AB 0 ([vj] : List Ac))) (Dn (.tl 1 (AB 0 ([v3.2] : List Int))) CC))
 refine sr (AO ?_)
 refine pA (.bool _) (pg (As hk ?_ ?_)) <;> intro hk
 ·refine sr (pM (.lit _ _ _) ?_)
  refine pM (.int _ _) ?_
  refine AO (bk hk fun c16 hc16 hk => ?_)
  refine pX hc16 CV AS ?_
  refine CQ (.agg [_, _]) (EA (lm := 0) (off := 0) hc16 Br AS) ?_
  refine JQ (ps := [(0, (.agg [_, _]))]) ([c16] : List Ac) CV AS Cw (B2 (Bg (α := Ac) c16) (Bb)) ?_
  refine JQ (ps := [(0, (.int _ _))]) ([(0:Int)] : List Int) I6 G8 XZ (B2 (EZ _ _) (Bb)) ?_
  refine pA (.tl 1 (AB 0 ([c16] : List Ac))) ?_
  refine pA (.tl 1 (AB 0 ([(0:Int)] : List Int))) (pg (Ax (br (gr ?_))))
  replace hO := A6.HI hO lk.length ([c16] : List Ac)
  replace hO := A6.HI hO lk.length ([(0:Int)] : List Int)
  replace hk := dv hk; subst hk; exact Cv hO (Ic (n := 3) (BV (Fx (xs := ([c16] : List Ac)) sn 1) (BV (Fx (xs := ([(0:Int)] : List Int)) sn 0) (Dm)))) (Dn (.tl 1 (AB 0 ([c16] : List Ac))) (Dn (.tl 1 (AB 0 ([(0:Int)] : List Int))) CC))
 refine Av (bn (gn (sr (pA (.tl 0 []) ?_))))
 refine pA (.tl 0 []) (pg (Ax ?_))
 replace hk := dv hk; subst hk; exact Cv hO (Ic (n := 3) (BV (LA (k := 0) Ac) (BV (LA (k := 0) Int) (Dm)))) (Dn (.tl 0 []) (Dn (.tl 0 []) CC))
def YH (af : Bq) (bj : Ac) : Option Ep :=
 (bif (bj.BI == 0) then some (⟨bj.A1, (0:Int), (1:Int)⟩ : Ep) else ((AR af.A3 bj.A1).bind fun c4 => some (⟨bj.A1, c4.Bo, (-1:Int)⟩ : Ep)))
theorem UP (hk : YH af bj = some r) (sn : 0 < lk.length := by simp) : Aw dp hh 187 [.agg [A0 l1 0 af.A3, A0 l2 m3 af.A4], .agg [iv bj.A1, iv bj.BI]] H lk = some (.agg [iv r.Cg, iv r.RC, iv r.FZ], H) := by
 refine AH Tryz.func187 rfl Tryz.ntmps187 Tryz.results187 rfl rfl fun hO => ?_
 unfold YH at hk
 refine sr (C0 (cs := [_, _]) hO CB (fun b1 G hO => ?_))
 refine C0 (cs := [_, _]) hO AS (fun b2 G hO => C9 hO Kz VD (fun b3 G hO => pg (AU (sr ?_))))
 refine B4 EX hO 1 (.int _ _) B5 ?_
 refine AO (pg (As hk ?_ ?_)) <;> intro hk
 ·refine sr (B4 Dk hO 1 (.int _ _) B5 ?_)
  refine G9 [_, _, _] VD Xk ?_
  refine DR (xs := [_, _, _]) hO 0 Kz rfl (fun G hO => pg (Ax (gr ?_)))
  replace hk := dv hk; subst hk; exact Cv hO (C8 (n := 2) (BV (Af _ _) (BV (Af _ _) (BV (Af _ _) (Dm))))) (EW hO 0 [_, _, _] eH Kz CC)
 refine Av (gn (AU (GC [1,3,5,7,9,11,13,15,17,18,20] [_,_,_,_,_,_,_,_,_,_,_] ?_)))
 refine B4 Dk hO 1 (.int _ _) B5 ?_
 refine B4 D0 hO 2 (.lit _ _ _) Gd ?_
 refine B4 Dk hO 1 (.int _ _) B5 (bk hk fun c4 te hk => ?_)
 refine pX te IB Cp ?_
 refine pF Dj ?_
 refine CQ (.int _ _) (Gj (lm := 0) (off := 1) te B5) ?_
 refine G9 [_, _, _] VD Xk ?_
 refine DR (xs := [_, _, _]) hO 0 Kz rfl (fun G hO => pg (Ax ?_))
 replace hk := dv hk; subst hk; exact Cv hO (C8 (n := 2) (BV (Af _ _) (BV (Af _ _) (BV (Af _ _) (Dm))))) (EW hO 0 [_, _, _] eH Kz CC)
def OR (x3 : List Ai) : Option (List Ai) :=
 some x3
def IG (af : Bq) (x8 : Int) (v11 : Ac) (vr : Int) (zc : List Ai) : Option ((Int × Int × Int × Int × List Ai) ⊕ List Ai) :=
 ((UO af v11).bind fun v18 => ((AR af.A4 v18.1).bind fun yc => (bif (yc.Kind != 2) then ((OR zc).map Sum.inr) else ((Vx af v11).bind fun v20 => ((AR v20.1 (0:Int)).bind fun c21 => ((YH af c21).bind fun v22 => some (.inl (v22.Cg, v22.RC, v22.FZ, AN (x8 - (if x8 < vr then x8 else vr)), zc))))))))
def MD (af : Bq) (x5 : Int) (x6 : Int) (x7 : Int) (x8 : Int) (v11 : Ac) (xd : List Ai) (vr : Int) : Option ((Int × Int × Int × Int × List Ai) ⊕ List Ai) :=
 (bif decide ((if x8 < vr then x8 else vr) > 0) then ((Vw x5 x6 (AN (x6 + (AN ((if x8 < vr then x8 else vr) * x7))))).bind fun wm => ((CL 24 xd ([wm] : List Ai)).bind fun z24 => (IG af x8 v11 vr z24))) else (IG af x8 v11 vr xd))
def MC (af : Bq) : (Int × Int × Int × Int × List Ai) → Option ((Int × Int × Int × Int × List Ai) ⊕ List Ai) := fun s =>
 (bif decide (s.2.2.2.1 > 0) then ((YG s.1 s.2.2.1).bind fun v11 => (bif (s.2.2.1 == 1) then ((AR af.A3 s.1).bind fun xi => (MD af s.1 s.2.1 s.2.2.1 s.2.2.2.1 v11 s.2.2.2.2 (AN (xi.Bo - s.2.1)))) else (MD af s.1 s.2.1 s.2.2.1 s.2.2.2.1 v11 s.2.2.2.2 s.2.1))) else ((OR s.2.2.2.2).map Sum.inr))
def bB (af : Bq) (bx : Ep) (cz : Int) : Option (List Ai) :=
 (AQ (MC af) (bx.Cg, bx.RC, bx.FZ, cz, ([] : List Ai)))
theorem bC (hk : bB af bx cz = some r) (sn : 0 < lk.length := by simp) : Aw dp hh 242 [.agg [A0 l1 0 af.A3, A0 l2 m3 af.A4], .agg [iv bx.Cg, iv bx.RC, iv bx.FZ], iv cz] H lk = some (A0 0 0 r, H) := by
 refine AH Tryz.func242 rfl Tryz.ntmps242 Tryz.results242 rfl rfl fun hO => ?_
 unfold bB at hk
 refine sr (C0 (cs := [_, _]) hO CB (fun b1 G hO => ?_))
 refine C0 (cs := [_, _, _]) hO Kz (fun b2 G hO => ?_)
 refine pA (.tl 0 []) (pg (sr ?_))
 refine pA (.tl 0 []) (pg ?_)
 refine CX (fun S' => ∃ x3 o3 J G, OR x3 = some r ∧ A6 H G [.own o3 lk.length 3 x3.length (AB 0 x3)] ∧ S' = ⟨Ao [(7, o3)] J, G⟩) ?_ ?_
 ·refine Bn (AE (F := MC af) (fun s S' => ∃ o9 J G, A6 H G [.Au b2 (.cells 3 [iv s.1, iv s.2.1, iv s.2.2.1]), .Au b1 (.cells 2 [A0 l1 0 af.A3, A0 l2 m3 af.A4]), .own o9 lk.length 3 s.2.2.2.2.length (AB 0 s.2.2.2.2)] ∧ S' = ⟨Ao [(2, iv s.2.2.2.1),(3, .ptr b1 0),(4, .ptr b2 0),(7, o9)] J, G⟩) hk ⟨(.tl 0 []), _, _, (A6.pick (A6.HI hO lk.length ([] : List Ai)) [1, 2, 0] (by decide) rfl), sh⟩ ?_)
  rintro ⟨x5, x6, x7, x8, x9⟩ _ y1 ⟨o9, J, G, hO, rfl⟩ hk se
  refine AU (sr (pM (.int _ _) ?_))
  refine AO (pg (As hk ?_ ?_)) <;> intro hk
  ·refine Av (gn (Bn (sr (B4 Gp hO 0 (.int _ _) B5 ?_))))
   refine B4 HX hO 0 (.int _ _) B5 (bk hk fun v11 hv11 hk => ?_)
   refine Ae (fun _ => UN hv11) (C9 hO AS Cw (fun b12 G hO => ?_))
   refine DR (xs := [_, _]) hO 0 AS rfl (fun G hO => pg (sr ?_))
   refine B4 Jb hO 1 (.int _ _) B5 ?_
   refine pA (.int _ _) (pg ?_)
   refine CX (fun S' => ∃ xd vr o13 J G, MD af x5 x6 x7 x8 v11 xd vr = some y1 ∧ A6 H G [.Au b12 (.cells 2 [iv v11.A1, iv v11.BI]), .Au b2 (.cells 3 [iv x5, iv x6, iv x7]), .Au b1 (.cells 2 [A0 l1 0 af.A3, A0 l2 m3 af.A4]), .own o13 lk.length 3 xd.length (AB 0 xd)] ∧ S' = ⟨Ao [(2, iv x8),(3, .ptr b1 0),(4, .ptr b2 0),(7, o13),(8, .ptr b12 0),(9, iv vr)] J, G⟩) ?_ ?_
   ·refine sr (B4 HX hO 1 (.int _ _) B5 ?_)
    refine AO (pg (As hk ?_ ?_)) <;> intro hk
    ·refine GC [1,3,5,7,9,11,13,15,17,18,20] [_,_,_,_,_,_,_,_,_,_,_] ?_
     refine B4 D0 hO 2 (.lit _ _ _) Gd ?_
     refine B4 Gp hO 1 (.int _ _) B5 (bk hk fun xi xe hk => ?_)
     refine pX xe IB Cp ?_
     refine pF Dj ?_
     refine CQ (.int _ _) (Gj (lm := 0) (off := 1) xe B5) ?_
     refine B4 Jb hO 1 (.int _ _) B5 ?_
     refine AO ?_
     refine pA (.int _ _) (pg ?_)
     exact ⟨x9, AN (xi.Bo - x6), o9, _, _, hk, hO, sh⟩
    exact Av (gn (⟨x9, x6, o9, _, _, hk, hO, sh⟩))
   rintro _ ⟨xd, vr, o13, J, G, hk, hO, rfl⟩
   refine sr (pM (.int _ _) ?_)
   refine pM (.int _ _) ?_
   refine rH ?_
   refine pA (.int _ _) (pg ?_)
   refine CX (fun S' => ∃ zc we J G, IG af x8 v11 vr zc = some y1 ∧ A6 H G [.Au b12 (.cells 2 [iv v11.A1, iv v11.BI]), .Au b2 (.cells 3 [iv x5, iv x6, iv x7]), .Au b1 (.cells 2 [A0 l1 0 af.A3, A0 l2 m3 af.A4]), .own we lk.length 3 zc.length (AB 0 zc)] ∧ S' = ⟨Ao [(2, iv x8),(3, .ptr b1 0),(4, .ptr b2 0),(7, we),(8, .ptr b12 0),(10, iv (if x8 < vr then x8 else vr))] J, G⟩) ?_ ?_
   ·refine sr (pM (.int _ _) ?_)
    refine AO (pg (As hk ?_ ?_)) <;> intro hk
    ·refine Cj (pM o13 ?_)
     refine B4 Gp hO 1 (.int _ _) B5 ?_
     refine B4 Jb hO 1 (.int _ _) B5 ?_
     refine B4 Jb hO 1 (.int _ _) B5 ?_
     refine pM (.int _ _) ?_
     refine B4 HX hO 1 (.int _ _) B5 ?_
     refine AO ?_
     refine AO (bk hk fun wm hv23 hk => ?_)
     refine Ae (fun _ => PM hv23) ?_
     refine JQ (ps := [(0, (.agg [_, _, _]))]) ([wm] : List Ai) DV DB FU (B2 (Bg (α := Ai) wm) (Bb)) (bk hk fun z24 hz24 hk => ?_)
     refine vH (xs := xd) hO 3 hz24 (CE ([wm] : List Ai)) DV DB KG FU DV rfl (fun o24 G hno24 hO => ?_)
     refine pA o24 (pg ?_)
     exact ⟨z24, o24, _, _, hk, hO, sh⟩
    exact Av (gn (⟨xd, o13, _, _, hk, hO, sh⟩))
   rintro _ ⟨zc, we, J, G, hk, hO, rfl⟩
   refine sr (pM (.int _ _) ?_)
   refine pM (.int _ _) ?_
   refine AO ?_
   refine pA (.int _ _) (pg (sr ?_))
   refine Eh hO 2 [_, _] E4 CB ?_
   refine Eh hO 0 [_, _] Br AS (bk hk fun v18 hv18 hk => ?_)
   refine Ae (fun _ => Lw hv18) ?_
   refine pM (.Ei [_, _]) ?_
   refine Qv (.int _ _) ?_
   refine Qv (.int _ _) ?_
   refine pA (.int _ _) ?_
   refine pA (.int _ _) (pg (AU (sr ?_)))
   refine B4 DK hO 2 (.lit _ _ _) HF ?_
   refine pM (.int _ _) (bk hk fun yc xm hk => ?_)
   refine pX xm HA BY ?_
   refine pF DE ?_
   refine CQ (.int _ _) (Gj (lm := m3) (off := 0) xm B5) ?_
   refine AO (pg (As hk ?_ ?_)) <;> intro hk
   ·refine Dh (ge (bo rfl (ge (be (gn (have hk := lx se hk; ?_))))))
    exact ⟨zc, we, _, _, hk, (pk hO [3]), sh⟩
   refine Av (gn (sr (Eh hO 2 [_, _] E4 CB ?_)))
   refine Eh hO 0 [_, _] Br AS (bk hk fun v20 hv20 hk => ?_)
   refine Ae (fun _ => PN hv20) ?_
   refine pM (.Ei [_, _]) ?_
   refine Qv (.lit _ _ _) ?_
   refine Qv (.lit _ _ _) ?_
   refine pA (.lit _ _ _) ?_
   refine pA (.lit _ _ _) (pg ?_)
   refine GC [1,3,5,7,8,10] [_,_,_,_,_,_] ?_
   refine Eh hO 2 [_, _] E4 CB ?_
   refine pM (.lit _ _ _) (bk hk fun c21 hc21 hk => ?_)
   refine pX hc21 CV AS ?_
   refine CQ (.agg [_, _]) (EA (lm := 0) (off := 0) hc21 Br AS) (bk hk fun v22 hv22 hk => ?_)
   refine Ae (fun _ => UP hv22) ?_
   refine DR (xs := [_, _, _]) hO 1 Kz rfl (fun G hO => pE (bn (gn ?_)))
   cases hk; exact ⟨_, rfl, we, _, _, (pk hO [1, 2, 3]), sh⟩
  exact Dh (ge (ge (be (gn (have hk := lx se hk; ⟨x9, o9, _, _, hk, (pk hO [2]), sh⟩)))))
 rintro _ ⟨x3, o3, J, G, hk, hO, rfl⟩
 refine sr (pM o3 ?_)
 refine pA o3 (pg (Ax ?_))
 replace hk := dv hk; subst hk; exact Cv hO (Fx (xs := x3) sn 0) (Dn o3 CC)
def MH (bd : List BQ) (ck : BQ) : Int → Option (Int ⊕ Int) := fun s =>
 (bif decide (s < (bd.length : Int)) then ((AR bd s).bind fun c3 => (bif ((ck.AG == c3.AG) && ((ck.BQ == c3.BQ) && true)) then ((some s).map Sum.inr) else some (.inl (AN (s + 1))))) else ((some (-1:Int)).map Sum.inr))
def gL (bd : List BQ) (ck : BQ) : Option Int :=
 (AQ (MH bd ck) ((0:Int)))
theorem bS (hk : gL bd ck = some r) (sn : 0 < lk.length := by simp) : Aw dp hh 278 [A0 l1 0 bd, .agg [iv ck.AG, iv ck.BQ]] H lk = some (iv r, H) := by
 refine AH Tryz.func278 rfl Tryz.ntmps278 Tryz.results278 rfl rfl fun hO => ?_
 unfold gL at hk
 refine sr (C0 (cs := [_, _]) hO CM (fun b1 G hO => ?_))
 refine pA (.int _ _) (pg (AU (sr ?_)))
 refine pM (.lit _ _ _) ?_
 refine BE KH ?_
 refine pM (.int _ _) (pg (Bn ?_))
 refine AE (F := MH bd ck) (fun s S' => ∃ J G, A6 H G [.Au b1 (.cells 2 [iv ck.AG, iv ck.BQ])] ∧ S' = ⟨Ao [(0, A0 l1 0 bd),(3, .ptr b1 0),(7, iv (bd.length : Int)),(8, iv s)] J, G⟩) hk ⟨_, _, hO, sh⟩ ?_
 rintro x2 _ y1 ⟨J, G, hO, rfl⟩ hk se
 refine sr (AO (pg (AU (As hk ?_ ?_)))) <;> intro hk
 ·refine Av (gn (AU (Bn (sr (pM (.int _ _) ?_)))))
  refine pA (.int _ _) (pg (AU ?_))
  refine GC [1,3,5,7,9,10] [_,_,_,_,_,_] ?_
  refine Eh hO 0 [_, _] KF CM ?_
  refine pM (.lit _ _ _) ?_
  refine pM (.int _ _) (bk hk fun c3 sx hk => ?_)
  refine pX sx Ex CM ?_
  refine CQ (.agg [_, _]) (EA (lm := 0) (off := 0) sx KF CM) ?_
  refine nI sF (Tp (Tq _ _ _) (Tp (Tq _ _ _) (rfl))) (pg (As hk ?_ ?_)) <;> intro hk
  ·refine sr (pM (.int _ _) ?_)
   refine pA (.int _ _) (pg (Ax (br (gr (gr (br (gr (have hk := lx se hk; ?_))))))))
   cases hk; exact Ah hO
  refine Av (bn (gn (Cj (AO ?_))))
  refine pM (.int _ _) (pg ?_)
  cases hk; exact ⟨_, rfl, _, _, hO, sh⟩
 refine Dh (ge (ge (be (gn (have hk := lx se hk; sr (pA (.int _ _) (pg (Ax ?_))))))))
 cases hk; exact Ah hO
def bO (bd : List BQ) (ck : BQ) : Option Bool :=
 ((gL bd ck).bind fun v2 => some (decide (v2 ≥ 0)))
theorem bP (hk : bO bd ck = some r) (sn : 0 < lk.length := by simp) : Aw dp hh 267 [A0 l1 0 bd, .agg [iv ck.AG, iv ck.BQ]] H lk = some (.bool r, H) := by
 refine AH Tryz.func267 rfl Tryz.ntmps267 Tryz.results267 rfl rfl fun hO => ?_
 unfold bO at hk
 refine sr (C0 (cs := [_, _]) hO CM (fun b1 G hO => ?_))
 refine pA (.bool _) (pg (sr ?_))
 refine pM (.lit _ _ _) ?_
 refine Eh hO 0 [_, _] KF CM (bk hk fun v2 yo hk => ?_)
 refine Ae (fun _ => bS yo) ?_
 refine AO ?_
 refine pA (.bool _) (pg (Ax ?_))
 cases hk; exact Ah hO
def OW (x3 : Int) (x4 : Int) : Option ((Int × Int) ⊕ ((List (Ac × Bool)) × List AD)) :=
 some (.inl (x4, AN (x3 + 1)))
def OV (cd : List AI) (bm : BQ) (ch : Bq) (aw : A8) (rc : Ac → (List (Ac × Bool)) → (List AI) → (List AD) → BQ → Bq → A8 → Option ((List (Ac × Bool)) × List AD)) (v15 : (List Ac × List Int)) : ((List (Ac × Bool)) × List AD × Int) → Option (((List (Ac × Bool)) × List AD × Int) ⊕ ((List (Ac × Bool)) × List AD)) := fun s =>
 (bif decide (s.2.2 < (v15.1.length : Int)) then ((AR v15.1 s.2.2).bind fun c20 => ((rc c20 s.1 cd s.2.1 bm ch aw).bind fun tz => some (.inl (tz.1, tz.2, AN (s.2.2 + 1))))) else ((some (s.1, s.2.1)).map Sum.inr))
def OX (bl : Ac) (bw : List (Ac × Bool)) (cd : List AI) (cj : List AD) (bm : BQ) (ch : Bq) (aw : A8) (rc : Ac → (List (Ac × Bool)) → (List AI) → (List AD) → BQ → Bq → A8 → Option ((List (Ac × Bool)) × List AD)) : Option ((List (Ac × Bool)) × List AD) :=
 ((Vx ch (⟨bl.A1, AN ((1:Int) - bl.BI)⟩ : Ac)).bind fun v15 => (AQ (OV cd bm ch aw rc v15) (Dx bl true bw, cj, (0:Int))))
def OY (bl : Ac) (bw : List (Ac × Bool)) (x26 : List AD) : Option ((List (Ac × Bool)) × List AD) :=
 some (Dx bl true bw, x26)
def MG (bl : Ac) (bw : List (Ac × Bool)) (cd : List AI) (cj : List AD) (bm : BQ) (ch : Bq) (aw : A8) (rc : Ac → (List (Ac × Bool)) → (List AI) → (List AD) → BQ → Bq → A8 → Option ((List (Ac × Bool)) × List AD)) : (Int × Int) → Option ((Int × Int) ⊕ ((List (Ac × Bool)) × List AD)) := fun s =>
 (bif decide (s.2 < (cd.length : Int)) then ((AR cd s.2).bind fun c5 => ((bif ((c5.A1 == bl.A1) && (c5.Way == (AN (0 - (AN ((1:Int) - (AN ((2:Int) * bl.BI)))))))) then ((bif decide (s.1 < 0) then some true else ((AR cd s.1).bind fun c9 => some (decide ((AN ((AN (c5.At - c9.At)) * (AN ((1:Int) - (AN ((2:Int) * bl.BI)))))) < 0)))).bind fun t8 => some t8) else some false).bind fun t7 => (bif t7 then (OW s.2 s.2) else (OW s.2 s.1)))) else ((bif decide (s.1 ≥ 0) then ((CL 32 cj ([(⟨bm.AG, (2:Int), s.1, (0:Int)⟩ : AD)] : List AD)).bind fun z10 => some (Dx bl true bw, z10)) else ((UO ch (⟨bl.A1, AN ((1:Int) - bl.BI)⟩ : Ac)).bind fun xl => ((AR ch.A4 xl.1).bind fun xc => (bif (xc.Kind == 1) then ((CL 32 cj ([(⟨bm.AG, (1:Int), xl.1, (0:Int)⟩ : AD)] : List AD)).bind fun z24 => some (Dx bl true bw, z24)) else (bif (xc.Kind == 3) then (bif decide (xl.2 > 0) then ((bO aw.AK (⟨xl.1, xl.2⟩ : BQ)).bind fun wc => (bif wc then ((CL 32 cj ([(⟨bm.AG, (4:Int), xl.1, (0:Int)⟩ : AD)] : List AD)).bind fun wv => (OY bl bw wv)) else ((CL 32 cj ([(⟨bm.AG, (3:Int), xl.1, AN ((3:Int) - xl.2)⟩ : AD)] : List AD)).bind fun z31 => (OY bl bw z31)))) else (OX bl bw cd cj bm ch aw rc)) else (OX bl bw cd cj bm ch aw rc)))))).map Sum.inr))
def Vy (F : Ac → (List (Ac × Bool)) → (List AI) → (List AD) → BQ → Bq → A8 → Option ((List (Ac × Bool)) × List AD)) : Prop := ∀ (bl : Ac) (bw : List (Ac × Bool)) (cd : List AI) (cj : List AD) (bm : BQ) (ch : Bq) (aw : A8) {r : ((List (Ac × Bool)) × List AD)} {l1 l2 l3 m4 l5 l6 l7 l8 l9 l10 : Nat} {q0 q1 q2 q3 q4 q5 q6 uv : Nat} {w1 : V} {sf : List Nat} {sc : Nat} {H : A5} {lk : Lk}, F bl bw cd cj bm ch aw = some r → A6 H H [.Aj ([q0]) q0 (.cells 1 [.Cm uv]), .Aj [uv] uv (.mp (BC bw)), .Aj ([q1]) q1 (.cells 1 [A0 l1 0 cd]), .Aj ([q2]) q2 (.cells 1 [w1]), Gr sf sf sc cj w1, .Aj ([q3]) q3 (.cells 2 [.int .i64 bm.AG, .int .i64 bm.BQ]), .Aj ([q4]) q4 (.cells 2 [A0 l2 0 ch.A3, A0 l3 m4 ch.A4]), .Aj ([q5]) q5 (.cells 8 [.int .i64 aw.AY, .int .i64 aw.To, A0 l5 0 aw.Steps, A0 l6 0 aw.AK, A0 l7 0 aw.A7, A0 l8 0 aw.AP, A0 l9 0 aw.C2, A0 l10 0 aw.Ad]), .Aj ([q6]) q6 (.cells 1 [.fn 266 [.ptr q0 0, .ptr q1 0, .ptr q2 0, .ptr q3 0, .ptr q4 0, .ptr q5 0, .ptr q6 0]])] → (∀ b ∈ ([q0] ++ ([uv] ++ ([q1] ++ ([q2] ++ (sf ++ ([q3] ++ ([q4] ++ ([q5] ++ ([q6] ++ []))))))))), AT lk b = true) → (∀ b ∈ ([q0] ++ ([uv] ++ ([q1] ++ ([q2] ++ (sf ++ ([q3] ++ ([q4] ++ ([q5] ++ ([q6] ++ []))))))))), b < H.length) → EK lk H.length → sc < lk.length → ∃ v H1, Aw dp hh 266 [.agg [.int .i64 bl.A1, .int .i64 bl.BI], .ptr q0 0, .ptr q1 0, .ptr q2 0, .ptr q3 0, .ptr q4 0, .ptr q5 0, .ptr q6 0] H lk = some (v, H1) ∧ v = .Ei [] ∧ ∃ (E : List Nat × V) (Hm : A5), BK H Hm ([q0] ++ ([uv] ++ ([q1] ++ ([q2] ++ (sf ++ ([q3] ++ ([q4] ++ ([q5] ++ ([q6] ++ []))))))))) ∧ A6 Hm H1 [.Aj [q0] q0 (.cells 1 [.Cm uv]), .Aj [uv] uv (.mp (BC r.1)), .Aj [q1] q1 (.cells 1 [A0 l1 0 cd]), .Aj [q2] q2 (.cells 1 [E.2]), Gr sf E.1 sc r.2 E.2, .Aj [q3] q3 (.cells 2 [.int .i64 bm.AG, .int .i64 bm.BQ]), .Aj [q4] q4 (.cells 2 [A0 l2 0 ch.A3, A0 l3 m4 ch.A4]), .Aj [q5] q5 (.cells 8 [.int .i64 aw.AY, .int .i64 aw.To, A0 l5 0 aw.Steps, A0 l6 0 aw.AK, A0 l7 0 aw.A7, A0 l8 0 aw.AP, A0 l9 0 aw.C2, A0 l10 0 aw.Ad]), .Aj [q6] q6 (.cells 1 [.fn 266 [.ptr q0 0, .ptr q1 0, .ptr q2 0, .ptr q3 0, .ptr q4 0, .ptr q5 0, .ptr q6 0]])]
def PS (rc : Ac → (List (Ac × Bool)) → (List AI) → (List AD) → BQ → Bq → A8 → Option ((List (Ac × Bool)) × List AD)) (bl : Ac) (bw : List (Ac × Bool)) (cd : List AI) (cj : List AD) (bm : BQ) (ch : Bq) (aw : A8) : Option ((List (Ac × Bool)) × List AD) :=
 (bif (Dw bl bw false) then some (bw, cj) else (AQ (MG bl bw cd cj bm ch aw rc) ((-1:Int), (0:Int))))
def YI : Nat → Ac → (List (Ac × Bool)) → (List AI) → (List AD) → BQ → Bq → A8 → Option ((List (Ac × Bool)) × List AD)
 | 0 => fun _ _ _ _ _ _ _ => none
 | n + 1 => PS (YI n)
theorem YJ {rc : Ac → (List (Ac × Bool)) → (List AI) → (List AD) → BQ → Bq → A8 → Option ((List (Ac × Bool)) × List AD)} (hrc : Vy rc) : Vy (PS rc) := by
 intro bl bw cd cj bm ch aw r l1 l2 l3 m4 l5 l6 l7 l8 l9 l10 q0 q1 q2 q3 q4 q5 q6 uv w1 sf sc H lk hk hO hS sd hlo sj
 have sn : 0 < lk.length := ka (ga _) sj
 refine BG Tryz.func266 rfl Tryz.ntmps266 Tryz.results266 rfl rfl ?_
 have sb := BK.refl H ([q0] ++ ([uv] ++ ([q1] ++ ([q2] ++ (sf ++ ([q3] ++ ([q4] ++ ([q5] ++ ([q6] ++ [])))))))))
 unfold PS at hk
 refine sr (C0 (cs := [_, _]) hO AS (fun b1 G hO => pg (AU (sr ?_))))
 refine I9 hO 1 (.Cm _) kV ?_
 refine Eh hO 0 [_, _] Br AS ?_
 refine oF bl (false : Bool) (hO.W1 (k := 2) rfl).1 lD KP uV (pg (As hk ?_ ?_)) <;> intro hk
 ·refine Ax (gr ?_)
  have tk : q0 < H.length := sd _ (sL _ (dt.2 rfl))
  have hm0 : uv < H.length := sd _ ((sR sL) _ (dt.2 rfl))
  have vn : q1 < H.length := sd _ ((sR (sR sL)) _ (dt.2 rfl))
  have zy : q2 < H.length := sd _ ((sR (sR (sR sL))) _ (dt.2 rfl))
  have hq3 : q3 < H.length := sd _ ((sR (sR (sR (sR (sR sL))))) _ (dt.2 rfl))
  have hq4 : q4 < H.length := sd _ ((sR (sR (sR (sR (sR (sR sL)))))) _ (dt.2 rfl))
  have hq5 : q5 < H.length := sd _ ((sR (sR (sR (sR (sR (sR (sR sL))))))) _ (dt.2 rfl))
  have hq6 : q6 < H.length := sd _ ((sR (sR (sR (sR (sR (sR (sR (sR sL)))))))) _ (dt.2 rfl))
  replace hk := dv hk; subst hk; exact GW (sf, w1) (pk hO [1, 2, 3, 4, 5, 6, 7, 8, 9]) sb (BJ (CS tk) (BJ (CS hm0) (BJ (CS vn) (BJ (CS zy) (BJ (Cf (ej sj)) (BJ (CS hq3) (BJ (CS hq4) (BJ (CS hq5) (BJ (CS hq6) GL))))))))) rfl rfl rfl rfl (by first | exact Or.inl rfl | exact Or.inr rfl)
 refine Av (gn (sr (I9 hO 1 (.Cm _) kV ?_)))
 refine Eh hO 0 [_, _] Br AS ?_
 refine uL hO 2 bl true lD KP sb hS (sR sL) rfl (fun H1 G sb hO => pg (sr ?_))
 refine B4 EX hO 0 (.int _ _) B5 ?_
 refine AO ?_
 refine AO ?_
 refine pA (.int _ _) (pg (sr ?_))
 refine pA (.int _ _) (pg (AU (sr ?_)))
 refine I9 hO 3 (.lit _ _ _) RW ?_
 refine BE KI ?_
 refine pM (.int _ _) (pg (Bn ?_))
 refine AE (F := MG bl bw cd cj bm ch aw rc) (fun s S' => ∃ J G H1, BK H H1 ([q0] ++ ([uv] ++ ([q1] ++ ([q2] ++ (sf ++ ([q3] ++ ([q4] ++ ([q5] ++ ([q6] ++ []))))))))) ∧ A6 H1 G [.Au b1 (.cells 2 [iv bl.A1, iv bl.BI]), .Aj ([q0]) q0 (.cells 1 [.Cm uv]), .Aj [uv] uv (.mp (BC (Dx bl true bw))), .Aj ([q1]) q1 (.cells 1 [A0 l1 0 cd]), Gr sf sf sc cj w1, .Aj ([q2]) q2 (.cells 1 [w1]), .Aj ([q3]) q3 (.cells 2 [iv bm.AG, iv bm.BQ]), .Aj ([q4]) q4 (.cells 2 [A0 l2 0 ch.A3, A0 l3 m4 ch.A4]), .Aj ([q5]) q5 (.cells 8 [iv aw.AY, iv aw.To, A0 l5 0 aw.Steps, A0 l6 0 aw.AK, A0 l7 0 aw.A7, A0 l8 0 aw.AP, A0 l9 0 aw.C2, A0 l10 0 aw.Ad]), .Aj ([q6]) q6 (.cells 1 [.fn 266 [.ptr q0 0, .ptr q1 0, .ptr q2 0, .ptr q3 0, .ptr q4 0, .ptr q5 0, .ptr q6 0]])] ∧ S' = ⟨Ao [(2, .ptr q1 0),(3, .ptr q2 0),(4, .ptr q3 0),(5, .ptr q4 0),(6, .ptr q5 0),(7, .ptr q6 0),(8, .ptr b1 0),(9, iv (AN ((1:Int) - (AN ((2:Int) * bl.BI))))),(10, iv s.1),(29, A0 l1 0 cd),(30, iv (cd.length : Int)),(31, iv s.2)] J, G⟩) hk ⟨_, _, _, sb, (pk hO [0, 1, 2, 3, 5, 4, 6, 7, 8, 9]), sh⟩ ?_
 rintro ⟨x2, x3⟩ _ y1 ⟨J, G, H1, sb, hO, rfl⟩ hk se
 refine sr (AO (pg (AU (As hk ?_ ?_)))) <;> intro hk
 ·refine Av (gn (CX (fun S' => ∃ x4 J G H1, OW x3 x4 = some y1 ∧ BK H H1 ([q0] ++ ([uv] ++ ([q1] ++ ([q2] ++ (sf ++ ([q3] ++ ([q4] ++ ([q5] ++ ([q6] ++ []))))))))) ∧ A6 H1 G [.Au b1 (.cells 2 [iv bl.A1, iv bl.BI]), .Aj ([q0]) q0 (.cells 1 [.Cm uv]), .Aj [uv] uv (.mp (BC (Dx bl true bw))), .Aj ([q1]) q1 (.cells 1 [A0 l1 0 cd]), Gr sf sf sc cj w1, .Aj ([q2]) q2 (.cells 1 [w1]), .Aj ([q3]) q3 (.cells 2 [iv bm.AG, iv bm.BQ]), .Aj ([q4]) q4 (.cells 2 [A0 l2 0 ch.A3, A0 l3 m4 ch.A4]), .Aj ([q5]) q5 (.cells 8 [iv aw.AY, iv aw.To, A0 l5 0 aw.Steps, A0 l6 0 aw.AK, A0 l7 0 aw.A7, A0 l8 0 aw.AP, A0 l9 0 aw.C2, A0 l10 0 aw.Ad]), .Aj ([q6]) q6 (.cells 1 [.fn 266 [.ptr q0 0, .ptr q1 0, .ptr q2 0, .ptr q3 0, .ptr q4 0, .ptr q5 0, .ptr q6 0]])] ∧ S' = ⟨Ao [(2, .ptr q1 0),(3, .ptr q2 0),(4, .ptr q3 0),(5, .ptr q4 0),(6, .ptr q5 0),(7, .ptr q6 0),(8, .ptr b1 0),(9, iv (AN ((1:Int) - (AN ((2:Int) * bl.BI))))),(10, iv x4),(29, A0 l1 0 cd),(30, iv (cd.length : Int)),(31, iv x3)] J, G⟩) ?_ ?_))
  ·refine Bn (sr (pM (.int _ _) (bk hk fun c5 tx hk => ?_)))
   refine pX tx GM BF ?_
   refine CQ (.agg [_, _, _, _]) (EA (lm := 0) (off := 0) tx H8 BF) (C9 hO BF HL (fun b6 G hO => ?_))
   refine pA (.int _ _) ?_
   refine DR (xs := [_, _, _, _]) hO 0 BF sb.1.symm (fun G hO => pg (AU ?_))
   refine GC [1,3,5,7,8,10,12,15,17,19,20,22,24,26,28,30,33,35,37,39,41,43,45,46,49,50,52,54,56] [_,_,_,_,_,_,_,_,_,_,_,_,_,_,_,_,_,_,_,_,_,_,_,_,_,_,_,_,_] ?_
   refine B4 DD hO 0 (.int _ _) B5 ?_
   refine B4 Dk hO 1 (.int _ _) B5 ?_
   refine AO ?_
   refine pM (.bool _) ?_
   refine Aa (l1 := [_, _, _, _, _, _]) (fun S' => ∃ J, S' = ⟨Ao [(2, .ptr q1 0),(3, .ptr q2 0),(4, .ptr q3 0),(5, .ptr q4 0),(6, .ptr q5 0),(7, .ptr q6 0),(8, .ptr b1 0),(9, iv (AN ((1:Int) - (AN ((2:Int) * bl.BI))))),(10, iv x2),(11, iv x3),(12, .ptr b6 0),(29, A0 l1 0 cd),(30, iv (cd.length : Int)),(31, iv x3),(47, .bool ((c5.A1 == bl.A1) && (c5.Way == (AN (0 - (AN ((1:Int) - (AN ((2:Int) * bl.BI)))))))))] J, G⟩) ?_ ?_
   ·refine bc (b := (c5.A1 == bl.A1)) ?_ ?_ <;> intro hg
    ·refine AZ hg (pF DO (AZ hg ?_))
     refine Eg hO 0 (.int _ _) B5 (AZ hg ?_)
     refine pM (.int _ _) (AZ hg ?_)
     refine pU (AZ hg ?_)
     refine AO ?_
     refine Ev hg (.bool _) ?_
     exact pE ⟨_, St.Ao _ ⟨rfl, rfl, rfl, rfl, rfl, rfl, rfl, rfl, rfl, rfl, rfl, rfl, rfl, rfl, by rw [hg]; rfl, trivial⟩⟩
    repeat refine CK hg ?_
    refine Eu hg (.bool _) ?_
    exact pE ⟨_, St.Ao _ ⟨rfl, rfl, rfl, rfl, rfl, rfl, rfl, rfl, rfl, rfl, rfl, rfl, rfl, rfl, by rw [hg]; rfl, trivial⟩⟩
   rintro _ ⟨J, rfl⟩
   refine pM (.bool _) (bk hk fun t7 ht hk => ?_)
   refine Aa (l1 := [_, _, _, _, _, _, _, _, _, _, _, _, _, _, _, _]) (fun S' => ∃ J, S' = ⟨Ao [(2, .ptr q1 0),(3, .ptr q2 0),(4, .ptr q3 0),(5, .ptr q4 0),(6, .ptr q5 0),(7, .ptr q6 0),(8, .ptr b1 0),(9, iv (AN ((1:Int) - (AN ((2:Int) * bl.BI))))),(10, iv x2),(11, iv x3),(29, A0 l1 0 cd),(30, iv (cd.length : Int)),(31, iv x3),(64, .bool t7)] J, G⟩) ?_ ?_
   ·refine bc (b := ((c5.A1 == bl.A1) && (c5.Way == (AN (0 - (AN ((1:Int) - (AN ((2:Int) * bl.BI))))))))) ?_ ?_ <;> intro hg
    ·replace hk := ct hg ht
     refine AZ hg (pM (.int _ _) (AZ hg ?_))
     refine AO (AZ hg ?_)
     refine pM (.bool _) (bk hk fun t8 ht hk => ?_)
     refine Aa (l1 := [_, _, _, _, _, _, _, _, _, _, _, _]) (fun S' => ∃ J, S' = ⟨Ao [(2, .ptr q1 0),(3, .ptr q2 0),(4, .ptr q3 0),(5, .ptr q4 0),(6, .ptr q5 0),(7, .ptr q6 0),(8, .ptr b1 0),(9, iv (AN ((1:Int) - (AN ((2:Int) * bl.BI))))),(10, iv x2),(11, iv x3),(29, A0 l1 0 cd),(30, iv (cd.length : Int)),(31, iv x3),(48, .bool ((c5.A1 == bl.A1) && (c5.Way == (AN (0 - (AN ((1:Int) - (AN ((2:Int) * bl.BI))))))))),(63, .bool t8)] J, G⟩) ?_ ?_
     ·refine bc (b := decide (x2 < 0)) (fun si => ?_) (fun si => ?_)
      ·replace hk := ct si ht
       repeat refine CK si ?_
       refine AZ hg (Ev si (.bool _) ?_)
       cases hk; exact pE ⟨_, sh⟩
      replace hk := cf si ht
      refine AZ si (pF CW (AZ si ?_))
      refine Eg hO 0 (.int _ _) B5 (AZ si ?_)
      refine I9 hO 4 (.lit _ _ _) RW (AZ si ?_)
      refine pM (.int _ _) (AZ si (bk hk fun c9 vk hk => ?_))
      refine pX vk GM BF (AZ si ?_)
      refine pF CW (AZ si ?_)
      refine CQ (.int _ _) (Gj (lm := 0) (off := 2) vk B5) (AZ si ?_)
      refine AO (AZ si ?_)
      refine pM (.int _ _) (AZ si ?_)
      refine AO (AZ si ?_)
      refine AO (AZ hg ?_)
      refine Eu si (.bool _) ?_
      cases hk; exact pE ⟨_, sh⟩
     rintro _ ⟨J, rfl⟩
     refine Ev hg (.bool _) ?_
     cases hk; exact pE ⟨_, sh⟩
    replace hk := cf hg ht
    refine CK hg (CK hg (CK hg (E9 (E9 (E9 (E9 (E9 (E9 (E9 (E9 (E9 (E9 (E9 (CK hg (Eu hg (.bool _) ?_)))))))))))))))
    cases hk; exact pE ⟨_, sh⟩
   rintro _ ⟨J, rfl⟩
   refine pg (As hk ?_ ?_) <;> intro hk
   ·refine Cj (pM (.int _ _) ?_)
    refine pA (.int _ _) (pE (bn (gn ?_)))
    exact ⟨x3, _, _, _, hk, sb, (pk hO [1, 2, 3, 4, 5, 6, 7, 8, 9, 10]), sh⟩
   exact Av (bn (gn (⟨x2, _, _, _, hk, sb, (pk hO [1, 2, 3, 4, 5, 6, 7, 8, 9, 10]), sh⟩)))
  rintro _ ⟨x4, J, G, H1, hk, sb, hO, rfl⟩
  refine Cj (AO ?_)
  refine pM (.int _ _) (pg ?_)
  cases hk; exact ⟨_, rfl, _, _, _, sb, hO, sh⟩
 refine Dh (ge (ge (be (gn (have hk := lx se hk; AU (sr (pM (.int _ _) ?_)))))))
 refine AO (pg (As hk ?_ ?_)) <;> intro hk
 ·refine sr (I9 hO 5 w1 I4 ?_)
  refine pF Ez ?_
  refine I9 hO 6 (.int _ _) B5 ?_
  refine pM (.int _ _) ?_
  refine G9 [_, _, _, _] EO Ns ?_
  refine JQ (ps := [(0, (.agg [_, _, _, _]))]) ([(⟨bm.AG, (2:Int), x2, (0:Int)⟩ : AD)] : List AD) D5 Db EO (B2 (Bg (α := AD) (⟨bm.AG, (2:Int), x2, (0:Int)⟩ : AD)) (Bb)) (bk hk fun z10 hz10 hk => ?_)
  refine O4 (xs := cj) hO 4 hz10 (CE ([(⟨bm.AG, (2:Int), x2, (0:Int)⟩ : AD)] : List AD)) D5 Db Ky EO D5 sj sb hS (sR (sR (sR (sR sL)))) rfl (fun o10 F10 H1 G sb hO => ?_)
  have tq := BT hO (j := 4) rfl
  refine WX [_] hO 5 KJ sb hS (sR (sR (sR sL))) rfl (Cu hO (j := 4) rfl 1 ig) (fun H1 G sb hO => ?_) (h3 := tq.1) (h6 := C7 tq.2)
  refine pg (Ax (gr ?_))
  have tk : q0 < H.length := sd _ (sL _ (dt.2 rfl))
  have hm0 : uv < H.length := sd _ ((sR sL) _ (dt.2 rfl))
  have vn : q1 < H.length := sd _ ((sR (sR sL)) _ (dt.2 rfl))
  have zy : q2 < H.length := sd _ ((sR (sR (sR sL))) _ (dt.2 rfl))
  have hq3 : q3 < H.length := sd _ ((sR (sR (sR (sR (sR sL))))) _ (dt.2 rfl))
  have hq4 : q4 < H.length := sd _ ((sR (sR (sR (sR (sR (sR sL)))))) _ (dt.2 rfl))
  have hq5 : q5 < H.length := sd _ ((sR (sR (sR (sR (sR (sR (sR sL))))))) _ (dt.2 rfl))
  have hq6 : q6 < H.length := sd _ ((sR (sR (sR (sR (sR (sR (sR (sR sL)))))))) _ (dt.2 rfl))
  replace hk := dv hk; subst hk; exact GW (F10, o10) (pk hO [1, 2, 3, 5, 4, 6, 7, 8, 9]) sb (BJ (CS tk) (BJ (CS hm0) (BJ (CS vn) (BJ (CS zy) (BJ (Cf (ej sj)) (BJ (CS hq3) (BJ (CS hq4) (BJ (CS hq5) (BJ (CS hq6) GL))))))))) rfl rfl rfl rfl (by first | exact Or.inl rfl | exact Or.inr rfl)
 refine Av (gn (sr (B4 Dk hO 0 (.int _ _) B5 ?_)))
 refine B4 EX hO 0 (.int _ _) B5 ?_
 refine AO ?_
 refine G9 [_, _] Cw Mm (C9 hO AS Cw (fun b12 G hO => ?_))
 refine DR (xs := [_, _]) hO 0 AS sb.1.symm (fun G hO => pg (sr ?_))
 refine LM [_, _] hO 8 E4 CB ?_
 refine Eh hO 0 [_, _] Br AS (bk hk fun xl hv13 hk => ?_)
 refine Ae (fun _ => Lw hv13) ?_
 refine pM (.Ei [_, _]) ?_
 refine Qv (.int _ _) ?_
 refine Qv (.int _ _) ?_
 refine pA (.int _ _) ?_
 refine pA (.int _ _) (pg (sr ?_))
 refine pF DK ?_
 refine I9 hO 8 (.lit _ _ _) HF ?_
 refine pM (.int _ _) (bk hk fun xc ur hk => ?_)
 refine pX ur HA BY ?_
 refine pF DE ?_
 refine CQ (.int _ _) (Gj (lm := m4) (off := 0) ur B5) (pg (Bn ?_))
 refine CX (fun S' => ∃  (J : Nat → V) (G : A5) (H1 : A5), OX bl bw cd cj bm ch aw rc = some r ∧ BK H H1 ([q0] ++ ([uv] ++ ([q1] ++ ([q2] ++ (sf ++ ([q3] ++ ([q4] ++ ([q5] ++ ([q6] ++ []))))))))) ∧ A6 H1 G [.Au b12 (.cells 2 [iv bl.A1, iv (AN ((1:Int) - bl.BI))]), .Aj ([q0]) q0 (.cells 1 [.Cm uv]), .Aj [uv] uv (.mp (BC (Dx bl true bw))), .Aj ([q1]) q1 (.cells 1 [A0 l1 0 cd]), Gr sf sf sc cj w1, .Aj ([q2]) q2 (.cells 1 [w1]), .Aj ([q3]) q3 (.cells 2 [iv bm.AG, iv bm.BQ]), .Aj ([q4]) q4 (.cells 2 [A0 l2 0 ch.A3, A0 l3 m4 ch.A4]), .Aj ([q5]) q5 (.cells 8 [iv aw.AY, iv aw.To, A0 l5 0 aw.Steps, A0 l6 0 aw.AK, A0 l7 0 aw.A7, A0 l8 0 aw.AP, A0 l9 0 aw.C2, A0 l10 0 aw.Ad]), .Aj ([q6]) q6 (.cells 1 [.fn 266 [.ptr q0 0, .ptr q1 0, .ptr q2 0, .ptr q3 0, .ptr q4 0, .ptr q5 0, .ptr q6 0]])] ∧ S' = ⟨Ao [(5, .ptr q4 0),(7, .ptr q6 0),(13, .ptr b12 0)] J, G⟩) ?_ ?_
 ·refine Bn (AU (Bn (AU (Bn (AU (AU (sr (AO ?_))))))))
  refine pA (.bool _) (pg (As hk ?_ ?_)) <;> intro hk
  ·refine Dh (ge (ge (be (gn (sr (I9 hO 6 w1 I4 ?_))))))
   refine pF Ez ?_
   refine I9 hO 7 (.int _ _) B5 ?_
   refine pM (.int _ _) ?_
   refine G9 [_, _, _, _] EO Ns ?_
   refine JQ (ps := [(0, (.agg [_, _, _, _]))]) ([(⟨bm.AG, (1:Int), xl.1, (0:Int)⟩ : AD)] : List AD) D5 Db EO (B2 (Bg (α := AD) (⟨bm.AG, (1:Int), xl.1, (0:Int)⟩ : AD)) (Bb)) (bk hk fun z24 hz24 hk => ?_)
   refine O4 (xs := cj) hO 5 hz24 (CE ([(⟨bm.AG, (1:Int), xl.1, (0:Int)⟩ : AD)] : List AD)) D5 Db Ky EO D5 sj sb hS (sR (sR (sR (sR sL)))) rfl (fun o24 F24 H1 G sb hO => ?_)
   have xe := BT hO (j := 5) rfl
   refine WX [_] hO 6 KJ sb hS (sR (sR (sR sL))) rfl (Cu hO (j := 5) rfl 1 ig) (fun H1 G sb hO => ?_) (h3 := xe.1) (h6 := C7 xe.2)
   refine pg (Dh (bo rfl (ge (bo rfl (ge (be ?_))))))
   have tk : q0 < H.length := sd _ (sL _ (dt.2 rfl))
   have hm0 : uv < H.length := sd _ ((sR sL) _ (dt.2 rfl))
   have vn : q1 < H.length := sd _ ((sR (sR sL)) _ (dt.2 rfl))
   have zy : q2 < H.length := sd _ ((sR (sR (sR sL))) _ (dt.2 rfl))
   have hq3 : q3 < H.length := sd _ ((sR (sR (sR (sR (sR sL))))) _ (dt.2 rfl))
   have hq4 : q4 < H.length := sd _ ((sR (sR (sR (sR (sR (sR sL)))))) _ (dt.2 rfl))
   have hq5 : q5 < H.length := sd _ ((sR (sR (sR (sR (sR (sR (sR sL))))))) _ (dt.2 rfl))
   have hq6 : q6 < H.length := sd _ ((sR (sR (sR (sR (sR (sR (sR (sR sL)))))))) _ (dt.2 rfl))
   replace hk := dv hk; subst hk; exact GW (F24, o24) (pk hO [2, 3, 4, 6, 5, 7, 8, 9, 10]) sb (BJ (CS tk) (BJ (CS hm0) (BJ (CS vn) (BJ (CS zy) (BJ (Cf (ej sj)) (BJ (CS hq3) (BJ (CS hq4) (BJ (CS hq5) (BJ (CS hq6) GL))))))))) rfl rfl rfl rfl (by first | exact Or.inl rfl | exact Or.inr rfl)
  refine Av (gn (sr (AO ?_)))
  refine pA (.bool _) (pg (As hk ?_ ?_)) <;> intro hk
  ·refine Dh (ge (bo rfl (ge (be (gn (sr ?_))))))
   refine pM (.int _ _) ?_
   refine AO (pg (As hk ?_ ?_)) <;> intro hk
   ·refine CX (fun S' => ∃ x26 o26 F27 J G H1, OY bl bw x26 = some r ∧ BK H H1 ([q0] ++ ([uv] ++ ([q1] ++ ([q2] ++ (sf ++ ([q3] ++ ([q4] ++ ([q5] ++ ([q6] ++ []))))))))) ∧ A6 H1 G [.Aj ([q0]) q0 (.cells 1 [.Cm uv]), .Aj [uv] uv (.mp (BC (Dx bl true bw))), .Aj ([q1]) q1 (.cells 1 [A0 l1 0 cd]), Gr sf F27 sc x26 o26, .Aj ([q2]) q2 (.cells 1 [o26]), .Aj ([q3]) q3 (.cells 2 [iv bm.AG, iv bm.BQ]), .Aj ([q4]) q4 (.cells 2 [A0 l2 0 ch.A3, A0 l3 m4 ch.A4]), .Aj ([q5]) q5 (.cells 8 [iv aw.AY, iv aw.To, A0 l5 0 aw.Steps, A0 l6 0 aw.AK, A0 l7 0 aw.A7, A0 l8 0 aw.AP, A0 l9 0 aw.C2, A0 l10 0 aw.Ad]), .Aj ([q6]) q6 (.cells 1 [.fn 266 [.ptr q0 0, .ptr q1 0, .ptr q2 0, .ptr q3 0, .ptr q4 0, .ptr q5 0, .ptr q6 0]])] ∧ S' = ⟨Ao [] J, G⟩) ?_ ?_
    ·refine sr (pF DY ?_)
     refine I9 hO 9 (.lit _ _ _) I2 ?_
     refine pM (.int _ _) ?_
     refine pM (.int _ _) ?_
     refine G9 [_, _] I1 eM (bk hk fun wc hv28 hk => ?_)
     refine Ae (fun _ => bP hv28) (pg (As hk ?_ ?_)) <;> intro hk
     ·refine Cj (I9 hO 6 w1 I4 ?_)
      refine pF Ez ?_
      refine I9 hO 7 (.int _ _) B5 ?_
      refine pM (.int _ _) ?_
      refine G9 [_, _, _, _] EO Ns ?_
      refine JQ (ps := [(0, (.agg [_, _, _, _]))]) ([(⟨bm.AG, (4:Int), xl.1, (0:Int)⟩ : AD)] : List AD) D5 Db EO (B2 (Bg (α := AD) (⟨bm.AG, (4:Int), xl.1, (0:Int)⟩ : AD)) (Bb)) (bk hk fun wv hz29 hk => ?_)
      refine O4 (xs := cj) hO 5 hz29 (CE ([(⟨bm.AG, (4:Int), xl.1, (0:Int)⟩ : AD)] : List AD)) D5 Db Ky EO D5 sj sb hS (sR (sR (sR (sR sL)))) rfl (fun vl F29 H1 G sb hO => ?_)
      have ym := BT hO (j := 5) rfl
      refine WX [_] hO 6 KJ sb hS (sR (sR (sR sL))) rfl (Cu hO (j := 5) rfl 1 ig) (fun H1 G sb hO => ?_) (h3 := ym.1) (h6 := C7 ym.2)
      exact pg (⟨wv, vl, F29, _, _, _, hk, sb, (pk hO [2, 3, 4, 5, 6, 7, 8, 9, 10]), St.Ao _ trivial⟩)
     refine Cj (I9 hO 6 w1 I4 ?_)
     refine pF Ez ?_
     refine I9 hO 7 (.int _ _) B5 ?_
     refine pM (.int _ _) ?_
     refine pM (.int _ _) ?_
     refine AO ?_
     refine G9 [_, _, _, _] EO Ns ?_
     refine JQ (ps := [(0, (.agg [_, _, _, _]))]) ([(⟨bm.AG, (3:Int), xl.1, AN ((3:Int) - xl.2)⟩ : AD)] : List AD) D5 Db EO (B2 (Bg (α := AD) (⟨bm.AG, (3:Int), xl.1, AN ((3:Int) - xl.2)⟩ : AD)) (Bb)) (bk hk fun z31 hz31 hk => ?_)
     refine O4 (xs := cj) hO 5 hz31 (CE ([(⟨bm.AG, (3:Int), xl.1, AN ((3:Int) - xl.2)⟩ : AD)] : List AD)) D5 Db Ky EO D5 sj sb hS (sR (sR (sR (sR sL)))) rfl (fun o31 F31 H1 G sb hO => ?_)
     have hc32 := BT hO (j := 5) rfl
     refine WX [_] hO 6 KJ sb hS (sR (sR (sR sL))) rfl (Cu hO (j := 5) rfl 1 ig) (fun H1 G sb hO => ?_) (h3 := hc32.1) (h6 := C7 hc32.2)
     exact pg (⟨z31, o31, F31, _, _, _, hk, sb, (pk hO [2, 3, 4, 5, 6, 7, 8, 9, 10]), St.Ao _ trivial⟩)
    rintro _ ⟨x26, o26, F27, J, G, H1, hk, sb, hO, rfl⟩
    refine Ax (br (gr (br ?_)))
    have tk : q0 < H.length := sd _ (sL _ (dt.2 rfl))
    have hm0 : uv < H.length := sd _ ((sR sL) _ (dt.2 rfl))
    have vn : q1 < H.length := sd _ ((sR (sR sL)) _ (dt.2 rfl))
    have zy : q2 < H.length := sd _ ((sR (sR (sR sL))) _ (dt.2 rfl))
    have hq3 : q3 < H.length := sd _ ((sR (sR (sR (sR (sR sL))))) _ (dt.2 rfl))
    have hq4 : q4 < H.length := sd _ ((sR (sR (sR (sR (sR (sR sL)))))) _ (dt.2 rfl))
    have hq5 : q5 < H.length := sd _ ((sR (sR (sR (sR (sR (sR (sR sL))))))) _ (dt.2 rfl))
    have hq6 : q6 < H.length := sd _ ((sR (sR (sR (sR (sR (sR (sR (sR sL)))))))) _ (dt.2 rfl))
    replace hk := dv hk; subst hk; exact GW (F27, o26) (pk hO [0, 1, 2, 4, 3, 5, 6, 7, 8]) sb (BJ (CS tk) (BJ (CS hm0) (BJ (CS vn) (BJ (CS zy) (BJ (Cf (ej sj)) (BJ (CS hq3) (BJ (CS hq4) (BJ (CS hq5) (BJ (CS hq6) GL))))))))) rfl rfl rfl rfl (by first | exact Or.inl rfl | exact Or.inr rfl)
   exact Av (bn (gn (⟨_, _, _, hk, sb, (pk hO [0, 2, 3, 4, 5, 6, 7, 8, 9, 10]), sh⟩)))
  refine Av (gn (Dh (bo rfl (ge (bo rfl (ge (be (gn ?_))))))))
  exact ⟨_, _, _, hk, sb, (pk hO [0, 2, 3, 4, 5, 6, 7, 8, 9, 10]), sh⟩
 rintro _ ⟨J, G, H1, hk, sb, hO, rfl⟩
 refine AU (sr (LM [_, _] hO 7 E4 CB ?_))
 refine Eh hO 0 [_, _] Br AS (bk hk fun v15 hv15 hk => ?_)
 refine Ae (fun _ => PN hv15) ?_
 refine pM (.Ei [_, _]) ?_
 refine Qv (.lit _ _ _) ?_
 refine Qv (.lit _ _ _) ?_
 refine pA (.lit _ _ _) ?_
 refine pA (.lit _ _ _) (pg (sr ?_))
 refine pM (.lit _ _ _) ?_
 refine BE HM ?_
 refine pM (.int _ _) (pg (Bn ?_))
 refine AE (F := OV cd bm ch aw rc v15) (fun s S' => ∃ o17 F18 J G H1, BK H H1 ([q0] ++ ([uv] ++ ([q1] ++ ([q2] ++ (sf ++ ([q3] ++ ([q4] ++ ([q5] ++ ([q6] ++ []))))))))) ∧ A6 H1 G [.Aj ([q0]) q0 (.cells 1 [.Cm uv]), .Aj [uv] uv (.mp (BC s.1)), .Aj ([q1]) q1 (.cells 1 [A0 l1 0 cd]), Gr sf F18 sc s.2.1 o17, .Aj ([q2]) q2 (.cells 1 [o17]), .Aj ([q3]) q3 (.cells 2 [iv bm.AG, iv bm.BQ]), .Aj ([q4]) q4 (.cells 2 [A0 l2 0 ch.A3, A0 l3 m4 ch.A4]), .Aj ([q5]) q5 (.cells 8 [iv aw.AY, iv aw.To, A0 l5 0 aw.Steps, A0 l6 0 aw.AK, A0 l7 0 aw.A7, A0 l8 0 aw.AP, A0 l9 0 aw.C2, A0 l10 0 aw.Ad]), .Aj ([q6]) q6 (.cells 1 [.fn 266 [.ptr q0 0, .ptr q1 0, .ptr q2 0, .ptr q3 0, .ptr q4 0, .ptr q5 0, .ptr q6 0]])] ∧ S' = ⟨Ao [(7, .ptr q6 0),(135, A0 0 0 v15.1),(136, iv (v15.1.length : Int)),(137, iv s.2.2)] J, G⟩) hk ⟨w1, sf, _, _, _, sb, (pk hO [1, 2, 3, 4, 5, 6, 7, 8, 9]), sh⟩ ?_
 rintro ⟨zc, x17, x19⟩ _ y1 ⟨o17, F18, J, G, H1, sb, hO, rfl⟩ hk se
 refine sr (AO (pg (AU (As hk ?_ ?_)))) <;> intro hk
 ·refine Av (gn (AU (Bn (sr (bk hk fun c20 hc20 hk => pX hc20 CV AS ?_)))))
  refine CQ (.agg [_, _]) (EA (lm := 0) (off := 0) hc20 Br AS) (C9 hO AS Cw (fun b21 G hO => ?_))
  refine DR (xs := [_, _]) hO 0 AS sb.1.symm (fun G hO => pg (Cj ?_))
  refine I9 hO 9 (.fn _ _) kW ?_
  refine Eh hO 0 [_, _] Br AS ?_
  replace hO := (A6.pick hO [1, 2, 3, 5, 4, 6, 7, 8, 9, 0] (by decide) rfl : A6 _ _ ([.Aj ([q0]) q0 (.cells 1 [.Cm uv]), .Aj [uv] uv (.mp (BC zc)), .Aj ([q1]) q1 (.cells 1 [A0 l1 0 cd]), .Aj ([q2]) q2 (.cells 1 [o17]), Gr sf F18 sc x17 o17, .Aj ([q3]) q3 (.cells 2 [iv bm.AG, iv bm.BQ]), .Aj ([q4]) q4 (.cells 2 [A0 l2 0 ch.A3, A0 l3 m4 ch.A4]), .Aj ([q5]) q5 (.cells 8 [iv aw.AY, iv aw.To, A0 l5 0 aw.Steps, A0 l6 0 aw.AK, A0 l7 0 aw.A7, A0 l8 0 aw.AP, A0 l9 0 aw.C2, A0 l10 0 aw.Ad]), .Aj ([q6]) q6 (.cells 1 [.fn 266 [.ptr q0 0, .ptr q1 0, .ptr q2 0, .ptr q3 0, .ptr q4 0, .ptr q5 0, .ptr q6 0]])] ++ [.Au b21 (.cells 2 [iv c20.A1, iv c20.BI])]))
  refine bk hk fun tz hz22 hk => O5 (vs := [.agg [iv c20.A1, iv c20.BI]]) (caps := [.ptr q0 0, .ptr q1 0, .ptr q2 0, .ptr q3 0, .ptr q4 0, .ptr q5 0, .ptr q6 0]) (rs1 := fun (E23 : List Nat × V) => [.Aj ([q0]) q0 (.cells 1 [.Cm uv]), .Aj [uv] uv (.mp (BC tz.1)), .Aj ([q1]) q1 (.cells 1 [A0 l1 0 cd]), .Aj ([q2]) q2 (.cells 1 [E23.2]), Gr sf E23.1 sc tz.2 E23.2, .Aj ([q3]) q3 (.cells 2 [iv bm.AG, iv bm.BQ]), .Aj ([q4]) q4 (.cells 2 [A0 l2 0 ch.A3, A0 l3 m4 ch.A4]), .Aj ([q5]) q5 (.cells 8 [iv aw.AY, iv aw.To, A0 l5 0 aw.Steps, A0 l6 0 aw.AK, A0 l7 0 aw.A7, A0 l8 0 aw.AP, A0 l9 0 aw.C2, A0 l10 0 aw.Ad]), .Aj ([q6]) q6 (.cells 1 [.fn 266 [.ptr q0 0, .ptr q1 0, .ptr q2 0, .ptr q3 0, .ptr q4 0, .ptr q5 0, .ptr q6 0]])]) hO sb hS hlo rfl ⟨sL, ⟨(sR sL), ⟨(sR (sR sL)), ⟨(sR (sR (sR sL))), ⟨(sR (sR (sR (sR sL)))), ⟨(sR (sR (sR (sR (sR sL))))), ⟨(sR (sR (sR (sR (sR (sR sL)))))), ⟨(sR (sR (sR (sR (sR (sR (sR sL))))))), ⟨(sR (sR (sR (sR (sR (sR (sR (sR sL)))))))), trivial⟩⟩⟩⟩⟩⟩⟩⟩⟩ (fun _ vg ti tm wo => hrc c20 zc cd x17 bm ch aw hz22 wo tm ti vg (XM sj)) (fun _ => ⟨⟨rfl, rfl⟩, ⟨⟨rfl, rfl⟩, ⟨⟨rfl, rfl⟩, ⟨⟨rfl, rfl⟩, ⟨rfl, ⟨⟨rfl, rfl⟩, ⟨⟨rfl, rfl⟩, ⟨⟨rfl, rfl⟩, ⟨⟨rfl, rfl⟩, trivial⟩⟩⟩⟩⟩⟩⟩⟩⟩) (fun E23 H1 G sb hO => ?_) (DG rfl (DG rfl (DG rfl (DG rfl (DG rfl (DG rfl (DG rfl (DG rfl El))))))))
  refine pE (bn (gn (Cj (AO ?_))))
  refine pM (.int _ _) (pg ?_)
  cases hk; exact ⟨_, rfl, E23.2, E23.1, _, _, _, sb, (pk hO [0, 1, 2, 4, 3, 5, 6, 7, 8]), sh⟩
 refine Dh (ge (ge (be (gn (have hk := lx se hk; Dh (be ?_))))))
 have tk : q0 < H.length := sd _ (sL _ (dt.2 rfl))
 have hm0 : uv < H.length := sd _ ((sR sL) _ (dt.2 rfl))
 have vn : q1 < H.length := sd _ ((sR (sR sL)) _ (dt.2 rfl))
 have zy : q2 < H.length := sd _ ((sR (sR (sR sL))) _ (dt.2 rfl))
 have hq3 : q3 < H.length := sd _ ((sR (sR (sR (sR (sR sL))))) _ (dt.2 rfl))
 have hq4 : q4 < H.length := sd _ ((sR (sR (sR (sR (sR (sR sL)))))) _ (dt.2 rfl))
 have hq5 : q5 < H.length := sd _ ((sR (sR (sR (sR (sR (sR (sR sL))))))) _ (dt.2 rfl))
 have hq6 : q6 < H.length := sd _ ((sR (sR (sR (sR (sR (sR (sR (sR sL)))))))) _ (dt.2 rfl))
 replace hk := dv hk; subst hk; exact GW (F18, o17) (pk hO [0, 1, 2, 4, 3, 5, 6, 7, 8]) sb (BJ (CS tk) (BJ (CS hm0) (BJ (CS vn) (BJ (CS zy) (BJ (Cf (ej sj)) (BJ (CS hq3) (BJ (CS hq4) (BJ (CS hq5) (BJ (CS hq6) GL))))))))) rfl rfl rfl rfl (by first | exact Or.inl rfl | exact Or.inr rfl)
theorem bN (n : Nat) : Vy (YI n) := by
 induction n with
 | zero =>
  intro bl bw cd cj bm ch aw r l1 l2 l3 m4 l5 l6 l7 l8 l9 l10 q0 q1 q2 q3 q4 q5 q6 uv w1 sf sc H lk hk hO hS sd hlo sj
  cases hk
 | succ n ih => exact YJ ih
def bD (af : Bq) (aa : List AI) (cm : A8) (df : BQ) : Option (List AD) :=
 ((AR af.A4 df.AG).bind fun c9 => ((AR c9.Ends (AN ((3:Int) - df.BQ))).bind fun ss => ((YI 1000 ss ([] : List (Ac × Bool)) aa ([] : List AD) df af cm).bind fun z12 => some z12.2)))
theorem bE (hk : bD af aa cm df = some r) (sn : 0 < lk.length := by simp) (hlo : EK lk H.length := by simp [EK]) : Aw dp hh 243 [.agg [A0 l1 0 af.A3, A0 l2 m3 af.A4], A0 l4 0 aa, .agg [iv cm.AY, iv cm.To, A0 l5 0 cm.Steps, A0 l6 0 cm.AK, A0 l7 0 cm.A7, A0 l8 0 cm.AP, A0 l9 0 cm.C2, A0 l10 0 cm.Ad], .agg [iv df.AG, iv df.BQ]] H lk = some (A0 0 0 r, H) := by
 refine AH Tryz.func243 rfl Tryz.ntmps243 Tryz.results243 rfl rfl fun hO => ?_
 unfold bD at hk
 refine sr (C0 (cs := [_, _]) hO CB (fun b1 G hO => ?_))
 refine C0 (cs := [_]) hO uY (fun b2 G hO => ?_)
 refine C0 (cs := [_, _, _, _, _, _, _, _]) hO Bs (fun b3 G hO => ?_)
 refine C0 (cs := [_, _]) hO CM (fun b4 G hO => ?_)
 refine pA (.tl 0 []) (pg (sr (C9 hO KJ rT (fun b5 G hO => pg (sr ?_)))))
 refine tD Ac Bool hO (fun b6 G hO => C9 hO lG rV (fun b7 G hO => ?_))
 refine DR (xs := [_]) hO 0 lG rfl (fun G hO => pg (sr (C9 hO lH rW (fun b8 G hO => pg (sr ?_)))))
 refine vJ (vs := [_, _, _, _, _, _, _]) ?_
 refine DR (xs := [_]) hO 0 lH rfl (fun G hO => pg (AU ?_))
 refine GC [1,3,5,7,9,11,13,15,17,19,21,23,25,26] [_,_,_,_,_,_,_,_,_,_,_,_,_,_] ?_
 refine Eg hO 0 (.fn _ _) kW ?_
 refine B4 DK hO 7 (.lit _ _ _) HF ?_
 refine B4 Ez hO 4 (.int _ _) B5 (bk hk fun c9 vk hk => ?_)
 refine pX vk HA BY ?_
 refine pF Ct ?_
 refine CQ (.lit _ _ _) (Gj (lm := m3) (off := 2) vk Ew) ?_
 refine B4 HY hO 4 (.int _ _) B5 ?_
 refine AO (bk hk fun ss sy hk => ?_)
 refine pX sy CV AS ?_
 refine CQ (.agg [_, _]) (EA (lm := 0) (off := 0) sy Br AS) ?_
 replace hO := A6.Im hO AD [] lk.length
 replace hO := (A6.pick hO [2, 3, 7, 4, 0, 5, 8, 6, 1] (by decide) rfl : A6 _ _ ([.Au b7 (.cells 1 [.Cm b6]), .Au b6 (.mp (BC ([] : List (Ac × Bool)))), .Au b2 (.cells 1 [A0 l4 0 aa]), .Au b5 (.cells 1 [(.tl 0 [])]), Gr ([]) ([]) lk.length ([] : List AD) (.tl 0 []), .Au b4 (.cells 2 [iv df.AG, iv df.BQ]), .Au b1 (.cells 2 [A0 l1 0 af.A3, A0 l2 m3 af.A4]), .Au b3 (.cells 8 [iv cm.AY, iv cm.To, A0 l5 0 cm.Steps, A0 l6 0 cm.AK, A0 l7 0 cm.A7, A0 l8 0 cm.AP, A0 l9 0 cm.C2, A0 l10 0 cm.Ad]), .Au b8 (.cells 1 [.fn 266 [.ptr b7 0, .ptr b2 0, .ptr b5 0, .ptr b4 0, .ptr b1 0, .ptr b3 0, .ptr b8 0]])] ++ []))
 refine bk hk fun z12 hz12 hk => XS (vs := [.agg [iv ss.A1, iv ss.BI]]) (caps := [.ptr b7 0, .ptr b2 0, .ptr b5 0, .ptr b4 0, .ptr b1 0, .ptr b3 0, .ptr b8 0]) (rs1 := fun (E13 : List Nat × V) => [.Au b7 (.cells 1 [.Cm b6]), .Au b6 (.mp (BC z12.1)), .Au b2 (.cells 1 [A0 l4 0 aa]), .Au b5 (.cells 1 [E13.2]), Gr ([]) E13.1 lk.length z12.2 E13.2, .Au b4 (.cells 2 [iv df.AG, iv df.BQ]), .Au b1 (.cells 2 [A0 l1 0 af.A3, A0 l2 m3 af.A4]), .Au b3 (.cells 8 [iv cm.AY, iv cm.To, A0 l5 0 cm.Steps, A0 l6 0 cm.AK, A0 l7 0 cm.A7, A0 l8 0 cm.AP, A0 l9 0 cm.C2, A0 l10 0 cm.Ad]), .Au b8 (.cells 1 [.fn 266 [.ptr b7 0, .ptr b2 0, .ptr b5 0, .ptr b4 0, .ptr b1 0, .ptr b3 0, .ptr b8 0]])]) hO hlo rfl ⟨trivial, ⟨trivial, ⟨trivial, ⟨trivial, ⟨sN, ⟨trivial, ⟨trivial, ⟨trivial, ⟨trivial, trivial⟩⟩⟩⟩⟩⟩⟩⟩⟩ (fun _ vg ti tm wo => (bN 1000) ss ([] : List (Ac × Bool)) aa ([] : List AD) df af cm hz12 wo tm ti vg tB) (fun _ => ⟨rfl, ⟨rfl, ⟨rfl, ⟨rfl, ⟨rfl, ⟨rfl, ⟨rfl, ⟨rfl, ⟨rfl, trivial⟩⟩⟩⟩⟩⟩⟩⟩⟩) (fun E13 G hO => ?_) (DG rfl (DG rfl (DG rfl (DG rfl (DG rfl (DG rfl (DG rfl (DG rfl El))))))))
 refine pg (sr (Eg hO 3 E13.2 I4 ?_))
 refine pA E13.2 (pg (Ax ?_))
 replace hk := dv hk; subst hk; exact Cv hO (kI (xs := z12.2) sn 4) (Dn E13.2 CC)
def Lu (ak : Fa) (ae : A8) (x2 : List Ai) : (List AD × Int) → Option ((List AD × Int) ⊕ List A8) := fun s =>
 (bif decide (s.2 < (ae.AK.length : Int)) then ((AR ae.AK s.2).bind fun c6 => ((bD ak.xN ak.A9 (⟨ae.AY, ae.To, ae.Steps, ae.AK, ae.A7, ae.AP, x2, s.1⟩ : A8) c6).bind fun v8 => ((CL 32 s.1 v8).bind fun z10 => some (.inl (z10, AN (s.2 + 1)))))) else (((CL 160 ak.BU ([(⟨ae.AY, ae.To, ae.Steps, ae.AK, ae.A7, ae.AP, x2, s.1⟩ : A8)] : List A8)).bind fun z12 => some z12).map Sum.inr))
def Lv (ak : Fa) (ae : A8) (x2 : List Ai) : Option (List A8) :=
 (AQ (Lu ak ae x2) (([] : List AD), (0:Int)))
def mB (F : Fa → A8 → Option (List A8)) : Prop := ∀ (ak : Fa) (ae : A8) {r : (List A8)} {l1 l2 m3 l4 : Nat} {q0 : Nat} {w1 : V} {sf : List Nat} {sc : Nat} {H : A5} {lk : Lk}, F ak ae = some r → A6 H H [.Aj ([q0]) q0 (.cells 6 [A0 l1 0 ak.xN.A3, A0 l2 m3 ak.xN.A4, A0 l4 0 ak.A9, .int .i64 ak.Ak, w1, .int .i64 ak.FA]), Gr sf sf sc ak.BU w1] → (∀ b ∈ ([q0] ++ (sf ++ [])), AT lk b = true) → (∀ b ∈ ([q0] ++ (sf ++ [])), b < H.length) → EK lk H.length → sc < lk.length → ∃ v H1, Aw dp hh 181 [.ptr q0 0, .agg [.int .i64 ae.AY, .int .i64 ae.To, A0 0 0 ae.Steps, A0 0 0 ae.AK, A0 0 0 ae.A7, A0 0 0 ae.AP, A0 0 0 ae.C2, (.tl 0 [])]] H lk = some (v, H1) ∧ v = .Ei [] ∧ ∃ (E : List Nat × V) (Hm : A5), BK H Hm ([q0] ++ (sf ++ [])) ∧ A6 Hm H1 [.Aj [q0] q0 (.cells 6 [A0 l1 0 ak.xN.A3, A0 l2 m3 ak.xN.A4, A0 l4 0 ak.A9, .int .i64 ak.Ak, E.2, .int .i64 ak.FA]), Gr sf E.1 sc r E.2]
def UL (ak : Fa) (ae : A8) : Option (List A8) :=
 (bif decide (ae.To ≥ 0) then ((AR ak.A9 ae.To).bind fun xc => ((bB ak.xN (⟨xc.A1, xc.At, xc.Way⟩ : Ep) ak.Ak).bind fun ya => (Lv ak ae ya))) else (Lv ak ae ae.C2))
theorem UM : mB UL := by
 intro ak ae r l1 l2 m3 l4 q0 w1 sf sc H lk hk hO hS sd hlo sj
 have sn : 0 < lk.length := ka (ga _) sj
 refine BG Tryz.func181 rfl Tryz.ntmps181 Tryz.results181 rfl rfl ?_
 have sb := BK.refl H ([q0] ++ (sf ++ []))
 unfold UL at hk
 refine sr (C0 (cs := [_, _, _, _, _, _, _, _]) hO Bs (fun b1 G hO => pg ?_))
 refine CX (fun S' => ∃ x2 J G H1, Lv ak ae x2 = some r ∧ BK H H1 ([q0] ++ (sf ++ [])) ∧ A6 H1 G [.Au b1 (.cells 8 [iv ae.AY, iv ae.To, A0 0 0 ae.Steps, A0 0 0 ae.AK, A0 0 0 ae.A7, A0 0 0 ae.AP, A0 0 0 x2, (.tl 0 [])]), Gr sf sf sc ak.BU w1, .Aj ([q0]) q0 (.cells 6 [A0 l1 0 ak.xN.A3, A0 l2 m3 ak.xN.A4, A0 l4 0 ak.A9, iv ak.Ak, w1, iv ak.FA])] ∧ S' = ⟨Ao [(0, .ptr q0 0),(3, .ptr b1 0)] J, G⟩) ?_ ?_
 ·refine sr (B4 Gm hO 0 (.int _ _) B5 ?_)
  refine AO (pg (As hk ?_ ?_)) <;> intro hk
  ·refine AU (GC [1,3,5,7,9,11,12,15,17,18] [_,_,_,_,_,_,_,_,_,_] ?_)
   refine pM (.ptr _ _) ?_
   refine Bw ?_
   refine pF On ?_
   refine I9 hO 1 (.lit _ _ _) RW ?_
   refine B4 Gm hO 0 (.int _ _) B5 (bk hk fun xc ur hk => ?_)
   refine pX ur GM BF ?_
   refine CQ (.agg [_, _, _, _]) (EA (lm := 0) (off := 0) ur H8 BF) (C9 hO BF HL (fun b15 G hO => ?_))
   refine DR (xs := [_, _, _, _]) hO 0 BF sb.1.symm (fun G hO => pg ?_)
   refine GC [1,3,5,7,9,11,13,15,17,19,21,23,25,27,29,30,32,34] [_,_,_,_,_,_,_,_,_,_,_,_,_,_,_,_,_,_] ?_
   refine pM (.ptr _ _) ?_
   refine Bw ?_
   refine pF Ja ?_
   refine LM [_, _] hO 2 E4 CB ?_
   refine B4 DD hO 0 (.int _ _) B5 ?_
   refine B4 CW hO 0 (.int _ _) B5 ?_
   refine B4 DO hO 0 (.int _ _) B5 ?_
   refine G9 [_, _, _] VD Xk ?_
   refine pM (.ptr _ _) ?_
   refine Bw ?_
   refine pF jS ?_
   refine I9 hO 2 (.int _ _) B5 (bk hk fun ya hv16 hk => ?_)
   refine Ae (fun _ => bC hv16) ?_
   refine pF IW ?_
   refine Nj (xs := [_]) [_, _, _, _, _, _, _, _] hO 1 Mn sb.1.symm (fun G hO => pg ?_)
   exact ⟨ya, _, _, _, hk, sb, (pk hO [1, 3, 2]), sh⟩
  exact Av (gn (⟨ae.C2, _, _, _, hk, sb, (pk hO [0, 2, 1]), sh⟩))
 rintro _ ⟨x2, J, G, H1, hk, sb, hO, rfl⟩
 refine AU (sr (B4 DY hO 0 (.lit _ _ _) I2 ?_))
 refine BE KH ?_
 refine pM (.int _ _) (pg (Bn ?_))
 refine AE (F := Lu ak ae x2) (fun s S' => ∃ o3 F4 J G H1, BK H H1 ([q0] ++ (sf ++ [])) ∧ A6 H1 G [Gr ([]) F4 sc s.1 o3, .Au b1 (.cells 8 [iv ae.AY, iv ae.To, A0 0 0 ae.Steps, A0 0 0 ae.AK, A0 0 0 ae.A7, A0 0 0 ae.AP, A0 0 0 x2, o3]), Gr sf sf sc ak.BU w1, .Aj ([q0]) q0 (.cells 6 [A0 l1 0 ak.xN.A3, A0 l2 m3 ak.xN.A4, A0 l4 0 ak.A9, iv ak.Ak, w1, iv ak.FA])] ∧ S' = ⟨Ao [(0, .ptr q0 0),(3, .ptr b1 0),(36, A0 0 0 ae.AK),(37, iv (ae.AK.length : Int)),(38, iv s.2)] J, G⟩) hk ⟨(.tl 0 []), [], _, _, _, sb, (A6.Im hO AD ([]) sc), sh⟩ ?_
 rintro ⟨x3, x5⟩ _ y1 ⟨o3, F4, J, G, H1, sb, hO, rfl⟩ hk se
 refine sr (AO (pg (AU (As hk ?_ ?_)))) <;> intro hk
 ·refine Av (gn (AU (Bn (sr (bk hk fun c6 xo hk => pX xo Ex CM ?_)))))
  refine CQ (.agg [_, _]) (EA (lm := 0) (off := 0) xo KF CM) (C9 hO CM I1 (fun b7 G hO => ?_))
  refine DR (xs := [_, _]) hO 0 CM sb.1.symm (fun G hO => pg ?_)
  refine GC [1,3,5,7,9,11,13,15,17,19,21,23,25,26,28,30] [_,_,_,_,_,_,_,_,_,_,_,_,_,_,_,_] ?_
  refine B4 EC hO 2 o3 I4 ?_
  refine pM (.ptr _ _) ?_
  refine Bw ?_
  refine pF Ja ?_
  refine LM [_, _] hO 4 E4 CB ?_
  refine pM (.ptr _ _) ?_
  refine Bw ?_
  refine pF On ?_
  refine I9 hO 4 (.lit _ _ _) RW ?_
  refine Eh hO 2 [_, _, _, _, _, _, _, _] H9 Bs ?_
  refine Eh hO 0 [_, _] KF CM (bk hk fun v8 hv8 hk => ?_)
  obtain ⟨lw9, hw9⟩ := MR hO 1 (lk.length + 1)
  refine dX (vs := [(.agg [_, _]), (.lit _ _ _), (.agg [_, _, _, _, _, _, _, _]), (.agg [_, _])]) (caps := []) hO (vR sb hlo) sb.1.symm (fun _ hl => bE hv8 (hlo := hl)) ?_ (h3 := (CO rfl (CO rfl (CO (mU (IM rfl (IM rfl (IM rfl (IM rfl (IM rfl (IM rfl (IM rfl (IM (hw9 5) nD))))))))) (CO rfl El)))))
  refine bk hk fun z10 hz10 hk => TV (xs := x3) hO 1 hz10 (Io _ v8) D5 Db Ky EO D5 (Nat.le_of_lt sj) sb.1.symm (fun o10 F10 G hO => ?_)
  refine pF EC ?_
  have tq := BT hO (j := 1) rfl
  refine Nj (xs := [_]) [_, _, _, _, _, _, _, _] hO 2 KJ sb.1.symm (fun G hO => ?_) (h3 := tq.1) (h6 := C7 tq.2)
  refine pE (bn (gn (Cj (AO ?_))))
  refine pM (.int _ _) (pg ?_)
  cases hk; exact ⟨_, rfl, o10, F10, _, _, _, sb, (pk hO [1, 2, 3, 4]), sh⟩
 refine Dh (ge (ge (be (gn (have hk := lx se hk; GC [1,3,5,7,9,11,13,14,16,18,20] [_,_,_,_,_,_,_,_,_,_,_] ?_)))))
 refine pM (.ptr _ _) ?_
 refine pM (.ptr _ _) ?_
 refine Bw ?_
 refine pF Oo ?_
 refine I9 hO 3 w1 Wp ?_
 refine Eh hO 1 [_, _, _, _, _, _, _, _] H9 Bs ?_
 refine rD ((⟨ae.AY, ae.To, ae.Steps, ae.AK, ae.A7, ae.AP, x2, x3⟩ : A8) : A8) hO (cR (D3 (FW _ _) (D3 (FW _ _) (D3 (De ae.Steps) (D3 (De ae.AK) (D3 (De ae.A7) (D3 (De ae.AP) (D3 (De x2) (D3 (Kr (xs := x3) 0) (Ud)))))))))) (Kh rfl (Kh rfl (Kh (Ie ae.Steps) (Kh (Ie ae.AK) (Kh (Ie ae.A7) (Kh (Ie ae.AP) (Kh (Ie x2) (Kh (kJ hO (j := 0) rfl) qK)))))))) (MZ (MZ (MZ (MZ (MZ (MZ (MZ (qZ (kL hO (j := 0) rfl))))))))) HG Bs Kw sb.1.symm (fun G hO => bk hk fun z12 hz12 hk => ?_)
 refine O4 (xs := ak.BU) hO 1 hz12 (CE ([(⟨ae.AY, ae.To, ae.Steps, ae.AK, ae.A7, ae.AP, x2, x3⟩ : A8)] : List A8)) HG Bs kX Kw HG sj sb hS (sR sL) rfl (fun o12 F12 H1 G sb hO => ?_)
 refine Bw ?_
 refine pF Oo ?_
 have vq := BT hO (j := 1) rfl
 refine WX [_, _, _, _, _, _] hO 2 sK sb hS sL rfl (Cu hO (j := 1) rfl 1 ig) (fun H1 G sb hO => ?_) (h3 := vq.1) (h6 := C7 vq.2)
 refine pE ?_
 have tk : q0 < H.length := sd _ (sL _ (dt.2 rfl))
 replace hk := dv hk; subst hk; exact GW (F12, o12) (pk hO [2, 1]) sb (BJ (CS tk) (BJ (Cf (ej sj)) GL)) rfl rfl rfl rfl (by first | exact Or.inl rfl | exact Or.inr rfl)
def gA (da : BQ) (bw : Int) : Option Bool :=
 some (da.AG == bw)
theorem aG (hk : gA da bw = some r) (tk : H[q0]? = some (.cells 1 [iv bw])) (sn : 0 < lk.length := by simp) : Aw dp hh 186 [.agg [iv da.AG, iv da.BQ], .ptr q0 0] H lk = some (.bool r, H) := by
 refine AH Tryz.func186 rfl Tryz.ntmps186 Tryz.results186 rfl rfl fun hO => ?_
 unfold gA at hk
 refine sr (C0 (cs := [_, _]) hO CM (fun b1 G hO => ?_))
 refine pA (.bool _) (pg (sr ?_))
 refine B4 Ez hO 0 (.int _ _) B5 ?_
 refine kO (.int _ _) hO tk B5 ?_
 refine AO ?_
 refine pA (.bool _) (pg (Ax ?_))
 cases hk; exact Ah hO
def Gt (bd : List BQ) (cu : Int) : Int → Option (Int ⊕ Int) := fun s =>
 (bif decide (s < (bd.length : Int)) then ((AR bd s).bind fun c2 => ((gA c2 cu).bind fun v3 => (bif v3 then ((some s).map Sum.inr) else some (.inl (AN (s + 1)))))) else ((some (-1:Int)).map Sum.inr))
def Iq (bd : List BQ) (cu : Int) : Option Int :=
 (AQ (Gt bd cu) ((0:Int)))
theorem Sv (hk : Iq bd cu = some r) (tk : H[q0]? = some (.cells 1 [iv cu])) (sn : 0 < lk.length := by simp) : Aw dp hh 185 [A0 l1 0 bd, .fn 186 [.ptr q0 0]] H lk = some (iv r, H) := by
 refine AH Tryz.func185 rfl Tryz.ntmps185 Tryz.results185 rfl rfl fun hO => ?_
 unfold Iq at hk
 refine sr (pA (.int _ _) (pg (AU (sr ?_))))
 refine pM (.lit _ _ _) ?_
 refine BE KH ?_
 refine pM (.int _ _) (pg (Bn ?_))
 refine AE (F := Gt bd cu) (fun s S' => ∃ J G, A6 H G [] ∧ S' = ⟨Ao [(0, A0 l1 0 bd),(1, .fn 186 [.ptr q0 0]),(7, iv (bd.length : Int)),(8, iv s)] J, G⟩) hk ⟨_, _, hO, sh⟩ ?_
 rintro x1 _ y1 ⟨J, G, hO, rfl⟩ hk se
 refine sr (AO (pg (AU (As hk ?_ ?_)))) <;> intro hk
 ·refine Av (gn (AU (Bn (sr (pM (.int _ _) ?_)))))
  refine pA (.int _ _) (pg (sr ?_))
  refine pM (.fn _ _) ?_
  refine pM (.lit _ _ _) ?_
  refine pM (.int _ _) (bk hk fun c2 tv hk => ?_)
  refine pX tv Ex CM ?_
  refine CQ (.agg [_, _]) (EA (lm := 0) (off := 0) tv KF CM) (bk hk fun v3 zi hk => ?_)
  refine Ae (fun _ => aG zi (jA hO tk)) (pg (As hk ?_ ?_)) <;> intro hk
  ·refine sr (pM (.int _ _) ?_)
   refine pA (.int _ _) (pg (Ax (br (gr (gr (br (gr (have hk := lx se hk; ?_))))))))
   cases hk; exact Ah hO
  refine Av (bn (gn (Cj (AO ?_))))
  refine pM (.int _ _) (pg ?_)
  cases hk; exact ⟨_, rfl, _, _, hO, sh⟩
 refine Dh (ge (ge (be (gn (have hk := lx se hk; sr (pA (.int _ _) (pg (Ax ?_))))))))
 cases hk; exact Ah hO
def Ln (x32 : Int) (x33 : List A8) (x35 : Int) : Option ((List A8 × Int × Int) ⊕ (List A8 × Int)) :=
 some (.inl (x33, x35, AN (x32 + 1)))
def KK (ak : Fa) (ae : A8) (rc : Fa → A8 → Ep → Option (List A8 × Int)) (z7 : List BR) (tz : List Ai) (x29 : List A8) (zf : Int) (x32 : Int) (c36 : Ac) (x39 : List Int) (wb : List BQ) : Option ((List A8 × Int × Int) ⊕ (List A8 × Int)) :=
 ((YH ak.xN c36).bind fun v41 => ((rc (⟨ak.xN, ak.A9, ak.Ak, x29, AN (zf + 1)⟩ : Fa) (⟨ae.AY, ae.To, z7, wb, x39, tz, ([] : List Ai), ([] : List AD)⟩ : A8) v41).bind fun z42 => (Ln x32 z42.1 z42.2)))
def JF (ak : Fa) (ae : A8) (rc : Fa → A8 → Ep → Option (List A8 × Int)) (z7 : List BR) (tz : List Ai) (wm : (Int × Int)) (xi : AG) (wc : (List Ac × List Int)) (x29 : List A8) (zf : Int) (x32 : Int) (c36 : Ac) (x39 : List Int) : Option ((List A8 × Int × Int) ⊕ (List A8 × Int)) :=
 (bif (xi.Kind == 3) then ((Iq ae.AK wm.1).bind fun v44 => (bif decide (v44 < 0) then ((AR wc.2 x32).bind fun c45 => ((CL 16 ([] : List BQ) ae.AK).bind fun z46 => ((CL 16 z46 ([(⟨wm.1, c45⟩ : BQ)] : List BQ)).bind fun z48 => (KK ak ae rc z7 tz x29 zf x32 c36 x39 z48)))) else ((AR ae.AK v44).bind fun vo => ((AR wc.2 x32).bind fun c50 => (bif (vo.BQ != c50) then (Ln x32 x29 zf) else (KK ak ae rc z7 tz x29 zf x32 c36 x39 ae.AK)))))) else (KK ak ae rc z7 tz x29 zf x32 c36 x39 ae.AK))
def Lm (ak : Fa) (ae : A8) (rc : Fa → A8 → Ep → Option (List A8 × Int)) (z7 : List BR) (tz : List Ai) (wm : (Int × Int)) (xi : AG) (wc : (List Ac × List Int)) : (List A8 × Int × Int) → Option ((List A8 × Int × Int) ⊕ (List A8 × Int)) := fun s =>
 (bif decide (s.2.2 < (wc.1.length : Int)) then ((AR wc.1 s.2.2).bind fun c36 => (bif (xi.Kind == 4) then ((CL 8 ([] : List Int) ae.A7).bind fun z51 => ((CL 8 z51 ([wm.1] : List Int)).bind fun z53 => (JF ak ae rc z7 tz wm xi wc s.1 s.2.1 s.2.2 c36 z53))) else (JF ak ae rc z7 tz wm xi wc s.1 s.2.1 s.2.2 c36 ae.A7))) else ((some (s.1, s.2.1)).map Sum.inr))
def IF (ak : Fa) (ae : A8) (cg : Ep) (rc : Fa → A8 → Ep → Option (List A8 × Int)) (z7 : List BR) (ya : Ac) (x18 : Int) : Option (List A8 × Int) :=
 ((CL 24 ([] : List Ai) ae.AP).bind fun z19 => ((Vw cg.Cg cg.RC x18).bind fun v21 => ((CL 24 z19 ([v21] : List Ai)).bind fun tz => ((UO ak.xN ya).bind fun wm => ((AR ak.xN.A4 wm.1).bind fun xi => (bif (xi.Kind == 1) then ((UL ak (⟨ae.AY, (-1:Int), z7, ae.AK, ae.A7, tz, ([] : List Ai), ([] : List AD)⟩ : A8)).bind fun z26 => some (z26, ak.FA)) else ((Vx ak.xN ya).bind fun wc => (AQ (Lm ak ae rc z7 tz wm xi wc) (ak.BU, ak.FA, (0:Int))))))))))
def Vs (F : Fa → A8 → Ep → Option (List A8 × Int)) : Prop := ∀ (ak : Fa) (ae : A8) (cg : Ep) {r : (List A8 × Int)} {l1 l2 m3 l4 : Nat} {q0 : Nat} {w1 : V} {sf : List Nat} {sc : Nat} {H : A5} {lk : Lk}, F ak ae cg = some r → A6 H H [.Aj ([q0]) q0 (.cells 6 [A0 l1 0 ak.xN.A3, A0 l2 m3 ak.xN.A4, A0 l4 0 ak.A9, .int .i64 ak.Ak, w1, .int .i64 ak.FA]), Gr sf sf sc ak.BU w1] → (∀ b ∈ ([q0] ++ (sf ++ [])), AT lk b = true) → (∀ b ∈ ([q0] ++ (sf ++ [])), b < H.length) → EK lk H.length → sc < lk.length → ∃ v H1, Aw dp hh 119 [.ptr q0 0, .agg [.int .i64 ae.AY, .int .i64 ae.To, A0 0 0 ae.Steps, A0 0 0 ae.AK, A0 0 0 ae.A7, A0 0 0 ae.AP, (.tl 0 []), (.tl 0 [])], .agg [.int .i64 cg.Cg, .int .i64 cg.RC, .int .i64 cg.FZ]] H lk = some (v, H1) ∧ v = .Ei [] ∧ ∃ (E : List Nat × V) (Hm : A5), BK H Hm ([q0] ++ (sf ++ [])) ∧ A6 Hm H1 [.Aj [q0] q0 (.cells 6 [A0 l1 0 ak.xN.A3, A0 l2 m3 ak.xN.A4, A0 l4 0 ak.A9, .int .i64 ak.Ak, E.2, .int .i64 r.2]), Gr sf E.1 sc r.1 E.2]
def PF (rc : Fa → A8 → Ep → Option (List A8 × Int)) (ak : Fa) (ae : A8) (cg : Ep) : Option (List A8 × Int) :=
 ((YB ak).bind fun v3 => (bif v3 then some (ak.BU, ak.FA) else ((aC ae.Steps (⟨cg.Cg, cg.FZ⟩ : BR)).bind fun v4 => ((CL 16 ([] : List BR) ae.Steps).bind fun z5 => ((CL 16 z5 ([(⟨cg.Cg, cg.FZ⟩ : BR)] : List BR)).bind fun z7 => ((YF ak.A9 cg).bind fun v8 => (bif decide (v8 ≥ 0) then ((AR ak.A9 v8).bind fun c9 => ((CL 24 ([] : List Ai) ae.AP).bind fun z10 => ((Vw cg.Cg cg.RC c9.At).bind fun v12 => ((CL 24 z10 ([v12] : List Ai)).bind fun z13 => ((UL ak (⟨ae.AY, v8, z7, ae.AK, ae.A7, z13, ([] : List Ai), ([] : List AD)⟩ : A8)).bind fun z14 => some (z14, ak.FA)))))) else (bif v4 then some (ak.BU, ak.FA) else ((YG cg.Cg cg.FZ).bind fun ya => (bif (ya.BI == 1) then ((AR ak.xN.A3 cg.Cg).bind fun c54 => (IF ak ae cg rc z7 ya c54.Bo)) else (IF ak ae cg rc z7 ya (0:Int))))))))))))
def Nu : Nat → Fa → A8 → Ep → Option (List A8 × Int)
 | 0 => fun _ _ _ => none
 | n + 1 => PF (Nu n)
theorem YA {rc : Fa → A8 → Ep → Option (List A8 × Int)} (hrc : Vs rc) : Vs (PF rc) := by
 intro ak ae cg r l1 l2 m3 l4 q0 w1 sf sc H lk hk hO hS sd hlo sj
 have sn : 0 < lk.length := ka (ga _) sj
 refine BG Tryz.func119 rfl Tryz.ntmps119 Tryz.results119 rfl rfl ?_
 have sb := BK.refl H ([q0] ++ (sf ++ []))
 unfold PF at hk
 refine sr (C0 (cs := [_, _, _, _, _, _, _, _]) hO Bs (fun b1 G hO => ?_))
 refine C0 (cs := [_, _, _]) hO Kz (fun b2 G hO => pg (AU (sr ?_)))
 refine pM (.ptr _ _) (bk hk fun v3 zi hk => ?_)
 refine Ae (fun _ => UJ zi (hO.W1 (k := 2) rfl).1 (Tx hO (j := 3) rfl).1) (pg (As hk ?_ ?_)) <;> intro hk
 ·refine Ax (gr ?_)
  have tk : q0 < H.length := sd _ (sL _ (dt.2 rfl))
  replace hk := dv hk; subst hk; exact GW (sf, w1) (pk hO [2, 3]) sb (BJ (CS tk) (BJ (Cf (ej sj)) GL)) rfl rfl rfl rfl (by first | exact Or.inl rfl | exact Or.inr rfl)
 refine Av (gn (sr (B4 Ey hO 1 (.lit _ _ _) RX ?_)))
 refine B4 Gp hO 0 (.int _ _) B5 ?_
 refine B4 HX hO 0 (.int _ _) B5 ?_
 refine G9 [_, _] Jh eL (bk hk fun v4 uq hk => ?_)
 refine Ae (fun _ => aD uq) ?_
 refine pA (.bool _) (pg (AU ?_))
 refine GC [1,3,7,9,11,13,15,17,5,18,20,22] [_,_,_,_,_,_,_,_,_,_,_,_] ?_
 refine B4 Ey hO 1 (.lit _ _ _) RX ?_
 refine B4 Gp hO 0 (.int _ _) B5 ?_
 refine B4 HX hO 0 (.int _ _) B5 ?_
 refine G9 [_, _] Jh eL ?_
 refine JQ (ps := [(0, (.agg [_, _]))]) ([(⟨cg.Cg, cg.FZ⟩ : BR)] : List BR) JX E5 Jh (B2 (Bg (α := BR) (⟨cg.Cg, cg.FZ⟩ : BR)) (Bb)) (bk hk fun z5 hz5 hk => ?_)
 refine Qu (xs := ae.Steps) hO hz5 Tryz.func121 kZ JX E5 VF Jh (fun o5 G hno5 hO => bk hk fun z7 hz7 hk => ?_)
 refine dV (xs := z5) hO 0 hz7 (CE ([(⟨cg.Cg, cg.FZ⟩ : BR)] : List BR)) JX E5 VF Jh JX sb.1.symm (fun G hO => ?_)
 refine pF Ey ?_
 refine Nj (xs := [_]) [_, _, _, _, _, _, _, _] hO 1 k7 sb.1.symm (fun G hO => pg (AU (AU ?_)))
 refine GC [1,3,5,7,9,10,12] [_,_,_,_,_,_,_] ?_
 refine pM (.ptr _ _) ?_
 refine Bw ?_
 refine pF On ?_
 refine I9 hO 2 (.lit _ _ _) RW ?_
 refine Eh hO 0 [_, _, _] eH Kz (bk hk fun v8 hv8 hk => ?_)
 refine Ae (fun _ => aE hv8) ?_
 refine pA (.int _ _) (pg (sr ?_))
 refine pM (.int _ _) ?_
 refine AO (pg (As hk ?_ ?_)) <;> intro hk
 ·refine AU (GC [1,3,7,9,11,13,15,17,19,21,23,25,27,29,5,30,32,34,36,38] [_,_,_,_,_,_,_,_,_,_,_,_,_,_,_,_,_,_,_,_] ?_)
  refine B4 EB hO 1 (.lit _ _ _) I3 ?_
  refine B4 Gp hO 0 (.int _ _) B5 ?_
  refine B4 Jb hO 0 (.int _ _) B5 ?_
  refine pM (.ptr _ _) ?_
  refine Bw ?_
  refine pF On ?_
  refine I9 hO 2 (.lit _ _ _) RW ?_
  refine pM (.int _ _) (bk hk fun c9 vk hk => ?_)
  refine pX vk GM BF ?_
  refine pF CW ?_
  refine CQ (.int _ _) (Gj (lm := 0) (off := 2) vk B5) (bk hk fun z10 hz10 hk => ?_)
  refine Qu (xs := ae.AP) hO hz10 Tryz.func124 Xb DV DB KG FU (fun o10 G hno10 hO => bk hk fun v12 hv12 hk => ?_)
  refine Ae (fun _ => PM hv12) ?_
  refine JQ (ps := [(0, (.agg [_, _, _]))]) ([v12] : List Ai) DV DB FU (B2 (Bg (α := Ai) v12) (Bb)) (bk hk fun z13 hz13 hk => ?_)
  refine dV (xs := z10) hO 0 hz13 (CE ([v12] : List Ai)) DV DB KG FU DV sb.1.symm (fun G hO => ?_)
  refine pF EB ?_
  refine Nj (xs := [_]) [_, _, _, _, _, _, _, _] hO 1 Mn sb.1.symm (fun G hO => pg (sr ?_))
  refine pM (.int _ _) ?_
  refine pF Gm ?_
  refine Nj (xs := [_]) [_, _, _, _, _, _, _, _] hO 1 G8 sb.1.symm (fun G hO => pg (sr ?_))
  refine pM (.ptr _ _) ?_
  refine Eh hO 1 [_, _, _, _, _, _, _, _] H9 Bs ?_
  obtain ⟨G, hO, hla⟩ := Rt (k := 7) (cs := [iv ae.AY, iv v8, A0 0 0 z7, A0 0 0 ae.AK, A0 0 0 ae.A7, A0 0 0 z13, (.tl 0 []), (.tl 0 [])]) hO (D3 (FW _ _) (D3 (FW _ _) (D3 (De z7) (D3 (De ae.AK) (D3 (De ae.A7) (D3 (De z13) (D3 (QR Ai) Ud)))))))
  replace hO := (A6.pick hO [2, 3, 0, 1] (by decide) rfl : A6 _ _ ([.Aj ([q0]) q0 (.cells 6 [A0 l1 0 ak.xN.A3, A0 l2 m3 ak.xN.A4, A0 l4 0 ak.A9, iv ak.Ak, w1, iv ak.FA]), Gr sf sf sc ak.BU w1] ++ [.Au b2 (.cells 3 [iv cg.Cg, iv cg.RC, iv cg.FZ]), .Au b1 (.cells 8 [iv ae.AY, iv v8, A0 0 0 z7, A0 0 0 ae.AK, A0 0 0 ae.A7, A0 0 0 z13, (.tl 0 []), (.tl 0 [])])]))
  refine bk hk fun z14 hz14 hk => O5 (vs := [.ptr q0 0, .agg [iv ae.AY, iv v8, A0 0 0 z7, A0 0 0 ae.AK, A0 0 0 ae.A7, A0 0 0 z13, (.tl 0 []), (.tl 0 [])]]) (caps := []) (rs1 := fun (E15 : List Nat × V) => [.Aj ([q0]) q0 (.cells 6 [A0 l1 0 ak.xN.A3, A0 l2 m3 ak.xN.A4, A0 l4 0 ak.A9, iv ak.Ak, E15.2, iv ak.FA]), Gr sf E15.1 sc z14 E15.2]) hO sb hS hlo rfl ⟨sL, ⟨(sR sL), trivial⟩⟩ (fun _ vg ti tm wo => UM ak (⟨ae.AY, v8, z7, ae.AK, ae.A7, z13, ([] : List Ai), ([] : List AD)⟩ : A8) hz14 wo tm ti vg (XM sj)) (fun _ => ⟨⟨rfl, rfl⟩, ⟨rfl, trivial⟩⟩) (fun E15 H1 G sb hO => ?_) (Nd (hla sb.1.symm rfl RQ))
  refine pg (Ax (gr ?_))
  have tk : q0 < H.length := sd _ (sL _ (dt.2 rfl))
  replace hk := dv hk; subst hk; exact GW (E15.1, E15.2) (pk hO [0, 1]) sb (BJ (CS tk) (BJ (Cf (ej sj)) GL)) rfl rfl rfl rfl (by first | exact Or.inl rfl | exact Or.inr rfl)
 refine Av (gn (AU (sr (pM (.bool _) (pg (As hk ?_ ?_)))))) <;> intro hk
 ·refine Ax (gr ?_)
  have tk : q0 < H.length := sd _ (sL _ (dt.2 rfl))
  replace hk := dv hk; subst hk; exact GW (sf, w1) (pk hO [2, 3]) sb (BJ (CS tk) (BJ (Cf (ej sj)) GL)) rfl rfl rfl rfl (by first | exact Or.inl rfl | exact Or.inr rfl)
 refine Av (gn (sr (B4 Gp hO 0 (.int _ _) B5 ?_)))
 refine B4 HX hO 0 (.int _ _) B5 (bk hk fun ya hv16 hk => ?_)
 refine Ae (fun _ => UN hv16) (C9 hO AS Cw (fun b17 G hO => ?_))
 refine DR (xs := [_, _]) hO 0 AS sb.1.symm (fun G hO => pg (sr ?_))
 refine pA (.int _ _) (pg ?_)
 refine CX (fun S' => ∃ x18 J G H1, IF ak ae cg rc z7 ya x18 = some r ∧ BK H H1 ([q0] ++ (sf ++ [])) ∧ A6 H1 G [.Au b17 (.cells 2 [iv ya.A1, iv ya.BI]), .Au b2 (.cells 3 [iv cg.Cg, iv cg.RC, iv cg.FZ]), .Au b1 (.cells 8 [iv ae.AY, iv ae.To, A0 0 0 z7, A0 0 0 ae.AK, A0 0 0 ae.A7, A0 0 0 ae.AP, (.tl 0 []), (.tl 0 [])]), Gr sf sf sc ak.BU w1, .Aj ([q0]) q0 (.cells 6 [A0 l1 0 ak.xN.A3, A0 l2 m3 ak.xN.A4, A0 l4 0 ak.A9, iv ak.Ak, w1, iv ak.FA])] ∧ S' = ⟨Ao [(0, .ptr q0 0),(4, .ptr b1 0),(5, .ptr b2 0),(8, .ptr b17 0),(9, iv x18)] J, G⟩) ?_ ?_
 ·refine sr (B4 EX hO 0 (.int _ _) B5 ?_)
  refine AO (pg (As hk ?_ ?_)) <;> intro hk
  ·refine GC [1,3,5,7,9,11,13,14,16,19,20] [_,_,_,_,_,_,_,_,_,_,_] ?_
   refine pM (.ptr _ _) ?_
   refine Bw ?_
   refine pF Ja ?_
   refine pF D0 ?_
   refine I9 hO 3 (.lit _ _ _) Gd ?_
   refine B4 Gp hO 1 (.int _ _) B5 (bk hk fun c54 hc54 hk => ?_)
   refine pX hc54 IB Cp ?_
   refine pF Dj ?_
   refine CQ (.int _ _) (Gj (lm := 0) (off := 1) hc54 B5) ?_
   refine pA (.int _ _) (pg ?_)
   exact ⟨c54.Bo, _, _, _, hk, sb, (pk hO [0, 1, 2, 4, 3]), sh⟩
  exact Av (gn (⟨(0:Int), _, _, _, hk, sb, (pk hO [0, 1, 2, 4, 3]), sh⟩))
 rintro _ ⟨x18, J, G, H1, hk, sb, hO, rfl⟩
 refine AU (GC [1,3,7,9,11,13,15,5,16,18,20,22,24] [_,_,_,_,_,_,_,_,_,_,_,_,_] ?_)
 refine B4 EB hO 2 (.lit _ _ _) I3 ?_
 refine B4 Gp hO 1 (.int _ _) B5 ?_
 refine B4 Jb hO 1 (.int _ _) B5 ?_
 refine pM (.int _ _) (bk hk fun z19 hz19 hk => ?_)
 refine Qu (xs := ae.AP) hO hz19 Tryz.func124 Xb DV DB KG FU (fun o19 G hno19 hO => bk hk fun v21 hv21 hk => ?_)
 refine Ae (fun _ => PM hv21) ?_
 refine JQ (ps := [(0, (.agg [_, _, _]))]) ([v21] : List Ai) DV DB FU (B2 (Bg (α := Ai) v21) (Bb)) (bk hk fun tz hz22 hk => ?_)
 refine dV (xs := z19) hO 0 hz22 (CE ([v21] : List Ai)) DV DB KG FU DV sb.1.symm (fun G hO => ?_)
 refine pF EB ?_
 refine Nj (xs := [_]) [_, _, _, _, _, _, _, _] hO 2 Mn sb.1.symm (fun G hO => pg (AU ?_))
 refine GC [1,3,5,7,9,10,12,14,16,19,20,22] [_,_,_,_,_,_,_,_,_,_,_,_] ?_
 refine pM (.ptr _ _) ?_
 refine Bw ?_
 refine pF Ja ?_
 refine LM [_, _] hO 4 E4 CB ?_
 refine Eh hO 0 [_, _] Br AS (bk hk fun wm hv23 hk => ?_)
 refine Ae (fun _ => Lw hv23) ?_
 refine pM (.Ei [_, _]) ?_
 refine Qv (.int _ _) ?_
 refine Qv (.int _ _) (C9 hO G8 XZ (fun b24 G hO => ?_))
 refine DR (xs := [_]) hO 0 G8 sb.1.symm (fun G hO => ?_)
 refine pA (.int _ _) (pg (AU ?_))
 refine GC [1,3,5,7,9,11,12,14,17,18] [_,_,_,_,_,_,_,_,_,_] ?_
 refine pM (.ptr _ _) ?_
 refine Bw ?_
 refine pF Ja ?_
 refine pF DK ?_
 refine I9 hO 5 (.lit _ _ _) HF ?_
 refine Eg hO 0 (.int _ _) B5 (bk hk fun xi xe hk => ?_)
 refine pX xe HA BY ?_
 refine pF DE ?_
 refine CQ (.int _ _) (Gj (lm := m3) (off := 0) xe B5) ?_
 refine pA (.int _ _) (pg (AU (sr ?_)))
 refine pM (.int _ _) ?_
 refine AO (pg (As hk ?_ ?_)) <;> intro hk
 ·refine sr (pF Gm ?_)
  refine Nj (xs := [_]) [_, _, _, _, _, _, _, _] hO 3 G8 sb.1.symm (fun G hO => pg (sr ?_))
  refine pM (.ptr _ _) ?_
  refine Eh hO 3 [_, _, _, _, _, _, _, _] H9 Bs ?_
  obtain ⟨G, hO, hla⟩ := Rt (k := 7) (cs := [iv ae.AY, iv (-1:Int), A0 0 0 z7, A0 0 0 ae.AK, A0 0 0 ae.A7, A0 0 0 tz, (.tl 0 []), (.tl 0 [])]) hO (D3 (FW _ _) (D3 (FW _ _) (D3 (De z7) (D3 (De ae.AK) (D3 (De ae.A7) (D3 (De tz) (D3 (QR Ai) Ud)))))))
  replace hO := (A6.pick hO [5, 4, 0, 1, 2, 3] (by decide) rfl : A6 _ _ ([.Aj ([q0]) q0 (.cells 6 [A0 l1 0 ak.xN.A3, A0 l2 m3 ak.xN.A4, A0 l4 0 ak.A9, iv ak.Ak, w1, iv ak.FA]), Gr sf sf sc ak.BU w1] ++ [.Au b24 (.cells 1 [iv wm.1]), .Au b17 (.cells 2 [iv ya.A1, iv ya.BI]), .Au b2 (.cells 3 [iv cg.Cg, iv cg.RC, iv cg.FZ]), .Au b1 (.cells 8 [iv ae.AY, iv (-1:Int), A0 0 0 z7, A0 0 0 ae.AK, A0 0 0 ae.A7, A0 0 0 tz, (.tl 0 []), (.tl 0 [])])]))
  refine bk hk fun z26 hz26 hk => O5 (vs := [.ptr q0 0, .agg [iv ae.AY, iv (-1:Int), A0 0 0 z7, A0 0 0 ae.AK, A0 0 0 ae.A7, A0 0 0 tz, (.tl 0 []), (.tl 0 [])]]) (caps := []) (rs1 := fun (E27 : List Nat × V) => [.Aj ([q0]) q0 (.cells 6 [A0 l1 0 ak.xN.A3, A0 l2 m3 ak.xN.A4, A0 l4 0 ak.A9, iv ak.Ak, E27.2, iv ak.FA]), Gr sf E27.1 sc z26 E27.2]) hO sb hS hlo rfl ⟨sL, ⟨(sR sL), trivial⟩⟩ (fun _ vg ti tm wo => UM ak (⟨ae.AY, (-1:Int), z7, ae.AK, ae.A7, tz, ([] : List Ai), ([] : List AD)⟩ : A8) hz26 wo tm ti vg (XM sj)) (fun _ => ⟨⟨rfl, rfl⟩, ⟨rfl, trivial⟩⟩) (fun E27 H1 G sb hO => ?_) (Nd (hla sb.1.symm rfl RQ))
  refine pg (Ax (gr ?_))
  have tk : q0 < H.length := sd _ (sL _ (dt.2 rfl))
  replace hk := dv hk; subst hk; exact GW (E27.1, E27.2) (pk hO [0, 1]) sb (BJ (CS tk) (BJ (Cf (ej sj)) GL)) rfl rfl rfl rfl (by first | exact Or.inl rfl | exact Or.inr rfl)
 refine Av (gn (AU (GC [1,3,5,7,9,10,12,14,16,18,20] [_,_,_,_,_,_,_,_,_,_,_] ?_)))
 refine pM (.ptr _ _) ?_
 refine Bw ?_
 refine pF Ja ?_
 refine LM [_, _] hO 5 E4 CB ?_
 refine Eh hO 1 [_, _] Br AS (bk hk fun wc hv28 hk => ?_)
 refine Ae (fun _ => PN hv28) ?_
 refine pM (.Ei [_, _]) ?_
 refine Qv (.lit _ _ _) ?_
 refine Qv (.lit _ _ _) ?_
 refine pA (.lit _ _ _) ?_
 refine pA (.lit _ _ _) (pg (sr ?_))
 refine pM (.lit _ _ _) ?_
 refine BE HM ?_
 refine pM (.int _ _) (pg (Bn ?_))
 refine AE (F := Lm ak ae rc z7 tz wm xi wc) (fun s S' => ∃ vl F30 J G H1, BK H H1 ([q0] ++ (sf ++ [])) ∧ A6 H1 G [.Au b24 (.cells 1 [iv wm.1]), .Au b1 (.cells 8 [iv ae.AY, iv ae.To, A0 0 0 z7, A0 0 0 ae.AK, A0 0 0 ae.A7, A0 0 0 tz, (.tl 0 []), (.tl 0 [])]), Gr sf F30 sc s.1 vl, .Aj ([q0]) q0 (.cells 6 [A0 l1 0 ak.xN.A3, A0 l2 m3 ak.xN.A4, A0 l4 0 ak.A9, iv ak.Ak, vl, iv s.2.1])] ∧ S' = ⟨Ao [(0, .ptr q0 0),(4, .ptr b1 0),(10, .ptr b24 0),(12, iv xi.Kind),(14, A0 0 0 wc.2),(136, A0 0 0 wc.1),(137, iv (wc.1.length : Int)),(138, iv s.2.2)] J, G⟩) hk ⟨w1, sf, _, _, _, sb, (pk hO [0, 3, 4, 5]), sh⟩ ?_
 rintro ⟨x29, zf, x32⟩ _ y1 ⟨vl, F30, J, G, H1, sb, hO, rfl⟩ hk se
 refine sr (AO (pg (AU (As hk ?_ ?_)))) <;> intro hk
 ·refine Av (gn (CX (fun S' => ∃ x33 x35 o33 F34 J G H1, Ln x32 x33 x35 = some y1 ∧ BK H H1 ([q0] ++ (sf ++ [])) ∧ A6 H1 G [Gr sf F34 sc x33 o33, .Aj ([q0]) q0 (.cells 6 [A0 l1 0 ak.xN.A3, A0 l2 m3 ak.xN.A4, A0 l4 0 ak.A9, iv ak.Ak, o33, iv x35]), .Au b24 (.cells 1 [iv wm.1]), .Au b1 (.cells 8 [iv ae.AY, iv ae.To, A0 0 0 z7, A0 0 0 ae.AK, A0 0 0 ae.A7, A0 0 0 tz, (.tl 0 []), (.tl 0 [])])] ∧ S' = ⟨Ao [(0, .ptr q0 0),(4, .ptr b1 0),(10, .ptr b24 0),(12, iv xi.Kind),(14, A0 0 0 wc.2),(136, A0 0 0 wc.1),(137, iv (wc.1.length : Int)),(138, iv x32)] J, G⟩) ?_ ?_))
  ·refine Bn (sr (pM (.int _ _) (bk hk fun c36 hc36 hk => ?_)))
   refine pX hc36 CV AS ?_
   refine CQ (.agg [_, _]) (EA (lm := 0) (off := 0) hc36 Br AS) (C9 hO AS Cw (fun b37 G hO => ?_))
   refine pA (.int _ _) ?_
   refine DR (xs := [_, _]) hO 0 AS sb.1.symm (fun G hO => pg (sr ?_))
   refine Eh hO 2 [_, _, _, _, _, _, _, _] H9 Bs (C9 hO Bs Kw (fun b38 G hO => ?_))
   refine Nj (xs := [_, _, _, _, _, _, _, _]) [_, _, _, _, _, _, _, _] hO 0 Bs sb.1.symm (fun G hO => pg ?_)
   refine CX (fun S' => ∃ x39 J G H1, JF ak ae rc z7 tz wm xi wc x29 zf x32 c36 x39 = some y1 ∧ BK H H1 ([q0] ++ (sf ++ [])) ∧ A6 H1 G [.Au b38 (.cells 8 [iv ae.AY, iv ae.To, A0 0 0 z7, A0 0 0 ae.AK, A0 0 0 x39, A0 0 0 tz, (.tl 0 []), (.tl 0 [])]), .Au b37 (.cells 2 [iv c36.A1, iv c36.BI]), .Au b24 (.cells 1 [iv wm.1]), .Au b1 (.cells 8 [iv ae.AY, iv ae.To, A0 0 0 z7, A0 0 0 ae.AK, A0 0 0 ae.A7, A0 0 0 tz, (.tl 0 []), (.tl 0 [])]), Gr sf F30 sc x29 vl, .Aj ([q0]) q0 (.cells 6 [A0 l1 0 ak.xN.A3, A0 l2 m3 ak.xN.A4, A0 l4 0 ak.A9, iv ak.Ak, vl, iv zf])] ∧ S' = ⟨Ao [(0, .ptr q0 0),(4, .ptr b1 0),(10, .ptr b24 0),(12, iv xi.Kind),(14, A0 0 0 wc.2),(15, iv x32),(16, .ptr b37 0),(17, .ptr b38 0),(136, A0 0 0 wc.1),(137, iv (wc.1.length : Int)),(138, iv x32)] J, G⟩) ?_ ?_
   ·refine sr (pM (.int _ _) ?_)
    refine AO (pg (As hk ?_ ?_)) <;> intro hk
    ·refine GC [1,3,7,9,5,10,12,14] [_,_,_,_,_,_,_,_] ?_
     refine B4 Fp hO 3 (.lit _ _ _) VE ?_
     refine Eg hO 2 (.int _ _) B5 ?_
     refine JQ (ps := [(0, (.int _ _))]) ([wm.1] : List Int) I6 G8 XZ (B2 (EZ _ _) (Bb)) (bk hk fun z51 hz51 hk => ?_)
     refine Qu (xs := ae.A7) hO hz51 Tryz.func123 lB I6 G8 s8 XZ (fun o51 G hno51 hO => bk hk fun z53 hz53 hk => ?_)
     refine dV (xs := z51) hO 0 hz53 (CE ([wm.1] : List Int)) I6 G8 s8 XZ I6 sb.1.symm (fun G hO => ?_)
     refine pF Fp ?_
     refine Nj (xs := [_]) [_, _, _, _, _, _, _, _] hO 0 jZ sb.1.symm (fun G hO => pg ?_)
     exact ⟨z53, _, _, _, hk, sb, hO, sh⟩
    exact Av (gn (⟨ae.A7, _, _, _, hk, sb, hO, sh⟩))
   rintro _ ⟨x39, J, G, H1, hk, sb, hO, rfl⟩
   refine CX (fun S' => ∃ wb J G H1, KK ak ae rc z7 tz x29 zf x32 c36 x39 wb = some y1 ∧ BK H H1 ([q0] ++ (sf ++ [])) ∧ A6 H1 G [.Au b38 (.cells 8 [iv ae.AY, iv ae.To, A0 0 0 z7, A0 0 0 wb, A0 0 0 x39, A0 0 0 tz, (.tl 0 []), (.tl 0 [])]), .Au b37 (.cells 2 [iv c36.A1, iv c36.BI]), .Au b24 (.cells 1 [iv wm.1]), .Au b1 (.cells 8 [iv ae.AY, iv ae.To, A0 0 0 z7, A0 0 0 ae.AK, A0 0 0 ae.A7, A0 0 0 tz, (.tl 0 []), (.tl 0 [])]), Gr sf F30 sc x29 vl, .Aj ([q0]) q0 (.cells 6 [A0 l1 0 ak.xN.A3, A0 l2 m3 ak.xN.A4, A0 l4 0 ak.A9, iv ak.Ak, vl, iv zf])] ∧ S' = ⟨Ao [(0, .ptr q0 0),(4, .ptr b1 0),(10, .ptr b24 0),(12, iv xi.Kind),(14, A0 0 0 wc.2),(16, .ptr b37 0),(17, .ptr b38 0),(136, A0 0 0 wc.1),(137, iv (wc.1.length : Int)),(138, iv x32)] J, G⟩) ?_ ?_
   ·refine sr (pM (.int _ _) ?_)
    refine AO (pg (As hk ?_ ?_)) <;> intro hk
    ·refine sr (B4 DY hO 3 (.lit _ _ _) I2 ?_)
     refine vJ (vs := [_]) (bk hk fun v44 hv44 hk => ?_)
     refine Ae (fun _ => Sv hv44 (hO.get (k := 2) rfl).1) ?_
     refine pA (.int _ _) (pg (sr ?_))
     refine pM (.int _ _) ?_
     refine AO (pg (As hk ?_ ?_)) <;> intro hk
     ·refine GC [1,3,7,9,11,13,15,17,19,5,20,22,24] [_,_,_,_,_,_,_,_,_,_,_,_,_] ?_
      refine B4 DY hO 3 (.lit _ _ _) I2 ?_
      refine Eg hO 2 (.int _ _) B5 ?_
      refine pM (.lit _ _ _) ?_
      refine pM (.int _ _) (bk hk fun c45 hc45 hk => ?_)
      refine pX hc45 I6 G8 ?_
      refine CQ (.int _ _) (Gj (lm := 0) (off := 0) hc45 B5) ?_
      refine G9 [_, _] I1 eM ?_
      refine JQ (ps := [(0, (.agg [_, _]))]) ([(⟨wm.1, c45⟩ : BQ)] : List BQ) Ex CM I1 (B2 (Bg (α := BQ) (⟨wm.1, c45⟩ : BQ)) (Bb)) (bk hk fun z46 hz46 hk => ?_)
      refine Qu (xs := ae.AK) hO hz46 Tryz.func122 lA Ex CM VG I1 (fun o46 G hno46 hO => bk hk fun z48 hz48 hk => ?_)
      refine dV (xs := z46) hO 0 hz48 (CE ([(⟨wm.1, c45⟩ : BQ)] : List BQ)) Ex CM VG I1 Ex sb.1.symm (fun G hO => ?_)
      refine pF DY ?_
      refine Nj (xs := [_]) [_, _, _, _, _, _, _, _] hO 0 Xl sb.1.symm (fun G hO => pg ?_)
      exact ⟨z48, _, _, _, hk, sb, hO, sh⟩
     refine AU (GC [1,3,5,7,9,11,13,15,17,19,20] [_,_,_,_,_,_,_,_,_,_,_] ?_)
     refine B4 DY hO 3 (.lit _ _ _) I2 ?_
     refine pM (.int _ _) (bk hk fun vo hc49 hk => ?_)
     refine pX hc49 Ex CM ?_
     refine pF HY ?_
     refine CQ (.int _ _) (Gj (lm := 0) (off := 1) hc49 B5) ?_
     refine pM (.lit _ _ _) ?_
     refine pM (.int _ _) (bk hk fun c50 hc50 hk => ?_)
     refine pX hc50 I6 G8 ?_
     refine CQ (.int _ _) (Gj (lm := 0) (off := 0) hc50 B5) ?_
     refine AO (pg (As hk ?_ ?_)) <;> intro hk
     ·exact Dh (ge (be (gn (⟨x29, zf, vl, F30, _, _, _, hk, sb, (pk hO [4, 5, 2, 3]), sh⟩))))
     exact Av (gn (⟨ae.AK, _, _, _, hk, sb, hO, sh⟩))
    exact Av (gn (⟨ae.AK, _, _, _, hk, sb, hO, sh⟩))
   rintro _ ⟨wb, J, G, H1, hk, sb, hO, rfl⟩
   refine sr (pM (.ptr _ _) ?_)
   refine Bw ?_
   refine pF Ml ?_
   refine I9 hO 5 (.int _ _) B5 ?_
   refine AO ?_
   refine Bw ?_
   refine pF Ml ?_
   refine WX [_, _, _, _, _, _] hO 5 G8 sb hS sL rfl rfl (fun H1 G sb hO => pg ?_)
   refine GC [1,3,5,7,9,11,13,15,16] [_,_,_,_,_,_,_,_,_] ?_
   refine pM (.ptr _ _) ?_
   refine Eh hO 0 [_, _, _, _, _, _, _, _] H9 Bs ?_
   refine pM (.ptr _ _) ?_
   refine Bw ?_
   refine pF Ja ?_
   refine LM [_, _] hO 5 E4 CB ?_
   refine Eh hO 1 [_, _] Br AS (bk hk fun v41 hv41 hk => ?_)
   refine Ae (fun _ => UP hv41) ?_
   obtain ⟨G, hO, hla⟩ := Rt (k := 6) (cs := [iv ae.AY, iv ae.To, A0 0 0 z7, A0 0 0 wb, A0 0 0 x39, A0 0 0 tz, (.tl 0 []), (.tl 0 [])]) hO (D3 (FW _ _) (D3 (FW _ _) (D3 (De z7) (D3 (De wb) (D3 (De x39) (D3 (De tz) Ud))))))
   replace hO := (A6.pick hO [5, 4, 0, 1, 2, 3] (by decide) rfl : A6 _ _ ([.Aj ([q0]) q0 (.cells 6 [A0 l1 0 ak.xN.A3, A0 l2 m3 ak.xN.A4, A0 l4 0 ak.A9, iv ak.Ak, vl, iv (AN (zf + 1))]), Gr sf F30 sc x29 vl] ++ [.Au b38 (.cells 8 [iv ae.AY, iv ae.To, A0 0 0 z7, A0 0 0 wb, A0 0 0 x39, A0 0 0 tz, (.tl 0 []), (.tl 0 [])]), .Au b37 (.cells 2 [iv c36.A1, iv c36.BI]), .Au b24 (.cells 1 [iv wm.1]), .Au b1 (.cells 8 [iv ae.AY, iv ae.To, A0 0 0 z7, A0 0 0 ae.AK, A0 0 0 ae.A7, A0 0 0 tz, (.tl 0 []), (.tl 0 [])])]))
   refine bk hk fun z42 hz42 hk => O5 (vs := [.ptr q0 0, .agg [iv ae.AY, iv ae.To, A0 0 0 z7, A0 0 0 wb, A0 0 0 x39, A0 0 0 tz, (.tl 0 []), (.tl 0 [])], .agg [iv v41.Cg, iv v41.RC, iv v41.FZ]]) (caps := []) (rs1 := fun (E43 : List Nat × V) => [.Aj ([q0]) q0 (.cells 6 [A0 l1 0 ak.xN.A3, A0 l2 m3 ak.xN.A4, A0 l4 0 ak.A9, iv ak.Ak, E43.2, iv z42.2]), Gr sf E43.1 sc z42.1 E43.2]) hO sb hS hlo rfl ⟨sL, ⟨(sR sL), trivial⟩⟩ (fun _ vg ti tm wo => hrc (⟨ak.xN, ak.A9, ak.Ak, x29, AN (zf + 1)⟩ : Fa) (⟨ae.AY, ae.To, z7, wb, x39, tz, ([] : List Ai), ([] : List AD)⟩ : A8) v41 hz42 wo tm ti vg (XM sj)) (fun _ => ⟨⟨rfl, rfl⟩, ⟨rfl, trivial⟩⟩) (fun E43 H1 G sb hO => ?_) (Nd (hla sb.1.symm rfl (Nc rfl RQ)))
   exact pE (bn (gn (⟨z42.1, z42.2, E43.2, E43.1, _, _, _, hk, sb, (pk hO [1, 0, 4, 5]), sh⟩)))
  rintro _ ⟨x33, x35, o33, F34, J, G, H1, hk, sb, hO, rfl⟩
  refine Cj (AO ?_)
  refine pM (.int _ _) (pg ?_)
  cases hk; exact ⟨_, rfl, o33, F34, _, _, _, sb, (pk hO [2, 3, 0, 1]), sh⟩
 refine Dh (ge (ge (be (have hk := lx se hk; ?_))))
 have tk : q0 < H.length := sd _ (sL _ (dt.2 rfl))
 replace hk := dv hk; subst hk; exact GW (F30, vl) (pk hO [3, 2]) sb (BJ (CS tk) (BJ (Cf (ej sj)) GL)) rfl rfl rfl rfl (by first | exact Or.inl rfl | exact Or.inr rfl)
theorem Zh (n : Nat) : Vs (Nu n) := by
 induction n with
 | zero =>
  intro ak ae cg r l1 l2 m3 l4 q0 w1 sf sc H lk hk hO hS sd hlo sj
  cases hk
 | succ n ih => exact YA ih
def PZ (af : Bq) (aa : List AI) (aq : Int) : (List A8 × Int × Int) → Option ((List A8 × Int × Int) ⊕ (List A8 × Bool)) := fun s =>
 (bif decide (s.2.2 < (aa.length : Int)) then ((AR aa s.2.2).bind fun c9 => ((Nu 1000 (⟨af, aa, aq, s.1, AN (s.2.1 + 1)⟩ : Fa) (⟨s.2.2, 0, ([] : List BR), ([] : List BQ), ([] : List Int), ([] : List Ai), ([] : List Ai), ([] : List AD)⟩ : A8) (⟨c9.A1, c9.At, c9.Way⟩ : Ep)).bind fun wa => some (.inl (wa.1, wa.2, AN (s.2.2 + 1))))) else (((YB (⟨af, aa, aq, s.1, s.2.1⟩ : Fa)).bind fun xl => (bif xl then some (([] : List A8), true) else some (s.1, true))).map Sum.inr))
def sW (af : Bq) (aa : List AI) (aq : Int) : Option (List A8 × Bool) :=
 ((oD af aa).bind fun v2 => (bif ((!((v2.Code == 0) && ((v2.At == 0) && true)) || decide (aq < 0)) || decide (aq > 100000)) then some (([] : List A8), false) else (AQ (PZ af aa aq) (([] : List A8), 0, (0:Int)))))
theorem gV (hk : sW af aa aq = some r) (sn : 0 < lk.length := by simp) (hlo : EK lk H.length := by simp [EK]) : ∃ v H1, Aw dp hh 48 [.agg [A0 l1 0 af.A3, A0 l2 m3 af.A4], A0 l4 0 aa, iv aq] H lk = some (v, H1) ∧ ∃ E : List Nat × V, v = .Ei [E.2, .bool r.2] ∧ A6 H H1 [LV [] E.1 sc r.1 E.2 0] := by
 refine BG Tryz.func48 rfl Tryz.ntmps48 Tryz.results48 rfl rfl ?_
 have hO := A6.nil H
 unfold sW at hk
 refine sr (C0 (cs := [_, _]) hO CB (fun b1 G hO => ?_))
 refine pA (.tl 0 []) ?_
 refine pA (.bool _) (pg (AU (sr ?_)))
 refine Eh hO 0 [_, _] E4 CB ?_
 refine pM (.lit _ _ _) (bk hk fun v2 yo hk => ?_)
 refine Ae (fun _ => iJ yo) ?_
 refine G9 [_, _] DU EJ ?_
 refine uD lC (Tp (Tq _ _ _) (Tp (Tq _ _ _) (rfl))) ?_
 refine pM (.bool _) ?_
 refine Aa (l1 := [_, _, _]) (fun S' => ∃ J, S' = ⟨Ao [(1, A0 l4 0 aa),(2, iv aq),(3, .ptr b1 0),(19, .bool (!((v2.Code == 0) && ((v2.At == 0) && true)) || decide (aq < 0)))] J, G⟩) ?_ ?_
 ·refine bc (b := !((v2.Code == 0) && ((v2.At == 0) && true))) ?_ ?_ <;> intro hg
  ·refine CK hg (CK hg (Ev hg (.bool _) ?_))
   exact pE ⟨_, St.Ao _ ⟨rfl, rfl, rfl, by rw [hg]; rfl, trivial⟩⟩
  refine AZ hg (pM (.int _ _) (AZ hg ?_))
  refine AO ?_
  refine Eu hg (.bool _) ?_
  exact pE ⟨_, St.Ao _ ⟨rfl, rfl, rfl, by rw [hg]; rfl, trivial⟩⟩
 rintro _ ⟨J, rfl⟩
 refine pM (.bool _) ?_
 refine Aa (l1 := [_, _, _]) (fun S' => ∃ J, S' = ⟨Ao [(1, A0 l4 0 aa),(2, iv aq),(3, .ptr b1 0),(23, .bool ((!((v2.Code == 0) && ((v2.At == 0) && true)) || decide (aq < 0)) || decide (aq > 100000)))] J, G⟩) ?_ ?_
 ·refine bc (b := (!((v2.Code == 0) && ((v2.At == 0) && true)) || decide (aq < 0))) ?_ ?_ <;> intro hg
  ·refine CK hg (CK hg (Ev hg (.bool _) ?_))
   exact pE ⟨_, St.Ao _ ⟨rfl, rfl, rfl, by rw [hg]; rfl, trivial⟩⟩
  refine AZ hg (pM (.int _ _) (AZ hg ?_))
  refine AO ?_
  refine Eu hg (.bool _) ?_
  exact pE ⟨_, St.Ao _ ⟨rfl, rfl, rfl, by rw [hg]; rfl, trivial⟩⟩
 rintro _ ⟨J, rfl⟩
 refine pg (As hk ?_ ?_) <;> intro hk
 ·refine sr (pA (.tl 0 []) ?_)
  refine pA (.bool _) (pg (Ax (gr ?_)))
  replace hO := A6.Im hO A8 [] lk.length
  replace hk := dv hk; subst hk; exact cF (lv := sc) sn hO 0 (Dn (.tl 0 []) (Dn (.bool _) CC))
 refine Av (gn (sr (Eh hO 0 [_, _] E4 CB ?_)))
 refine pM (.lit _ _ _) ?_
 refine pM (.int _ _) ?_
 refine G9 [_, _, _, _, _, _] rU sH ?_
 refine C0 (cs := [_, _, _, _, _, _]) hO sJ (fun b4 G hO => ?_)
 refine pA (.ptr _ _) (pg (AU (sr ?_)))
 refine pM (.lit _ _ _) ?_
 refine BE KI ?_
 refine pM (.int _ _) (pg (Bn ?_))
 refine AE (F := PZ af aa aq) (fun s S' => ∃ o5 F6 J G, A6 H G [Gr ([]) F6 lk.length s.1 o5, .Au b4 (.cells 6 [A0 l1 0 af.A3, A0 l2 m3 af.A4, A0 l4 0 aa, iv aq, o5, iv s.2.1])] ∧ S' = ⟨Ao [(8, .ptr b4 0),(29, A0 l4 0 aa),(30, iv (aa.length : Int)),(31, iv s.2.2)] J, G⟩) hk ⟨(.tl 0 []), [], _, _, (A6.pick (A6.Im hO A8 ([]) lk.length) [0, 1] (by decide) rfl), sh⟩ ?_
 rintro ⟨x5, x7, x8⟩ _ y1 ⟨o5, F6, J, G, hO, rfl⟩ hk se
 refine sr (AO (pg (AU (As hk ?_ ?_)))) <;> intro hk
 ·refine Av (gn (AU (Bn (sr (pM (.int _ _) (bk hk fun c9 vk hk => ?_))))))
  refine pX vk GM BF ?_
  refine CQ (.agg [_, _, _, _]) (EA (lm := 0) (off := 0) vk H8 BF) (C9 hO BF HL (fun b10 G hO => ?_))
  refine pA (.int _ _) ?_
  refine DR (xs := [_, _, _, _]) hO 0 BF rfl (fun G hO => pg (sr ?_))
  refine pM (.ptr _ _) ?_
  refine Bw ?_
  refine B4 Ml hO 2 (.int _ _) B5 ?_
  refine AO ?_
  refine Bw ?_
  refine pF Ml ?_
  refine Nj (xs := [_]) [_, _, _, _, _, _] hO 2 G8 rfl (fun G hO => pg (Cj ?_))
  refine pM (.ptr _ _) ?_
  refine pM (.int _ _) ?_
  refine G9 [_, _, _, _, _, _, _, _] Kw lE ?_
  refine B4 DD hO 0 (.int _ _) B5 ?_
  refine B4 CW hO 0 (.int _ _) B5 ?_
  refine B4 DO hO 0 (.int _ _) B5 ?_
  refine G9 [_, _, _] VD Xk ?_
  obtain ⟨G, hO, hla⟩ := Rt (k := 6) (cs := [iv x8, iv 0, (.tl 0 []), (.tl 0 []), (.tl 0 []), (.tl 0 []), (.tl 0 []), (.tl 0 [])]) hO (D3 (FW _ _) (D3 (FW _ _) (D3 (QR BR) (D3 (QR BQ) (D3 (QR Int) (D3 (QR Ai) Ud))))))
  replace hO := (A6.pick hO [2, 1, 0] (by decide) rfl : A6 _ _ ([.Au b4 (.cells 6 [A0 l1 0 af.A3, A0 l2 m3 af.A4, A0 l4 0 aa, iv aq, o5, iv (AN (x7 + 1))]), Gr ([]) F6 lk.length x5 o5] ++ [.Au b10 (.cells 4 [.str c9.Name, iv c9.A1, iv c9.At, iv c9.Way])]))
  refine bk hk fun wa hz11 hk => XS (vs := [.ptr b4 0, .agg [iv x8, iv 0, (.tl 0 []), (.tl 0 []), (.tl 0 []), (.tl 0 []), (.tl 0 []), (.tl 0 [])], .agg [iv c9.A1, iv c9.At, iv c9.Way]]) (caps := []) (rs1 := fun (E12 : List Nat × V) => [.Au b4 (.cells 6 [A0 l1 0 af.A3, A0 l2 m3 af.A4, A0 l4 0 aa, iv aq, E12.2, iv wa.2]), Gr ([]) E12.1 lk.length wa.1 E12.2]) hO hlo rfl ⟨trivial, ⟨sN, trivial⟩⟩ (fun _ vg ti tm wo => (Zh 1000) (⟨af, aa, aq, x5, AN (x7 + 1)⟩ : Fa) (⟨x8, 0, ([] : List BR), ([] : List BQ), ([] : List Int), ([] : List Ai), ([] : List Ai), ([] : List AD)⟩ : A8) (⟨c9.A1, c9.At, c9.Way⟩ : Ep) hz11 wo tm ti vg tB) (fun _ => ⟨rfl, ⟨rfl, trivial⟩⟩) (fun E12 G hO => ?_) (Nd (hla rfl rfl (Nc rfl RQ)))
  refine pE (bn (gn (Cj (AO ?_))))
  refine pM (.int _ _) (pg ?_)
  cases hk; exact ⟨_, rfl, E12.2, E12.1, _, _, (pk hO [1, 0]), sh⟩
 refine Dh (ge (ge (be (gn (have hk := lx se hk; AU (sr (pM (.ptr _ _) (bk hk fun xl hv13 hk => ?_))))))))
 refine Ae (fun _ => UJ hv13 (hO.get (k := 1) rfl).1 (Tx hO (j := 0) rfl).1) (pg (As hk ?_ ?_)) <;> intro hk
 ·refine sr (pA (.tl 0 []) ?_)
  refine pA (.bool _) (pg (Ax (gr ?_)))
  replace hO := A6.Im hO A8 [] lk.length
  replace hk := dv hk; subst hk; exact cF (lv := sc) sn hO 0 (Dn (.tl 0 []) (Dn (.bool _) CC))
 refine Av (gn (sr (pM (.ptr _ _) ?_)))
 refine Bw ?_
 refine B4 Oo hO 1 o5 Wp ?_
 refine pA o5 ?_
 refine pA (.bool _) (pg (Ax ?_))
 replace hk := dv hk; subst hk; exact cF (lv := sc) sn hO 0 (Dn o5 (Dn (.bool _) CC))
def Sz (cw : List A8) : Int → Option (Int ⊕ Unit) := fun s =>
 (bif decide (s < (cw.length : Int)) then ((AR cw s).bind fun c3 => ((CL 16 ([] : List BR) c3.Steps).bind fun z5 => ((CL 16 ([] : List BQ) c3.AK).bind fun z7 => ((CL 8 ([] : List Int) c3.A7).bind fun z9 => ((CL 24 ([] : List Ai) c3.AP).bind fun z14 => ((CL 24 ([] : List Ai) c3.C2).bind fun ze => ((CL 32 ([] : List AD) c3.Ad).bind fun z18 => some (.inl (AN (s + 1)))))))))) else ((some ()).map Sum.inr))
def pO (F : (List A8) → Option Unit) : Prop := ∀ (cw : List A8) {r : Unit} {w1 : V} {sf : List Nat} {sc : Nat} {H : A5} {lk : Lk}, F cw = some r → A6 H H [LV sf sf sc cw w1 0] → (∀ b ∈ (sf ++ []), AT lk b = true) → (∀ b ∈ (sf ++ []), b < H.length) → EK lk H.length → sc < lk.length → ∃ v H1, Aw dp hh 49 [w1] H lk = some (v, H1) ∧ v = w1 ∧ ∃ (E : List Nat) (Hm : A5), BK H Hm (sf ++ []) ∧ A6 Hm H1 [LV sf E sc cw w1 (cw.length * 8)]
def mJ (cw : List A8) : Option Unit :=
 (YU cw).bind fun _ => (AQ (Sz cw) ((0:Int)))
theorem gW : pO mJ := by
 intro cw r w1 sf sc H lk hk hO hS sd hlo sj
 have sn : 0 < lk.length := ka (ga _) sj
 refine BG Tryz.func49 rfl Tryz.ntmps49 Tryz.results49 rfl rfl ?_
 have sb := BK.refl H (sf ++ [])
 unfold mJ at hk
 have hvl := qQ hO 0 (fun b hb => sd b (sL b hb))
 refine bk hk fun _ hlen hk => sr (pA (.tl 0 []) (pg (AU (sr ?_))))
 refine pM w1 ?_
 refine nL hO 0 Tf ?_
 refine pM (.int _ _) (pg (Bn ?_))
 refine AE (F := Sz cw) (fun s S' => ∃ F1 J G H1, BK H H1 (sf ++ []) ∧ A6 H1 G [LV sf F1 sc cw w1 (s.toNat * 8 + 0)] ∧ S' = ⟨Ao [(0, w1),(6, iv (cw.length : Int)),(7, iv s)] J, G⟩) hk ⟨sf, _, _, _, sb, hO, sh⟩ ?_
 rintro x2 _ y1 ⟨F1, J, G, H1, sb, hO, rfl⟩ hk se
 refine sr (AO (pg (AU ?_)))
 refine vG (b := decide (x2 < (cw.length : Int))) (fun hb => ?_) (fun hb => ?_)
 ·replace hk := ct hb hk
  refine Av (gn (AU (Bn (sr (pM (.int _ _) ?_)))))
  refine pA (.int _ _) (pg (sr ?_))
  refine pM w1 ?_
  refine pM (.int _ _) (bk hk fun c3 sx hk => ?_)
  refine uM hO 0 sx HG Bs (fun b4 hb4 => ?_)
  refine pA (.ptr _ _) (pg (AU ?_))
  refine GC [1,3,5,7,9,11,13,17,19,21,23,27,29,31,33,15,25,34,36,38,40,42,44,46,48,50,52] [_,_,_,_,_,_,_,_,_,_,_,_,_,_,_,_,_,_,_,_,_,_,_,_,_,_,_] ?_
  refine pM (.ptr _ _) ?_
  refine pM (.ptr _ _) ?_
  refine pM (.ptr _ _) ?_
  refine pM (.ptr _ _) ?_
  refine Bw ?_
  refine pF Ey ?_
  refine Yj (off := 2) (q := 0) hO 0 hb4 sx RX rfl ?_ (w := A0 0 0 c3.Steps)
  refine pM (.ptr _ _) ?_
  refine Bw ?_
  refine pF DY ?_
  refine Yj (off := 3) (q := 0) hO 0 hb4 sx I2 rfl ?_ (w := A0 0 0 c3.AK)
  refine pM (.ptr _ _) ?_
  refine Bw ?_
  refine pF Fp ?_
  refine Yj (off := 4) (q := 0) hO 0 hb4 sx VE rfl ?_ (w := A0 0 0 c3.A7)
  refine bk hk fun z5 hz5 hk => Kb (xs := c3.Steps) hO hz5 Tryz.func121 kZ JX E5 VF Jh (fun o5 G hno5 hso5 hO => bk hk fun z7 hz7 hk => ?_)
  refine Kb (xs := c3.AK) hO hz7 Tryz.func122 lA Ex CM VG I1 (fun o7 G hno7 hso7 hO => bk hk fun z9 hz9 hk => ?_)
  refine Kb (xs := c3.A7) hO hz9 Tryz.func123 lB I6 G8 s8 XZ (fun o9 G hno9 hso9 hO => ?_)
  refine Bw ?_
  refine pF Ey ?_
  replace hO := hO.cV (off := 0) (w := iv c3.AY) 3 sx rfl (fun _ _ e => by cases e)
  replace hO := hO.cV (off := 1) (w := iv c3.To) 3 sx rfl (fun _ _ e => by cases e)
  replace hO := (A6.pick hO [2, 0, 1, 3] (by decide) rfl : A6 _ _ [.own o5 lk.length 2 c3.Steps.length (AB 0 c3.Steps), .own o9 lk.length 1 c3.A7.length (AB 0 c3.A7), .own o7 lk.length 2 c3.AK.length (AB 0 c3.AK), LV sf F1 sc cw w1 (x2.toNat * 8 + 2)])
  refine Yk (off := 2) hO 2 hno5 hso5 hb4 sx k7 sj sb hS sL rfl (fun F11 H1 G sb hO => ?_)
  refine Bw ?_
  refine pF DY ?_
  replace hO := (A6.pick hO [1, 0, 2] (by decide) rfl : A6 _ _ [.own o7 lk.length 2 c3.AK.length (AB 0 c3.AK), .own o9 lk.length 1 c3.A7.length (AB 0 c3.A7), LV sf F11 sc cw w1 (x2.toNat * 8 + 3)])
  refine Yk (off := 3) hO 1 hno7 hso7 hb4 sx Xl sj sb hS sL rfl (fun F12 H1 G sb hO => ?_)
  refine Bw ?_
  refine pF Fp ?_
  refine Yk (off := 4) hO 0 hno9 hso9 hb4 sx jZ sj sb hS sL rfl (fun F13 H1 G sb hO => pg ?_)
  refine GC [1,3,5,7,9,11,13,17,19,21,23,27,29,31,33,15,25,34,36,38,40,42,44,46,48,50,52] [_,_,_,_,_,_,_,_,_,_,_,_,_,_,_,_,_,_,_,_,_,_,_,_,_,_,_] ?_
  refine pM (.ptr _ _) ?_
  refine pM (.ptr _ _) ?_
  refine pM (.ptr _ _) ?_
  refine pM (.ptr _ _) ?_
  refine Bw ?_
  refine pF EB ?_
  refine Yj (off := 5) (q := 5) hO 0 hb4 sx I3 rfl ?_ (w := A0 0 0 c3.AP)
  refine pM (.ptr _ _) ?_
  refine Bw ?_
  refine pF IW ?_
  refine Yj (off := 6) (q := 5) hO 0 hb4 sx I3 rfl ?_ (w := A0 0 0 c3.C2)
  refine pM (.ptr _ _) ?_
  refine Bw ?_
  refine pF EC ?_
  refine Yj (off := 7) (q := 5) hO 0 hb4 sx I4 rfl ?_ (w := A0 0 0 c3.Ad)
  refine bk hk fun z14 hz14 hk => Kb (xs := c3.AP) hO hz14 Tryz.func124 Xb DV DB KG FU (fun o14 G hno14 hso14 hO => bk hk fun ze hz16 hk => ?_)
  refine Kb (xs := c3.C2) hO hz16 Tryz.func124 Xb DV DB KG FU (fun we G hno16 hso16 hO => bk hk fun z18 hz18 hk => ?_)
  refine Kb (xs := c3.Ad) hO hz18 Tryz.func125 s9 D5 Db Ky EO (fun o18 G hno18 hso18 hO => ?_)
  refine Bw ?_
  refine pF EB ?_
  replace hO := (A6.pick hO [2, 0, 1, 3] (by decide) rfl : A6 _ _ [.own o14 lk.length 3 c3.AP.length (AB 0 c3.AP), .own o18 lk.length 4 c3.Ad.length (AB 0 c3.Ad), .own we lk.length 3 c3.C2.length (AB 0 c3.C2), LV sf F13 sc cw w1 (x2.toNat * 8 + 5)])
  refine Yk (off := 5) hO 2 hno14 hso14 hb4 sx Mn sj sb hS sL rfl (fun F20 H1 G sb hO => ?_)
  refine Bw ?_
  refine pF IW ?_
  replace hO := (A6.pick hO [1, 0, 2] (by decide) rfl : A6 _ _ [.own we lk.length 3 c3.C2.length (AB 0 c3.C2), .own o18 lk.length 4 c3.Ad.length (AB 0 c3.Ad), LV sf F20 sc cw w1 (x2.toNat * 8 + 6)])
  refine Yk (off := 6) hO 1 hno16 hso16 hb4 sx Mn sj sb hS sL rfl (fun F21 H1 G sb hO => ?_)
  refine Bw ?_
  refine pF EC ?_
  refine Yk (off := 7) hO 0 hno18 hso18 hb4 sx KJ sj sb hS sL rfl (fun F22 H1 G sb hO => pE (bn (gn (Cj ?_))))
  refine AO ?_
  refine pM (.int _ _) (pg ?_)
  replace hO := hO.tV (k' := (AN (x2 + 1)).toNat * 8 + 0) 0 (qR hlen sx)
  cases hk; exact ⟨_, rfl, F22, _, _, _, sb, hO, sh⟩
 replace hk := cf hb hk
 refine Dh (ge (ge (be (gn (have hk := lx se hk; sr (pM w1 ?_))))))
 refine pA w1 (pg (Ax ?_))
 replace hO := A6.qO (k' := cw.length * 8) hO 0 (qP hb) (dz _)
 replace hk := dv hk; subst hk; exact GW F1 hO sb (BJ (rP (ej sj) hvl) GL) (Dn w1 CC) rfl (cX hO (j := 0) rfl _) rfl (by first | exact Or.inl rfl | exact Or.inr rfl)
def nZ (af : Bq) (aa : List AI) (aq : Int) : Option (List A8) :=
 ((sW af aa aq).bind fun v2 => ((mJ v2.1).bind fun z5 => some v2.1))
theorem X9 (hk : nZ af aa aq = some r) (sn : 0 < lk.length := by simp) (hlo : EK lk H.length := by simp [EK]) : ∃ v H1, Aw dp hh 13 [.agg [A0 l1 0 af.A3, A0 l2 m3 af.A4], A0 l4 0 aa, iv aq] H lk = some (v, H1) ∧ Jk H r v H1 := by
 refine BG Tryz.func13 rfl Tryz.ntmps13 Tryz.results13 rfl rfl ?_
 have hO := A6.nil H
 unfold nZ at hk
 refine sr (C0 (cs := [_, _]) hO CB (fun b1 G hO => ?_))
 refine pA (.tl 0 []) (pg (sr ?_))
 refine Eh hO 0 [_, _] E4 CB ?_
 refine pM (.lit _ _ _) ?_
 refine pM (.int _ _) (bk hk fun v2 yo hk => ?_)
 refine uB (vs := [(.agg [_, _]), (.lit _ _ _), (.int _ _)]) (caps := []) (ι := List Nat × V) (vF := fun E3 => .Ei [E3.2, .bool v2.2]) (rsN := fun E3 => [LV [] E3.1 lk.length v2.1 E3.2 0]) hO hlo rfl (fun _ hl => gV yo (hlo := hl)) (fun _ => ⟨sN, trivial⟩) (fun E3 G hO => ?_)
 refine pM (.Ei [_, _]) ?_
 refine Qv E3.2 ?_
 refine Qv (.bool _) ?_
 refine pA E3.2 ?_
 refine pA (.bool _) (pg (sr ?_))
 refine pM E3.2 ?_
 replace hO := (A6.pick hO [0, 1] (by decide) rfl : A6 _ _ ([LV ([]) E3.1 lk.length v2.1 E3.2 0] ++ [.Au b1 (.cells 2 [A0 l1 0 af.A3, A0 l2 m3 af.A4])]))
 refine bk hk fun z5 hz5 hk => XS (vs := [E3.2]) (caps := []) (rs1 := fun (E6 : List Nat) => [LV ([]) E6 lk.length v2.1 E3.2 (v2.1.length * 8)]) hO hlo rfl ⟨sN, trivial⟩ (fun _ vg ti tm wo => gW v2.1 hz5 wo tm ti vg tB) (fun _ => ⟨rfl, trivial⟩) (fun E6 G hO => ?_) rfl
 refine pA E3.2 (pg (Ax ?_))
 replace hk := dv hk; subst hk; exact Pw hO (sO (xs := v2.1) sn 0 (dz _)) (Dn E3.2 CC)
def aH (ab : BR) (aj : BR) : Option Bool :=
 (bif (ab.A1 != aj.A1) then some false else (bif (ab.Way != aj.Way) then some false else some true))
theorem aI (hk : aH ab aj = some r) (sn : 0 < lk.length := by simp) : Aw dp hh 188 [.agg [iv ab.A1, iv ab.Way], .agg [iv aj.A1, iv aj.Way]] H lk = some (.bool r, H) := by
 refine AH Tryz.func188 rfl Tryz.ntmps188 Tryz.results188 rfl rfl fun hO => ?_
 unfold aH at hk
 refine sr (C0 (cs := [_, _]) hO E5 (fun b1 G hO => ?_))
 refine C0 (cs := [_, _]) hO E5 (fun b2 G hO => ?_)
 refine pA (.bool _) (pg (AU (sr ?_)))
 refine B4 Mj hO 1 (.int _ _) B5 ?_
 refine B4 Mj hO 0 (.int _ _) B5 ?_
 refine AO (pg (As hk ?_ ?_)) <;> intro hk
 ·refine sr (pA (.bool _) (pg (Ax (gr ?_))))
  cases hk; exact Ah hO
 refine Av (gn (AU (sr (B4 Mk hO 1 (.int _ _) B5 ?_))))
 refine B4 Mk hO 0 (.int _ _) B5 ?_
 refine AO (pg (As hk ?_ ?_)) <;> intro hk
 ·refine sr (pA (.bool _) (pg (Ax (gr ?_))))
  cases hk; exact Ah hO
 refine Av (gn (sr (pA (.bool _) (pg (Ax ?_)))))
 cases hk; exact Ah hO
def Lo (ab : List BR) (aj : List BR) : Int → Option (Int ⊕ Bool) := fun s =>
 (bif decide (s < (ab.length : Int)) then ((AR ab s).bind fun c2 => ((AR aj s).bind fun c3 => ((aH c2 c3).bind fun v4 => (bif !v4 then ((some false).map Sum.inr) else some (.inl (AN (s + 1))))))) else ((some true).map Sum.inr))
def Zi (ab : List BR) (aj : List BR) : Option Bool :=
 (bif ((ab.length : Int) != (aj.length : Int)) then some false else (AQ (Lo ab aj) ((0:Int))))
theorem Zj (hk : Zi ab aj = some r) (sn : 0 < lk.length := by simp) : Aw dp hh 126 [A0 l1 0 ab, A0 l2 0 aj] H lk = some (.bool r, H) := by
 refine AH Tryz.func126 rfl Tryz.ntmps126 Tryz.results126 rfl rfl fun hO => ?_
 unfold Zi at hk
 refine sr (pA (.bool _) (pg (AU (sr ?_))))
 refine pM (.lit _ _ _) ?_
 refine BE Wq ?_
 refine pM (.lit _ _ _) ?_
 refine BE Wq ?_
 refine AO (pg (As hk ?_ ?_)) <;> intro hk
 ·refine sr (pA (.bool _) (pg (Ax (gr ?_))))
  cases hk; exact Ah hO
 refine Av (gn (AU (sr (pA (.int _ _) (pg (Bn ?_))))))
 refine AE (F := Lo ab aj) (fun s S' => ∃ J G, A6 H G [] ∧ S' = ⟨Ao [(0, A0 l1 0 ab),(1, A0 l2 0 aj),(5, iv s)] J, G⟩) hk ⟨_, _, hO, sh⟩ ?_
 rintro x1 _ y1 ⟨J, G, hO, rfl⟩ hk se
 refine AU (sr (pM (.int _ _) ?_))
 refine pM (.lit _ _ _) ?_
 refine BE Wq ?_
 refine AO (pg (As hk ?_ ?_)) <;> intro hk
 ·refine Av (gn (AU (Bn (AU (GC [1,3,5,7,9,11,13,15,16,18] [_,_,_,_,_,_,_,_,_,_] ?_)))))
  refine pM (.lit _ _ _) ?_
  refine pM (.int _ _) (bk hk fun c2 tv hk => ?_)
  refine pX tv JX E5 ?_
  refine CQ (.agg [_, _]) (EA (lm := 0) (off := 0) tv SK E5) ?_
  refine pM (.lit _ _ _) ?_
  refine pM (.int _ _) (bk hk fun c3 sx hk => ?_)
  refine pX sx JX E5 ?_
  refine CQ (.agg [_, _]) (EA (lm := 0) (off := 0) sx SK E5) (bk hk fun v4 uq hk => ?_)
  refine Ae (fun _ => aI uq) ?_
  refine pU (pg (As hk ?_ ?_)) <;> intro hk
  ·refine sr (pA (.bool _) (pg (Ax (br (gr (gr (br (gr (have hk := lx se hk; ?_)))))))))
   cases hk; exact Ah hO
  refine Av (bn (gn (Cj (pM (.int _ _) ?_))))
  refine AO ?_
  refine pA (.int _ _) (pg ?_)
  cases hk; exact ⟨_, rfl, _, _, hO, sh⟩
 refine Dh (ge (ge (be (gn (have hk := lx se hk; sr (pA (.bool _) (pg (Ax ?_))))))))
 cases hk; exact Ah hO
def aJ (ab : BQ) (aj : BQ) : Option Bool :=
 (bif (ab.AG != aj.AG) then some false else (bif (ab.BQ != aj.BQ) then some false else some true))
theorem aK (hk : aJ ab aj = some r) (sn : 0 < lk.length := by simp) : Aw dp hh 189 [.agg [iv ab.AG, iv ab.BQ], .agg [iv aj.AG, iv aj.BQ]] H lk = some (.bool r, H) := by
 refine AH Tryz.func189 rfl Tryz.ntmps189 Tryz.results189 rfl rfl fun hO => ?_
 unfold aJ at hk
 refine sr (C0 (cs := [_, _]) hO CM (fun b1 G hO => ?_))
 refine C0 (cs := [_, _]) hO CM (fun b2 G hO => ?_)
 refine pA (.bool _) (pg (AU (sr ?_)))
 refine B4 Ez hO 1 (.int _ _) B5 ?_
 refine B4 Ez hO 0 (.int _ _) B5 ?_
 refine AO (pg (As hk ?_ ?_)) <;> intro hk
 ·refine sr (pA (.bool _) (pg (Ax (gr ?_))))
  cases hk; exact Ah hO
 refine Av (gn (AU (sr (B4 HY hO 1 (.int _ _) B5 ?_))))
 refine B4 HY hO 0 (.int _ _) B5 ?_
 refine AO (pg (As hk ?_ ?_)) <;> intro hk
 ·refine sr (pA (.bool _) (pg (Ax (gr ?_))))
  cases hk; exact Ah hO
 refine Av (gn (sr (pA (.bool _) (pg (Ax ?_)))))
 cases hk; exact Ah hO
def Lp (ab : List BQ) (aj : List BQ) : Int → Option (Int ⊕ Bool) := fun s =>
 (bif decide (s < (ab.length : Int)) then ((AR ab s).bind fun c2 => ((AR aj s).bind fun c3 => ((aJ c2 c3).bind fun v4 => (bif !v4 then ((some false).map Sum.inr) else some (.inl (AN (s + 1))))))) else ((some true).map Sum.inr))
def Zk (ab : List BQ) (aj : List BQ) : Option Bool :=
 (bif ((ab.length : Int) != (aj.length : Int)) then some false else (AQ (Lp ab aj) ((0:Int))))
theorem Zl (hk : Zk ab aj = some r) (sn : 0 < lk.length := by simp) : Aw dp hh 127 [A0 l1 0 ab, A0 l2 0 aj] H lk = some (.bool r, H) := by
 refine AH Tryz.func127 rfl Tryz.ntmps127 Tryz.results127 rfl rfl fun hO => ?_
 unfold Zk at hk
 refine sr (pA (.bool _) (pg (AU (sr ?_))))
 refine pM (.lit _ _ _) ?_
 refine BE KH ?_
 refine pM (.lit _ _ _) ?_
 refine BE KH ?_
 refine AO (pg (As hk ?_ ?_)) <;> intro hk
 ·refine sr (pA (.bool _) (pg (Ax (gr ?_))))
  cases hk; exact Ah hO
 refine Av (gn (AU (sr (pA (.int _ _) (pg (Bn ?_))))))
 refine AE (F := Lp ab aj) (fun s S' => ∃ J G, A6 H G [] ∧ S' = ⟨Ao [(0, A0 l1 0 ab),(1, A0 l2 0 aj),(5, iv s)] J, G⟩) hk ⟨_, _, hO, sh⟩ ?_
 rintro x1 _ y1 ⟨J, G, hO, rfl⟩ hk se
 refine AU (sr (pM (.int _ _) ?_))
 refine pM (.lit _ _ _) ?_
 refine BE KH ?_
 refine AO (pg (As hk ?_ ?_)) <;> intro hk
 ·refine Av (gn (AU (Bn (AU (GC [1,3,5,7,9,11,13,15,16,18] [_,_,_,_,_,_,_,_,_,_] ?_)))))
  refine pM (.lit _ _ _) ?_
  refine pM (.int _ _) (bk hk fun c2 tv hk => ?_)
  refine pX tv Ex CM ?_
  refine CQ (.agg [_, _]) (EA (lm := 0) (off := 0) tv KF CM) ?_
  refine pM (.lit _ _ _) ?_
  refine pM (.int _ _) (bk hk fun c3 sx hk => ?_)
  refine pX sx Ex CM ?_
  refine CQ (.agg [_, _]) (EA (lm := 0) (off := 0) sx KF CM) (bk hk fun v4 uq hk => ?_)
  refine Ae (fun _ => aK uq) ?_
  refine pU (pg (As hk ?_ ?_)) <;> intro hk
  ·refine sr (pA (.bool _) (pg (Ax (br (gr (gr (br (gr (have hk := lx se hk; ?_)))))))))
   cases hk; exact Ah hO
  refine Av (bn (gn (Cj (pM (.int _ _) ?_))))
  refine AO ?_
  refine pA (.int _ _) (pg ?_)
  cases hk; exact ⟨_, rfl, _, _, hO, sh⟩
 refine Dh (ge (ge (be (gn (have hk := lx se hk; sr (pA (.bool _) (pg (Ax ?_))))))))
 cases hk; exact Ah hO
def Pu (ab : List Int) (aj : List Int) : Int → Option (Int ⊕ Bool) := fun s =>
 (bif decide (s < (ab.length : Int)) then ((AR ab s).bind fun c2 => ((AR aj s).bind fun c3 => (bif (c2 != c3) then ((some false).map Sum.inr) else some (.inl (AN (s + 1)))))) else ((some true).map Sum.inr))
def qE (ab : List Int) (aj : List Int) : Option Bool :=
 (bif ((ab.length : Int) != (aj.length : Int)) then some false else (AQ (Pu ab aj) ((0:Int))))
theorem iK (hk : qE ab aj = some r) (sn : 0 < lk.length := by simp) : Aw dp hh 86 [A0 l1 0 ab, A0 l2 0 aj] H lk = some (.bool r, H) := by
 refine AH Tryz.func86 rfl Tryz.ntmps86 Tryz.results86 rfl rfl fun hO => ?_
 unfold qE at hk
 refine sr (pA (.bool _) (pg (AU (sr ?_))))
 refine pM (.lit _ _ _) ?_
 refine BE eO ?_
 refine pM (.lit _ _ _) ?_
 refine BE eO ?_
 refine AO (pg (As hk ?_ ?_)) <;> intro hk
 ·refine sr (pA (.bool _) (pg (Ax (gr ?_))))
  cases hk; exact Ah hO
 refine Av (gn (AU (sr (pA (.int _ _) (pg (Bn ?_))))))
 refine AE (F := Pu ab aj) (fun s S' => ∃ J G, A6 H G [] ∧ S' = ⟨Ao [(0, A0 l1 0 ab),(1, A0 l2 0 aj),(5, iv s)] J, G⟩) hk ⟨_, _, hO, sh⟩ ?_
 rintro x1 _ y1 ⟨J, G, hO, rfl⟩ hk se
 refine AU (sr (pM (.int _ _) ?_))
 refine pM (.lit _ _ _) ?_
 refine BE eO ?_
 refine AO (pg (As hk ?_ ?_)) <;> intro hk
 ·refine Av (gn (AU (Bn (AU (GC [1,3,5,7,9,11,13,15,16] [_,_,_,_,_,_,_,_,_] ?_)))))
  refine pM (.lit _ _ _) ?_
  refine pM (.int _ _) (bk hk fun c2 tv hk => ?_)
  refine pX tv I6 G8 ?_
  refine CQ (.int _ _) (Gj (lm := 0) (off := 0) tv B5) ?_
  refine pM (.lit _ _ _) ?_
  refine pM (.int _ _) (bk hk fun c3 sx hk => ?_)
  refine pX sx I6 G8 ?_
  refine CQ (.int _ _) (Gj (lm := 0) (off := 0) sx B5) ?_
  refine AO (pg (As hk ?_ ?_)) <;> intro hk
  ·refine sr (pA (.bool _) (pg (Ax (br (gr (gr (br (gr (have hk := lx se hk; ?_)))))))))
   cases hk; exact Ah hO
  refine Av (bn (gn (Cj (pM (.int _ _) ?_))))
  refine AO ?_
  refine pA (.int _ _) (pg ?_)
  cases hk; exact ⟨_, rfl, _, _, hO, sh⟩
 refine Dh (ge (ge (be (gn (have hk := lx se hk; sr (pA (.bool _) (pg (Ax ?_))))))))
 cases hk; exact Ah hO
def aM (ab : Ai) (aj : Ai) : Option Bool :=
 (bif (ab.A1 != aj.A1) then some false else (bif (ab.AY != aj.AY) then some false else (bif (ab.To != aj.To) then some false else some true)))
theorem aN (hk : aM ab aj = some r) (sn : 0 < lk.length := by simp) : Aw dp hh 190 [.agg [iv ab.A1, iv ab.AY, iv ab.To], .agg [iv aj.A1, iv aj.AY, iv aj.To]] H lk = some (.bool r, H) := by
 refine AH Tryz.func190 rfl Tryz.ntmps190 Tryz.results190 rfl rfl fun hO => ?_
 unfold aM at hk
 refine sr (C0 (cs := [_, _, _]) hO DB (fun b1 G hO => ?_))
 refine C0 (cs := [_, _, _]) hO DB (fun b2 G hO => ?_)
 refine pA (.bool _) (pg (AU (sr ?_)))
 refine B4 Ok hO 1 (.int _ _) B5 ?_
 refine B4 Ok hO 0 (.int _ _) B5 ?_
 refine AO (pg (As hk ?_ ?_)) <;> intro hk
 ·refine sr (pA (.bool _) (pg (Ax (gr ?_))))
  cases hk; exact Ah hO
 refine Av (gn (AU (sr (B4 Ol hO 1 (.int _ _) B5 ?_))))
 refine B4 Ol hO 0 (.int _ _) B5 ?_
 refine AO (pg (As hk ?_ ?_)) <;> intro hk
 ·refine sr (pA (.bool _) (pg (Ax (gr ?_))))
  cases hk; exact Ah hO
 refine Av (gn (AU (sr (B4 Om hO 1 (.int _ _) B5 ?_))))
 refine B4 Om hO 0 (.int _ _) B5 ?_
 refine AO (pg (As hk ?_ ?_)) <;> intro hk
 ·refine sr (pA (.bool _) (pg (Ax (gr ?_))))
  cases hk; exact Ah hO
 refine Av (gn (sr (pA (.bool _) (pg (Ax ?_)))))
 cases hk; exact Ah hO
def Lq (ab : List Ai) (aj : List Ai) : Int → Option (Int ⊕ Bool) := fun s =>
 (bif decide (s < (ab.length : Int)) then ((AR ab s).bind fun c2 => ((AR aj s).bind fun c3 => ((aM c2 c3).bind fun v4 => (bif !v4 then ((some false).map Sum.inr) else some (.inl (AN (s + 1))))))) else ((some true).map Sum.inr))
def YC (ab : List Ai) (aj : List Ai) : Option Bool :=
 (bif ((ab.length : Int) != (aj.length : Int)) then some false else (AQ (Lq ab aj) ((0:Int))))
theorem UK (hk : YC ab aj = some r) (sn : 0 < lk.length := by simp) : Aw dp hh 128 [A0 l1 0 ab, A0 l2 0 aj] H lk = some (.bool r, H) := by
 refine AH Tryz.func128 rfl Tryz.ntmps128 Tryz.results128 rfl rfl fun hO => ?_
 unfold YC at hk
 refine sr (pA (.bool _) (pg (AU (sr ?_))))
 refine pM (.lit _ _ _) ?_
 refine BE VH ?_
 refine pM (.lit _ _ _) ?_
 refine BE VH ?_
 refine AO (pg (As hk ?_ ?_)) <;> intro hk
 ·refine sr (pA (.bool _) (pg (Ax (gr ?_))))
  cases hk; exact Ah hO
 refine Av (gn (AU (sr (pA (.int _ _) (pg (Bn ?_))))))
 refine AE (F := Lq ab aj) (fun s S' => ∃ J G, A6 H G [] ∧ S' = ⟨Ao [(0, A0 l1 0 ab),(1, A0 l2 0 aj),(5, iv s)] J, G⟩) hk ⟨_, _, hO, sh⟩ ?_
 rintro x1 _ y1 ⟨J, G, hO, rfl⟩ hk se
 refine AU (sr (pM (.int _ _) ?_))
 refine pM (.lit _ _ _) ?_
 refine BE VH ?_
 refine AO (pg (As hk ?_ ?_)) <;> intro hk
 ·refine Av (gn (AU (Bn (AU (GC [1,3,5,7,9,11,13,15,16,18] [_,_,_,_,_,_,_,_,_,_] ?_)))))
  refine pM (.lit _ _ _) ?_
  refine pM (.int _ _) (bk hk fun c2 tv hk => ?_)
  refine pX tv DV DB ?_
  refine CQ (.agg [_, _, _]) (EA (lm := 0) (off := 0) tv Xa DB) ?_
  refine pM (.lit _ _ _) ?_
  refine pM (.int _ _) (bk hk fun c3 sx hk => ?_)
  refine pX sx DV DB ?_
  refine CQ (.agg [_, _, _]) (EA (lm := 0) (off := 0) sx Xa DB) (bk hk fun v4 uq hk => ?_)
  refine Ae (fun _ => aN uq) ?_
  refine pU (pg (As hk ?_ ?_)) <;> intro hk
  ·refine sr (pA (.bool _) (pg (Ax (br (gr (gr (br (gr (have hk := lx se hk; ?_)))))))))
   cases hk; exact Ah hO
  refine Av (bn (gn (Cj (pM (.int _ _) ?_))))
  refine AO ?_
  refine pA (.int _ _) (pg ?_)
  cases hk; exact ⟨_, rfl, _, _, hO, sh⟩
 refine Dh (ge (ge (be (gn (have hk := lx se hk; sr (pA (.bool _) (pg (Ax ?_))))))))
 cases hk; exact Ah hO
def aO (ab : AD) (aj : AD) : Option Bool :=
 (bif (ab.At != aj.At) then some false else (bif (ab.Kind != aj.Kind) then some false else (bif (ab.Of != aj.Of) then some false else (bif (ab.BQ != aj.BQ) then some false else some true))))
theorem aP (hk : aO ab aj = some r) (sn : 0 < lk.length := by simp) : Aw dp hh 191 [.agg [iv ab.At, iv ab.Kind, iv ab.Of, iv ab.BQ], .agg [iv aj.At, iv aj.Kind, iv aj.Of, iv aj.BQ]] H lk = some (.bool r, H) := by
 refine AH Tryz.func191 rfl Tryz.ntmps191 Tryz.results191 rfl rfl fun hO => ?_
 unfold aO at hk
 refine sr (C0 (cs := [_, _, _, _]) hO Db (fun b1 G hO => ?_))
 refine C0 (cs := [_, _, _, _]) hO Db (fun b2 G hO => ?_)
 refine pA (.bool _) (pg (AU (sr ?_)))
 refine B4 Oq hO 1 (.int _ _) B5 ?_
 refine B4 Oq hO 0 (.int _ _) B5 ?_
 refine AO (pg (As hk ?_ ?_)) <;> intro hk
 ·refine sr (pA (.bool _) (pg (Ax (gr ?_))))
  cases hk; exact Ah hO
 refine Av (gn (AU (sr (B4 Ot hO 1 (.int _ _) B5 ?_))))
 refine B4 Ot hO 0 (.int _ _) B5 ?_
 refine AO (pg (As hk ?_ ?_)) <;> intro hk
 ·refine sr (pA (.bool _) (pg (Ax (gr ?_))))
  cases hk; exact Ah hO
 refine Av (gn (AU (sr (B4 Ou hO 1 (.int _ _) B5 ?_))))
 refine B4 Ou hO 0 (.int _ _) B5 ?_
 refine AO (pg (As hk ?_ ?_)) <;> intro hk
 ·refine sr (pA (.bool _) (pg (Ax (gr ?_))))
  cases hk; exact Ah hO
 refine Av (gn (AU (sr (B4 Ov hO 1 (.int _ _) B5 ?_))))
 refine B4 Ov hO 0 (.int _ _) B5 ?_
 refine AO (pg (As hk ?_ ?_)) <;> intro hk
 ·refine sr (pA (.bool _) (pg (Ax (gr ?_))))
  cases hk; exact Ah hO
 refine Av (gn (sr (pA (.bool _) (pg (Ax ?_)))))
 cases hk; exact Ah hO
def Lr (ab : List AD) (aj : List AD) : Int → Option (Int ⊕ Bool) := fun s =>
 (bif decide (s < (ab.length : Int)) then ((AR ab s).bind fun c2 => ((AR aj s).bind fun c3 => ((aO c2 c3).bind fun v4 => (bif !v4 then ((some false).map Sum.inr) else some (.inl (AN (s + 1))))))) else ((some true).map Sum.inr))
def Zm (ab : List AD) (aj : List AD) : Option Bool :=
 (bif ((ab.length : Int) != (aj.length : Int)) then some false else (AQ (Lr ab aj) ((0:Int))))
theorem Zn (hk : Zm ab aj = some r) (sn : 0 < lk.length := by simp) : Aw dp hh 129 [A0 l1 0 ab, A0 l2 0 aj] H lk = some (.bool r, H) := by
 refine AH Tryz.func129 rfl Tryz.ntmps129 Tryz.results129 rfl rfl fun hO => ?_
 unfold Zm at hk
 refine sr (pA (.bool _) (pg (AU (sr ?_))))
 refine pM (.lit _ _ _) ?_
 refine BE VI ?_
 refine pM (.lit _ _ _) ?_
 refine BE VI ?_
 refine AO (pg (As hk ?_ ?_)) <;> intro hk
 ·refine sr (pA (.bool _) (pg (Ax (gr ?_))))
  cases hk; exact Ah hO
 refine Av (gn (AU (sr (pA (.int _ _) (pg (Bn ?_))))))
 refine AE (F := Lr ab aj) (fun s S' => ∃ J G, A6 H G [] ∧ S' = ⟨Ao [(0, A0 l1 0 ab),(1, A0 l2 0 aj),(5, iv s)] J, G⟩) hk ⟨_, _, hO, sh⟩ ?_
 rintro x1 _ y1 ⟨J, G, hO, rfl⟩ hk se
 refine AU (sr (pM (.int _ _) ?_))
 refine pM (.lit _ _ _) ?_
 refine BE VI ?_
 refine AO (pg (As hk ?_ ?_)) <;> intro hk
 ·refine Av (gn (AU (Bn (AU (GC [1,3,5,7,9,11,13,15,16,18] [_,_,_,_,_,_,_,_,_,_] ?_)))))
  refine pM (.lit _ _ _) ?_
  refine pM (.int _ _) (bk hk fun c2 tv hk => ?_)
  refine pX tv D5 Db ?_
  refine CQ (.agg [_, _, _, _]) (EA (lm := 0) (off := 0) tv kU Db) ?_
  refine pM (.lit _ _ _) ?_
  refine pM (.int _ _) (bk hk fun c3 sx hk => ?_)
  refine pX sx D5 Db ?_
  refine CQ (.agg [_, _, _, _]) (EA (lm := 0) (off := 0) sx kU Db) (bk hk fun v4 uq hk => ?_)
  refine Ae (fun _ => aP uq) ?_
  refine pU (pg (As hk ?_ ?_)) <;> intro hk
  ·refine sr (pA (.bool _) (pg (Ax (br (gr (gr (br (gr (have hk := lx se hk; ?_)))))))))
   cases hk; exact Ah hO
  refine Av (bn (gn (Cj (pM (.int _ _) ?_))))
  refine AO ?_
  refine pA (.int _ _) (pg ?_)
  cases hk; exact ⟨_, rfl, _, _, hO, sh⟩
 refine Dh (ge (ge (be (gn (have hk := lx se hk; sr (pA (.bool _) (pg (Ax ?_))))))))
 cases hk; exact Ah hO
def pP (ab : A8) (aj : A8) : Option Bool :=
 (bif (ab.AY != aj.AY) then some false else (bif (ab.To != aj.To) then some false else ((Zi ab.Steps aj.Steps).bind fun v3 => (bif !v3 then some false else ((Zk ab.AK aj.AK).bind fun v4 => (bif !v4 then some false else ((qE ab.A7 aj.A7).bind fun v5 => (bif !v5 then some false else ((YC ab.AP aj.AP).bind fun v6 => (bif !v6 then some false else ((YC ab.C2 aj.C2).bind fun v7 => (bif !v7 then some false else ((Zm ab.Ad aj.Ad).bind fun v8 => (bif !v8 then some false else some true))))))))))))))
theorem gX (hk : pP ab aj = some r) (sn : 0 < lk.length := by simp) : Aw dp hh 50 [.agg [iv ab.AY, iv ab.To, A0 l1 0 ab.Steps, A0 l2 0 ab.AK, A0 l3 0 ab.A7, A0 l4 0 ab.AP, A0 l5 0 ab.C2, A0 l6 0 ab.Ad], .agg [iv aj.AY, iv aj.To, A0 l7 0 aj.Steps, A0 l8 0 aj.AK, A0 l9 0 aj.A7, A0 l10 0 aj.AP, A0 l11 0 aj.C2, A0 l12 0 aj.Ad]] H lk = some (.bool r, H) := by
 refine AH Tryz.func50 rfl Tryz.ntmps50 Tryz.results50 rfl rfl fun hO => ?_
 unfold pP at hk
 refine sr (C0 (cs := [_, _, _, _, _, _, _, _]) hO Bs (fun b1 G hO => ?_))
 refine C0 (cs := [_, _, _, _, _, _, _, _]) hO Bs (fun b2 G hO => ?_)
 refine pA (.bool _) (pg (AU (sr ?_)))
 refine B4 Oj hO 1 (.int _ _) B5 ?_
 refine B4 Oj hO 0 (.int _ _) B5 ?_
 refine AO (pg (As hk ?_ ?_)) <;> intro hk
 ·refine sr (pA (.bool _) (pg (Ax (gr ?_))))
  cases hk; exact Ah hO
 refine Av (gn (AU (sr (B4 Gm hO 1 (.int _ _) B5 ?_))))
 refine B4 Gm hO 0 (.int _ _) B5 ?_
 refine AO (pg (As hk ?_ ?_)) <;> intro hk
 ·refine sr (pA (.bool _) (pg (Ax (gr ?_))))
  cases hk; exact Ah hO
 refine Av (gn (AU (sr (B4 Ey hO 1 (.lit _ _ _) RX ?_))))
 refine B4 Ey hO 0 (.lit _ _ _) RX (bk hk fun v3 zi hk => ?_)
 refine Ae (fun _ => Zj zi) ?_
 refine pU (pg (As hk ?_ ?_)) <;> intro hk
 ·refine sr (pA (.bool _) (pg (Ax (gr ?_))))
  cases hk; exact Ah hO
 refine Av (gn (AU (sr (B4 DY hO 1 (.lit _ _ _) I2 ?_))))
 refine B4 DY hO 0 (.lit _ _ _) I2 (bk hk fun v4 uq hk => ?_)
 refine Ae (fun _ => Zl uq) ?_
 refine pU (pg (As hk ?_ ?_)) <;> intro hk
 ·refine sr (pA (.bool _) (pg (Ax (gr ?_))))
  cases hk; exact Ah hO
 refine Av (gn (AU (sr (B4 Fp hO 1 (.lit _ _ _) VE ?_))))
 refine B4 Fp hO 0 (.lit _ _ _) VE (bk hk fun v5 hv5 hk => ?_)
 refine Ae (fun _ => iK hv5) ?_
 refine pU (pg (As hk ?_ ?_)) <;> intro hk
 ·refine sr (pA (.bool _) (pg (Ax (gr ?_))))
  cases hk; exact Ah hO
 refine Av (gn (AU (sr (B4 EB hO 1 (.lit _ _ _) I3 ?_))))
 refine B4 EB hO 0 (.lit _ _ _) I3 (bk hk fun v6 hv6 hk => ?_)
 refine Ae (fun _ => UK hv6) ?_
 refine pU (pg (As hk ?_ ?_)) <;> intro hk
 ·refine sr (pA (.bool _) (pg (Ax (gr ?_))))
  cases hk; exact Ah hO
 refine Av (gn (AU (sr (B4 IW hO 1 (.lit _ _ _) I3 ?_))))
 refine B4 IW hO 0 (.lit _ _ _) I3 (bk hk fun v7 hv7 hk => ?_)
 refine Ae (fun _ => UK hv7) ?_
 refine pU (pg (As hk ?_ ?_)) <;> intro hk
 ·refine sr (pA (.bool _) (pg (Ax (gr ?_))))
  cases hk; exact Ah hO
 refine Av (gn (AU (sr (B4 EC hO 1 (.lit _ _ _) I4 ?_))))
 refine B4 EC hO 0 (.lit _ _ _) I4 (bk hk fun v8 hv8 hk => ?_)
 refine Ae (fun _ => Zn hv8) ?_
 refine pU (pg (As hk ?_ ?_)) <;> intro hk
 ·refine sr (pA (.bool _) (pg (Ax (gr ?_))))
  cases hk; exact Ah hO
 refine Av (gn (sr (pA (.bool _) (pg (Ax ?_)))))
 cases hk; exact Ah hO
def PI (ab : List A8) (aj : List A8) : Int → Option (Int ⊕ Bool) := fun s =>
 (bif decide (s < (ab.length : Int)) then ((AR ab s).bind fun c2 => ((AR aj s).bind fun c3 => ((pP c2 c3).bind fun v4 => (bif !v4 then ((some false).map Sum.inr) else some (.inl (AN (s + 1))))))) else ((some true).map Sum.inr))
def m7 (ab : List A8) (aj : List A8) : Option Bool :=
 (bif ((ab.length : Int) != (aj.length : Int)) then some false else (AQ (PI ab aj) ((0:Int))))
theorem Ss (hk : m7 ab aj = some r) (sn : 0 < lk.length := by simp) : Aw dp hh 14 [A0 l1 m2 ab, A0 l3 m4 aj] H lk = some (.bool r, H) := by
 refine AH Tryz.func14 rfl Tryz.ntmps14 Tryz.results14 rfl rfl fun hO => ?_
 unfold m7 at hk
 refine sr (pA (.bool _) (pg (AU (sr ?_))))
 refine pM (.lit _ _ _) ?_
 refine BE Tf ?_
 refine pM (.lit _ _ _) ?_
 refine BE Tf ?_
 refine AO (pg (As hk ?_ ?_)) <;> intro hk
 ·refine sr (pA (.bool _) (pg (Ax (gr ?_))))
  cases hk; exact Ah hO
 refine Av (gn (AU (sr (pA (.int _ _) (pg (Bn ?_))))))
 refine AE (F := PI ab aj) (fun s S' => ∃ J G, A6 H G [] ∧ S' = ⟨Ao [(0, A0 l1 m2 ab),(1, A0 l3 m4 aj),(5, iv s)] J, G⟩) hk ⟨_, _, hO, sh⟩ ?_
 rintro x1 _ y1 ⟨J, G, hO, rfl⟩ hk se
 refine AU (sr (pM (.int _ _) ?_))
 refine pM (.lit _ _ _) ?_
 refine BE Tf ?_
 refine AO (pg (As hk ?_ ?_)) <;> intro hk
 ·refine Av (gn (AU (Bn (AU (GC [1,3,5,7,9,11,13,15,16,18] [_,_,_,_,_,_,_,_,_,_] ?_)))))
  refine pM (.lit _ _ _) ?_
  refine pM (.int _ _) (bk hk fun c2 tv hk => ?_)
  refine pX tv HG Bs ?_
  refine CQ (.agg [_, _, _, _, _, _, _, _]) (EA (lm := m2) (off := 0) tv H9 Bs) ?_
  refine pM (.lit _ _ _) ?_
  refine pM (.int _ _) (bk hk fun c3 sx hk => ?_)
  refine pX sx HG Bs ?_
  refine CQ (.agg [_, _, _, _, _, _, _, _]) (EA (lm := m4) (off := 0) sx H9 Bs) (bk hk fun v4 uq hk => ?_)
  refine Ae (fun _ => gX uq) ?_
  refine pU (pg (As hk ?_ ?_)) <;> intro hk
  ·refine sr (pA (.bool _) (pg (Ax (br (gr (gr (br (gr (have hk := lx se hk; ?_)))))))))
   cases hk; exact Ah hO
  refine Av (bn (gn (Cj (pM (.int _ _) ?_))))
  refine AO ?_
  refine pA (.int _ _) (pg ?_)
  cases hk; exact ⟨_, rfl, _, _, hO, sh⟩
 refine Dh (ge (ge (be (gn (have hk := lx se hk; sr (pA (.bool _) (pg (Ax ?_))))))))
 cases hk; exact Ah hO
def Zo (ab : A1) (aj : A1) : Option Bool :=
 (bif !(ab.Name.toList == aj.Name.toList) then some false else (bif (ab.Bo != aj.Bo) then some false else (bif (ab.Cc != aj.Cc) then some false else (bif (ab.DM != aj.DM) then some false else some true))))
theorem Zp (hk : Zo ab aj = some r) (sn : 0 < lk.length := by simp) : Aw dp hh 130 [.agg [.str ab.Name, iv ab.Bo, iv ab.Cc, iv ab.DM], .agg [.str aj.Name, iv aj.Bo, iv aj.Cc, iv aj.DM]] H lk = some (.bool r, H) := by
 refine AH Tryz.func130 rfl Tryz.ntmps130 Tryz.results130 rfl rfl fun hO => ?_
 unfold Zo at hk
 refine sr (C0 (cs := [_, _, _, _]) hO Cp (fun b1 G hO => ?_))
 refine C0 (cs := [_, _, _, _]) hO Cp (fun b2 G hO => ?_)
 refine pA (.bool _) (pg (AU (sr ?_)))
 refine B4 Gn hO 1 (.str _) Kx ?_
 refine B4 Gn hO 0 (.str _) Kx ?_
 refine pB (a := .str _) (b := .str _) (pg (As hk ?_ ?_)) <;> intro hk
 ·refine sr (pA (.bool _) (pg (Ax (gr ?_))))
  cases hk; exact Ah hO
 refine Av (gn (AU (sr (B4 Dj hO 1 (.int _ _) B5 ?_))))
 refine B4 Dj hO 0 (.int _ _) B5 ?_
 refine AO (pg (As hk ?_ ?_)) <;> intro hk
 ·refine sr (pA (.bool _) (pg (Ax (gr ?_))))
  cases hk; exact Ah hO
 refine Av (gn (AU (sr (B4 JY hO 1 (.int _ _) B5 ?_))))
 refine B4 JY hO 0 (.int _ _) B5 ?_
 refine AO (pg (As hk ?_ ?_)) <;> intro hk
 ·refine sr (pA (.bool _) (pg (Ax (gr ?_))))
  cases hk; exact Ah hO
 refine Av (gn (AU (sr (B4 JZ hO 1 (.int _ _) B5 ?_))))
 refine B4 JZ hO 0 (.int _ _) B5 ?_
 refine AO (pg (As hk ?_ ?_)) <;> intro hk
 ·refine sr (pA (.bool _) (pg (Ax (gr ?_))))
  cases hk; exact Ah hO
 refine Av (gn (sr (pA (.bool _) (pg (Ax ?_)))))
 cases hk; exact Ah hO
def Pa (ab : List A1) (aj : List A1) : Int → Option (Int ⊕ Bool) := fun s =>
 (bif decide (s < (ab.length : Int)) then ((AR ab s).bind fun c2 => ((AR aj s).bind fun c3 => ((Zo c2 c3).bind fun v4 => (bif !v4 then ((some false).map Sum.inr) else some (.inl (AN (s + 1))))))) else ((some true).map Sum.inr))
def pQ (ab : List A1) (aj : List A1) : Option Bool :=
 (bif ((ab.length : Int) != (aj.length : Int)) then some false else (AQ (Pa ab aj) ((0:Int))))
theorem gY (hk : pQ ab aj = some r) (sn : 0 < lk.length := by simp) : Aw dp hh 51 [A0 l1 0 ab, A0 l2 0 aj] H lk = some (.bool r, H) := by
 refine AH Tryz.func51 rfl Tryz.ntmps51 Tryz.results51 rfl rfl fun hO => ?_
 unfold pQ at hk
 refine sr (pA (.bool _) (pg (AU (sr ?_))))
 refine pM (.lit _ _ _) ?_
 refine BE Km ?_
 refine pM (.lit _ _ _) ?_
 refine BE Km ?_
 refine AO (pg (As hk ?_ ?_)) <;> intro hk
 ·refine sr (pA (.bool _) (pg (Ax (gr ?_))))
  cases hk; exact Ah hO
 refine Av (gn (AU (sr (pA (.int _ _) (pg (Bn ?_))))))
 refine AE (F := Pa ab aj) (fun s S' => ∃ J G, A6 H G [] ∧ S' = ⟨Ao [(0, A0 l1 0 ab),(1, A0 l2 0 aj),(5, iv s)] J, G⟩) hk ⟨_, _, hO, sh⟩ ?_
 rintro x1 _ y1 ⟨J, G, hO, rfl⟩ hk se
 refine AU (sr (pM (.int _ _) ?_))
 refine pM (.lit _ _ _) ?_
 refine BE Km ?_
 refine AO (pg (As hk ?_ ?_)) <;> intro hk
 ·refine Av (gn (AU (Bn (AU (GC [1,3,5,7,9,11,13,15,16,18] [_,_,_,_,_,_,_,_,_,_] ?_)))))
  refine pM (.lit _ _ _) ?_
  refine pM (.int _ _) (bk hk fun c2 tv hk => ?_)
  refine pX tv IB Cp ?_
  refine CQ (.agg [_, _, _, _]) (EA (lm := 0) (off := 0) tv R7 Cp) ?_
  refine pM (.lit _ _ _) ?_
  refine pM (.int _ _) (bk hk fun c3 sx hk => ?_)
  refine pX sx IB Cp ?_
  refine CQ (.agg [_, _, _, _]) (EA (lm := 0) (off := 0) sx R7 Cp) (bk hk fun v4 uq hk => ?_)
  refine Ae (fun _ => Zp uq) ?_
  refine pU (pg (As hk ?_ ?_)) <;> intro hk
  ·refine sr (pA (.bool _) (pg (Ax (br (gr (gr (br (gr (have hk := lx se hk; ?_)))))))))
   cases hk; exact Ah hO
  refine Av (bn (gn (Cj (pM (.int _ _) ?_))))
  refine AO ?_
  refine pA (.int _ _) (pg ?_)
  cases hk; exact ⟨_, rfl, _, _, hO, sh⟩
 refine Dh (ge (ge (be (gn (have hk := lx se hk; sr (pA (.bool _) (pg (Ax ?_))))))))
 cases hk; exact Ah hO
def bF (ab : Ac) (aj : Ac) : Option Bool :=
 (bif (ab.A1 != aj.A1) then some false else (bif (ab.BI != aj.BI) then some false else some true))
theorem bG (hk : bF ab aj = some r) (sn : 0 < lk.length := by simp) : Aw dp hh 244 [.agg [iv ab.A1, iv ab.BI], .agg [iv aj.A1, iv aj.BI]] H lk = some (.bool r, H) := by
 refine AH Tryz.func244 rfl Tryz.ntmps244 Tryz.results244 rfl rfl fun hO => ?_
 unfold bF at hk
 refine sr (C0 (cs := [_, _]) hO AS (fun b1 G hO => ?_))
 refine C0 (cs := [_, _]) hO AS (fun b2 G hO => ?_)
 refine pA (.bool _) (pg (AU (sr ?_)))
 refine B4 Dk hO 1 (.int _ _) B5 ?_
 refine B4 Dk hO 0 (.int _ _) B5 ?_
 refine AO (pg (As hk ?_ ?_)) <;> intro hk
 ·refine sr (pA (.bool _) (pg (Ax (gr ?_))))
  cases hk; exact Ah hO
 refine Av (gn (AU (sr (B4 EX hO 1 (.int _ _) B5 ?_))))
 refine B4 EX hO 0 (.int _ _) B5 ?_
 refine AO (pg (As hk ?_ ?_)) <;> intro hk
 ·refine sr (pA (.bool _) (pg (Ax (gr ?_))))
  cases hk; exact Ah hO
 refine Av (gn (sr (pA (.bool _) (pg (Ax ?_)))))
 cases hk; exact Ah hO
def Lx (ab : List Ac) (aj : List Ac) : Int → Option (Int ⊕ Bool) := fun s =>
 (bif decide (s < (ab.length : Int)) then ((AR ab s).bind fun c2 => ((AR aj s).bind fun c3 => ((bF c2 c3).bind fun v4 => (bif !v4 then ((some false).map Sum.inr) else some (.inl (AN (s + 1))))))) else ((some true).map Sum.inr))
def aQ (ab : List Ac) (aj : List Ac) : Option Bool :=
 (bif ((ab.length : Int) != (aj.length : Int)) then some false else (AQ (Lx ab aj) ((0:Int))))
theorem aR (hk : aQ ab aj = some r) (sn : 0 < lk.length := by simp) : Aw dp hh 192 [A0 l1 0 ab, A0 l2 0 aj] H lk = some (.bool r, H) := by
 refine AH Tryz.func192 rfl Tryz.ntmps192 Tryz.results192 rfl rfl fun hO => ?_
 unfold aQ at hk
 refine sr (pA (.bool _) (pg (AU (sr ?_))))
 refine pM (.lit _ _ _) ?_
 refine BE HM ?_
 refine pM (.lit _ _ _) ?_
 refine BE HM ?_
 refine AO (pg (As hk ?_ ?_)) <;> intro hk
 ·refine sr (pA (.bool _) (pg (Ax (gr ?_))))
  cases hk; exact Ah hO
 refine Av (gn (AU (sr (pA (.int _ _) (pg (Bn ?_))))))
 refine AE (F := Lx ab aj) (fun s S' => ∃ J G, A6 H G [] ∧ S' = ⟨Ao [(0, A0 l1 0 ab),(1, A0 l2 0 aj),(5, iv s)] J, G⟩) hk ⟨_, _, hO, sh⟩ ?_
 rintro x1 _ y1 ⟨J, G, hO, rfl⟩ hk se
 refine AU (sr (pM (.int _ _) ?_))
 refine pM (.lit _ _ _) ?_
 refine BE HM ?_
 refine AO (pg (As hk ?_ ?_)) <;> intro hk
 ·refine Av (gn (AU (Bn (AU (GC [1,3,5,7,9,11,13,15,16,18] [_,_,_,_,_,_,_,_,_,_] ?_)))))
  refine pM (.lit _ _ _) ?_
  refine pM (.int _ _) (bk hk fun c2 tv hk => ?_)
  refine pX tv CV AS ?_
  refine CQ (.agg [_, _]) (EA (lm := 0) (off := 0) tv Br AS) ?_
  refine pM (.lit _ _ _) ?_
  refine pM (.int _ _) (bk hk fun c3 sx hk => ?_)
  refine pX sx CV AS ?_
  refine CQ (.agg [_, _]) (EA (lm := 0) (off := 0) sx Br AS) (bk hk fun v4 uq hk => ?_)
  refine Ae (fun _ => bG uq) ?_
  refine pU (pg (As hk ?_ ?_)) <;> intro hk
  ·refine sr (pA (.bool _) (pg (Ax (br (gr (gr (br (gr (have hk := lx se hk; ?_)))))))))
   cases hk; exact Ah hO
  refine Av (bn (gn (Cj (pM (.int _ _) ?_))))
  refine AO ?_
  refine pA (.int _ _) (pg ?_)
  cases hk; exact ⟨_, rfl, _, _, hO, sh⟩
 refine Dh (ge (ge (be (gn (have hk := lx se hk; sr (pA (.bool _) (pg (Ax ?_))))))))
 cases hk; exact Ah hO
end
end Go.Proofs.YtjklepgidjimfaaGreat.K
