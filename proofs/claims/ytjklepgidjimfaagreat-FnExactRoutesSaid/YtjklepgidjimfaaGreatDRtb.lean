/-
 Part of a proof. No conditions.
-/
import Derived.Test.YtjklepgidjimfaaGreatDRta
set_option linter.unusedVariables false
set_option linter.unusedSimpArgs false
set_option maxRecDepth 100000
set_option autoImplicit true
set_option relaxedAutoImplicit true
set_option maxHeartbeats 1000000
namespace Go.Proofs.YtjklepgidjimfaaGreat.K
open _root_.Go.Proofs.Tryz renaming prog → dp
open Nat renaming lt_of_le_of_lt → ka, zero_le → ga, le_sub_one_of_lt → ej, one_pos → ig, le_of_lt → kf
open List renaming mem_singleton → dt
open Option.some renaming inj → dv
noncomputable section
variable {H : A5} {lk : Lk}
def OJ (vr : Int) (zc : Int) : Option ((Int × Int) ⊕ (List Ac × List AD)) :=
 some (.inl (zc, AN (vr + 1)))
def KM (ae : A8) (au : Int) (wa : List Ac) (wk : (Int × Int)) : Int → Option (Int ⊕ (List Ac × List AD)) := fun s =>
 (bif decide (s < (ae.AK.length : Int)) then ((AR ae.AK s).bind fun c38 => (bif ((c38.AG == wk.1) && (c38.BQ == wk.2)) then ((CL 32 ae.Ad ([(⟨au, (4:Int), wk.1, 0⟩ : AD)] : List AD)).bind fun z40 => ((some (wa, z40)).map Sum.inr)) else some (.inl (AN (s + 1))))) else (((CL 32 ae.Ad ([(⟨au, (3:Int), wk.1, AN ((3:Int) - wk.2)⟩ : AD)] : List AD)).bind fun z42 => some (wa, z42)).map Sum.inr))
def OI (ag : Cb) (ae : A8) (au : Int) (bu : Ac) (rc : Cb → A8 → Int → Ac → Option (List Ac × List AD)) (wa : List Ac) (xd : Int) : (Int × Int) → Option ((Int × Int) ⊕ (List Ac × List AD)) := fun s =>
 (bif decide (s.2 < (ag.A9.length : Int)) then ((AR ag.A9 s.2).bind fun c17 => ((bif ((c17.A1 == bu.A1) && (c17.Way == xd)) then ((bif decide (s.1 < 0) then some true else ((AR ag.A9 s.1).bind fun c21 => ((Vz ag.xN bu.A1 c17.At xd).bind fun v22 => ((Vz ag.xN bu.A1 c21.At xd).bind fun wm => some (decide (v22 > wm)))))).bind fun t20 => some t20) else some false).bind fun t19 => (bif t19 then (OJ s.2 s.2) else (OJ s.2 s.1)))) else ((bif decide (s.1 ≥ 0) then ((CL 32 ae.Ad ([(⟨au, (2:Int), s.1, 0⟩ : AD)] : List AD)).bind fun z24 => some (wa, z24)) else ((Vr ag.xN (⟨bu.A1, AN ((1:Int) - bu.BI)⟩ : Ac)).bind fun wk => ((AR ag.xN.A4 wk.1).bind fun zd => (bif (zd.Kind == 1) then ((CL 32 ae.Ad ([(⟨au, (1:Int), wk.1, 0⟩ : AD)] : List AD)).bind fun wv => some (wa, wv)) else (bif (zd.Kind == 3) then (bif (wk.2 == 0) then ((AR zd.Ends (1:Int)).bind fun c31 => ((rc (⟨ag.xN, ag.A9, ag.Ak, ag.BU, ag.An, wa⟩ : Cb) ae au c31).bind fun z32 => ((AR zd.Ends (2:Int)).bind fun c34 => ((rc (⟨ag.xN, ag.A9, ag.Ak, ag.BU, ag.An, z32.1⟩ : Cb) (⟨ae.AY, ae.To, ae.Steps, ae.AK, ae.A7, ae.AP, ae.C2, z32.2⟩ : A8) au c34).bind fun z35 => some (z35.1, z35.2))))) else (AQ (KM ae au wa wk) ((0:Int)))) else ((Zb zd wk.2).bind fun v44 => ((AR v44 (0:Int)).bind fun c45 => ((rc (⟨ag.xN, ag.A9, ag.Ak, ag.BU, ag.An, wa⟩ : Cb) ae au c45).bind fun z46 => some (z46.1, z46.2))))))))).map Sum.inr))
def KN (ag : Cb) (ae : A8) (au : Int) (bu : Ac) (rc : Cb → A8 → Int → Ac → Option (List Ac × List AD)) (wa : List Ac) (xd : Int) : Option (List Ac × List AD) :=
 (AQ (OI ag ae au bu rc wa xd) ((-1:Int), (0:Int)))
def KL (ag : Cb) (ae : A8) (au : Int) (bu : Ac) (rc : Cb → A8 → Int → Ac → Option (List Ac × List AD)) : Int → Option (Int ⊕ (List Ac × List AD)) := fun s =>
 (bif decide (s < (ag.Bk.length : Int)) then ((AR ag.Bk s).bind fun c8 => (bif ((c8.A1 == bu.A1) && ((c8.BI == bu.BI) && true)) then ((some (ag.Bk, ae.Ad)).map Sum.inr) else some (.inl (AN (s + 1))))) else (((CL 16 ag.Bk ([bu] : List Ac)).bind fun wa => (bif (bu.BI == 0) then (KN ag ae au bu rc wa (-1:Int)) else (KN ag ae au bu rc wa (1:Int)))).map Sum.inr))
def Vv (F : Cb → A8 → Int → Ac → Option (List Ac × List AD)) : Prop := ∀ (ag : Cb) (ae : A8) (au : Int) (bu : Ac) {r : (List Ac × List AD)} {l1 l2 m3 l4 l5 : Nat} {q0 q1 : Nat} {yd zl zt zu zw w1 w2 : V} {sf sw : List Nat} {sc : Nat} {H : A5} {lk : Lk}, F ag ae au bu = some r → A6 H H [.Aj ([q0]) q0 (.cells 7 [A0 l1 0 ag.xN.A3, A0 l2 m3 ag.xN.A4, A0 l4 0 ag.A9, .int .i64 ag.Ak, yd, .int .i64 ag.An, w1]), Gr sf sf sc ag.Bk w1, .Aj ([q1]) q1 (.cells 8 [.int .i64 ae.AY, .int .i64 ae.To, zl, A0 l5 0 ae.AK, zt, zu, zw, w2]), Gr sw sw sc ae.Ad w2] → (∀ b ∈ ([q0] ++ (sf ++ ([q1] ++ (sw ++ [])))), AT lk b = true) → (∀ b ∈ ([q0] ++ (sf ++ ([q1] ++ (sw ++ [])))), b < H.length) → EK lk H.length → sc < lk.length → ∃ v H1, Aw dp hh 176 [.ptr q0 0, .ptr q1 0, .int .i64 au, .agg [.int .i64 bu.A1, .int .i64 bu.BI]] H lk = some (v, H1) ∧ v = .Ei [] ∧ ∃ (E : List Nat × V × List Nat × V) (Hm : A5), BK H Hm ([q0] ++ (sf ++ ([q1] ++ (sw ++ [])))) ∧ A6 Hm H1 [.Aj [q0] q0 (.cells 7 [A0 l1 0 ag.xN.A3, A0 l2 m3 ag.xN.A4, A0 l4 0 ag.A9, .int .i64 ag.Ak, yd, .int .i64 ag.An, E.2.1]), Gr sf E.1 sc r.1 E.2.1, .Aj [q1] q1 (.cells 8 [.int .i64 ae.AY, .int .i64 ae.To, zl, A0 l5 0 ae.AK, zt, zu, zw, E.2.2.2]), Gr sw E.2.2.1 sc r.2 E.2.2.2]
def PL (rc : Cb → A8 → Int → Ac → Option (List Ac × List AD)) (ag : Cb) (ae : A8) (au : Int) (bu : Ac) : Option (List Ac × List AD) :=
 (AQ (KL ag ae au bu rc) ((0:Int)))
def Su : Nat → Cb → A8 → Int → Ac → Option (List Ac × List AD)
 | 0 => fun _ _ _ _ => none
 | n + 1 => PL (Su n)
theorem YE {rc : Cb → A8 → Int → Ac → Option (List Ac × List AD)} (hrc : Vv rc) : Vv (PL rc) := by
 intro ag ae au bu r l1 l2 m3 l4 l5 q0 q1 yd zl zt zu zw w1 w2 sf sw sc H lk hk hO hS sd hlo sj
 have sn : 0 < lk.length := ka (ga _) sj
 refine BG Tryz.func176 rfl Tryz.ntmps176 Tryz.results176 rfl rfl ?_
 have sb := BK.refl H ([q0] ++ (sf ++ ([q1] ++ (sw ++ []))))
 unfold PL at hk
 refine sr (C0 (cs := [_, _]) hO AS (fun b6 G hO => pg (AU (sr ?_))))
 refine pM (.ptr _ _) ?_
 refine Bw ?_
 refine pF Oi ?_
 refine I9 hO 1 w1 Ew ?_
 refine TW hO 2 HM ?_
 refine pM (.int _ _) (pg (Bn ?_))
 refine AE (F := KL ag ae au bu rc) (fun s S' => ∃ J G H1, BK H H1 ([q0] ++ (sf ++ ([q1] ++ (sw ++ [])))) ∧ A6 H1 G [.Au b6 (.cells 2 [iv bu.A1, iv bu.BI]), Gr sf sf sc ag.Bk w1, .Aj ([q0]) q0 (.cells 7 [A0 l1 0 ag.xN.A3, A0 l2 m3 ag.xN.A4, A0 l4 0 ag.A9, iv ag.Ak, yd, iv ag.An, w1]), Gr sw sw sc ae.Ad w2, .Aj ([q1]) q1 (.cells 8 [iv ae.AY, iv ae.To, zl, A0 l5 0 ae.AK, zt, zu, zw, w2])] ∧ S' = ⟨Ao [(0, .ptr q0 0),(1, .ptr q1 0),(2, iv au),(7, .ptr b6 0),(23, w1),(24, iv (ag.Bk.length : Int)),(25, iv s)] J, G⟩) hk ⟨_, _, _, sb, (pk hO [0, 2, 1, 4, 3]), sh⟩ ?_
 rintro x7 _ y1 ⟨J, G, H1, sb, hO, rfl⟩ hk se
 refine sr (AO (pg (AU (As hk ?_ ?_)))) <;> intro hk
 ·refine Av (gn (AU (Bn (sr (bk hk fun c8 hc8 hk => rI hO 1 hc8 CV AS (fun lv9 => ?_))))))
  refine CQ (.agg [_, _]) (EA (lm := 0) (off := 0) hc8 Br AS) (C9 hO AS Cw (fun b10 G hO => ?_))
  refine DR (xs := [_, _]) hO 0 AS sb.1.symm (fun G hO => pg (sr ?_))
  refine Eh hO 0 [_, _] Br AS ?_
  refine Eh hO 1 [_, _] Br AS ?_
  refine nI Xh (Tp (Tq _ _ _) (Tp (Tq _ _ _) (rfl))) (pg (As hk ?_ ?_)) <;> intro hk
  ·refine Ax (br (gr (gr (br (gr (have hk := lx se hk; ?_))))))
   have tk : q0 < H.length := sd _ (sL _ (dt.2 rfl))
   have vn : q1 < H.length := sd _ ((sR (sR sL)) _ (dt.2 rfl))
   replace hk := dv hk; subst hk; exact GW (sf, w1, sw, w2) (pk hO [3, 2, 5, 4]) sb (BJ (CS tk) (BJ (Cf (ej sj)) (BJ (CS vn) (BJ (Cf (ej sj)) GL)))) rfl rfl rfl rfl (by first | exact Or.inl rfl | exact Or.inr rfl)
  refine Av (bn (gn (Cj (AO ?_))))
  refine pM (.int _ _) (pg ?_)
  cases hk; exact ⟨_, rfl, _, _, _, sb, (pk hO [1, 2, 3, 4, 5]), sh⟩
 refine Dh (ge (ge (be (gn (have hk := lx se hk; AU (GC [1,3,5,7,9,11,13,14,16,18,20] [_,_,_,_,_,_,_,_,_,_,_] ?_))))))
 refine pM (.ptr _ _) ?_
 refine pM (.ptr _ _) ?_
 refine Bw ?_
 refine pF Oi ?_
 refine I9 hO 2 w1 Ew ?_
 refine Eh hO 0 [_, _] Br AS ?_
 refine JQ (ps := [(0, (.agg [_, _]))]) ([bu] : List Ac) CV AS Cw (B2 (Bg (α := Ac) bu) (Bb)) (bk hk fun wa hz11 hk => ?_)
 refine O4 (xs := ag.Bk) hO 1 hz11 (CE ([bu] : List Ac)) CV AS kY Cw CV sj sb hS (sR sL) rfl (fun o11 F11 H1 G sb hO => ?_)
 refine Bw ?_
 refine pF Oi ?_
 have zj := BT hO (j := 1) rfl
 refine WX [_, _, _, _, _, _, _] hO 2 eP sb hS sL rfl (Cu hO (j := 1) rfl 1 ig) (fun H1 G sb hO => ?_) (h3 := zj.1) (h6 := C7 zj.2)
 refine pg (sr (pA (.int _ _) (pg ?_)))
 refine CX (fun S' => ∃ xd J G H1, KN ag ae au bu rc wa xd = some r ∧ BK H H1 ([q0] ++ (sf ++ ([q1] ++ (sw ++ [])))) ∧ A6 H1 G [.Au b6 (.cells 2 [iv bu.A1, iv bu.BI]), Gr sf F11 sc wa o11, .Aj ([q0]) q0 (.cells 7 [A0 l1 0 ag.xN.A3, A0 l2 m3 ag.xN.A4, A0 l4 0 ag.A9, iv ag.Ak, yd, iv ag.An, o11]), Gr sw sw sc ae.Ad w2, .Aj ([q1]) q1 (.cells 8 [iv ae.AY, iv ae.To, zl, A0 l5 0 ae.AK, zt, zu, zw, w2])] ∧ S' = ⟨Ao [(0, .ptr q0 0),(1, .ptr q1 0),(2, iv au),(7, .ptr b6 0),(10, iv xd)] J, G⟩) ?_ ?_
 ·refine sr (B4 EX hO 0 (.int _ _) B5 ?_)
  refine AO (pg (As hk ?_ ?_)) <;> intro hk
  ·refine Cj (pA (.int _ _) (pg ?_))
   exact ⟨(-1:Int), _, _, _, hk, sb, hO, sh⟩
  exact Av (gn (⟨(1:Int), _, _, _, hk, sb, hO, sh⟩))
 rintro _ ⟨xd, J, G, H1, hk, sb, hO, rfl⟩
 refine sr (pA (.int _ _) (pg (AU (sr ?_))))
 refine pM (.ptr _ _) ?_
 refine Bw ?_
 refine pF Og ?_
 refine I9 hO 2 (.lit _ _ _) RW ?_
 refine BE KI ?_
 refine pM (.int _ _) (pg (Bn ?_))
 refine AE (F := OI ag ae au bu rc wa xd) (fun s S' => ∃ J G H1, BK H H1 ([q0] ++ (sf ++ ([q1] ++ (sw ++ [])))) ∧ A6 H1 G [.Au b6 (.cells 2 [iv bu.A1, iv bu.BI]), Gr sf F11 sc wa o11, .Aj ([q0]) q0 (.cells 7 [A0 l1 0 ag.xN.A3, A0 l2 m3 ag.xN.A4, A0 l4 0 ag.A9, iv ag.Ak, yd, iv ag.An, o11]), Gr sw sw sc ae.Ad w2, .Aj ([q1]) q1 (.cells 8 [iv ae.AY, iv ae.To, zl, A0 l5 0 ae.AK, zt, zu, zw, w2])] ∧ S' = ⟨Ao [(0, .ptr q0 0),(1, .ptr q1 0),(2, iv au),(7, .ptr b6 0),(10, iv xd),(11, iv s.1),(49, A0 l4 0 ag.A9),(50, iv (ag.A9.length : Int)),(51, iv s.2)] J, G⟩) hk ⟨_, _, _, sb, hO, sh⟩ ?_
 rintro ⟨x14, vr⟩ _ y1 ⟨J, G, H1, sb, hO, rfl⟩ hk se
 refine sr (AO (pg (AU (As hk ?_ ?_)))) <;> intro hk
 ·refine Av (gn (CX (fun S' => ∃ zc J G H1, OJ vr zc = some y1 ∧ BK H H1 ([q0] ++ (sf ++ ([q1] ++ (sw ++ [])))) ∧ A6 H1 G [.Au b6 (.cells 2 [iv bu.A1, iv bu.BI]), Gr sf F11 sc wa o11, .Aj ([q0]) q0 (.cells 7 [A0 l1 0 ag.xN.A3, A0 l2 m3 ag.xN.A4, A0 l4 0 ag.A9, iv ag.Ak, yd, iv ag.An, o11]), Gr sw sw sc ae.Ad w2, .Aj ([q1]) q1 (.cells 8 [iv ae.AY, iv ae.To, zl, A0 l5 0 ae.AK, zt, zu, zw, w2])] ∧ S' = ⟨Ao [(0, .ptr q0 0),(1, .ptr q1 0),(2, iv au),(7, .ptr b6 0),(10, iv xd),(11, iv zc),(49, A0 l4 0 ag.A9),(50, iv (ag.A9.length : Int)),(51, iv vr)] J, G⟩) ?_ ?_))
  ·refine Bn (sr (pM (.int _ _) (bk hk fun c17 zk hk => ?_)))
   refine pX zk GM BF ?_
   refine CQ (.agg [_, _, _, _]) (EA (lm := 0) (off := 0) zk H8 BF) (C9 hO BF HL (fun b18 G hO => ?_))
   refine pA (.int _ _) ?_
   refine DR (xs := [_, _, _, _]) hO 0 BF sb.1.symm (fun G hO => pg (AU ?_))
   refine GC [1,3,5,7,8,10,12,15,17,18,20,22,24,26,28,31,33,35,37,39,41,43,45,47,51,53,55,57,59,61,63,65,67,69,71,73,75,77,79,49,80,82,84,86] [_,_,_,_,_,_,_,_,_,_,_,_,_,_,_,_,_,_,_,_,_,_,_,_,_,_,_,_,_,_,_,_,_,_,_,_,_,_,_,_,_,_,_,_] ?_
   refine B4 DD hO 0 (.int _ _) B5 ?_
   refine B4 Dk hO 1 (.int _ _) B5 ?_
   refine AO ?_
   refine pM (.bool _) ?_
   refine Aa (l1 := [_, _, _, _, _]) (fun S' => ∃ J, S' = ⟨Ao [(0, .ptr q0 0),(1, .ptr q1 0),(2, iv au),(7, .ptr b6 0),(10, iv xd),(11, iv x14),(12, iv vr),(13, .ptr b18 0),(49, A0 l4 0 ag.A9),(50, iv (ag.A9.length : Int)),(51, iv vr),(66, .bool ((c17.A1 == bu.A1) && (c17.Way == xd)))] J, G⟩) ?_ ?_
   ·refine bc (b := (c17.A1 == bu.A1)) ?_ ?_ <;> intro hg
    ·refine AZ hg (pF DO (AZ hg ?_))
     refine Eg hO 0 (.int _ _) B5 (AZ hg ?_)
     refine pM (.int _ _) (AZ hg ?_)
     refine AO ?_
     refine Ev hg (.bool _) ?_
     exact pE ⟨_, St.Ao _ ⟨rfl, rfl, rfl, rfl, rfl, rfl, rfl, rfl, rfl, rfl, rfl, by rw [hg]; rfl, trivial⟩⟩
    repeat refine CK hg ?_
    refine Eu hg (.bool _) ?_
    exact pE ⟨_, St.Ao _ ⟨rfl, rfl, rfl, rfl, rfl, rfl, rfl, rfl, rfl, rfl, rfl, by rw [hg]; rfl, trivial⟩⟩
   rintro _ ⟨J, rfl⟩
   refine pM (.bool _) (bk hk fun t19 ht hk => ?_)
   refine Aa (l1 := [_, _, _, _, _, _, _, _, _, _, _, _, _, _, _, _, _, _, _, _, _, _, _, _, _, _, _, _, _, _, _, _]) (fun S' => ∃ J, S' = ⟨Ao [(0, .ptr q0 0),(1, .ptr q1 0),(2, iv au),(7, .ptr b6 0),(10, iv xd),(11, iv x14),(12, iv vr),(49, A0 l4 0 ag.A9),(50, iv (ag.A9.length : Int)),(51, iv vr),(99, .bool t19)] J, G⟩) ?_ ?_
   ·refine bc (b := ((c17.A1 == bu.A1) && (c17.Way == xd))) ?_ ?_ <;> intro hg
    ·replace hk := ct hg ht
     refine AZ hg (pM (.int _ _) (AZ hg ?_))
     refine AO (AZ hg ?_)
     refine pM (.bool _) (bk hk fun t20 ht hk => ?_)
     refine Aa (l1 := [_, _, _, _, _, _, _, _, _, _, _, _, _, _, _, _, _, _, _, _, _, _, _, _, _, _, _, _]) (fun S' => ∃ J, S' = ⟨Ao [(0, .ptr q0 0),(1, .ptr q1 0),(2, iv au),(7, .ptr b6 0),(10, iv xd),(11, iv x14),(12, iv vr),(49, A0 l4 0 ag.A9),(50, iv (ag.A9.length : Int)),(51, iv vr),(67, .bool ((c17.A1 == bu.A1) && (c17.Way == xd))),(98, .bool t20)] J, G⟩) ?_ ?_
     ·refine bc (b := decide (x14 < 0)) (fun si => ?_) (fun si => ?_)
      ·replace hk := ct si ht
       repeat refine CK si ?_
       refine AZ hg (Ev si (.bool _) ?_)
       cases hk; exact pE ⟨_, sh⟩
      replace hk := cf si ht
      refine AZ si (pM (.ptr _ _) (AZ si ?_))
      refine Bw (AZ si ?_)
      refine pF Di (AZ si ?_)
      refine LM [_, _] hO 3 E4 CB (AZ si ?_)
      refine pF Dk (AZ si ?_)
      refine Eg hO 1 (.int _ _) B5 (AZ si ?_)
      refine pF CW (AZ si ?_)
      refine Eg hO 0 (.int _ _) B5 (AZ si ?_)
      refine pM (.int _ _) (AZ si ?_)
      refine pM (.ptr _ _) (AZ si ?_)
      refine Bw (AZ si ?_)
      refine pF Di (AZ si ?_)
      refine LM [_, _] hO 3 E4 CB (AZ si ?_)
      refine pF Dk (AZ si ?_)
      refine Eg hO 1 (.int _ _) B5 (AZ si ?_)
      refine pM (.ptr _ _) (AZ si ?_)
      refine Bw (AZ si ?_)
      refine pF Og (AZ si ?_)
      refine I9 hO 3 (.lit _ _ _) RW (AZ si ?_)
      refine pM (.int _ _) (AZ si (bk hk fun c21 hc21 hk => ?_))
      refine pX hc21 GM BF (AZ si ?_)
      refine pF CW (AZ si ?_)
      refine CQ (.int _ _) (Gj (lm := 0) (off := 2) hc21 B5) (AZ si ?_)
      refine pM (.int _ _) (AZ si (bk hk fun v22 hv22 hk => ?_))
      refine Ae (fun _ => JH hv22) (AZ si (bk hk fun wm hv23 hk => ?_))
      refine Ae (fun _ => JH hv23) (AZ si ?_)
      refine AO (AZ hg ?_)
      refine Eu si (.bool _) ?_
      cases hk; exact pE ⟨_, sh⟩
     rintro _ ⟨J, rfl⟩
     refine Ev hg (.bool _) ?_
     cases hk; exact pE ⟨_, sh⟩
    replace hk := cf hg ht
    refine CK hg (CK hg (CK hg (E9 (E9 (E9 (E9 (E9 (E9 (E9 (E9 (E9 (E9 (E9 (E9 (E9 (E9 (E9 (E9 (E9 (E9 (E9 (E9 (E9 (E9 (E9 (E9 (E9 (E9 (E9 (CK hg (Eu hg (.bool _) ?_)))))))))))))))))))))))))))))))
    cases hk; exact pE ⟨_, sh⟩
   rintro _ ⟨J, rfl⟩
   refine pg (As hk ?_ ?_) <;> intro hk
   ·refine Cj (pM (.int _ _) ?_)
    refine pA (.int _ _) (pE (bn (gn ?_)))
    exact ⟨vr, _, _, _, hk, sb, (pk hO [1, 2, 3, 4, 5]), sh⟩
   exact Av (bn (gn (⟨x14, _, _, _, hk, sb, (pk hO [1, 2, 3, 4, 5]), sh⟩)))
  rintro _ ⟨zc, J, G, H1, hk, sb, hO, rfl⟩
  refine Cj (AO ?_)
  refine pM (.int _ _) (pg ?_)
  cases hk; exact ⟨_, rfl, _, _, _, sb, hO, sh⟩
 refine Dh (ge (ge (be (gn (have hk := lx se hk; AU (sr (pM (.int _ _) ?_)))))))
 refine AO (pg (As hk ?_ ?_)) <;> intro hk
 ·refine sr (pM (.ptr _ _) ?_)
  refine pM (.ptr _ _) ?_
  refine Bw ?_
  refine pF EC ?_
  refine I9 hO 4 w2 I4 ?_
  refine pM (.int _ _) ?_
  refine pM (.int _ _) ?_
  refine G9 [_, _, _, _] EO Ns ?_
  refine JQ (ps := [(0, (.agg [_, _, _, _]))]) ([(⟨au, (2:Int), x14, 0⟩ : AD)] : List AD) D5 Db EO (B2 (Bg (α := AD) (⟨au, (2:Int), x14, 0⟩ : AD)) (Bb)) (bk hk fun z24 hz24 hk => ?_)
  refine O4 (xs := ae.Ad) hO 3 hz24 (CE ([(⟨au, (2:Int), x14, 0⟩ : AD)] : List AD)) D5 Db Ky EO D5 sj sb hS (sR (sR (sR sL))) rfl (fun o24 F24 H1 G sb hO => ?_)
  refine Bw ?_
  refine pF EC ?_
  have xe := BT hO (j := 3) rfl
  refine WX [_, _, _, _, _, _, _, _] hO 4 KJ sb hS (sR (sR sL)) rfl (Cu hO (j := 3) rfl 1 ig) (fun H1 G sb hO => ?_) (h3 := xe.1) (h6 := C7 xe.2)
  refine pg (Ax (gr ?_))
  have tk : q0 < H.length := sd _ (sL _ (dt.2 rfl))
  have vn : q1 < H.length := sd _ ((sR (sR sL)) _ (dt.2 rfl))
  replace hk := dv hk; subst hk; exact GW (F11, o11, F24, o24) (pk hO [2, 1, 4, 3]) sb (BJ (CS tk) (BJ (Cf (ej sj)) (BJ (CS vn) (BJ (Cf (ej sj)) GL)))) rfl rfl rfl rfl (by first | exact Or.inl rfl | exact Or.inr rfl)
 refine Av (gn (AU (GC [1,3,5,7,9,11,13,15,17,19,20,22,24,26,28,30] [_,_,_,_,_,_,_,_,_,_,_,_,_,_,_,_] ?_)))
 refine pM (.ptr _ _) ?_
 refine Bw ?_
 refine pF Di ?_
 refine LM [_, _] hO 2 E4 CB ?_
 refine B4 Dk hO 0 (.int _ _) B5 ?_
 refine B4 EX hO 0 (.int _ _) B5 ?_
 refine AO ?_
 refine G9 [_, _] Cw Mm (bk hk fun wk hv26 hk => ?_)
 refine Ae (fun _ => PE hv26) ?_
 refine pM (.Ei [_, _]) ?_
 refine Qv (.int _ _) ?_
 refine Qv (.int _ _) ?_
 refine pA (.int _ _) ?_
 refine pA (.int _ _) (pg (sr ?_))
 refine pM (.ptr _ _) ?_
 refine Bw ?_
 refine pF Di ?_
 refine pF DK ?_
 refine I9 hO 2 (.lit _ _ _) HF ?_
 refine pM (.int _ _) (bk hk fun zd hc27 hk => ?_)
 refine pX hc27 HA BY ?_
 refine CQ (.agg [_, _, _]) (EA (lm := m3) (off := 0) hc27 I5 BY) (C9 hO BY Ji (fun b28 G hO => ?_))
 refine DR (xs := [_, _, _]) hO 0 BY sb.1.symm (fun G hO => pg (sr ?_))
 refine B4 DE hO 0 (.int _ _) B5 (pg (Bn (sr ?_)))
 refine AO ?_
 refine pA (.bool _) (pg (As hk ?_ ?_)) <;> intro hk
 ·refine Cj (pM (.ptr _ _) ?_)
  refine pM (.ptr _ _) ?_
  refine Bw ?_
  refine pF EC ?_
  refine I9 hO 5 w2 I4 ?_
  refine pM (.int _ _) ?_
  refine pM (.int _ _) ?_
  refine G9 [_, _, _, _] EO Ns ?_
  refine JQ (ps := [(0, (.agg [_, _, _, _]))]) ([(⟨au, (1:Int), wk.1, 0⟩ : AD)] : List AD) D5 Db EO (B2 (Bg (α := AD) (⟨au, (1:Int), wk.1, 0⟩ : AD)) (Bb)) (bk hk fun wv hz29 hk => ?_)
  refine O4 (xs := ae.Ad) hO 4 hz29 (CE ([(⟨au, (1:Int), wk.1, 0⟩ : AD)] : List AD)) D5 Db Ky EO D5 sj sb hS (sR (sR (sR sL))) rfl (fun vl F29 H1 G sb hO => ?_)
  refine Bw ?_
  refine pF EC ?_
  have ym := BT hO (j := 4) rfl
  refine WX [_, _, _, _, _, _, _, _] hO 5 KJ sb hS (sR (sR sL)) rfl (Cu hO (j := 4) rfl 1 ig) (fun H1 G sb hO => ?_) (h3 := ym.1) (h6 := C7 ym.2)
  refine pE (bn ?_)
  have tk : q0 < H.length := sd _ (sL _ (dt.2 rfl))
  have vn : q1 < H.length := sd _ ((sR (sR sL)) _ (dt.2 rfl))
  replace hk := dv hk; subst hk; exact GW (F11, o11, F29, vl) (pk hO [3, 2, 5, 4]) sb (BJ (CS tk) (BJ (Cf (ej sj)) (BJ (CS vn) (BJ (Cf (ej sj)) GL)))) rfl rfl rfl rfl (by first | exact Or.inl rfl | exact Or.inr rfl)
 refine sr (AO ?_)
 refine pA (.bool _) (pg (As hk ?_ ?_)) <;> intro hk
 ·refine AU (sr (pM (.int _ _) ?_))
  refine AO (pg (As hk ?_ ?_)) <;> intro hk
  ·refine sr (pM (.ptr _ _) ?_)
   refine pM (.ptr _ _) ?_
   refine pM (.int _ _) ?_
   refine B4 Ct hO 0 (.lit _ _ _) Ew (bk hk fun c31 hc31 hk => ?_)
   refine pX hc31 CV AS ?_
   refine CQ (.agg [_, _]) (EA (lm := 0) (off := 0) hc31 Br AS) ?_
   replace hO := (A6.pick hO [3, 2, 5, 4, 0, 1] (by decide) rfl : A6 _ _ ([.Aj ([q0]) q0 (.cells 7 [A0 l1 0 ag.xN.A3, A0 l2 m3 ag.xN.A4, A0 l4 0 ag.A9, iv ag.Ak, yd, iv ag.An, o11]), Gr sf F11 sc wa o11, .Aj ([q1]) q1 (.cells 8 [iv ae.AY, iv ae.To, zl, A0 l5 0 ae.AK, zt, zu, zw, w2]), Gr sw sw sc ae.Ad w2] ++ [.Au b28 (.cells 3 [iv zd.Kind, .str zd.Name, A0 m3 0 zd.Ends]), .Au b6 (.cells 2 [iv bu.A1, iv bu.BI])]))
   refine bk hk fun z32 hz32 hk => O5 (vs := [.ptr q0 0, .ptr q1 0, iv au, .agg [iv c31.A1, iv c31.BI]]) (caps := []) (rs1 := fun (E33 : List Nat × V × List Nat × V) => [.Aj ([q0]) q0 (.cells 7 [A0 l1 0 ag.xN.A3, A0 l2 m3 ag.xN.A4, A0 l4 0 ag.A9, iv ag.Ak, yd, iv ag.An, E33.2.1]), Gr sf E33.1 sc z32.1 E33.2.1, .Aj ([q1]) q1 (.cells 8 [iv ae.AY, iv ae.To, zl, A0 l5 0 ae.AK, zt, zu, zw, E33.2.2.2]), Gr sw E33.2.2.1 sc z32.2 E33.2.2.2]) hO sb hS hlo rfl ⟨sL, ⟨(sR sL), ⟨(sR (sR sL)), ⟨(sR (sR (sR sL))), trivial⟩⟩⟩⟩ (fun _ vg ti tm wo => hrc (⟨ag.xN, ag.A9, ag.Ak, ag.BU, ag.An, wa⟩ : Cb) ae au c31 hz32 wo tm ti vg (XM sj)) (fun _ => ⟨⟨rfl, rfl⟩, ⟨rfl, ⟨⟨rfl, rfl⟩, ⟨rfl, trivial⟩⟩⟩⟩) (fun E33 H1 G sb hO => ?_) (DG rfl (DG rfl (DG rfl (DG rfl El))))
   refine pg (sr (pM (.ptr _ _) ?_))
   refine pM (.ptr _ _) ?_
   refine pM (.int _ _) ?_
   refine B4 Ct hO 4 (.lit _ _ _) Ew (bk hk fun c34 hc34 hk => ?_)
   refine pX hc34 CV AS ?_
   refine CQ (.agg [_, _]) (EA (lm := 0) (off := 0) hc34 Br AS) ?_
   replace hO := (A6.pick hO [0, 1, 2, 3, 4, 5] (by decide) rfl : A6 _ _ ([.Aj ([q0]) q0 (.cells 7 [A0 l1 0 ag.xN.A3, A0 l2 m3 ag.xN.A4, A0 l4 0 ag.A9, iv ag.Ak, yd, iv ag.An, E33.2.1]), Gr sf E33.1 sc z32.1 E33.2.1, .Aj ([q1]) q1 (.cells 8 [iv ae.AY, iv ae.To, zl, A0 l5 0 ae.AK, zt, zu, zw, E33.2.2.2]), Gr sw E33.2.2.1 sc z32.2 E33.2.2.2] ++ [.Au b28 (.cells 3 [iv zd.Kind, .str zd.Name, A0 m3 0 zd.Ends]), .Au b6 (.cells 2 [iv bu.A1, iv bu.BI])]))
   refine bk hk fun z35 hz35 hk => O5 (vs := [.ptr q0 0, .ptr q1 0, iv au, .agg [iv c34.A1, iv c34.BI]]) (caps := []) (rs1 := fun (yp : List Nat × V × List Nat × V) => [.Aj ([q0]) q0 (.cells 7 [A0 l1 0 ag.xN.A3, A0 l2 m3 ag.xN.A4, A0 l4 0 ag.A9, iv ag.Ak, yd, iv ag.An, yp.2.1]), Gr sf yp.1 sc z35.1 yp.2.1, .Aj ([q1]) q1 (.cells 8 [iv ae.AY, iv ae.To, zl, A0 l5 0 ae.AK, zt, zu, zw, yp.2.2.2]), Gr sw yp.2.2.1 sc z35.2 yp.2.2.2]) hO sb hS hlo rfl ⟨sL, ⟨(sR sL), ⟨(sR (sR sL)), ⟨(sR (sR (sR sL))), trivial⟩⟩⟩⟩ (fun _ vg ti tm wo => hrc (⟨ag.xN, ag.A9, ag.Ak, ag.BU, ag.An, z32.1⟩ : Cb) (⟨ae.AY, ae.To, ae.Steps, ae.AK, ae.A7, ae.AP, ae.C2, z32.2⟩ : A8) au c34 hz35 wo tm ti vg (XM sj)) (fun _ => ⟨⟨rfl, rfl⟩, ⟨rfl, ⟨⟨rfl, rfl⟩, ⟨rfl, trivial⟩⟩⟩⟩) (fun yp H1 G sb hO => ?_) (DG rfl (DG rfl (DG rfl (DG rfl El))))
   refine pg (Ax (gr (br ?_)))
   have tk : q0 < H.length := sd _ (sL _ (dt.2 rfl))
   have vn : q1 < H.length := sd _ ((sR (sR sL)) _ (dt.2 rfl))
   replace hk := dv hk; subst hk; exact GW (yp.1, yp.2.1, yp.2.2.1, yp.2.2.2) (pk hO [0, 1, 2, 3]) sb (BJ (CS tk) (BJ (Cf (ej sj)) (BJ (CS vn) (BJ (Cf (ej sj)) GL)))) rfl rfl rfl rfl (by first | exact Or.inl rfl | exact Or.inr rfl)
  refine Av (gn (AU (sr (pM (.ptr _ _) ?_))))
  refine Bw ?_
  refine pF DY ?_
  refine I9 hO 5 (.lit _ _ _) I2 ?_
  refine BE KH ?_
  refine pM (.int _ _) (pg (Bn ?_))
  refine AE (F := KM ae au wa wk) (fun s S' => ∃ J G H1, BK H H1 ([q0] ++ (sf ++ ([q1] ++ (sw ++ [])))) ∧ A6 H1 G [Gr sf F11 sc wa o11, .Aj ([q0]) q0 (.cells 7 [A0 l1 0 ag.xN.A3, A0 l2 m3 ag.xN.A4, A0 l4 0 ag.A9, iv ag.Ak, yd, iv ag.An, o11]), Gr sw sw sc ae.Ad w2, .Aj ([q1]) q1 (.cells 8 [iv ae.AY, iv ae.To, zl, A0 l5 0 ae.AK, zt, zu, zw, w2])] ∧ S' = ⟨Ao [(1, .ptr q1 0),(2, iv au),(14, iv wk.1),(15, iv wk.2),(187, A0 l5 0 ae.AK),(188, iv (ae.AK.length : Int)),(189, iv s)] J, G⟩) hk ⟨_, _, _, sb, (pk hO [2, 3, 4, 5]), sh⟩ ?_
  rintro x37 _ y1 ⟨J, G, H1, sb, hO, rfl⟩ hk se
  refine sr (AO (pg (AU (As hk ?_ ?_)))) <;> intro hk
  ·refine Av (gn (AU (Bn (sr (bk hk fun c38 hc38 hk => pX hc38 Ex CM ?_)))))
   refine CQ (.agg [_, _]) (EA (lm := 0) (off := 0) hc38 KF CM) (C9 hO CM I1 (fun b39 G hO => ?_))
   refine DR (xs := [_, _]) hO 0 CM sb.1.symm (fun G hO => pg (sr ?_))
   refine B4 Ez hO 0 (.int _ _) B5 ?_
   refine pM (.int _ _) ?_
   refine AO ?_
   refine pM (.bool _) ?_
   refine Aa (l1 := [_, _, _, _, _]) (fun S' => ∃ J, S' = ⟨Ao [(1, .ptr q1 0),(2, iv au),(14, iv wk.1),(15, iv wk.2),(187, A0 l5 0 ae.AK),(188, iv (ae.AK.length : Int)),(189, iv x37),(202, .bool ((c38.AG == wk.1) && (c38.BQ == wk.2)))] J, G⟩) ?_ ?_
   ·refine bc (b := (c38.AG == wk.1)) ?_ ?_ <;> intro hg
    ·refine AZ hg (pF HY (AZ hg ?_))
     refine Eg hO 0 (.int _ _) B5 (AZ hg ?_)
     refine pM (.int _ _) (AZ hg ?_)
     refine AO ?_
     refine Ev hg (.bool _) ?_
     exact pE ⟨_, St.Ao _ ⟨rfl, rfl, rfl, rfl, rfl, rfl, rfl, by rw [hg]; rfl, trivial⟩⟩
    repeat refine CK hg ?_
    refine Eu hg (.bool _) ?_
    exact pE ⟨_, St.Ao _ ⟨rfl, rfl, rfl, rfl, rfl, rfl, rfl, by rw [hg]; rfl, trivial⟩⟩
   rintro _ ⟨J, rfl⟩
   refine pg (As hk ?_ ?_) <;> intro hk
   ·refine sr (pM (.ptr _ _) ?_)
    refine pM (.ptr _ _) ?_
    refine Bw ?_
    refine pF EC ?_
    refine I9 hO 4 w2 I4 ?_
    refine pM (.int _ _) ?_
    refine pM (.int _ _) ?_
    refine G9 [_, _, _, _] EO Ns ?_
    refine JQ (ps := [(0, (.agg [_, _, _, _]))]) ([(⟨au, (4:Int), wk.1, 0⟩ : AD)] : List AD) D5 Db EO (B2 (Bg (α := AD) (⟨au, (4:Int), wk.1, 0⟩ : AD)) (Bb)) (bk hk fun z40 hz40 hk => ?_)
    refine O4 (xs := ae.Ad) hO 3 hz40 (CE ([(⟨au, (4:Int), wk.1, 0⟩ : AD)] : List AD)) D5 Db Ky EO D5 sj sb hS (sR (sR (sR sL))) rfl (fun o40 F40 H1 G sb hO => ?_)
    refine Bw ?_
    refine pF EC ?_
    have hc41 := BT hO (j := 3) rfl
    refine WX [_, _, _, _, _, _, _, _] hO 4 KJ sb hS (sR (sR sL)) rfl (Cu hO (j := 3) rfl 1 ig) (fun H1 G sb hO => ?_) (h3 := hc41.1) (h6 := C7 hc41.2)
    refine pg (Ax (br (gr (gr (br (gr (br (have hk := lx se hk; ?_))))))))
    have tk : q0 < H.length := sd _ (sL _ (dt.2 rfl))
    have vn : q1 < H.length := sd _ ((sR (sR sL)) _ (dt.2 rfl))
    replace hk := dv hk; subst hk; exact GW (F11, o11, F40, o40) (pk hO [2, 1, 4, 3]) sb (BJ (CS tk) (BJ (Cf (ej sj)) (BJ (CS vn) (BJ (Cf (ej sj)) GL)))) rfl rfl rfl rfl (by first | exact Or.inl rfl | exact Or.inr rfl)
   refine Av (bn (gn (Cj (AO ?_))))
   refine pM (.int _ _) (pg ?_)
   cases hk; exact ⟨_, rfl, _, _, _, sb, (pk hO [1, 2, 3, 4]), sh⟩
  refine Dh (ge (ge (be (gn (have hk := lx se hk; Cj (pM (.ptr _ _) ?_))))))
  refine pM (.ptr _ _) ?_
  refine Bw ?_
  refine pF EC ?_
  refine I9 hO 3 w2 I4 ?_
  refine pM (.int _ _) ?_
  refine pM (.int _ _) ?_
  refine pM (.int _ _) ?_
  refine AO ?_
  refine G9 [_, _, _, _] EO Ns ?_
  refine JQ (ps := [(0, (.agg [_, _, _, _]))]) ([(⟨au, (3:Int), wk.1, AN ((3:Int) - wk.2)⟩ : AD)] : List AD) D5 Db EO (B2 (Bg (α := AD) (⟨au, (3:Int), wk.1, AN ((3:Int) - wk.2)⟩ : AD)) (Bb)) (bk hk fun z42 hz42 hk => ?_)
  refine O4 (xs := ae.Ad) hO 2 hz42 (CE ([(⟨au, (3:Int), wk.1, AN ((3:Int) - wk.2)⟩ : AD)] : List AD)) D5 Db Ky EO D5 sj sb hS (sR (sR (sR sL))) rfl (fun o42 F42 H1 G sb hO => ?_)
  refine Bw ?_
  refine pF EC ?_
  have hc43 := BT hO (j := 2) rfl
  refine WX [_, _, _, _, _, _, _, _] hO 3 KJ sb hS (sR (sR sL)) rfl (Cu hO (j := 2) rfl 1 ig) (fun H1 G sb hO => ?_) (h3 := hc43.1) (h6 := C7 hc43.2)
  refine pE (bn ?_)
  have tk : q0 < H.length := sd _ (sL _ (dt.2 rfl))
  have vn : q1 < H.length := sd _ ((sR (sR sL)) _ (dt.2 rfl))
  replace hk := dv hk; subst hk; exact GW (F11, o11, F42, o42) (pk hO [1, 0, 3, 2]) sb (BJ (CS tk) (BJ (Cf (ej sj)) (BJ (CS vn) (BJ (Cf (ej sj)) GL)))) rfl rfl rfl rfl (by first | exact Or.inl rfl | exact Or.inr rfl)
 refine sr (Eh hO 0 [_, _, _] I5 BY ?_)
 refine pM (.int _ _) (bk hk fun v44 hv44 hk => ?_)
 refine Ae (fun _ => UI hv44) ?_
 refine pA (.lit _ _ _) (pg (Cj ?_))
 refine pM (.ptr _ _) ?_
 refine pM (.ptr _ _) ?_
 refine pM (.int _ _) ?_
 refine pM (.lit _ _ _) (bk hk fun c45 hc45 hk => ?_)
 refine pX hc45 CV AS ?_
 refine CQ (.agg [_, _]) (EA (lm := 0) (off := 0) hc45 Br AS) ?_
 replace hO := (A6.pick hO [3, 2, 5, 4, 0, 1] (by decide) rfl : A6 _ _ ([.Aj ([q0]) q0 (.cells 7 [A0 l1 0 ag.xN.A3, A0 l2 m3 ag.xN.A4, A0 l4 0 ag.A9, iv ag.Ak, yd, iv ag.An, o11]), Gr sf F11 sc wa o11, .Aj ([q1]) q1 (.cells 8 [iv ae.AY, iv ae.To, zl, A0 l5 0 ae.AK, zt, zu, zw, w2]), Gr sw sw sc ae.Ad w2] ++ [.Au b28 (.cells 3 [iv zd.Kind, .str zd.Name, A0 m3 0 zd.Ends]), .Au b6 (.cells 2 [iv bu.A1, iv bu.BI])]))
 refine bk hk fun z46 hz46 hk => O5 (vs := [.ptr q0 0, .ptr q1 0, iv au, .agg [iv c45.A1, iv c45.BI]]) (caps := []) (rs1 := fun (E47 : List Nat × V × List Nat × V) => [.Aj ([q0]) q0 (.cells 7 [A0 l1 0 ag.xN.A3, A0 l2 m3 ag.xN.A4, A0 l4 0 ag.A9, iv ag.Ak, yd, iv ag.An, E47.2.1]), Gr sf E47.1 sc z46.1 E47.2.1, .Aj ([q1]) q1 (.cells 8 [iv ae.AY, iv ae.To, zl, A0 l5 0 ae.AK, zt, zu, zw, E47.2.2.2]), Gr sw E47.2.2.1 sc z46.2 E47.2.2.2]) hO sb hS hlo rfl ⟨sL, ⟨(sR sL), ⟨(sR (sR sL)), ⟨(sR (sR (sR sL))), trivial⟩⟩⟩⟩ (fun _ vg ti tm wo => hrc (⟨ag.xN, ag.A9, ag.Ak, ag.BU, ag.An, wa⟩ : Cb) ae au c45 hz46 wo tm ti vg (XM sj)) (fun _ => ⟨⟨rfl, rfl⟩, ⟨rfl, ⟨⟨rfl, rfl⟩, ⟨rfl, trivial⟩⟩⟩⟩) (fun E47 H1 G sb hO => ?_) (DG rfl (DG rfl (DG rfl (DG rfl El))))
 refine pE (bn ?_)
 have tk : q0 < H.length := sd _ (sL _ (dt.2 rfl))
 have vn : q1 < H.length := sd _ ((sR (sR sL)) _ (dt.2 rfl))
 replace hk := dv hk; subst hk; exact GW (E47.1, E47.2.1, E47.2.2.1, E47.2.2.2) (pk hO [0, 1, 2, 3]) sb (BJ (CS tk) (BJ (Cf (ej sj)) (BJ (CS vn) (BJ (Cf (ej sj)) GL)))) rfl rfl rfl rfl (by first | exact Or.inl rfl | exact Or.inr rfl)
theorem a9 (n : Nat) : Vv (Su n) := by
 induction n with
 | zero =>
  intro ag ae au bu r l1 l2 m3 l4 l5 q0 q1 yd zl zt zu zw w1 w2 sf sw sc H lk hk hO hS sd hlo sj
  cases hk
 | succ n ih => exact YE ih
def Lj (ag : Cb) (ae : A8) : (List AD × List Ac × Int) → Option ((List AD × List Ac × Int) ⊕ (List A8 × List Ac)) := fun s =>
 (bif decide (s.2.2 < (ae.AK.length : Int)) then ((AR ae.AK s.2.2).bind fun c7 => ((AR ag.xN.A4 c7.AG).bind fun c9 => ((AR c9.Ends (AN ((3:Int) - c7.BQ))).bind fun ss => ((Su 1000 (⟨ag.xN, ag.A9, ag.Ak, ag.BU, ag.An, ([] : List Ac)⟩ : Cb) (⟨ae.AY, ae.To, ae.Steps, ae.AK, ae.A7, ae.AP, ae.C2, s.1⟩ : A8) c7.AG ss).bind fun z12 => some (.inl (z12.2, z12.1, AN (s.2.2 + 1))))))) else (((CL 160 ag.BU ([(⟨ae.AY, ae.To, ae.Steps, ae.AK, ae.A7, ae.AP, ae.C2, s.1⟩ : A8)] : List A8)).bind fun z14 => some (z14, s.2.1)).map Sum.inr))
def lX (F : Cb → A8 → Option (List A8 × List Ac)) : Prop := ∀ (ag : Cb) (ae : A8) {r : (List A8 × List Ac)} {l1 l2 m3 l4 : Nat} {q0 : Nat} {w1 w2 : V} {sf sw : List Nat} {sc : Nat} {H : A5} {lk : Lk}, F ag ae = some r → A6 H H [.Aj ([q0]) q0 (.cells 7 [A0 l1 0 ag.xN.A3, A0 l2 m3 ag.xN.A4, A0 l4 0 ag.A9, .int .i64 ag.Ak, w1, .int .i64 ag.An, w2]), Gr sf sf sc ag.BU w1, Gr sw sw sc ag.Bk w2] → (∀ b ∈ ([q0] ++ (sf ++ (sw ++ []))), AT lk b = true) → (∀ b ∈ ([q0] ++ (sf ++ (sw ++ []))), b < H.length) → EK lk H.length → sc < lk.length → ∃ v H1, Aw dp hh 112 [.ptr q0 0, .agg [.int .i64 ae.AY, .int .i64 ae.To, A0 0 0 ae.Steps, A0 0 0 ae.AK, A0 0 0 ae.A7, A0 0 0 ae.AP, A0 0 0 ae.C2, (.tl 0 [])]] H lk = some (v, H1) ∧ v = .Ei [] ∧ ∃ (E : List Nat × V × List Nat × V) (Hm : A5), BK H Hm ([q0] ++ (sf ++ (sw ++ []))) ∧ A6 Hm H1 [.Aj [q0] q0 (.cells 7 [A0 l1 0 ag.xN.A3, A0 l2 m3 ag.xN.A4, A0 l4 0 ag.A9, .int .i64 ag.Ak, E.2.1, .int .i64 ag.An, E.2.2.2]), Gr sf E.1 sc r.1 E.2.1, Gr sw E.2.2.1 sc r.2 E.2.2.2]
def Y7 (ag : Cb) (ae : A8) : Option (List A8 × List Ac) :=
 (AQ (Lj ag ae) (([] : List AD), ag.Bk, (0:Int)))
theorem UG : lX Y7 := by
 intro ag ae r l1 l2 m3 l4 q0 w1 w2 sf sw sc H lk hk hO hS sd hlo sj
 have sn : 0 < lk.length := ka (ga _) sj
 refine BG Tryz.func112 rfl Tryz.ntmps112 Tryz.results112 rfl rfl ?_
 have sb := BK.refl H ([q0] ++ (sf ++ (sw ++ [])))
 unfold Y7 at hk
 refine sr (C0 (cs := [_, _, _, _, _, _, _, _]) hO Bs (fun b1 G hO => pg (AU (sr ?_))))
 refine B4 DY hO 0 (.lit _ _ _) I2 ?_
 refine BE KH ?_
 refine pM (.int _ _) (pg (Bn ?_))
 refine AE (F := Lj ag ae) (fun s S' => ∃ o2 F3 o4 F5 J G H1, BK H H1 ([q0] ++ (sf ++ (sw ++ []))) ∧ A6 H1 G [Gr ([]) F3 sc s.1 o2, .Au b1 (.cells 8 [iv ae.AY, iv ae.To, A0 0 0 ae.Steps, A0 0 0 ae.AK, A0 0 0 ae.A7, A0 0 0 ae.AP, A0 0 0 ae.C2, o2]), Gr sf sf sc ag.BU w1, Gr sw F5 sc s.2.1 o4, .Aj ([q0]) q0 (.cells 7 [A0 l1 0 ag.xN.A3, A0 l2 m3 ag.xN.A4, A0 l4 0 ag.A9, iv ag.Ak, w1, iv ag.An, o4])] ∧ S' = ⟨Ao [(0, .ptr q0 0),(3, .ptr b1 0),(8, A0 0 0 ae.AK),(9, iv (ae.AK.length : Int)),(10, iv s.2.2)] J, G⟩) hk ⟨(.tl 0 []), [], w2, sw, _, _, _, sb, (A6.pick (A6.Im hO AD ([]) sc) [0, 1, 3, 4, 2] (by decide) rfl), sh⟩ ?_
 rintro ⟨x2, x4, x6⟩ _ y1 ⟨o2, F3, o4, F5, J, G, H1, sb, hO, rfl⟩ hk se
 refine sr (AO (pg (AU (As hk ?_ ?_)))) <;> intro hk
 ·refine Av (gn (AU (Bn (sr (bk hk fun c7 tw hk => pX tw Ex CM ?_)))))
  refine CQ (.agg [_, _]) (EA (lm := 0) (off := 0) tw KF CM) (C9 hO CM I1 (fun b8 G hO => ?_))
  refine DR (xs := [_, _]) hO 0 CM sb.1.symm (fun G hO => pg (AU ?_))
  refine GC [1,3,5,7,9,11,13,14,16,19,20] [_,_,_,_,_,_,_,_,_,_,_] ?_
  refine pM (.ptr _ _) ?_
  refine Bw ?_
  refine pF Di ?_
  refine pF DK ?_
  refine I9 hO 5 (.lit _ _ _) HF ?_
  refine B4 Ez hO 0 (.int _ _) B5 (bk hk fun c9 vk hk => ?_)
  refine pX vk HA BY ?_
  refine pF Ct ?_
  refine CQ (.lit _ _ _) (Gj (lm := m3) (off := 2) vk Ew) ?_
  refine pA (.lit _ _ _) (pg (sr ?_))
  refine pM (.ptr _ _) ?_
  refine Bw ?_
  refine pF Oi ?_
  refine WX [_, _, _, _, _, _, _] hO 5 eP sb hS sL rfl rfl (fun H1 G sb hO => pg ?_)
  refine GC [1,3,5,7,9,11,13,15,17,18] [_,_,_,_,_,_,_,_,_,_] ?_
  refine pM (.ptr _ _) ?_
  refine B4 Ez hO 0 (.int _ _) B5 ?_
  refine pM (.lit _ _ _) ?_
  refine B4 HY hO 0 (.int _ _) B5 ?_
  refine AO (bk hk fun ss sy hk => ?_)
  refine pX sy CV AS ?_
  refine CQ (.agg [_, _]) (EA (lm := 0) (off := 0) sy Br AS) ?_
  replace hO := A6.Im hO Ac [] sc
  replace hO := (A6.pick hO [6, 0, 3, 2, 1, 4, 5] (by decide) rfl : A6 _ _ ([.Aj ([q0]) q0 (.cells 7 [A0 l1 0 ag.xN.A3, A0 l2 m3 ag.xN.A4, A0 l4 0 ag.A9, iv ag.Ak, w1, iv ag.An, (.tl 0 [])]), Gr ([]) ([]) sc ([] : List Ac) (.tl 0 []), .Au b1 (.cells 8 [iv ae.AY, iv ae.To, A0 0 0 ae.Steps, A0 0 0 ae.AK, A0 0 0 ae.A7, A0 0 0 ae.AP, A0 0 0 ae.C2, o2]), Gr ([]) F3 sc x2 o2] ++ [.Au b8 (.cells 2 [iv c7.AG, iv c7.BQ]), Gr sf sf sc ag.BU w1, Gr sw F5 sc x4 o4]))
  refine bk hk fun z12 hz12 hk => O5 (vs := [.ptr q0 0, .ptr b1 0, iv c7.AG, .agg [iv ss.A1, iv ss.BI]]) (caps := []) (rs1 := fun (E13 : List Nat × V × List Nat × V) => [.Aj ([q0]) q0 (.cells 7 [A0 l1 0 ag.xN.A3, A0 l2 m3 ag.xN.A4, A0 l4 0 ag.A9, iv ag.Ak, w1, iv ag.An, E13.2.1]), Gr ([]) E13.1 sc z12.1 E13.2.1, .Au b1 (.cells 8 [iv ae.AY, iv ae.To, A0 0 0 ae.Steps, A0 0 0 ae.AK, A0 0 0 ae.A7, A0 0 0 ae.AP, A0 0 0 ae.C2, E13.2.2.2]), Gr ([]) E13.2.2.1 sc z12.2 E13.2.2.2]) hO sb hS hlo rfl ⟨sL, ⟨sN, ⟨trivial, ⟨sN, trivial⟩⟩⟩⟩ (fun _ vg ti tm wo => (a9 1000) (⟨ag.xN, ag.A9, ag.Ak, ag.BU, ag.An, ([] : List Ac)⟩ : Cb) (⟨ae.AY, ae.To, ae.Steps, ae.AK, ae.A7, ae.AP, ae.C2, x2⟩ : A8) c7.AG ss hz12 wo tm ti vg (XM sj)) (fun _ => ⟨⟨rfl, rfl⟩, ⟨rfl, ⟨rfl, ⟨rfl, trivial⟩⟩⟩⟩) (fun E13 H1 G sb hO => ?_) (DG rfl (DG rfl (DG rfl (DG rfl El))))
  refine pE (bn (gn (Cj (AO ?_))))
  refine pM (.int _ _) (pg ?_)
  cases hk; exact ⟨_, rfl, E13.2.2.2, E13.2.2.1, E13.2.1, E13.1, _, _, _, sb, (A6.pick (A6.sT (S2 := sw) hO 1 sN) [3, 2, 5, 1, 0] (by decide) rfl), sh⟩
 refine Dh (ge (ge (be (gn (have hk := lx se hk; GC [1,3,5,7,9,11,13,14,16,18,20] [_,_,_,_,_,_,_,_,_,_,_] ?_)))))
 refine pM (.ptr _ _) ?_
 refine pM (.ptr _ _) ?_
 refine Bw ?_
 refine pF Mi ?_
 refine I9 hO 4 w1 Wp ?_
 refine Eh hO 1 [_, _, _, _, _, _, _, _] H9 Bs ?_
 refine rD ((⟨ae.AY, ae.To, ae.Steps, ae.AK, ae.A7, ae.AP, ae.C2, x2⟩ : A8) : A8) hO (cR (D3 (FW _ _) (D3 (FW _ _) (D3 (De ae.Steps) (D3 (De ae.AK) (D3 (De ae.A7) (D3 (De ae.AP) (D3 (De ae.C2) (D3 (Kr (xs := x2) 0) (Ud)))))))))) (Kh rfl (Kh rfl (Kh (Ie ae.Steps) (Kh (Ie ae.AK) (Kh (Ie ae.A7) (Kh (Ie ae.AP) (Kh (Ie ae.C2) (Kh (kJ hO (j := 0) rfl) qK)))))))) (MZ (MZ (MZ (MZ (MZ (MZ (MZ (qZ (kL hO (j := 0) rfl))))))))) HG Bs Kw sb.1.symm (fun G hO => bk hk fun z14 hz14 hk => ?_)
 refine O4 (xs := ag.BU) hO 1 hz14 (CE ([(⟨ae.AY, ae.To, ae.Steps, ae.AK, ae.A7, ae.AP, ae.C2, x2⟩ : A8)] : List A8)) HG Bs kX Kw HG sj sb hS (sR sL) rfl (fun o14 F14 H1 G sb hO => ?_)
 refine Bw ?_
 refine pF Mi ?_
 have xk := BT hO (j := 1) rfl
 refine WX [_, _, _, _, _, _, _] hO 3 sK sb hS sL rfl (Cu hO (j := 1) rfl 1 ig) (fun H1 G sb hO => ?_) (h3 := xk.1) (h6 := C7 xk.2)
 refine pE ?_
 have tk : q0 < H.length := sd _ (sL _ (dt.2 rfl))
 replace hk := dv hk; subst hk; exact GW (F14, o14, F5, o4) (pk hO [3, 1, 2]) sb (BJ (CS tk) (BJ (Cf (ej sj)) (BJ (Cf (ej sj)) GL))) rfl rfl rfl rfl (by first | exact Or.inl rfl | exact Or.inr rfl)
def Ll (cb : A8) (bh : Int) (ca : Int) : Int → Option (Int ⊕ (List BQ × Bool)) := fun s =>
 (bif decide (s < (cb.AK.length : Int)) then ((AR cb.AK s).bind fun c7 => (bif (c7.AG == bh) then ((some (cb.AK, (c7.BQ == ca))).map Sum.inr) else some (.inl (AN (s + 1))))) else (((CL 16 cb.AK ([(⟨bh, ca⟩ : BQ)] : List BQ)).bind fun z10 => some (z10, true)).map Sum.inr))
def lY (F : A8 → Int → Int → Option (List BQ × Bool)) : Prop := ∀ (cb : A8) (bh : Int) (ca : Int) {r : (List BQ × Bool)} {q0 : Nat} {yd zl zt zu zw w1 : V} {sf : List Nat} {sc : Nat} {H : A5} {lk : Lk}, F cb bh ca = some r → A6 H H [.Aj ([q0]) q0 (.cells 8 [.int .i64 cb.AY, .int .i64 cb.To, yd, w1, zl, zt, zu, zw]), Gr sf sf sc cb.AK w1] → (∀ b ∈ ([q0] ++ (sf ++ [])), AT lk b = true) → (∀ b ∈ ([q0] ++ (sf ++ [])), b < H.length) → EK lk H.length → sc < lk.length → ∃ v H1, Aw dp hh 116 [.ptr q0 0, .int .i64 bh, .int .i64 ca] H lk = some (v, H1) ∧ v = .bool r.2 ∧ ∃ (E : List Nat × V) (Hm : A5), BK H Hm ([q0] ++ (sf ++ [])) ∧ A6 Hm H1 [.Aj [q0] q0 (.cells 8 [.int .i64 cb.AY, .int .i64 cb.To, yd, E.2, zl, zt, zu, zw]), Gr sf E.1 sc r.1 E.2]
def Y9 (cb : A8) (bh : Int) (ca : Int) : Option (List BQ × Bool) :=
 (AQ (Ll cb bh ca) ((0:Int)))
theorem Zc : lY Y9 := by
 intro cb bh ca r q0 yd zl zt zu zw w1 sf sc H lk hk hO hS sd hlo sj
 have sn : 0 < lk.length := ka (ga _) sj
 refine BG Tryz.func116 rfl Tryz.ntmps116 Tryz.results116 rfl rfl ?_
 have sb := BK.refl H ([q0] ++ (sf ++ []))
 unfold Y9 at hk
 refine sr (pA (.bool _) (pg (AU (sr ?_))))
 refine pM (.ptr _ _) ?_
 refine Bw ?_
 refine pF DY ?_
 refine I9 hO 0 w1 I2 ?_
 refine TW hO 1 KH ?_
 refine pM (.int _ _) (pg (Bn ?_))
 refine AE (F := Ll cb bh ca) (fun s S' => ∃ J G H1, BK H H1 ([q0] ++ (sf ++ [])) ∧ A6 H1 G [Gr sf sf sc cb.AK w1, .Aj ([q0]) q0 (.cells 8 [iv cb.AY, iv cb.To, yd, w1, zl, zt, zu, zw])] ∧ S' = ⟨Ao [(0, .ptr q0 0),(1, iv bh),(2, iv ca),(12, w1),(13, iv (cb.AK.length : Int)),(14, iv s)] J, G⟩) hk ⟨_, _, _, sb, (pk hO [1, 0]), sh⟩ ?_
 rintro x6 _ y1 ⟨J, G, H1, sb, hO, rfl⟩ hk se
 refine sr (AO (pg (AU (As hk ?_ ?_)))) <;> intro hk
 ·refine Av (gn (AU (Bn (sr (bk hk fun c7 tw hk => rI hO 0 tw Ex CM (fun lv8 => ?_))))))
  refine CQ (.agg [_, _]) (EA (lm := 0) (off := 0) tw KF CM) (C9 hO CM I1 (fun b9 G hO => ?_))
  refine DR (xs := [_, _]) hO 0 CM sb.1.symm (fun G hO => pg (sr ?_))
  refine B4 Ez hO 0 (.int _ _) B5 ?_
  refine pM (.int _ _) ?_
  refine AO (pg (As hk ?_ ?_)) <;> intro hk
  ·refine sr (B4 HY hO 0 (.int _ _) B5 ?_)
   refine pM (.int _ _) ?_
   refine AO ?_
   refine pA (.bool _) (pg (Ax (br (gr (gr (br (gr (have hk := lx se hk; ?_))))))))
   have tk : q0 < H.length := sd _ (sL _ (dt.2 rfl))
   replace hk := dv hk; subst hk; exact GW (sf, w1) (pk hO [2, 1]) sb (BJ (CS tk) (BJ (Cf (ej sj)) GL)) (Dn (.bool _) CC) rfl rfl rfl (by first | exact Or.inl rfl | exact Or.inr rfl)
  refine Av (bn (gn (Cj (AO ?_))))
  refine pM (.int _ _) (pg ?_)
  cases hk; exact ⟨_, rfl, _, _, _, sb, (pk hO [1, 2]), sh⟩
 refine Dh (ge (ge (be (gn (have hk := lx se hk; sr (pM (.ptr _ _) ?_))))))
 refine pM (.ptr _ _) ?_
 refine Bw ?_
 refine pF DY ?_
 refine I9 hO 1 w1 I2 ?_
 refine pM (.int _ _) ?_
 refine pM (.int _ _) ?_
 refine G9 [_, _] I1 eM ?_
 refine JQ (ps := [(0, (.agg [_, _]))]) ([(⟨bh, ca⟩ : BQ)] : List BQ) Ex CM I1 (B2 (Bg (α := BQ) (⟨bh, ca⟩ : BQ)) (Bb)) (bk hk fun z10 hz10 hk => ?_)
 refine O4 (xs := cb.AK) hO 0 hz10 (CE ([(⟨bh, ca⟩ : BQ)] : List BQ)) Ex CM VG I1 Ex sj sb hS (sR sL) rfl (fun o10 F10 H1 G sb hO => ?_)
 refine Bw ?_
 refine pF DY ?_
 have tq := BT hO (j := 0) rfl
 refine WX [_, _, _, _, _, _, _, _] hO 1 Xl sb hS sL rfl (Cu hO (j := 0) rfl 1 ig) (fun H1 G sb hO => ?_) (h3 := tq.1) (h6 := C7 tq.2)
 refine pg (sr (pA (.bool _) (pg (Ax ?_))))
 have tk : q0 < H.length := sd _ (sL _ (dt.2 rfl))
 replace hk := dv hk; subst hk; exact GW (F10, o10) (pk hO [1, 0]) sb (BJ (CS tk) (BJ (Cf (ej sj)) GL)) (Dn (.bool _) CC) rfl rfl rfl (by first | exact Or.inl rfl | exact Or.inr rfl)
def PU (yf : Int) (x44 : List A8) (x46 : Int) (x47 : List Ac) : Option ((List A8 × Int × List Ac × Int) ⊕ (List A8 × Int × List Ac)) :=
 some (.inl (x44, x46, x47, AN (yf + 1)))
def Sy (ag : Cb) (rc : Cb → A8 → Int → Int → Int → Option (List A8 × Int × List Ac)) (yq : List A8) (wb : Int) (yr : List Ac) (yf : Int) (vo : Ac) (su : A8) (x66 : List BQ) (x68 : List Int) (x70 : Int) : Option ((List A8 × Int × List Ac × Int) ⊕ (List A8 × Int × List Ac)) :=
 ((rc (⟨ag.xN, ag.A9, ag.Ak, yq, wb, yr⟩ : Cb) (⟨su.AY, su.To, su.Steps, x66, x68, su.AP, ([] : List Ai), ([] : List AD)⟩ : A8) vo.A1 x70 (0:Int)).bind fun z75 => (PU yf z75.1 z75.2.1 z75.2.2))
def PV (ag : Cb) (rc : Cb → A8 → Int → Int → Int → Option (List A8 × Int × List Ac)) (yq : List A8) (wb : Int) (yr : List Ac) (yf : Int) (vo : Ac) (su : A8) (x66 : List BQ) (x68 : List Int) : Option ((List A8 × Int × List Ac × Int) ⊕ (List A8 × Int × List Ac)) :=
 (bif (vo.BI == 1) then (Sy ag rc yq wb yr yf vo su x66 x68 (-1:Int)) else (Sy ag rc yq wb yr yf vo su x66 x68 (1:Int)))
def Mz (ag : Cb) (rc : Cb → A8 → Int → Int → Int → Option (List A8 × Int × List Ac)) (vt : (Int × Int)) (uu : AG) (yq : List A8) (wb : Int) (yr : List Ac) (yf : Int) (vo : Ac) (su : A8) (x66 : List BQ) : Option ((List A8 × Int × List Ac × Int) ⊕ (List A8 × Int × List Ac)) :=
 (bif (uu.Kind == 4) then ((CL 8 su.A7 ([vt.1] : List Int)).bind fun z77 => (PV ag rc yq wb yr yf vo su x66 z77)) else (PV ag rc yq wb yr yf vo su x66 su.A7))
def PW (ag : Cb) (rc : Cb → A8 → Int → Int → Int → Option (List A8 × Int × List Ac)) (vt : (Int × Int)) (uu : AG) (yq : List A8) (wb : Int) (yr : List Ac) (yf : Int) (vo : Ac) (su : A8) (x79 : Int) : Option ((List A8 × Int × List Ac × Int) ⊕ (List A8 × Int × List Ac)) :=
 ((Y9 (⟨su.AY, su.To, su.Steps, su.AK, su.A7, su.AP, ([] : List Ai), ([] : List AD)⟩ : A8) vt.1 x79).bind fun z80 => (bif !z80.2 then (PU yf yq wb yr) else (Mz ag rc vt uu yq wb yr yf vo su z80.1)))
def PT (ag : Cb) (rc : Cb → A8 → Int → Int → Int → Option (List A8 × Int × List Ac)) (v6 : A8) (ze : List BR) (wv : List Ai) (vt : (Int × Int)) (uu : AG) (v37 : (List Ac)) : (List A8 × Int × List Ac × Int) → Option ((List A8 × Int × List Ac × Int) ⊕ (List A8 × Int × List Ac)) := fun s =>
 (bif decide (s.2.2.2 < (v37.length : Int)) then ((AR v37 s.2.2.2).bind fun vo => ((UE (⟨v6.AY, v6.To, ze, v6.AK, v6.A7, wv, ([] : List Ai), ([] : List AD)⟩ : A8)).bind fun su => (bif (uu.Kind == 3) then (bif (vt.2 == 0) then (PW ag rc vt uu s.1 s.2.1 s.2.2.1 s.2.2.2 vo su (AN (s.2.2.2 + 1))) else (PW ag rc vt uu s.1 s.2.1 s.2.2.1 s.2.2.2 vo su vt.2)) else (Mz ag rc vt uu s.1 s.2.1 s.2.2.1 s.2.2.2 vo su su.AK)))) else ((some (s.1, s.2.1, s.2.2.1)).map Sum.inr))
def Jw (ag : Cb) (ae : A8) (ai : Int) (ar : Int) (az : Int) (rc : Cb → A8 → Int → Int → Int → Option (List A8 × Int × List Ac)) : (Bool × Int) → Option ((Bool × Int) ⊕ (List A8 × Int × List Ac)) := fun s =>
 (bif decide (s.2 < (ae.Steps.length : Int)) then ((AR ae.Steps s.2).bind fun c4 => some (.inl ((s.1 || ((c4.A1 == ai) && (c4.Way == ar))), AN (s.2 + 1)))) else (((UE (⟨ae.AY, ae.To, ae.Steps, ae.AK, ae.A7, ae.AP, ([] : List Ai), ([] : List AD)⟩ : A8)).bind fun v6 => ((CL 16 v6.Steps ([(⟨ai, ar⟩ : BR)] : List BR)).bind fun ze => ((Y6 ag.xN ag.A9 ai ar az).bind fun v18 => (bif (decide (v18 < 0) && s.1) then some (ag.BU, AN (ag.An + 1), ag.Bk) else (bif decide (v18 ≥ 0) then ((AR ag.A9 v18).bind fun yc => ((Vz ag.xN ai yc.At ar).bind fun v20 => ((Vq ag.xN ai ar az v20).bind fun v21 => ((CL 24 v6.AP ([v21] : List Ai)).bind fun tz => ((ZZ (⟨ag.xN, ag.A9, ag.Ak, ag.BU, AN (ag.An + 1), ag.Bk⟩ : Cb) ai ar v20).bind fun v24 => ((Y7 (⟨ag.xN, ag.A9, ag.Ak, ag.BU, AN (ag.An + 1), ag.Bk⟩ : Cb) (⟨v6.AY, v18, ze, v6.AK, v6.A7, tz, v24, ([] : List AD)⟩ : A8)).bind fun z25 => some (z25.1, AN (ag.An + 1), z25.2))))))) else ((AR ag.xN.A3 ai).bind fun zd => ((Vq ag.xN ai ar az zd.Bo).bind fun wc => ((CL 24 v6.AP ([wc] : List Ai)).bind fun wv => ((Y8 ai ar).bind fun v31 => ((Vr ag.xN v31).bind fun vt => ((AR ag.xN.A4 vt.1).bind fun uu => (bif (uu.Kind == 1) then ((Y7 (⟨ag.xN, ag.A9, ag.Ak, ag.BU, AN (ag.An + 1), ag.Bk⟩ : Cb) (⟨v6.AY, (-1:Int), ze, v6.AK, v6.A7, wv, ([] : List Ai), ([] : List AD)⟩ : A8)).bind fun z35 => some (z35.1, AN (ag.An + 1), z35.2)) else ((Zb uu vt.2).bind fun v37 => (AQ (PT ag rc v6 ze wv vt uu v37) (ag.BU, AN (ag.An + 1), ag.Bk, (0:Int)))))))))))))))).map Sum.inr))
def bT (F : Cb → A8 → Int → Int → Int → Option (List A8 × Int × List Ac)) : Prop := ∀ (ag : Cb) (ae : A8) (ai : Int) (ar : Int) (az : Int) {r : (List A8 × Int × List Ac)} {l1 l2 m3 l4 l5 l6 l7 l8 : Nat} {q0 : Nat} {w1 w2 : V} {sf sw : List Nat} {sc : Nat} {H : A5} {lk : Lk}, F ag ae ai ar az = some r → A6 H H [.Aj ([q0]) q0 (.cells 7 [A0 l1 0 ag.xN.A3, A0 l2 m3 ag.xN.A4, A0 l4 0 ag.A9, .int .i64 ag.Ak, w1, .int .i64 ag.An, w2]), Gr sf sf sc ag.BU w1, Gr sw sw sc ag.Bk w2] → (∀ b ∈ ([q0] ++ (sf ++ (sw ++ []))), AT lk b = true) → (∀ b ∈ ([q0] ++ (sf ++ (sw ++ []))), b < H.length) → EK lk H.length → sc < lk.length → ∃ v H1, Aw dp hh 43 [.ptr q0 0, .agg [.int .i64 ae.AY, .int .i64 ae.To, A0 l5 0 ae.Steps, A0 l6 0 ae.AK, A0 l7 0 ae.A7, A0 l8 0 ae.AP, (.tl 0 []), (.tl 0 [])], .int .i64 ai, .int .i64 ar, .int .i64 az] H lk = some (v, H1) ∧ v = .Ei [] ∧ ∃ (E : List Nat × V × List Nat × V) (Hm : A5), BK H Hm ([q0] ++ (sf ++ (sw ++ []))) ∧ A6 Hm H1 [.Aj [q0] q0 (.cells 7 [A0 l1 0 ag.xN.A3, A0 l2 m3 ag.xN.A4, A0 l4 0 ag.A9, .int .i64 ag.Ak, E.2.1, .int .i64 r.2.1, E.2.2.2]), Gr sf E.1 sc r.1 E.2.1, Gr sw E.2.2.1 sc r.2.2 E.2.2.2]
def UQ (rc : Cb → A8 → Int → Int → Int → Option (List A8 × Int × List Ac)) (ag : Cb) (ae : A8) (ai : Int) (ar : Int) (az : Int) : Option (List A8 × Int × List Ac) :=
 (bif (decide ((ag.BU.length : Int) > 300) || decide ((AN (ag.An + 1)) > 20000)) then some (ag.BU, AN (ag.An + 1), ag.Bk) else (AQ (Jw ag ae ai ar az rc) (false, (0:Int))))
def gQ : Nat → Cb → A8 → Int → Int → Int → Option (List A8 × Int × List Ac)
 | 0 => fun _ _ _ _ _ => none
 | n + 1 => UQ (gQ n)
theorem bU {rc : Cb → A8 → Int → Int → Int → Option (List A8 × Int × List Ac)} (hrc : bT rc) : bT (UQ rc) := by
 intro ag ae ai ar az r l1 l2 m3 l4 l5 l6 l7 l8 q0 w1 w2 sf sw sc H lk hk hO hS sd hlo sj
 have sn : 0 < lk.length := ka (ga _) sj
 refine BG Tryz.func43 rfl Tryz.ntmps43 Tryz.results43 rfl rfl ?_
 have sb := BK.refl H ([q0] ++ (sf ++ (sw ++ [])))
 unfold UQ at hk
 refine sr (C0 (cs := [_, _, _, _, _, _, _, _]) hO Bs (fun b1 G hO => pg (sr ?_)))
 refine pM (.ptr _ _) ?_
 refine Bw ?_
 refine pF Oh ?_
 refine I9 hO 1 (.int _ _) B5 ?_
 refine AO ?_
 refine Bw ?_
 refine pF Oh ?_
 refine WX [_, _, _, _, _, _, _] hO 1 G8 sb hS sL rfl rfl (fun H1 G sb hO => pg (AU (sr ?_)))
 refine pM (.ptr _ _) ?_
 refine Bw ?_
 refine pF Mi ?_
 refine I9 hO 1 w1 Wp ?_
 refine TW hO 2 Tf ?_
 refine AO ?_
 refine pM (.bool _) ?_
 refine Aa (l1 := [_, _, _, _, _, _]) (fun S' => ∃ J, S' = ⟨Ao [(0, .ptr q0 0),(2, iv ai),(3, iv ar),(4, iv az),(6, .ptr b1 0),(42, .bool (decide ((ag.BU.length : Int) > 300) || decide ((AN (ag.An + 1)) > 20000)))] J, G⟩) ?_ ?_
 ·refine bc (b := decide ((ag.BU.length : Int) > 300)) ?_ ?_ <;> intro hg
  ·repeat refine CK hg ?_
   refine Ev hg (.bool _) ?_
   exact pE ⟨_, St.Ao _ ⟨rfl, rfl, rfl, rfl, rfl, by rw [hg]; rfl, trivial⟩⟩
  refine AZ hg (pM (.ptr _ _) (AZ hg ?_))
  refine Bw (AZ hg ?_)
  refine pF Oh (AZ hg ?_)
  refine I9 hO 1 (.int _ _) B5 (AZ hg ?_)
  refine AO ?_
  refine Eu hg (.bool _) ?_
  exact pE ⟨_, St.Ao _ ⟨rfl, rfl, rfl, rfl, rfl, by rw [hg]; rfl, trivial⟩⟩
 rintro _ ⟨J, rfl⟩
 refine pg (As hk ?_ ?_) <;> intro hk
 ·refine Ax (gr ?_)
  have tk : q0 < H.length := sd _ (sL _ (dt.2 rfl))
  replace hk := dv hk; subst hk; exact GW (sf, w1, sw, w2) (pk hO [1, 2, 3]) sb (BJ (CS tk) (BJ (Cf (ej sj)) (BJ (Cf (ej sj)) GL))) rfl rfl rfl rfl (by first | exact Or.inl rfl | exact Or.inr rfl)
 refine Av (gn (sr (pA (.bool _) (pg (AU (sr ?_))))))
 refine B4 Ey hO 0 (.lit _ _ _) RX ?_
 refine BE Wq ?_
 refine pM (.int _ _) (pg (Bn ?_))
 refine AE (F := Jw ag ae ai ar az rc) (fun s S' => ∃ J G H1, BK H H1 ([q0] ++ (sf ++ (sw ++ []))) ∧ A6 H1 G [.Au b1 (.cells 8 [iv ae.AY, iv ae.To, A0 l5 0 ae.Steps, A0 l6 0 ae.AK, A0 l7 0 ae.A7, A0 l8 0 ae.AP, (.tl 0 []), (.tl 0 [])]), Gr sf sf sc ag.BU w1, Gr sw sw sc ag.Bk w2, .Aj ([q0]) q0 (.cells 7 [A0 l1 0 ag.xN.A3, A0 l2 m3 ag.xN.A4, A0 l4 0 ag.A9, iv ag.Ak, w1, iv (AN (ag.An + 1)), w2])] ∧ S' = ⟨Ao [(0, .ptr q0 0),(2, iv ai),(3, iv ar),(4, iv az),(6, .ptr b1 0),(10, .bool s.1),(44, A0 l5 0 ae.Steps),(45, iv (ae.Steps.length : Int)),(46, iv s.2)] J, G⟩) hk ⟨_, _, _, sb, (pk hO [0, 2, 3, 1]), sh⟩ ?_
 rintro ⟨x2, x3⟩ _ y1 ⟨J, G, H1, sb, hO, rfl⟩ hk se
 refine sr (AO (pg (AU (As hk ?_ ?_)))) <;> intro hk
 ·refine Av (gn (AU (Bn (sr (bk hk fun c4 te hk => pX te JX E5 ?_)))))
  refine CQ (.agg [_, _]) (EA (lm := 0) (off := 0) te SK E5) (C9 hO E5 Jh (fun b5 G hO => ?_))
  refine DR (xs := [_, _]) hO 0 E5 sb.1.symm (fun G hO => pg (Cj ?_))
  refine pM (.bool _) ?_
  refine pM (.bool _) ?_
  refine Aa (l1 := [_, _, _, _, _, _, _, _, _, _, _]) (fun S' => ∃ J, S' = ⟨Ao [(0, .ptr q0 0),(2, iv ai),(3, iv ar),(4, iv az),(6, .ptr b1 0),(44, A0 l5 0 ae.Steps),(45, iv (ae.Steps.length : Int)),(46, iv x3),(62, .bool (x2 || ((c4.A1 == ai) && (c4.Way == ar))))] J, G⟩) ?_ ?_
  ·refine bc (b := x2) ?_ ?_ <;> intro hg
   ·repeat refine CK hg ?_
    refine E9 (E9 (E9 (E9 (CK hg (Ev hg (.bool _) ?_)))))
    exact pE ⟨_, St.Ao _ ⟨rfl, rfl, rfl, rfl, rfl, rfl, rfl, rfl, by rw [hg]; rfl, trivial⟩⟩
   refine AZ hg (pF Mj (AZ hg ?_))
   refine Eg hO 0 (.int _ _) B5 (AZ hg ?_)
   refine pM (.int _ _) (AZ hg ?_)
   refine AO (AZ hg ?_)
   refine pM (.bool _) ?_
   refine Aa (l1 := [_, _, _, _, _]) (fun S' => ∃ J, S' = ⟨Ao [(0, .ptr q0 0),(2, iv ai),(3, iv ar),(4, iv az),(6, .ptr b1 0),(44, A0 l5 0 ae.Steps),(45, iv (ae.Steps.length : Int)),(46, iv x3),(51, .bool x2),(61, .bool ((c4.A1 == ai) && (c4.Way == ar)))] J, G⟩) ?_ ?_
   ·refine bc (b := (c4.A1 == ai)) (fun si => ?_) (fun si => ?_)
    ·refine AZ si (pF Mk (AZ si ?_))
     refine Eg hO 0 (.int _ _) B5 (AZ si ?_)
     refine pM (.int _ _) (AZ si ?_)
     refine AO (AZ hg ?_)
     refine Ev si (.bool _) ?_
     exact pE ⟨_, St.Ao _ ⟨rfl, rfl, rfl, rfl, rfl, rfl, rfl, rfl, rfl, by rw [si]; rfl, trivial⟩⟩
    repeat refine CK si ?_
    refine AZ hg (Eu si (.bool _) ?_)
    exact pE ⟨_, St.Ao _ ⟨rfl, rfl, rfl, rfl, rfl, rfl, rfl, rfl, rfl, by rw [si]; rfl, trivial⟩⟩
   rintro _ ⟨J, rfl⟩
   refine Eu hg (.bool _) ?_
   exact pE ⟨_, St.Ao _ ⟨rfl, rfl, rfl, rfl, rfl, rfl, rfl, rfl, by rw [hg]; rfl, trivial⟩⟩
  rintro _ ⟨J, rfl⟩
  refine pA (.bool _) (pE (bn (gn (Cj ?_))))
  refine AO ?_
  refine pM (.int _ _) (pg ?_)
  cases hk; exact ⟨_, rfl, _, _, _, sb, (pk hO [1, 2, 3, 4]), sh⟩
 refine Dh (ge (ge (be (gn (have hk := lx se hk; sr (Eh hO 0 [_, _, _, _, _, _, _, _] H9 Bs (bk hk fun v6 hv6 hk => ?_)))))))
 refine vI (vs := [.agg [iv ae.AY, iv ae.To, A0 l5 0 ae.Steps, A0 l6 0 ae.AK, A0 l7 0 ae.A7, A0 l8 0 ae.AP, (.tl 0 []), (.tl 0 [])]]) (caps := []) (ι := List Nat × V × List Nat × V × List Nat × V × List Nat × V) (vF := fun E7 => .agg [iv v6.AY, iv v6.To, E7.2.1, E7.2.2.2.1, E7.2.2.2.2.2.1, E7.2.2.2.2.2.2.2, .tl 0 [], .tl 0 []]) (rsN := fun E7 => [Gr [] E7.1 sc v6.Steps E7.2.1, Gr [] E7.2.2.1 sc v6.AK E7.2.2.2.1, Gr [] E7.2.2.2.2.1 sc v6.A7 E7.2.2.2.2.2.1, Gr [] E7.2.2.2.2.2.2.1 sc v6.AP E7.2.2.2.2.2.2.2]) hO (fun _ => UF hv6 (XM sj)) (fun _ => ⟨sN, ⟨sN, ⟨sN, ⟨sN, trivial⟩⟩⟩⟩) (fun E7 G hO => ?_) (XL (k := 6) (cs := [iv ae.AY, iv ae.To, A0 l5 0 ae.Steps, A0 l6 0 ae.AK, A0 l7 0 ae.A7, A0 l8 0 ae.AP, (.tl 0 []), (.tl 0 [])]) (xs := [iv ae.AY, iv ae.To, A0 l5 0 ae.Steps, A0 l6 0 ae.AK, A0 l7 0 ae.A7, A0 l8 0 ae.AP]) (HT rfl (HT rfl (HT rfl (HT rfl (HT rfl (HT rfl iU)))))) RQ)
 have zj := BT hO (j := 0) rfl
 have vq := BT hO (j := 1) rfl
 have ur := BT hO (j := 2) rfl
 have xk := BT hO (j := 3) rfl
 refine Nj (xs := [_, _, _, _, _, _, _, _]) [_, _, _, _, _, _, _, _] hO 4 Bs sb.1.symm (fun G hO => ?_) (h6 := (Ds rfl (Ds rfl (Ds zj.2 (Ds vq.2 (Ds ur.2 (Ds xk.2 (Ds rfl (Ds rfl Ts)))))))))
 refine pg (sr (B4 Ey hO 4 E7.2.1 RX ?_))
 refine pM (.int _ _) ?_
 refine pM (.int _ _) ?_
 refine G9 [_, _] Jh eL ?_
 refine JQ (ps := [(0, (.agg [_, _]))]) ([(⟨ai, ar⟩ : BR)] : List BR) JX E5 Jh (B2 (Bg (α := BR) (⟨ai, ar⟩ : BR)) (Bb)) (bk hk fun ze hz16 hk => ?_)
 refine TV (xs := v6.Steps) hO 0 hz16 (CE ([(⟨ai, ar⟩ : BR)] : List BR)) JX E5 VF Jh JX (kf sj) sb.1.symm (fun we F16 G hO => ?_)
 refine pF Ey ?_
 have zk := BT hO (j := 0) rfl
 refine Nj (xs := [_]) [_, _, _, _, _, _, _, _] hO 4 k7 sb.1.symm (fun G hO => ?_) (h3 := zk.1) (h6 := C7 zk.2)
 refine pg (AU (GC [1,3,5,7,9,11,13,15,17,19,21,22,24] [_,_,_,_,_,_,_,_,_,_,_,_,_] ?_))
 refine pM (.ptr _ _) ?_
 refine Bw ?_
 refine pF Di ?_
 refine LM [_, _] hO 7 E4 CB ?_
 refine pM (.ptr _ _) ?_
 refine Bw ?_
 refine pF Og ?_
 refine I9 hO 7 (.lit _ _ _) RW ?_
 refine pM (.int _ _) ?_
 refine pM (.int _ _) ?_
 refine pM (.int _ _) (bk hk fun v18 hv18 hk => ?_)
 refine Ae (fun _ => ZY hv18) ?_
 refine pA (.int _ _) (pg (AU (sr ?_)))
 refine pM (.int _ _) ?_
 refine AO ?_
 refine pM (.bool _) ?_
 refine Aa (l1 := [_, _]) (fun S' => ∃ J, S' = ⟨Ao [(0, .ptr q0 0),(2, iv ai),(3, iv ar),(4, iv az),(6, .ptr b1 0),(13, iv v18),(90, .bool (decide (v18 < 0) && x2))] J, G⟩) ?_ ?_
 ·refine bc (b := decide (v18 < 0)) ?_ ?_ <;> intro hg
  ·refine AZ hg (pM (.bool _) ?_)
   refine Ev hg (.bool _) ?_
   exact pE ⟨_, St.Ao _ ⟨rfl, rfl, rfl, rfl, rfl, rfl, by rw [hg]; rfl, trivial⟩⟩
  refine CK hg (Eu hg (.bool _) ?_)
  exact pE ⟨_, St.Ao _ ⟨rfl, rfl, rfl, rfl, rfl, rfl, by rw [hg]; rfl, trivial⟩⟩
 rintro _ ⟨J, rfl⟩
 refine pg (As hk ?_ ?_) <;> intro hk
 ·refine Ax (gr ?_)
  have tk : q0 < H.length := sd _ (sL _ (dt.2 rfl))
  replace hk := dv hk; subst hk; exact GW (sf, w1, sw, w2) (pk hO [7, 5, 6]) sb (BJ (CS tk) (BJ (Cf (ej sj)) (BJ (Cf (ej sj)) GL))) rfl rfl rfl rfl (by first | exact Or.inl rfl | exact Or.inr rfl)
 refine Av (gn (AU (sr (pM (.int _ _) ?_))))
 refine AO (pg (As hk ?_ ?_)) <;> intro hk
 ·refine AU (GC [1,3,5,7,9,11,13,15,17,19,21,23,25,27,28,30] [_,_,_,_,_,_,_,_,_,_,_,_,_,_,_,_] ?_)
  refine pM (.ptr _ _) ?_
  refine Bw ?_
  refine pF Di ?_
  refine LM [_, _] hO 7 E4 CB ?_
  refine pM (.int _ _) ?_
  refine pM (.ptr _ _) ?_
  refine Bw ?_
  refine pF Og ?_
  refine I9 hO 7 (.lit _ _ _) RW ?_
  refine pM (.int _ _) (bk hk fun yc xm hk => ?_)
  refine pX xm GM BF ?_
  refine pF CW ?_
  refine CQ (.int _ _) (Gj (lm := 0) (off := 2) xm B5) ?_
  refine pM (.int _ _) (bk hk fun v20 hv20 hk => ?_)
  refine Ae (fun _ => JH hv20) ?_
  refine pA (.int _ _) (pg (AU ?_))
  refine GC [1,3,5,7,9,11,13,15,17,19,21,23,24,26,28] [_,_,_,_,_,_,_,_,_,_,_,_,_,_,_] ?_
  refine B4 EB hO 4 E7.2.2.2.2.2.2.2 I3 ?_
  refine pM (.ptr _ _) ?_
  refine Bw ?_
  refine pF Di ?_
  refine LM [_, _] hO 7 E4 CB ?_
  refine pM (.int _ _) ?_
  refine pM (.int _ _) ?_
  refine pM (.int _ _) ?_
  refine pM (.int _ _) (bk hk fun v21 hv21 hk => ?_)
  refine Ae (fun _ => PD hv21) ?_
  refine JQ (ps := [(0, (.agg [_, _, _]))]) ([v21] : List Ai) DV DB FU (B2 (Bg (α := Ai) v21) (Bb)) (bk hk fun tz hz22 hk => ?_)
  refine TV (xs := v6.AP) hO 3 hz22 (CE ([v21] : List Ai)) DV DB KG FU DV (kf sj) sb.1.symm (fun o22 F22 G hO => ?_)
  refine pF EB ?_
  have hc23 := BT hO (j := 3) rfl
  refine Nj (xs := [_]) [_, _, _, _, _, _, _, _] hO 4 Mn sb.1.symm (fun G hO => ?_) (h3 := hc23.1) (h6 := C7 hc23.2)
  refine pg (sr (pM (.int _ _) ?_))
  refine pF Gm ?_
  refine Nj (xs := [_]) [_, _, _, _, _, _, _, _] hO 4 G8 sb.1.symm (fun G hO => pg (sr ?_))
  refine pM (.ptr _ _) ?_
  refine pM (.int _ _) ?_
  refine pM (.int _ _) ?_
  refine pM (.int _ _) (bk hk fun v24 hv24 hk => ?_)
  refine Ae (fun _ => Za hv24 (hO.W1 (k := 7) rfl).1) ?_
  refine pF IW ?_
  refine Nj (xs := [_]) [_, _, _, _, _, _, _, _] hO 4 Mn sb.1.symm (fun G hO => pg (sr ?_))
  refine pM (.ptr _ _) ?_
  refine Eh hO 4 [_, _, _, _, _, _, _, _] H9 Bs ?_
  obtain ⟨G, hO, hla⟩ := Rt (k := 7) (cs := [iv v6.AY, iv v18, we, E7.2.2.2.1, E7.2.2.2.2.2.1, o22, A0 0 0 v24, (.tl 0 [])]) hO (D3 (FW _ _) (D3 (FW _ _) (D3 (Kr (xs := ze) 0) (D3 (Kr (xs := v6.AK) 0) (D3 (Kr (xs := v6.A7) 0) (D3 (Kr (xs := tz) 0) (D3 (De v24) Ud)))))))
  replace hO := (A6.pick hO [3, 1, 2, 0] (by decide) rfl : A6 _ _ ([.Aj ([q0]) q0 (.cells 7 [A0 l1 0 ag.xN.A3, A0 l2 m3 ag.xN.A4, A0 l4 0 ag.A9, iv ag.Ak, w1, iv (AN (ag.An + 1)), w2]), Gr sf sf sc ag.BU w1, Gr sw sw sc ag.Bk w2] ++ [.Au b1 (.cells 8 [iv v6.AY, iv v18, we, E7.2.2.2.1, E7.2.2.2.2.2.1, o22, A0 0 0 v24, (.tl 0 [])])]))
  refine bk hk fun z25 hz25 hk => O5 (vs := [.ptr q0 0, .agg [iv v6.AY, iv v18, we, E7.2.2.2.1, E7.2.2.2.2.2.1, o22, A0 0 0 v24, (.tl 0 [])]]) (caps := []) (rs1 := fun (E26 : List Nat × V × List Nat × V) => [.Aj ([q0]) q0 (.cells 7 [A0 l1 0 ag.xN.A3, A0 l2 m3 ag.xN.A4, A0 l4 0 ag.A9, iv ag.Ak, E26.2.1, iv (AN (ag.An + 1)), E26.2.2.2]), Gr sf E26.1 sc z25.1 E26.2.1, Gr sw E26.2.2.1 sc z25.2 E26.2.2.2]) hO sb hS hlo rfl ⟨sL, ⟨(sR sL), ⟨(sR (sR sL)), trivial⟩⟩⟩ (fun _ vg ti tm wo => UG (⟨ag.xN, ag.A9, ag.Ak, ag.BU, AN (ag.An + 1), ag.Bk⟩ : Cb) (⟨v6.AY, v18, ze, v6.AK, v6.A7, tz, v24, ([] : List AD)⟩ : A8) hz25 wo tm ti vg (XM sj)) (fun _ => ⟨⟨rfl, rfl⟩, ⟨rfl, ⟨rfl, trivial⟩⟩⟩) (fun E26 H1 G sb hO => ?_) (Nd (hla sb.1.symm rfl RQ))
  refine pg (Ax (gr ?_))
  have tk : q0 < H.length := sd _ (sL _ (dt.2 rfl))
  replace hk := dv hk; subst hk; exact GW (E26.1, E26.2.1, E26.2.2.1, E26.2.2.2) (pk hO [0, 1, 2]) sb (BJ (CS tk) (BJ (Cf (ej sj)) (BJ (Cf (ej sj)) GL))) rfl rfl rfl rfl (by first | exact Or.inl rfl | exact Or.inr rfl)
 refine Av (gn (AU (GC [1,3,5,7,9,11,13,15,17,19,21,23,25,27,29,31,33,35,37,39,40,42,44] [_,_,_,_,_,_,_,_,_,_,_,_,_,_,_,_,_,_,_,_,_,_,_] ?_)))
 refine B4 EB hO 4 E7.2.2.2.2.2.2.2 I3 ?_
 refine pM (.ptr _ _) ?_
 refine Bw ?_
 refine pF Di ?_
 refine LM [_, _] hO 7 E4 CB ?_
 refine pM (.int _ _) ?_
 refine pM (.int _ _) ?_
 refine pM (.int _ _) ?_
 refine pM (.ptr _ _) ?_
 refine Bw ?_
 refine pF Di ?_
 refine pF D0 ?_
 refine I9 hO 7 (.lit _ _ _) Gd ?_
 refine pM (.int _ _) (bk hk fun zd hc27 hk => ?_)
 refine pX hc27 IB Cp ?_
 refine pF Dj ?_
 refine CQ (.int _ _) (Gj (lm := 0) (off := 1) hc27 B5) (bk hk fun wc hv28 hk => ?_)
 refine Ae (fun _ => PD hv28) ?_
 refine JQ (ps := [(0, (.agg [_, _, _]))]) ([wc] : List Ai) DV DB FU (B2 (Bg (α := Ai) wc) (Bb)) (bk hk fun wv hz29 hk => ?_)
 refine TV (xs := v6.AP) hO 3 hz29 (CE ([wc] : List Ai)) DV DB KG FU DV (kf sj) sb.1.symm (fun vl F29 G hO => ?_)
 refine pF EB ?_
 have ym := BT hO (j := 3) rfl
 refine Nj (xs := [_]) [_, _, _, _, _, _, _, _] hO 4 Mn sb.1.symm (fun G hO => ?_) (h3 := ym.1) (h6 := C7 ym.2)
 refine pg (AU (GC [0,2,4,7,9,11,13,14,16,18,20,22,24] [_,_,_,_,_,_,_,_,_,_,_,_,_] ?_))
 refine pM (.ptr _ _) ?_
 refine Bw ?_
 refine pF Di ?_
 refine LM [_, _] hO 7 E4 CB ?_
 refine pM (.int _ _) ?_
 refine pM (.int _ _) (bk hk fun v31 hv31 hk => ?_)
 refine Ae (fun _ => UH hv31) (bk hk fun vt hv32 hk => ?_)
 refine Ae (fun _ => PE hv32) ?_
 refine pM (.Ei [_, _]) ?_
 refine Qv (.int _ _) ?_
 refine Qv (.int _ _) ?_
 refine pA (.int _ _) ?_
 refine pA (.int _ _) (pg (sr ?_))
 refine pM (.ptr _ _) ?_
 refine Bw ?_
 refine pF Di ?_
 refine pF DK ?_
 refine I9 hO 7 (.lit _ _ _) HF ?_
 refine pM (.int _ _) (bk hk fun uu hc33 hk => ?_)
 refine pX hc33 HA BY ?_
 refine CQ (.agg [_, _, _]) (EA (lm := m3) (off := 0) hc33 I5 BY) (C9 hO BY Ji (fun b34 G hO => ?_))
 refine DR (xs := [_, _, _]) hO 0 BY sb.1.symm (fun G hO => pg (AU (sr ?_)))
 refine B4 DE hO 0 (.int _ _) B5 ?_
 refine AO (pg (As hk ?_ ?_)) <;> intro hk
 ·refine sr (pF Gm ?_)
  refine Nj (xs := [_]) [_, _, _, _, _, _, _, _] hO 5 G8 sb.1.symm (fun G hO => pg (sr ?_))
  refine pM (.ptr _ _) ?_
  refine Eh hO 5 [_, _, _, _, _, _, _, _] H9 Bs ?_
  obtain ⟨G, hO, hla⟩ := Rt (k := 7) (cs := [iv v6.AY, iv (-1:Int), we, E7.2.2.2.1, E7.2.2.2.2.2.1, vl, (.tl 0 []), (.tl 0 [])]) hO (D3 (FW _ _) (D3 (FW _ _) (D3 (Kr (xs := ze) 1) (D3 (Kr (xs := v6.AK) 1) (D3 (Kr (xs := v6.A7) 1) (D3 (Kr (xs := wv) 1) (D3 (QR Ai) Ud)))))))
  replace hO := (A6.pick hO [4, 2, 3, 0, 1] (by decide) rfl : A6 _ _ ([.Aj ([q0]) q0 (.cells 7 [A0 l1 0 ag.xN.A3, A0 l2 m3 ag.xN.A4, A0 l4 0 ag.A9, iv ag.Ak, w1, iv (AN (ag.An + 1)), w2]), Gr sf sf sc ag.BU w1, Gr sw sw sc ag.Bk w2] ++ [.Au b34 (.cells 3 [iv uu.Kind, .str uu.Name, A0 m3 0 uu.Ends]), .Au b1 (.cells 8 [iv v6.AY, iv (-1:Int), we, E7.2.2.2.1, E7.2.2.2.2.2.1, vl, (.tl 0 []), (.tl 0 [])])]))
  refine bk hk fun z35 hz35 hk => O5 (vs := [.ptr q0 0, .agg [iv v6.AY, iv (-1:Int), we, E7.2.2.2.1, E7.2.2.2.2.2.1, vl, (.tl 0 []), (.tl 0 [])]]) (caps := []) (rs1 := fun (yp : List Nat × V × List Nat × V) => [.Aj ([q0]) q0 (.cells 7 [A0 l1 0 ag.xN.A3, A0 l2 m3 ag.xN.A4, A0 l4 0 ag.A9, iv ag.Ak, yp.2.1, iv (AN (ag.An + 1)), yp.2.2.2]), Gr sf yp.1 sc z35.1 yp.2.1, Gr sw yp.2.2.1 sc z35.2 yp.2.2.2]) hO sb hS hlo rfl ⟨sL, ⟨(sR sL), ⟨(sR (sR sL)), trivial⟩⟩⟩ (fun _ vg ti tm wo => UG (⟨ag.xN, ag.A9, ag.Ak, ag.BU, AN (ag.An + 1), ag.Bk⟩ : Cb) (⟨v6.AY, (-1:Int), ze, v6.AK, v6.A7, wv, ([] : List Ai), ([] : List AD)⟩ : A8) hz35 wo tm ti vg (XM sj)) (fun _ => ⟨⟨rfl, rfl⟩, ⟨rfl, ⟨rfl, trivial⟩⟩⟩) (fun yp H1 G sb hO => ?_) (Nd (hla sb.1.symm rfl RQ))
  refine pg (Ax (gr ?_))
  have tk : q0 < H.length := sd _ (sL _ (dt.2 rfl))
  replace hk := dv hk; subst hk; exact GW (yp.1, yp.2.1, yp.2.2.1, yp.2.2.2) (pk hO [0, 1, 2]) sb (BJ (CS tk) (BJ (Cf (ej sj)) (BJ (Cf (ej sj)) GL))) rfl rfl rfl rfl (by first | exact Or.inl rfl | exact Or.inr rfl)
 refine Av (gn (sr (Eh hO 0 [_, _, _] I5 BY ?_)))
 refine pM (.int _ _) (bk hk fun v37 hv37 hk => ?_)
 refine Ae (fun _ => UI hv37) ?_
 refine BE HM ?_
 refine pM (.int _ _) (pg (Bn ?_))
 refine AE (F := PT ag rc v6 ze wv vt uu v37) (fun s S' => ∃ o38 F39 o41 F42 J G H1, BK H H1 ([q0] ++ (sf ++ (sw ++ []))) ∧ A6 H1 G [.Au b34 (.cells 3 [iv uu.Kind, .str uu.Name, A0 m3 0 uu.Ends]), Gr ([]) F16 sc ze we, Gr ([]) E7.2.2.1 sc v6.AK E7.2.2.2.1, Gr ([]) E7.2.2.2.2.1 sc v6.A7 E7.2.2.2.2.2.1, Gr ([]) F29 sc wv vl, .Au b1 (.cells 8 [iv v6.AY, iv v6.To, we, E7.2.2.2.1, E7.2.2.2.2.2.1, vl, (.tl 0 []), (.tl 0 [])]), Gr sf F39 sc s.1 o38, Gr sw F42 sc s.2.2.1 o41, .Aj ([q0]) q0 (.cells 7 [A0 l1 0 ag.xN.A3, A0 l2 m3 ag.xN.A4, A0 l4 0 ag.A9, iv ag.Ak, o38, iv s.2.1, o41])] ∧ S' = ⟨Ao [(0, .ptr q0 0),(6, .ptr b1 0),(15, iv vt.1),(16, iv vt.2),(17, .ptr b34 0),(183, A0 0 0 v37),(184, iv (v37.length : Int)),(185, iv s.2.2.2)] J, G⟩) hk ⟨w1, sf, w2, sw, _, _, _, sb, hO, sh⟩ ?_
 rintro ⟨yq, wb, yr, yf⟩ _ y1 ⟨o38, F39, o41, F42, J, G, H1, sb, hO, rfl⟩ hk se
 refine sr (AO (pg (AU (As hk ?_ ?_)))) <;> intro hk
 ·refine Av (gn (CX (fun S' => ∃ x44 x46 x47 o44 F45 o47 F48 J G H1, PU yf x44 x46 x47 = some y1 ∧ BK H H1 ([q0] ++ (sf ++ (sw ++ []))) ∧ A6 H1 G [Gr sf F45 sc x44 o44, Gr sw F48 sc x47 o47, .Aj ([q0]) q0 (.cells 7 [A0 l1 0 ag.xN.A3, A0 l2 m3 ag.xN.A4, A0 l4 0 ag.A9, iv ag.Ak, o44, iv x46, o47]), .Au b34 (.cells 3 [iv uu.Kind, .str uu.Name, A0 m3 0 uu.Ends]), Gr ([]) F16 sc ze we, Gr ([]) E7.2.2.1 sc v6.AK E7.2.2.2.1, Gr ([]) E7.2.2.2.2.1 sc v6.A7 E7.2.2.2.2.2.1, Gr ([]) F29 sc wv vl, .Au b1 (.cells 8 [iv v6.AY, iv v6.To, we, E7.2.2.2.1, E7.2.2.2.2.2.1, vl, (.tl 0 []), (.tl 0 [])])] ∧ S' = ⟨Ao [(0, .ptr q0 0),(6, .ptr b1 0),(15, iv vt.1),(16, iv vt.2),(17, .ptr b34 0),(183, A0 0 0 v37),(184, iv (v37.length : Int)),(185, iv yf)] J, G⟩) ?_ ?_))
  ·refine Bn (sr (pM (.int _ _) (bk hk fun vo hc49 hk => ?_)))
   refine pX hc49 CV AS ?_
   refine CQ (.agg [_, _]) (EA (lm := 0) (off := 0) hc49 Br AS) (C9 hO AS Cw (fun b50 G hO => ?_))
   refine pA (.int _ _) ?_
   refine DR (xs := [_, _]) hO 0 AS sb.1.symm (fun G hO => pg (sr ?_))
   refine Eh hO 6 [_, _, _, _, _, _, _, _] H9 Bs ?_
   obtain ⟨lw51, hw51⟩ := MR hO 5 (lk.length + 1)
   obtain ⟨lw52, hw52⟩ := MR hO 4 (lk.length + 1)
   obtain ⟨lw53, hw53⟩ := MR hO 3 (lk.length + 1)
   obtain ⟨lw54, hw54⟩ := MR hO 2 (lk.length + 1)
   refine bk hk fun su hv55 hk => vI (vs := [.agg [iv v6.AY, iv v6.To, we, E7.2.2.2.1, E7.2.2.2.2.2.1, vl, (.tl 0 []), (.tl 0 [])]]) (caps := []) (ι := List Nat × V × List Nat × V × List Nat × V × List Nat × V) (vF := fun ta => .agg [iv su.AY, iv su.To, ta.2.1, ta.2.2.2.1, ta.2.2.2.2.2.1, ta.2.2.2.2.2.2.2, .tl 0 [], .tl 0 []]) (rsN := fun ta => [Gr [] ta.1 sc su.Steps ta.2.1, Gr [] ta.2.2.1 sc su.AK ta.2.2.2.1, Gr [] ta.2.2.2.2.1 sc su.A7 ta.2.2.2.2.2.1, Gr [] ta.2.2.2.2.2.2.1 sc su.AP ta.2.2.2.2.2.2.2]) hO (fun _ => UF hv55 (XM sj)) (fun _ => ⟨sN, ⟨sN, ⟨sN, ⟨sN, trivial⟩⟩⟩⟩) (fun ta G hO => ?_) (XL (k := 6) (cs := [iv v6.AY, iv v6.To, we, E7.2.2.2.1, E7.2.2.2.2.2.1, vl, (.tl 0 []), (.tl 0 [])]) (xs := [iv v6.AY, iv v6.To, A0 lw54 0 ze, A0 lw53 0 v6.AK, A0 lw52 0 v6.A7, A0 lw51 0 wv]) (HT rfl (HT rfl (HT (hw54 5) (HT (hw53 5) (HT (hw52 5) (HT (hw51 5) iU)))))) RQ)
   refine C9 hO Bs Kw (fun b61 G hO => ?_)
   have hc62 := BT hO (j := 1) rfl
   have hc63 := BT hO (j := 2) rfl
   have hc64 := BT hO (j := 3) rfl
   have hc65 := BT hO (j := 4) rfl
   refine Nj (xs := [_, _, _, _, _, _, _, _]) [_, _, _, _, _, _, _, _] hO 0 Bs sb.1.symm (fun G hO => ?_) (h6 := (Ds rfl (Ds rfl (Ds hc62.2 (Ds hc63.2 (Ds hc64.2 (Ds hc65.2 (Ds rfl (Ds rfl Ts)))))))))
   refine pg (CX (fun S' => ∃ x66 o66 F67 J G H1, Mz ag rc vt uu yq wb yr yf vo su x66 = some y1 ∧ BK H H1 ([q0] ++ (sf ++ (sw ++ []))) ∧ A6 H1 G [Gr ([]) ta.1 sc su.Steps ta.2.1, Gr ([]) F67 sc x66 o66, Gr ([]) ta.2.2.2.2.1 sc su.A7 ta.2.2.2.2.2.1, Gr ([]) ta.2.2.2.2.2.2.1 sc su.AP ta.2.2.2.2.2.2.2, .Au b61 (.cells 8 [iv su.AY, iv su.To, ta.2.1, o66, ta.2.2.2.2.2.1, ta.2.2.2.2.2.2.2, (.tl 0 []), (.tl 0 [])]), .Au b50 (.cells 2 [iv vo.A1, iv vo.BI]), .Au b34 (.cells 3 [iv uu.Kind, .str uu.Name, A0 m3 0 uu.Ends]), Gr ([]) F16 sc ze we, Gr ([]) E7.2.2.1 sc v6.AK E7.2.2.2.1, Gr ([]) E7.2.2.2.2.1 sc v6.A7 E7.2.2.2.2.2.1, Gr ([]) F29 sc wv vl, .Au b1 (.cells 8 [iv v6.AY, iv v6.To, we, E7.2.2.2.1, E7.2.2.2.2.2.1, vl, (.tl 0 []), (.tl 0 [])]), Gr sf F39 sc yq o38, Gr sw F42 sc yr o41, .Aj ([q0]) q0 (.cells 7 [A0 l1 0 ag.xN.A3, A0 l2 m3 ag.xN.A4, A0 l4 0 ag.A9, iv ag.Ak, o38, iv wb, o41])] ∧ S' = ⟨Ao [(0, .ptr q0 0),(6, .ptr b1 0),(15, iv vt.1),(16, iv vt.2),(17, .ptr b34 0),(19, .ptr b50 0),(20, .ptr b61 0),(183, A0 0 0 v37),(184, iv (v37.length : Int)),(185, iv yf)] J, G⟩) ?_ ?_)
   ·refine sr (B4 DE hO 6 (.int _ _) B5 ?_)
    refine AO (pg (As hk ?_ ?_)) <;> intro hk
    ·refine sr (pM (.int _ _) ?_)
     refine pA (.int _ _) (pg ?_)
     refine CX (fun S' => ∃ x79 J G H1, PW ag rc vt uu yq wb yr yf vo su x79 = some y1 ∧ BK H H1 ([q0] ++ (sf ++ (sw ++ []))) ∧ A6 H1 G [Gr ([]) ta.1 sc su.Steps ta.2.1, Gr ([]) ta.2.2.1 sc su.AK ta.2.2.2.1, Gr ([]) ta.2.2.2.2.1 sc su.A7 ta.2.2.2.2.2.1, Gr ([]) ta.2.2.2.2.2.2.1 sc su.AP ta.2.2.2.2.2.2.2, .Au b61 (.cells 8 [iv su.AY, iv su.To, ta.2.1, ta.2.2.2.1, ta.2.2.2.2.2.1, ta.2.2.2.2.2.2.2, (.tl 0 []), (.tl 0 [])]), .Au b50 (.cells 2 [iv vo.A1, iv vo.BI]), .Au b34 (.cells 3 [iv uu.Kind, .str uu.Name, A0 m3 0 uu.Ends]), Gr ([]) F16 sc ze we, Gr ([]) E7.2.2.1 sc v6.AK E7.2.2.2.1, Gr ([]) E7.2.2.2.2.1 sc v6.A7 E7.2.2.2.2.2.1, Gr ([]) F29 sc wv vl, .Au b1 (.cells 8 [iv v6.AY, iv v6.To, we, E7.2.2.2.1, E7.2.2.2.2.2.1, vl, (.tl 0 []), (.tl 0 [])]), Gr sf F39 sc yq o38, Gr sw F42 sc yr o41, .Aj ([q0]) q0 (.cells 7 [A0 l1 0 ag.xN.A3, A0 l2 m3 ag.xN.A4, A0 l4 0 ag.A9, iv ag.Ak, o38, iv wb, o41])] ∧ S' = ⟨Ao [(0, .ptr q0 0),(6, .ptr b1 0),(15, iv vt.1),(16, iv vt.2),(17, .ptr b34 0),(19, .ptr b50 0),(20, .ptr b61 0),(21, iv x79),(183, A0 0 0 v37),(184, iv (v37.length : Int)),(185, iv yf)] J, G⟩) ?_ ?_
     ·refine sr (pM (.int _ _) ?_)
      refine AO (pg (As hk ?_ ?_)) <;> intro hk
      ·refine Cj (pM (.int _ _) ?_)
       refine AO ?_
       refine pA (.int _ _) (pg ?_)
       exact ⟨AN (yf + 1), _, _, _, hk, sb, (pk hO [1, 2, 3, 4, 0, 5, 6, 7, 8, 9, 10, 11, 12, 13, 14]), sh⟩
      exact Av (gn (⟨vt.2, _, _, _, hk, sb, (pk hO [1, 2, 3, 4, 0, 5, 6, 7, 8, 9, 10, 11, 12, 13, 14]), sh⟩))
     rintro _ ⟨x79, J, G, H1, hk, sb, hO, rfl⟩
     refine sr (pM (.int _ _) ?_)
     refine pM (.int _ _) ?_
     replace hO := (A6.pick hO [4, 1, 0, 2, 3, 5, 6, 7, 8, 9, 10, 11, 12, 13, 14] (by decide) rfl : A6 _ _ ([.Au b61 (.cells 8 [iv su.AY, iv su.To, ta.2.1, ta.2.2.2.1, ta.2.2.2.2.2.1, ta.2.2.2.2.2.2.2, (.tl 0 []), (.tl 0 [])]), Gr ([]) ta.2.2.1 sc su.AK ta.2.2.2.1] ++ [Gr ([]) ta.1 sc su.Steps ta.2.1, Gr ([]) ta.2.2.2.2.1 sc su.A7 ta.2.2.2.2.2.1, Gr ([]) ta.2.2.2.2.2.2.1 sc su.AP ta.2.2.2.2.2.2.2, .Au b50 (.cells 2 [iv vo.A1, iv vo.BI]), .Au b34 (.cells 3 [iv uu.Kind, .str uu.Name, A0 m3 0 uu.Ends]), Gr ([]) F16 sc ze we, Gr ([]) E7.2.2.1 sc v6.AK E7.2.2.2.1, Gr ([]) E7.2.2.2.2.1 sc v6.A7 E7.2.2.2.2.2.1, Gr ([]) F29 sc wv vl, .Au b1 (.cells 8 [iv v6.AY, iv v6.To, we, E7.2.2.2.1, E7.2.2.2.2.2.1, vl, (.tl 0 []), (.tl 0 [])]), Gr sf F39 sc yq o38, Gr sw F42 sc yr o41, .Aj ([q0]) q0 (.cells 7 [A0 l1 0 ag.xN.A3, A0 l2 m3 ag.xN.A4, A0 l4 0 ag.A9, iv ag.Ak, o38, iv wb, o41])]))
     refine bk hk fun z80 hz80 hk => O5 (vs := [.ptr b61 0, iv vt.1, iv x79]) (caps := []) (rs1 := fun (E81 : List Nat × V) => [.Au b61 (.cells 8 [iv su.AY, iv su.To, ta.2.1, E81.2, ta.2.2.2.2.2.1, ta.2.2.2.2.2.2.2, (.tl 0 []), (.tl 0 [])]), Gr ([]) E81.1 sc z80.1 E81.2]) hO sb hS hlo rfl ⟨trivial, ⟨sN, trivial⟩⟩ (fun _ vg ti tm wo => Zc (⟨su.AY, su.To, su.Steps, su.AK, su.A7, su.AP, ([] : List Ai), ([] : List AD)⟩ : A8) vt.1 x79 hz80 wo tm ti vg (XM sj)) (fun _ => ⟨rfl, ⟨rfl, trivial⟩⟩) (fun E81 H1 G sb hO => ?_) (DG rfl (DG rfl (DG rfl El)))
     refine pU (pg (As hk ?_ ?_)) <;> intro hk
     ·exact Dh (ge (be (gn (⟨yq, wb, yr, o38, F39, o41, F42, _, _, _, hk, sb, (pk hO [12, 13, 14, 6, 7, 8, 9, 10, 11]), sh⟩))))
     exact Av (gn (⟨z80.1, E81.2, E81.1, _, _, _, hk, sb, (pk hO [2, 1, 3, 4, 0, 5, 6, 7, 8, 9, 10, 11, 12, 13, 14]), sh⟩))
    exact Av (gn (⟨su.AK, ta.2.2.2.1, ta.2.2.1, _, _, _, hk, sb, (pk hO [1, 2, 3, 4, 0, 5, 6, 7, 8, 9, 10, 11, 12, 13, 14]), sh⟩))
   rintro _ ⟨x66, o66, F67, J, G, H1, hk, sb, hO, rfl⟩
   refine CX (fun S' => ∃ x68 o68 F69 J G H1, PV ag rc yq wb yr yf vo su x66 x68 = some y1 ∧ BK H H1 ([q0] ++ (sf ++ (sw ++ []))) ∧ A6 H1 G [Gr ([]) ta.1 sc su.Steps ta.2.1, Gr ([]) F67 sc x66 o66, Gr ([]) F69 sc x68 o68, Gr ([]) ta.2.2.2.2.2.2.1 sc su.AP ta.2.2.2.2.2.2.2, .Au b61 (.cells 8 [iv su.AY, iv su.To, ta.2.1, o66, o68, ta.2.2.2.2.2.2.2, (.tl 0 []), (.tl 0 [])]), .Au b50 (.cells 2 [iv vo.A1, iv vo.BI]), .Au b34 (.cells 3 [iv uu.Kind, .str uu.Name, A0 m3 0 uu.Ends]), Gr ([]) F16 sc ze we, Gr ([]) E7.2.2.1 sc v6.AK E7.2.2.2.1, Gr ([]) E7.2.2.2.2.1 sc v6.A7 E7.2.2.2.2.2.1, Gr ([]) F29 sc wv vl, .Au b1 (.cells 8 [iv v6.AY, iv v6.To, we, E7.2.2.2.1, E7.2.2.2.2.2.1, vl, (.tl 0 []), (.tl 0 [])]), Gr sf F39 sc yq o38, Gr sw F42 sc yr o41, .Aj ([q0]) q0 (.cells 7 [A0 l1 0 ag.xN.A3, A0 l2 m3 ag.xN.A4, A0 l4 0 ag.A9, iv ag.Ak, o38, iv wb, o41])] ∧ S' = ⟨Ao [(0, .ptr q0 0),(6, .ptr b1 0),(15, iv vt.1),(16, iv vt.2),(17, .ptr b34 0),(19, .ptr b50 0),(20, .ptr b61 0),(183, A0 0 0 v37),(184, iv (v37.length : Int)),(185, iv yf)] J, G⟩) ?_ ?_
   ·refine sr (B4 DE hO 6 (.int _ _) B5 ?_)
    refine AO (pg (As hk ?_ ?_)) <;> intro hk
    ·refine Cj (B4 Fp hO 4 ta.2.2.2.2.2.1 VE ?_)
     refine pM (.int _ _) ?_
     refine JQ (ps := [(0, (.int _ _))]) ([vt.1] : List Int) I6 G8 XZ (B2 (EZ _ _) (Bb)) (bk hk fun z77 hz77 hk => ?_)
     refine TV (xs := su.A7) hO 2 hz77 (CE ([vt.1] : List Int)) I6 G8 s8 XZ I6 (kf sj) sb.1.symm (fun o77 F77 G hO => ?_)
     refine pF Fp ?_
     have hc78 := BT hO (j := 2) rfl
     refine Nj (xs := [_]) [_, _, _, _, _, _, _, _] hO 4 jZ sb.1.symm (fun G hO => ?_) (h3 := hc78.1) (h6 := C7 hc78.2)
     exact pg (⟨z77, o77, F77, _, _, _, hk, sb, hO, sh⟩)
    exact Av (gn (⟨su.A7, ta.2.2.2.2.2.1, ta.2.2.2.2.1, _, _, _, hk, sb, hO, sh⟩))
   rintro _ ⟨x68, o68, F69, J, G, H1, hk, sb, hO, rfl⟩
   refine sr (pA (.int _ _) (pg ?_))
   refine CX (fun S' => ∃ x70 J G H1, Sy ag rc yq wb yr yf vo su x66 x68 x70 = some y1 ∧ BK H H1 ([q0] ++ (sf ++ (sw ++ []))) ∧ A6 H1 G [Gr ([]) ta.1 sc su.Steps ta.2.1, Gr ([]) F67 sc x66 o66, Gr ([]) F69 sc x68 o68, Gr ([]) ta.2.2.2.2.2.2.1 sc su.AP ta.2.2.2.2.2.2.2, .Au b61 (.cells 8 [iv su.AY, iv su.To, ta.2.1, o66, o68, ta.2.2.2.2.2.2.2, (.tl 0 []), (.tl 0 [])]), .Au b50 (.cells 2 [iv vo.A1, iv vo.BI]), .Au b34 (.cells 3 [iv uu.Kind, .str uu.Name, A0 m3 0 uu.Ends]), Gr ([]) F16 sc ze we, Gr ([]) E7.2.2.1 sc v6.AK E7.2.2.2.1, Gr ([]) E7.2.2.2.2.1 sc v6.A7 E7.2.2.2.2.2.1, Gr ([]) F29 sc wv vl, .Au b1 (.cells 8 [iv v6.AY, iv v6.To, we, E7.2.2.2.1, E7.2.2.2.2.2.1, vl, (.tl 0 []), (.tl 0 [])]), Gr sf F39 sc yq o38, Gr sw F42 sc yr o41, .Aj ([q0]) q0 (.cells 7 [A0 l1 0 ag.xN.A3, A0 l2 m3 ag.xN.A4, A0 l4 0 ag.A9, iv ag.Ak, o38, iv wb, o41])] ∧ S' = ⟨Ao [(0, .ptr q0 0),(6, .ptr b1 0),(15, iv vt.1),(16, iv vt.2),(17, .ptr b34 0),(19, .ptr b50 0),(20, .ptr b61 0),(22, iv x70),(183, A0 0 0 v37),(184, iv (v37.length : Int)),(185, iv yf)] J, G⟩) ?_ ?_
   ·refine sr (B4 EX hO 5 (.int _ _) B5 ?_)
    refine AO (pg (As hk ?_ ?_)) <;> intro hk
    ·refine Cj (pA (.int _ _) (pg ?_))
     exact ⟨(-1:Int), _, _, _, hk, sb, hO, sh⟩
    exact Av (gn (⟨(1:Int), _, _, _, hk, sb, hO, sh⟩))
   rintro _ ⟨x70, J, G, H1, hk, sb, hO, rfl⟩
   refine Cj (pM (.ptr _ _) ?_)
   refine Eh hO 4 [_, _, _, _, _, _, _, _] H9 Bs ?_
   refine B4 Dk hO 5 (.int _ _) B5 ?_
   refine pM (.int _ _) ?_
   obtain ⟨lw71, hw71⟩ := MR hO 3 (lk.length + 1)
   obtain ⟨lw72, hw72⟩ := MR hO 2 (lk.length + 1)
   obtain ⟨lw73, hw73⟩ := MR hO 1 (lk.length + 1)
   obtain ⟨lw74, hw74⟩ := MR hO 0 (lk.length + 1)
   replace hO := (A6.pick hO [14, 12, 13, 0, 1, 2, 3, 4, 5, 6, 7, 8, 9, 10, 11] (by decide) rfl : A6 _ _ ([.Aj ([q0]) q0 (.cells 7 [A0 l1 0 ag.xN.A3, A0 l2 m3 ag.xN.A4, A0 l4 0 ag.A9, iv ag.Ak, o38, iv wb, o41]), Gr sf F39 sc yq o38, Gr sw F42 sc yr o41] ++ [Gr ([]) ta.1 sc su.Steps ta.2.1, Gr ([]) F67 sc x66 o66, Gr ([]) F69 sc x68 o68, Gr ([]) ta.2.2.2.2.2.2.1 sc su.AP ta.2.2.2.2.2.2.2, .Au b61 (.cells 8 [iv su.AY, iv su.To, ta.2.1, o66, o68, ta.2.2.2.2.2.2.2, (.tl 0 []), (.tl 0 [])]), .Au b50 (.cells 2 [iv vo.A1, iv vo.BI]), .Au b34 (.cells 3 [iv uu.Kind, .str uu.Name, A0 m3 0 uu.Ends]), Gr ([]) F16 sc ze we, Gr ([]) E7.2.2.1 sc v6.AK E7.2.2.2.1, Gr ([]) E7.2.2.2.2.1 sc v6.A7 E7.2.2.2.2.2.1, Gr ([]) F29 sc wv vl, .Au b1 (.cells 8 [iv v6.AY, iv v6.To, we, E7.2.2.2.1, E7.2.2.2.2.2.1, vl, (.tl 0 []), (.tl 0 [])])]))
   refine bk hk fun z75 hz75 hk => O5 (vs := [.ptr q0 0, .agg [iv su.AY, iv su.To, ta.2.1, o66, o68, ta.2.2.2.2.2.2.2, (.tl 0 []), (.tl 0 [])], iv vo.A1, iv x70, iv (0:Int)]) (caps := []) (rs1 := fun (E76 : List Nat × V × List Nat × V) => [.Aj ([q0]) q0 (.cells 7 [A0 l1 0 ag.xN.A3, A0 l2 m3 ag.xN.A4, A0 l4 0 ag.A9, iv ag.Ak, E76.2.1, iv z75.2.1, E76.2.2.2]), Gr sf E76.1 sc z75.1 E76.2.1, Gr sw E76.2.2.1 sc z75.2.2 E76.2.2.2]) hO sb hS hlo rfl ⟨sL, ⟨(sR sL), ⟨(sR (sR sL)), trivial⟩⟩⟩ (fun _ vg ti tm wo => hrc (⟨ag.xN, ag.A9, ag.Ak, yq, wb, yr⟩ : Cb) (⟨su.AY, su.To, su.Steps, x66, x68, su.AP, ([] : List Ai), ([] : List AD)⟩ : A8) vo.A1 x70 (0:Int) hz75 wo tm ti vg (XM sj)) (fun _ => ⟨⟨rfl, rfl⟩, ⟨rfl, ⟨rfl, trivial⟩⟩⟩) (fun E76 H1 G sb hO => ?_) (Nd (XL (k := 6) (cs := [iv su.AY, iv su.To, ta.2.1, o66, o68, ta.2.2.2.2.2.2.2, (.tl 0 []), (.tl 0 [])]) (xs := [iv su.AY, iv su.To, A0 lw74 0 su.Steps, A0 lw73 0 x66, A0 lw72 0 x68, A0 lw71 0 su.AP]) (HT rfl (HT rfl (HT (hw74 5) (HT (hw73 5) (HT (hw72 5) (HT (hw71 5) iU)))))) (Nc rfl (Nc rfl (Nc rfl RQ)))))
   exact pE (bn (gn (⟨z75.1, z75.2.1, z75.2.2, E76.2.1, E76.1, E76.2.2.2, E76.2.2.1, _, _, _, hk, sb, (pk hO [1, 2, 0, 9, 10, 11, 12, 13, 14]), sh⟩)))
  rintro _ ⟨x44, x46, x47, o44, F45, o47, F48, J, G, H1, hk, sb, hO, rfl⟩
  refine Cj (AO ?_)
  refine pM (.int _ _) (pg ?_)
  cases hk; exact ⟨_, rfl, o44, F45, o47, F48, _, _, _, sb, (pk hO [3, 4, 5, 6, 7, 8, 0, 1, 2]), sh⟩
 refine Dh (ge (ge (be (have hk := lx se hk; ?_))))
 have tk : q0 < H.length := sd _ (sL _ (dt.2 rfl))
 replace hk := dv hk; subst hk; exact GW (F39, o38, F42, o41) (pk hO [8, 6, 7]) sb (BJ (CS tk) (BJ (Cf (ej sj)) (BJ (Cf (ej sj)) GL))) rfl rfl rfl rfl (by first | exact Or.inl rfl | exact Or.inr rfl)
theorem gR (n : Nat) : bT (gQ n) := by
 induction n with
 | zero =>
  intro ag ae ai ar az r l1 l2 m3 l4 l5 l6 l7 l8 q0 w1 w2 sf sw sc H lk hk hO hS sd hlo sj
  cases hk
 | succ n ih => exact bU ih
def PC (af : Bq) (aa : List AI) (aq : Int) : (List A8 × Int × List Ac × Int) → Option ((List A8 × Int × List Ac × Int) ⊕ List A8) := fun s =>
 (bif decide (s.2.2.2 < (aa.length : Int)) then ((AR aa s.2.2.2).bind fun c12 => ((Vz af c12.A1 c12.At c12.Way).bind fun v14 => ((gQ 1000 (⟨af, aa, aq, s.1, s.2.1, s.2.2.1⟩ : Cb) (⟨s.2.2.2, 0, ([] : List BR), ([] : List BQ), ([] : List Int), ([] : List Ai), ([] : List Ai), ([] : List AD)⟩ : A8) c12.A1 c12.Way v14).bind fun z15 => some (.inl (z15.1, z15.2.1, z15.2.2, AN (s.2.2.2 + 1)))))) else ((bif (decide ((s.1.length : Int) > 300) || decide (s.2.1 > 20000)) then some ([] : List A8) else some s.1).map Sum.inr))
def oY (af : Bq) (aa : List AI) (aq : Int) : Option (List A8) :=
 ((pJ af aa).bind fun v2 => ((bif !v2 then some true else ((Z5 aq (0:Int) (100000:Int)).bind fun v4 => some (!v4))).bind fun t3 => (bif t3 then some ([] : List A8) else (AQ (PC af aa aq) (([] : List A8), 0, ([] : List Ac), (0:Int))))))
theorem fN (hk : oY af aa aq = some r) (sn : 0 < lk.length := by simp) (hlo : EK lk H.length := by simp [EK]) : Aw dp hh 10 [.agg [A0 l1 0 af.A3, A0 l2 m3 af.A4], A0 l4 0 aa, iv aq] H lk = some (A0 0 0 r, H) := by
 refine AH Tryz.func10 rfl Tryz.ntmps10 Tryz.results10 rfl rfl fun hO => ?_
 unfold oY at hk
 refine sr (C0 (cs := [_, _]) hO CB (fun b1 G hO => ?_))
 refine pA (.tl 0 []) (pg (AU (sr ?_)))
 refine Eh hO 0 [_, _] E4 CB ?_
 refine pM (.lit _ _ _) (bk hk fun v2 yo hk => ?_)
 refine Ae (fun _ => gP yo) ?_
 refine pU ?_
 refine pM (.bool _) (bk hk fun t3 ht hk => ?_)
 refine Aa (l1 := [_, _, _, _]) (fun S' => ∃ J, S' = ⟨Ao [(1, A0 l4 0 aa),(2, iv aq),(3, .ptr b1 0),(18, .bool t3)] J, G⟩) ?_ ?_
 ·refine bc (b := !v2) ?_ ?_ <;> intro hg
  ·replace hk := ct hg ht
   refine CK hg (CK hg (CK hg (Ev hg (.bool _) ?_)))
   cases hk; exact pE ⟨_, sh⟩
  replace hk := cf hg ht
  refine AZ hg (pM (.int _ _) (AZ hg (bk hk fun v4 uq hk => ?_)))
  refine Ae (fun _ => HR uq) (AZ hg ?_)
  refine pU ?_
  refine Eu hg (.bool _) ?_
  cases hk; exact pE ⟨_, sh⟩
 rintro _ ⟨J, rfl⟩
 refine pg (As hk ?_ ?_) <;> intro hk
 ·refine sr (pA (.tl 0 []) (pg (Ax (gr ?_))))
  replace hk := dv hk; subst hk; exact Cv hO (LA (k := 0) A8) (Dn (.tl 0 []) CC)
 refine Av (gn (sr (Eh hO 0 [_, _] E4 CB ?_)))
 refine pM (.lit _ _ _) ?_
 refine pM (.int _ _) ?_
 refine G9 [_, _, _, _, _, _, _] rS sG ?_
 refine C0 (cs := [_, _, _, _, _, _, _]) hO sI (fun b5 G hO => ?_)
 refine pA (.ptr _ _) (pg (AU (sr ?_)))
 refine pM (.lit _ _ _) ?_
 refine BE KI ?_
 refine pM (.int _ _) (pg (Bn ?_))
 refine AE (F := PC af aa aq) (fun s S' => ∃ o6 F7 o9 F10 J G, A6 H G [Gr ([]) F7 lk.length s.1 o6, Gr ([]) F10 lk.length s.2.2.1 o9, .Au b5 (.cells 7 [A0 l1 0 af.A3, A0 l2 m3 af.A4, A0 l4 0 aa, iv aq, o6, iv s.2.1, o9]), .Au b1 (.cells 2 [A0 l1 0 af.A3, A0 l2 m3 af.A4])] ∧ S' = ⟨Ao [(3, .ptr b1 0),(7, .ptr b5 0),(24, A0 l4 0 aa),(25, iv (aa.length : Int)),(26, iv s.2.2.2)] J, G⟩) hk ⟨(.tl 0 []), [], (.tl 0 []), [], _, _, (A6.pick (A6.Im (A6.Im hO A8 ([]) lk.length) Ac ([]) lk.length) [1, 0, 2, 3] (by decide) rfl), sh⟩ ?_
 rintro ⟨x6, x8, x9, yb⟩ _ y1 ⟨o6, F7, o9, F10, J, G, hO, rfl⟩ hk se
 refine sr (AO (pg (AU (As hk ?_ ?_)))) <;> intro hk
 ·refine Av (gn (AU (Bn (sr (pM (.int _ _) (bk hk fun c12 zj hk => ?_))))))
  refine pX zj GM BF ?_
  refine CQ (.agg [_, _, _, _]) (EA (lm := 0) (off := 0) zj H8 BF) (C9 hO BF HL (fun b13 G hO => ?_))
  refine pA (.int _ _) ?_
  refine DR (xs := [_, _, _, _]) hO 0 BF rfl (fun G hO => pg ?_)
  refine GC [1,3,5,7,9,11,13,15,17,19,21,23,25,27,29,30] [_,_,_,_,_,_,_,_,_,_,_,_,_,_,_,_] ?_
  refine pM (.ptr _ _) ?_
  refine pM (.int _ _) ?_
  refine G9 [_, _, _, _, _, _, _, _] Kw lE ?_
  refine B4 DD hO 0 (.int _ _) B5 ?_
  refine B4 DO hO 0 (.int _ _) B5 ?_
  refine Eh hO 4 [_, _] E4 CB ?_
  refine B4 DD hO 0 (.int _ _) B5 ?_
  refine B4 CW hO 0 (.int _ _) B5 ?_
  refine B4 DO hO 0 (.int _ _) B5 (bk hk fun v14 hv14 hk => ?_)
  refine Ae (fun _ => JH hv14) ?_
  replace hO := (A6.pick hO [3, 1, 2, 0, 4] (by decide) rfl : A6 _ _ ([.Au b5 (.cells 7 [A0 l1 0 af.A3, A0 l2 m3 af.A4, A0 l4 0 aa, iv aq, o6, iv x8, o9]), Gr ([]) F7 lk.length x6 o6, Gr ([]) F10 lk.length x9 o9] ++ [.Au b13 (.cells 4 [.str c12.Name, iv c12.A1, iv c12.At, iv c12.Way]), .Au b1 (.cells 2 [A0 l1 0 af.A3, A0 l2 m3 af.A4])]))
  refine bk hk fun z15 hz15 hk => XS (vs := [.ptr b5 0, .agg [iv yb, iv 0, (.tl 0 []), (.tl 0 []), (.tl 0 []), (.tl 0 []), (.tl 0 []), (.tl 0 [])], iv c12.A1, iv c12.Way, iv v14]) (caps := []) (rs1 := fun (E16 : List Nat × V × List Nat × V) => [.Au b5 (.cells 7 [A0 l1 0 af.A3, A0 l2 m3 af.A4, A0 l4 0 aa, iv aq, E16.2.1, iv z15.2.1, E16.2.2.2]), Gr ([]) E16.1 lk.length z15.1 E16.2.1, Gr ([]) E16.2.2.1 lk.length z15.2.2 E16.2.2.2]) hO hlo rfl ⟨trivial, ⟨sN, ⟨sN, trivial⟩⟩⟩ (fun _ vg ti tm wo => (gR 1000) (⟨af, aa, aq, x6, x8, x9⟩ : Cb) (⟨yb, 0, ([] : List BR), ([] : List BQ), ([] : List Int), ([] : List Ai), ([] : List Ai), ([] : List AD)⟩ : A8) c12.A1 c12.Way v14 hz15 wo tm ti vg tB) (fun _ => ⟨rfl, ⟨rfl, ⟨rfl, trivial⟩⟩⟩) (fun E16 G hO => ?_) (Nd (XL (k := 6) (cs := [iv yb, iv 0, (.tl 0 []), (.tl 0 []), (.tl 0 []), (.tl 0 []), (.tl 0 []), (.tl 0 [])]) (xs := [iv yb, iv 0, .lit (lk.length + 1) 0 [], .lit (lk.length + 1) 0 [], .lit (lk.length + 1) 0 [], .lit (lk.length + 1) 0 []]) (HT rfl (HT rfl (HT rfl (HT rfl (HT rfl (HT rfl iU)))))) (Nc rfl (Nc rfl (Nc rfl RQ)))))
  refine pE (bn (gn (Cj (AO ?_))))
  refine pM (.int _ _) (pg ?_)
  cases hk; exact ⟨_, rfl, E16.2.1, E16.1, E16.2.2.2, E16.2.2.1, _, _, (pk hO [1, 2, 0, 4]), sh⟩
 refine Dh (ge (ge (be (gn (have hk := lx se hk; AU (sr (pM (.ptr _ _) ?_)))))))
 refine Bw ?_
 refine B4 Mi hO 2 o6 Wp ?_
 refine TW hO 0 Tf ?_
 refine AO ?_
 refine pM (.bool _) ?_
 refine Aa (l1 := [_, _, _, _, _, _]) (fun S' => ∃ J, S' = ⟨Ao [(7, .ptr b5 0),(60, .bool (decide ((x6.length : Int) > 300) || decide (x8 > 20000)))] J, G⟩) ?_ ?_
 ·refine bc (b := decide ((x6.length : Int) > 300)) ?_ ?_ <;> intro hg
  ·repeat refine CK hg ?_
   refine Ev hg (.bool _) ?_
   exact pE ⟨_, St.Ao _ ⟨rfl, by rw [hg]; rfl, trivial⟩⟩
  refine AZ hg (pM (.ptr _ _) (AZ hg ?_))
  refine Bw (AZ hg ?_)
  refine pF Oh (AZ hg ?_)
  refine Eg hO 2 (.int _ _) B5 (AZ hg ?_)
  refine AO ?_
  refine Eu hg (.bool _) ?_
  exact pE ⟨_, St.Ao _ ⟨rfl, by rw [hg]; rfl, trivial⟩⟩
 rintro _ ⟨J, rfl⟩
 refine pg (As hk ?_ ?_) <;> intro hk
 ·refine sr (pA (.tl 0 []) (pg (Ax (gr ?_))))
  replace hk := dv hk; subst hk; exact Cv hO (LA (k := 0) A8) (Dn (.tl 0 []) CC)
 refine Av (gn (sr (pM (.ptr _ _) ?_)))
 refine Bw ?_
 refine B4 Mi hO 2 o6 Wp ?_
 refine pA o6 (pg (Ax ?_))
 replace hk := dv hk; subst hk; exact Cv hO (kI (xs := x6) sn 0) (Dn o6 CC)
def OF (bd : ByteArray) : Int → Option (Int ⊕ Bool) := fun s =>
 (bif decide (s < (bd.size : Int)) then ((HD bd s).bind fun c2 => (bif !(((decide (c2 ≥ 97) && decide (c2 ≤ 122)) || (decide (c2 ≥ 48) && decide (c2 ≤ 57))) || (c2 == 95)) then ((some false).map Sum.inr) else some (.inl (AN (s + 1))))) else ((some true).map Sum.inr))
def Vt (bd : ByteArray) : Option Bool :=
 (bif (decide ((bd.size : Int) < 1) || decide ((bd.size : Int) > 20)) then some false else (AQ (OF bd) ((0:Int))))
theorem PH (hk : Vt bd = some r) (sn : 0 < lk.length := by simp) : Aw dp hh 146 [.str bd] H lk = some (.bool r, H) := by
 refine AH Tryz.func146 rfl Tryz.ntmps146 Tryz.results146 rfl rfl fun hO => ?_
 unfold Vt at hk
 refine sr (pA (.bool _) (pg (AU (sr ?_))))
 refine pM (.str _) ?_
 refine BE jY ?_
 refine AO ?_
 refine pM (.bool _) ?_
 refine Aa (l1 := [_, _, _, _]) (fun S' => ∃ J, S' = ⟨Ao [(0, .str bd),(12, .bool (decide ((bd.size : Int) < 1) || decide ((bd.size : Int) > 20)))] J, H⟩) ?_ ?_
 ·refine bc (b := decide ((bd.size : Int) < 1)) ?_ ?_ <;> intro hg
  ·refine CK hg (CK hg (CK hg (Ev hg (.bool _) ?_)))
   exact pE ⟨_, St.Ao _ ⟨rfl, by rw [hg]; rfl, trivial⟩⟩
  refine AZ hg (pM (.str _) (AZ hg ?_))
  refine BE jY (AZ hg ?_)
  refine AO ?_
  refine Eu hg (.bool _) ?_
  exact pE ⟨_, St.Ao _ ⟨rfl, by rw [hg]; rfl, trivial⟩⟩
 rintro _ ⟨J, rfl⟩
 refine pg (As hk ?_ ?_) <;> intro hk
 ·refine sr (pA (.bool _) (pg (Ax (gr ?_))))
  cases hk; exact Ah hO
 refine Av (gn (AU (sr (pA (.int _ _) (pg (Bn ?_))))))
 refine AE (F := OF bd) (fun s S' => ∃ J G, A6 H G [] ∧ S' = ⟨Ao [(0, .str bd),(3, iv s)] J, G⟩) hk ⟨_, _, hO, sh⟩ ?_
 rintro x1 _ y1 ⟨J, G, hO, rfl⟩ hk se
 refine AU (sr (pM (.int _ _) ?_))
 refine pM (.str _) ?_
 refine BE jY ?_
 refine AO (pg (As hk ?_ ?_)) <;> intro hk
 ·refine Av (gn (AU (Bn (sr (pM (.str _) ?_)))))
  refine pM (.int _ _) (bk hk fun c2 tv hk => ?_)
  refine vK Tryz.underlying9 tv ?_
  refine pA (.int _ _) (pg (sr ?_))
  refine pM (.int _ _) ?_
  refine AO ?_
  refine pM (.bool _) ?_
  refine Aa (l1 := [_, _, _]) (fun S' => ∃ J, S' = ⟨Ao [(0, .str bd),(3, iv x1),(4, .int .u8 c2),(27, .bool (decide (c2 ≥ 97) && decide (c2 ≤ 122)))] J, G⟩) ?_ ?_
  ·refine bc (b := decide (c2 ≥ 97)) ?_ ?_ <;> intro hg
   ·refine AZ hg (pM (.int _ _) (AZ hg ?_))
    refine AO ?_
    refine Ev hg (.bool _) ?_
    exact pE ⟨_, St.Ao _ ⟨rfl, rfl, rfl, by rw [hg]; rfl, trivial⟩⟩
   refine CK hg (CK hg (Eu hg (.bool _) ?_))
   exact pE ⟨_, St.Ao _ ⟨rfl, rfl, rfl, by rw [hg]; rfl, trivial⟩⟩
  rintro _ ⟨J, rfl⟩
  refine pM (.bool _) ?_
  refine Aa (l1 := [_, _, _, _, _, _, _]) (fun S' => ∃ J, S' = ⟨Ao [(0, .str bd),(3, iv x1),(4, .int .u8 c2),(35, .bool ((decide (c2 ≥ 97) && decide (c2 ≤ 122)) || (decide (c2 ≥ 48) && decide (c2 ≤ 57))))] J, G⟩) ?_ ?_
  ·refine bc (b := (decide (c2 ≥ 97) && decide (c2 ≤ 122))) ?_ ?_ <;> intro hg
   ·refine CK hg (CK hg (CK hg (E9 (E9 (CK hg (Ev hg (.bool _) ?_))))))
    exact pE ⟨_, St.Ao _ ⟨rfl, rfl, rfl, by rw [hg]; rfl, trivial⟩⟩
   refine AZ hg (pM (.int _ _) (AZ hg ?_))
   refine AO (AZ hg ?_)
   refine pM (.bool _) ?_
   refine Aa (l1 := [_, _, _]) (fun S' => ∃ J, S' = ⟨Ao [(0, .str bd),(3, iv x1),(4, .int .u8 c2),(28, .bool (decide (c2 ≥ 97) && decide (c2 ≤ 122))),(34, .bool (decide (c2 ≥ 48) && decide (c2 ≤ 57)))] J, G⟩) ?_ ?_
   ·refine bc (b := decide (c2 ≥ 48)) (fun si => ?_) (fun si => ?_)
    ·refine AZ si (pM (.int _ _) (AZ si ?_))
     refine AO (AZ hg ?_)
     refine Ev si (.bool _) ?_
     exact pE ⟨_, St.Ao _ ⟨rfl, rfl, rfl, rfl, by rw [si]; rfl, trivial⟩⟩
    refine CK si (CK si (AZ hg (Eu si (.bool _) ?_)))
    exact pE ⟨_, St.Ao _ ⟨rfl, rfl, rfl, rfl, by rw [si]; rfl, trivial⟩⟩
   rintro _ ⟨J, rfl⟩
   refine Eu hg (.bool _) ?_
   exact pE ⟨_, St.Ao _ ⟨rfl, rfl, rfl, by rw [hg]; rfl, trivial⟩⟩
  rintro _ ⟨J, rfl⟩
  refine pM (.bool _) ?_
  refine Aa (l1 := [_, _, _]) (fun S' => ∃ J, S' = ⟨Ao [(0, .str bd),(3, iv x1),(39, .bool (((decide (c2 ≥ 97) && decide (c2 ≤ 122)) || (decide (c2 ≥ 48) && decide (c2 ≤ 57))) || (c2 == 95)))] J, G⟩) ?_ ?_
  ·refine bc (b := ((decide (c2 ≥ 97) && decide (c2 ≤ 122)) || (decide (c2 ≥ 48) && decide (c2 ≤ 57)))) ?_ ?_ <;> intro hg
   ·refine CK hg (CK hg (Ev hg (.bool _) ?_))
    exact pE ⟨_, St.Ao _ ⟨rfl, rfl, by rw [hg]; rfl, trivial⟩⟩
   refine AZ hg (pM (.int _ _) (AZ hg ?_))
   refine AO ?_
   refine Eu hg (.bool _) ?_
   exact pE ⟨_, St.Ao _ ⟨rfl, rfl, by rw [hg]; rfl, trivial⟩⟩
  rintro _ ⟨J, rfl⟩
  refine pU (pg (As hk ?_ ?_)) <;> intro hk
  ·refine sr (pA (.bool _) (pg (Ax (br (gr (gr (br (gr (have hk := lx se hk; ?_)))))))))
   cases hk; exact Ah hO
  refine Av (bn (gn (Cj (pM (.int _ _) ?_))))
  refine AO ?_
  refine pA (.int _ _) (pg ?_)
  cases hk; exact ⟨_, rfl, _, _, hO, sh⟩
 refine Dh (ge (ge (be (gn (have hk := lx se hk; sr (pA (.bool _) (pg (Ax ?_))))))))
 cases hk; exact Ah hO
def bH (bt : A1) : Option Bool :=
 ((Vt bt.Name).bind fun v2 => some ((((((v2 && decide (bt.Bo ≥ 1)) && decide (bt.Bo ≤ 10000000)) && decide (bt.Cc ≥ 1)) && decide (bt.Cc ≤ 10000)) && decide (bt.DM ≥ 1)) && decide (bt.DM ≤ 1000)))
theorem bI (hk : bH bt = some r) (sn : 0 < lk.length := by simp) : Aw dp hh 245 [.agg [.str bt.Name, iv bt.Bo, iv bt.Cc, iv bt.DM]] H lk = some (.bool r, H) := by
 refine AH Tryz.func245 rfl Tryz.ntmps245 Tryz.results245 rfl rfl fun hO => ?_
 unfold bH at hk
 refine sr (C0 (cs := [_, _, _, _]) hO Cp (fun b1 G hO => ?_))
 refine pA (.bool _) (pg (sr ?_))
 refine B4 Gn hO 0 (.str _) Kx (bk hk fun v2 yo hk => ?_)
 refine Ae (fun _ => PH yo) ?_
 refine pM (.bool _) ?_
 refine Aa (l1 := [_, _, _, _]) (fun S' => ∃ J, S' = ⟨Ao [(1, .ptr b1 0),(10, .bool (v2 && decide (bt.Bo ≥ 1)))] J, G⟩) ?_ ?_
 ·refine bc (b := v2) ?_ ?_ <;> intro hg
  ·refine AZ hg (pF Dj (AZ hg ?_))
   refine Eg hO 0 (.int _ _) B5 (AZ hg ?_)
   refine AO ?_
   refine Ev hg (.bool _) ?_
   exact pE ⟨_, St.Ao _ ⟨rfl, by rw [hg]; rfl, trivial⟩⟩
  refine CK hg (CK hg (CK hg (Eu hg (.bool _) ?_)))
  exact pE ⟨_, St.Ao _ ⟨rfl, by rw [hg]; rfl, trivial⟩⟩
 rintro _ ⟨J, rfl⟩
 refine pM (.bool _) ?_
 refine Aa (l1 := [_, _, _, _]) (fun S' => ∃ J, S' = ⟨Ao [(1, .ptr b1 0),(15, .bool ((v2 && decide (bt.Bo ≥ 1)) && decide (bt.Bo ≤ 10000000)))] J, G⟩) ?_ ?_
 ·refine bc (b := (v2 && decide (bt.Bo ≥ 1))) ?_ ?_ <;> intro hg
  ·refine AZ hg (pF Dj (AZ hg ?_))
   refine Eg hO 0 (.int _ _) B5 (AZ hg ?_)
   refine AO ?_
   refine Ev hg (.bool _) ?_
   exact pE ⟨_, St.Ao _ ⟨rfl, by rw [hg]; rfl, trivial⟩⟩
  refine CK hg (CK hg (CK hg (Eu hg (.bool _) ?_)))
  exact pE ⟨_, St.Ao _ ⟨rfl, by rw [hg]; rfl, trivial⟩⟩
 rintro _ ⟨J, rfl⟩
 refine pM (.bool _) ?_
 refine Aa (l1 := [_, _, _, _]) (fun S' => ∃ J, S' = ⟨Ao [(1, .ptr b1 0),(20, .bool (((v2 && decide (bt.Bo ≥ 1)) && decide (bt.Bo ≤ 10000000)) && decide (bt.Cc ≥ 1)))] J, G⟩) ?_ ?_
 ·refine bc (b := ((v2 && decide (bt.Bo ≥ 1)) && decide (bt.Bo ≤ 10000000))) ?_ ?_ <;> intro hg
  ·refine AZ hg (pF JY (AZ hg ?_))
   refine Eg hO 0 (.int _ _) B5 (AZ hg ?_)
   refine AO ?_
   refine Ev hg (.bool _) ?_
   exact pE ⟨_, St.Ao _ ⟨rfl, by rw [hg]; rfl, trivial⟩⟩
  refine CK hg (CK hg (CK hg (Eu hg (.bool _) ?_)))
  exact pE ⟨_, St.Ao _ ⟨rfl, by rw [hg]; rfl, trivial⟩⟩
 rintro _ ⟨J, rfl⟩
 refine pM (.bool _) ?_
 refine Aa (l1 := [_, _, _, _]) (fun S' => ∃ J, S' = ⟨Ao [(1, .ptr b1 0),(25, .bool ((((v2 && decide (bt.Bo ≥ 1)) && decide (bt.Bo ≤ 10000000)) && decide (bt.Cc ≥ 1)) && decide (bt.Cc ≤ 10000)))] J, G⟩) ?_ ?_
 ·refine bc (b := (((v2 && decide (bt.Bo ≥ 1)) && decide (bt.Bo ≤ 10000000)) && decide (bt.Cc ≥ 1))) ?_ ?_ <;> intro hg
  ·refine AZ hg (pF JY (AZ hg ?_))
   refine Eg hO 0 (.int _ _) B5 (AZ hg ?_)
   refine AO ?_
   refine Ev hg (.bool _) ?_
   exact pE ⟨_, St.Ao _ ⟨rfl, by rw [hg]; rfl, trivial⟩⟩
  refine CK hg (CK hg (CK hg (Eu hg (.bool _) ?_)))
  exact pE ⟨_, St.Ao _ ⟨rfl, by rw [hg]; rfl, trivial⟩⟩
 rintro _ ⟨J, rfl⟩
 refine pM (.bool _) ?_
 refine Aa (l1 := [_, _, _, _]) (fun S' => ∃ J, S' = ⟨Ao [(1, .ptr b1 0),(30, .bool (((((v2 && decide (bt.Bo ≥ 1)) && decide (bt.Bo ≤ 10000000)) && decide (bt.Cc ≥ 1)) && decide (bt.Cc ≤ 10000)) && decide (bt.DM ≥ 1)))] J, G⟩) ?_ ?_
 ·refine bc (b := ((((v2 && decide (bt.Bo ≥ 1)) && decide (bt.Bo ≤ 10000000)) && decide (bt.Cc ≥ 1)) && decide (bt.Cc ≤ 10000))) ?_ ?_ <;> intro hg
  ·refine AZ hg (pF JZ (AZ hg ?_))
   refine Eg hO 0 (.int _ _) B5 (AZ hg ?_)
   refine AO ?_
   refine Ev hg (.bool _) ?_
   exact pE ⟨_, St.Ao _ ⟨rfl, by rw [hg]; rfl, trivial⟩⟩
  refine CK hg (CK hg (CK hg (Eu hg (.bool _) ?_)))
  exact pE ⟨_, St.Ao _ ⟨rfl, by rw [hg]; rfl, trivial⟩⟩
 rintro _ ⟨J, rfl⟩
 refine pM (.bool _) ?_
 refine Aa (l1 := [_, _, _, _]) (fun S' => ∃ J, S' = ⟨Ao [(35, .bool ((((((v2 && decide (bt.Bo ≥ 1)) && decide (bt.Bo ≤ 10000000)) && decide (bt.Cc ≥ 1)) && decide (bt.Cc ≤ 10000)) && decide (bt.DM ≥ 1)) && decide (bt.DM ≤ 1000)))] J, G⟩) ?_ ?_
 ·refine bc (b := (((((v2 && decide (bt.Bo ≥ 1)) && decide (bt.Bo ≤ 10000000)) && decide (bt.Cc ≥ 1)) && decide (bt.Cc ≤ 10000)) && decide (bt.DM ≥ 1))) ?_ ?_ <;> intro hg
  ·refine AZ hg (pF JZ (AZ hg ?_))
   refine Eg hO 0 (.int _ _) B5 (AZ hg ?_)
   refine AO ?_
   refine Ev hg (.bool _) ?_
   exact pE ⟨_, St.Ao _ ⟨by rw [hg]; rfl, trivial⟩⟩
  refine CK hg (CK hg (CK hg (Eu hg (.bool _) ?_)))
  exact pE ⟨_, St.Ao _ ⟨by rw [hg]; rfl, trivial⟩⟩
 rintro _ ⟨J, rfl⟩
 refine pA (.bool _) (pg (Ax ?_))
 cases hk; exact Ah hO
def M4 (af : Bq) (x9 : Int) (ss : AG) : Int → Option (Int ⊕ (Int ⊕ BW)) := fun s =>
 (bif decide (s < (ss.Ends.length : Int)) then ((AR ss.Ends s).bind fun vj => (bif (((decide (vj.A1 < 0) || decide (vj.A1 ≥ (af.A3.length : Int))) || decide (vj.BI < 0)) || decide (vj.BI > 1)) then (((some (⟨(3:Int), x9⟩ : BW)).map Sum.inr).map Sum.inr) else some (.inl (AN (s + 1))))) else ((some (.inl (AN (x9 + 1)))).map Sum.inr))
def OP (x17 : Int) (x18 : List (ByteArray × Bool)) : Option (((List (ByteArray × Bool)) × Int) ⊕ BW) :=
 some (.inl (x18, AN (x17 + 1)))
def OO (x24 : Int) (xi : AG) : ((List (Ac × Int)) × Int) → Option (((List (Ac × Int)) × Int) ⊕ (((List (Ac × Int)) × Int) ⊕ BW)) := fun s =>
 (bif decide (s.2 < (xi.Ends.length : Int)) then ((AR xi.Ends s.2).bind fun c29 => some (.inl (Dx c29 (AN ((Dw c29 s.1 0) + 1)) s.1, AN (s.2 + 1)))) else ((some (.inl (s.1, AN (x24 + 1)))).map Sum.inr))
def M7 (af : Bq) (x23 : List (Ac × Int)) : Int → Option (Int ⊕ BW) := fun s =>
 (bif decide (s < (af.A3.length : Int)) then (bif (((Dw (⟨s, (0:Int)⟩ : Ac) x23 0) != 1) || ((Dw (⟨s, (1:Int)⟩ : Ac) x23 0) != 1)) then ((some (⟨(5:Int), s⟩ : BW)).map Sum.inr) else some (.inl (AN (s + 1)))) else ((some (⟨0, 0⟩ : BW)).map Sum.inr))
def M6 (af : Bq) : ((List (Ac × Int)) × Int) → Option (((List (Ac × Int)) × Int) ⊕ BW) := fun s =>
 (bif decide (s.2 < (af.A4.length : Int)) then ((AR af.A4 s.2).bind fun xi => (AQ (OO s.2 xi) (s.1, (0:Int)))) else ((AQ (M7 af s.1) ((0:Int))).map Sum.inr))
def M5 (af : Bq) : ((List (ByteArray × Bool)) × Int) → Option (((List (ByteArray × Bool)) × Int) ⊕ BW) := fun s =>
 (bif decide (s.2 < (af.A4.length : Int)) then ((AR af.A4 s.2).bind fun yc => (bif decide (yc.Kind ≤ 2) then (bif !(yc.Name.toList == ({ data := #[] } : ByteArray).toList) then ((some (⟨(4:Int), s.2⟩ : BW)).map Sum.inr) else (OP s.2 s.1)) else ((Vt yc.Name).bind fun v21 => (bif (!v21 || (Dw yc.Name s.1 false)) then ((some (⟨(4:Int), s.2⟩ : BW)).map Sum.inr) else (OP s.2 (Dx yc.Name true s.1)))))) else ((AQ (M6 af) (([] : List (Ac × Int)), (0:Int))).map Sum.inr))
def Lz (af : Bq) : Int → Option (Int ⊕ BW) := fun s =>
 (bif decide (s < (af.A4.length : Int)) then ((AR af.A4 s).bind fun ss => (bif ((decide (ss.Kind < 1) || decide (ss.Kind > 4)) || ((ss.Ends.length : Int) != ss.Kind)) then ((some (⟨(3:Int), s⟩ : BW)).map Sum.inr) else (AQ (M4 af s ss) ((0:Int))))) else ((AQ (M5 af) (([] : List (ByteArray × Bool)), (0:Int))).map Sum.inr))
def Ly (af : Bq) : ((List (ByteArray × Bool)) × Int) → Option (((List (ByteArray × Bool)) × Int) ⊕ BW) := fun s =>
 (bif decide (s.2 < (af.A3.length : Int)) then ((AR af.A3 s.2).bind fun c6 => ((bH c6).bind fun v8 => (bif (!v8 || (Dw c6.Name s.1 false)) then ((some (⟨(2:Int), s.2⟩ : BW)).map Sum.inr) else some (.inl (Dx c6.Name true s.1, AN (s.2 + 1)))))) else ((AQ (Lz af) ((0:Int))).map Sum.inr))
def aS (af : Bq) : Option BW :=
 (bif ((((af.A3.length : Int) == 0) || decide ((af.A3.length : Int) > 100)) || decide ((af.A4.length : Int) > 120)) then some (⟨(1:Int), (0:Int)⟩ : BW) else (AQ (Ly af) (([] : List (ByteArray × Bool)), (0:Int))))
theorem aT (hk : aS af = some r) (sn : 0 < lk.length := by simp) : Aw dp hh 199 [.agg [A0 l1 0 af.A3, A0 l2 m3 af.A4]] H lk = some (.agg [iv r.Code, iv r.At], H) := by
 refine AH Tryz.func199 rfl Tryz.ntmps199 Tryz.results199 rfl rfl fun hO => ?_
 unfold aS at hk
 refine sr (C0 (cs := [_, _]) hO CB (fun b1 G hO => C9 hO Bj DU (fun b2 G hO => pg (AU (sr ?_)))))
 refine B4 D0 hO 1 (.lit _ _ _) Gd ?_
 refine BE Km ?_
 refine AO ?_
 refine pM (.bool _) ?_
 refine Aa (l1 := [_, _, _, _, _]) (fun S' => ∃ J, S' = ⟨Ao [(1, .ptr b1 0),(2, .ptr b2 0),(27, .bool (((af.A3.length : Int) == 0) || decide ((af.A3.length : Int) > 100)))] J, G⟩) ?_ ?_
 ·refine bc (b := ((af.A3.length : Int) == 0)) ?_ ?_ <;> intro hg
  ·repeat refine CK hg ?_
   refine Ev hg (.bool _) ?_
   exact pE ⟨_, St.Ao _ ⟨rfl, rfl, by rw [hg]; rfl, trivial⟩⟩
  refine AZ hg (pF D0 (AZ hg ?_))
  refine Eg hO 1 (.lit _ _ _) Gd (AZ hg ?_)
  refine BE Km (AZ hg ?_)
  refine AO ?_
  refine Eu hg (.bool _) ?_
  exact pE ⟨_, St.Ao _ ⟨rfl, rfl, by rw [hg]; rfl, trivial⟩⟩
 rintro _ ⟨J, rfl⟩
 refine pM (.bool _) ?_
 refine Aa (l1 := [_, _, _, _, _]) (fun S' => ∃ J, S' = ⟨Ao [(1, .ptr b1 0),(2, .ptr b2 0),(33, .bool ((((af.A3.length : Int) == 0) || decide ((af.A3.length : Int) > 100)) || decide ((af.A4.length : Int) > 120)))] J, G⟩) ?_ ?_
 ·refine bc (b := (((af.A3.length : Int) == 0) || decide ((af.A3.length : Int) > 100))) ?_ ?_ <;> intro hg
  ·repeat refine CK hg ?_
   refine Ev hg (.bool _) ?_
   exact pE ⟨_, St.Ao _ ⟨rfl, rfl, by rw [hg]; rfl, trivial⟩⟩
  refine AZ hg (pF DK (AZ hg ?_))
  refine Eg hO 1 (.lit _ _ _) HF (AZ hg ?_)
  refine BE NO (AZ hg ?_)
  refine AO ?_
  refine Eu hg (.bool _) ?_
  exact pE ⟨_, St.Ao _ ⟨rfl, rfl, by rw [hg]; rfl, trivial⟩⟩
 rintro _ ⟨J, rfl⟩
 refine pg (As hk ?_ ?_) <;> intro hk
 ·refine sr (G9 [_, _] DU EJ ?_)
  refine DR (xs := [_, _]) hO 0 Bj rfl (fun G hO => pg (Ax (gr ?_)))
  replace hk := dv hk; subst hk; exact Cv hO (C8 (n := 2) (BV (Af _ _) (BV (Af _ _) (Dm)))) (EW hO 0 [_, _] Ed Bj CC)
 refine Av (gn (sr (tD ByteArray Bool hO (fun b3 G hO => ?_))))
 refine pA (.Cm _) (pg (AU (sr ?_)))
 refine B4 D0 hO 2 (.lit _ _ _) Gd ?_
 refine BE Km ?_
 refine pM (.int _ _) (pg (Bn ?_))
 refine AE (F := Ly af) (fun s S' => ∃ J G, A6 H G [.Au b3 (.mp (BC s.1)), .Au b2 (.cells 2 [iv 0, iv 0]), .Au b1 (.cells 2 [A0 l1 0 af.A3, A0 l2 m3 af.A4])] ∧ S' = ⟨Ao [(1, .ptr b1 0),(2, .ptr b2 0),(3, .Cm b3),(37, A0 l1 0 af.A3),(38, iv (af.A3.length : Int)),(39, iv s.2)] J, G⟩) hk ⟨_, _, hO, sh⟩ ?_
 rintro ⟨x4, x5⟩ _ y1 ⟨J, G, hO, rfl⟩ hk se
 refine sr (AO (pg (AU (As hk ?_ ?_)))) <;> intro hk
 ·refine Av (gn (AU (Bn (sr (pM (.int _ _) (bk hk fun c6 xo hk => ?_))))))
  refine pX xo IB Cp ?_
  refine CQ (.agg [_, _, _, _]) (EA (lm := 0) (off := 0) xo R7 Cp) (C9 hO Cp VC (fun b7 G hO => ?_))
  refine pA (.int _ _) ?_
  refine DR (xs := [_, _, _, _]) hO 0 Cp rfl (fun G hO => pg (AU (sr ?_)))
  refine Eh hO 0 [_, _, _, _] R7 Cp (bk hk fun v8 hv8 hk => ?_)
  refine Ae (fun _ => bI hv8) ?_
  refine pU ?_
  refine pM (.bool _) ?_
  refine Aa (l1 := [_, _, _, _, _]) (fun S' => ∃ J, S' = ⟨Ao [(1, .ptr b1 0),(2, .ptr b2 0),(3, .Cm b3),(4, iv x5),(5, .ptr b7 0),(37, A0 l1 0 af.A3),(38, iv (af.A3.length : Int)),(39, iv x5),(52, .bool (!v8 || (Dw c6.Name x4 false)))] J, G⟩) ?_ ?_
  ·refine bc (b := !v8) ?_ ?_ <;> intro hg
   ·repeat refine CK hg ?_
    refine Ev hg (.bool _) ?_
    exact pE ⟨_, St.Ao _ ⟨rfl, rfl, rfl, rfl, rfl, rfl, rfl, rfl, by rw [hg]; rfl, trivial⟩⟩
   refine AZ hg (pM (.Cm _) (AZ hg ?_))
   refine pF Gn (AZ hg ?_)
   refine Eg hO 0 (.str _) Kx (AZ hg ?_)
   refine oF c6.Name (false : Bool) (hO.get (k := 1) rfl).1 Xi OZ uV ?_
   refine Eu hg (.bool _) ?_
   exact pE ⟨_, St.Ao _ ⟨rfl, rfl, rfl, rfl, rfl, rfl, rfl, rfl, by rw [hg]; rfl, trivial⟩⟩
  rintro _ ⟨J, rfl⟩
  refine pg (As hk ?_ ?_) <;> intro hk
  ·refine sr (pM (.int _ _) ?_)
   refine G9 [_, _] DU EJ ?_
   refine DR (xs := [_, _]) hO 2 Bj rfl (fun G hO => pg (Ax (gr (br (gr (gr (br (gr (have hk := lx se hk; ?_)))))))))
   replace hk := dv hk; subst hk; exact Cv hO (C8 (n := 2) (BV (Af _ _) (BV (Af _ _) (Dm)))) (EW hO 2 [_, _] Ed Bj CC)
  refine Av (gn (Cj (pM (.Cm _) ?_)))
  refine B4 Gn hO 0 (.str _) Kx ?_
  refine vM hO 1 c6.Name true Xi OZ rfl (fun G hO => pE (bn (gn (Cj ?_))))
  refine AO ?_
  refine pM (.int _ _) (pg ?_)
  cases hk; exact ⟨_, rfl, _, _, (pk hO [1, 2, 3]), sh⟩
 refine Dh (ge (ge (be (gn (have hk := lx se hk; AU (sr (B4 DK hO 2 (.lit _ _ _) HF ?_)))))))
 refine BE NO ?_
 refine pM (.int _ _) (pg (Bn ?_))
 refine AE (F := Lz af) (fun s S' => ∃ J G, A6 H G [.Au b2 (.cells 2 [iv 0, iv 0]), .Au b1 (.cells 2 [A0 l1 0 af.A3, A0 l2 m3 af.A4])] ∧ S' = ⟨Ao [(1, .ptr b1 0),(2, .ptr b2 0),(60, A0 l2 m3 af.A4),(61, iv (af.A4.length : Int)),(62, iv s)] J, G⟩) hk ⟨_, _, (pk hO [1, 2]), sh⟩ ?_
 rintro x9 _ y1 ⟨J, G, hO, rfl⟩ hk se
 refine sr (AO (pg (AU (As hk ?_ ?_)))) <;> intro hk
 ·refine Av (gn (AU (Bn (sr (pM (.int _ _) (bk hk fun ss sy hk => ?_))))))
  refine pX sy HA BY ?_
  refine CQ (.agg [_, _, _]) (EA (lm := m3) (off := 0) sy I5 BY) (C9 hO BY Ji (fun b11 G hO => ?_))
  refine pA (.int _ _) ?_
  refine DR (xs := [_, _, _]) hO 0 BY rfl (fun G hO => pg (AU (sr ?_)))
  refine B4 DE hO 0 (.int _ _) B5 ?_
  refine AO ?_
  refine pM (.bool _) ?_
  refine Aa (l1 := [_, _, _, _]) (fun S' => ∃ J, S' = ⟨Ao [(1, .ptr b1 0),(2, .ptr b2 0),(6, iv x9),(7, .ptr b11 0),(60, A0 l2 m3 af.A4),(61, iv (af.A4.length : Int)),(62, iv x9),(74, .bool (decide (ss.Kind < 1) || decide (ss.Kind > 4)))] J, G⟩) ?_ ?_
  ·refine bc (b := decide (ss.Kind < 1)) ?_ ?_ <;> intro hg
   ·refine CK hg (CK hg (CK hg (Ev hg (.bool _) ?_)))
    exact pE ⟨_, St.Ao _ ⟨rfl, rfl, rfl, rfl, rfl, rfl, rfl, by rw [hg]; rfl, trivial⟩⟩
   refine AZ hg (pF DE (AZ hg ?_))
   refine Eg hO 0 (.int _ _) B5 (AZ hg ?_)
   refine AO ?_
   refine Eu hg (.bool _) ?_
   exact pE ⟨_, St.Ao _ ⟨rfl, rfl, rfl, rfl, rfl, rfl, rfl, by rw [hg]; rfl, trivial⟩⟩
  rintro _ ⟨J, rfl⟩
  refine pM (.bool _) ?_
  refine Aa (l1 := [_, _, _, _, _, _, _]) (fun S' => ∃ J, S' = ⟨Ao [(1, .ptr b1 0),(2, .ptr b2 0),(6, iv x9),(7, .ptr b11 0),(60, A0 l2 m3 af.A4),(61, iv (af.A4.length : Int)),(62, iv x9),(82, .bool ((decide (ss.Kind < 1) || decide (ss.Kind > 4)) || ((ss.Ends.length : Int) != ss.Kind)))] J, G⟩) ?_ ?_
  ·refine bc (b := (decide (ss.Kind < 1) || decide (ss.Kind > 4))) ?_ ?_ <;> intro hg
   ·repeat refine CK hg ?_
    refine Ev hg (.bool _) ?_
    exact pE ⟨_, St.Ao _ ⟨rfl, rfl, rfl, rfl, rfl, rfl, rfl, by rw [hg]; rfl, trivial⟩⟩
   refine AZ hg (pF Ct (AZ hg ?_))
   refine Eg hO 0 (.lit _ _ _) Ew (AZ hg ?_)
   refine BE HM (AZ hg ?_)
   refine pF DE (AZ hg ?_)
   refine Eg hO 0 (.int _ _) B5 (AZ hg ?_)
   refine AO ?_
   refine Eu hg (.bool _) ?_
   exact pE ⟨_, St.Ao _ ⟨rfl, rfl, rfl, rfl, rfl, rfl, rfl, by rw [hg]; rfl, trivial⟩⟩
  rintro _ ⟨J, rfl⟩
  refine pg (As hk ?_ ?_) <;> intro hk
  ·refine sr (pM (.int _ _) ?_)
   refine G9 [_, _] DU EJ ?_
   refine DR (xs := [_, _]) hO 1 Bj rfl (fun G hO => pg (Ax (gr (br (gr (gr (br (gr (have hk := lx se hk; ?_)))))))))
   replace hk := dv hk; subst hk; exact Cv hO (C8 (n := 2) (BV (Af _ _) (BV (Af _ _) (Dm)))) (EW hO 1 [_, _] Ed Bj CC)
  refine Av (gn (sr (B4 Ct hO 0 (.lit _ _ _) Ew ?_)))
  refine BE HM ?_
  refine pM (.int _ _) (pg (Bn ?_))
  refine AE (F := M4 af x9 ss) (fun s S' => ∃ J G, A6 H G [.Au b2 (.cells 2 [iv 0, iv 0]), .Au b1 (.cells 2 [A0 l1 0 af.A3, A0 l2 m3 af.A4])] ∧ S' = ⟨Ao [(1, .ptr b1 0),(2, .ptr b2 0),(6, iv x9),(60, A0 l2 m3 af.A4),(61, iv (af.A4.length : Int)),(62, iv x9),(86, A0 m3 0 ss.Ends),(87, iv (ss.Ends.length : Int)),(88, iv s)] J, G⟩) hk ⟨_, _, (pk hO [1, 2]), sh⟩ ?_
  rintro x12 _ y2 ⟨J, G, hO, rfl⟩ hk wj
  refine sr (AO (pg (AU (As hk ?_ ?_)))) <;> intro hk
  ·refine Av (gn (AU (Bn (sr (bk hk fun vj vq hk => pX vq CV AS ?_)))))
   refine CQ (.agg [_, _]) (EA (lm := 0) (off := 0) vq Br AS) (C9 hO AS Cw (fun b14 G hO => ?_))
   refine DR (xs := [_, _]) hO 0 AS rfl (fun G hO => pg (sr ?_))
   refine B4 Dk hO 0 (.int _ _) B5 ?_
   refine AO ?_
   refine pM (.bool _) ?_
   refine Aa (l1 := [_, _, _, _, _, _, _]) (fun S' => ∃ J, S' = ⟨Ao [(1, .ptr b1 0),(2, .ptr b2 0),(6, iv x9),(9, .ptr b14 0),(60, A0 l2 m3 af.A4),(61, iv (af.A4.length : Int)),(62, iv x9),(86, A0 m3 0 ss.Ends),(87, iv (ss.Ends.length : Int)),(88, iv x12),(102, .bool (decide (vj.A1 < 0) || decide (vj.A1 ≥ (af.A3.length : Int))))] J, G⟩) ?_ ?_
   ·refine bc (b := decide (vj.A1 < 0)) ?_ ?_ <;> intro hg
    ·repeat refine CK hg ?_
     refine Ev hg (.bool _) ?_
     exact pE ⟨_, St.Ao _ ⟨rfl, rfl, rfl, rfl, rfl, rfl, rfl, rfl, rfl, rfl, by rw [hg]; rfl, trivial⟩⟩
    refine AZ hg (pF Dk (AZ hg ?_))
    refine Eg hO 0 (.int _ _) B5 (AZ hg ?_)
    refine pF D0 (AZ hg ?_)
    refine Eg hO 2 (.lit _ _ _) Gd (AZ hg ?_)
    refine BE Km (AZ hg ?_)
    refine AO ?_
    refine Eu hg (.bool _) ?_
    exact pE ⟨_, St.Ao _ ⟨rfl, rfl, rfl, rfl, rfl, rfl, rfl, rfl, rfl, rfl, by rw [hg]; rfl, trivial⟩⟩
   rintro _ ⟨J, rfl⟩
   refine pM (.bool _) ?_
   refine Aa (l1 := [_, _, _, _]) (fun S' => ∃ J, S' = ⟨Ao [(1, .ptr b1 0),(2, .ptr b2 0),(6, iv x9),(9, .ptr b14 0),(60, A0 l2 m3 af.A4),(61, iv (af.A4.length : Int)),(62, iv x9),(86, A0 m3 0 ss.Ends),(87, iv (ss.Ends.length : Int)),(88, iv x12),(107, .bool ((decide (vj.A1 < 0) || decide (vj.A1 ≥ (af.A3.length : Int))) || decide (vj.BI < 0)))] J, G⟩) ?_ ?_
   ·refine bc (b := (decide (vj.A1 < 0) || decide (vj.A1 ≥ (af.A3.length : Int)))) ?_ ?_ <;> intro hg
    ·refine CK hg (CK hg (CK hg (Ev hg (.bool _) ?_)))
     exact pE ⟨_, St.Ao _ ⟨rfl, rfl, rfl, rfl, rfl, rfl, rfl, rfl, rfl, rfl, by rw [hg]; rfl, trivial⟩⟩
    refine AZ hg (pF EX (AZ hg ?_))
    refine Eg hO 0 (.int _ _) B5 (AZ hg ?_)
    refine AO ?_
    refine Eu hg (.bool _) ?_
    exact pE ⟨_, St.Ao _ ⟨rfl, rfl, rfl, rfl, rfl, rfl, rfl, rfl, rfl, rfl, by rw [hg]; rfl, trivial⟩⟩
   rintro _ ⟨J, rfl⟩
   refine pM (.bool _) ?_
   refine Aa (l1 := [_, _, _, _]) (fun S' => ∃ J, S' = ⟨Ao [(1, .ptr b1 0),(2, .ptr b2 0),(6, iv x9),(60, A0 l2 m3 af.A4),(61, iv (af.A4.length : Int)),(62, iv x9),(86, A0 m3 0 ss.Ends),(87, iv (ss.Ends.length : Int)),(88, iv x12),(112, .bool (((decide (vj.A1 < 0) || decide (vj.A1 ≥ (af.A3.length : Int))) || decide (vj.BI < 0)) || decide (vj.BI > 1)))] J, G⟩) ?_ ?_
   ·refine bc (b := ((decide (vj.A1 < 0) || decide (vj.A1 ≥ (af.A3.length : Int))) || decide (vj.BI < 0))) ?_ ?_ <;> intro hg
    ·refine CK hg (CK hg (CK hg (Ev hg (.bool _) ?_)))
     exact pE ⟨_, St.Ao _ ⟨rfl, rfl, rfl, rfl, rfl, rfl, rfl, rfl, rfl, by rw [hg]; rfl, trivial⟩⟩
    refine AZ hg (pF EX (AZ hg ?_))
    refine Eg hO 0 (.int _ _) B5 (AZ hg ?_)
    refine AO ?_
    refine Eu hg (.bool _) ?_
    exact pE ⟨_, St.Ao _ ⟨rfl, rfl, rfl, rfl, rfl, rfl, rfl, rfl, rfl, by rw [hg]; rfl, trivial⟩⟩
   rintro _ ⟨J, rfl⟩
   refine pg (As hk ?_ ?_) <;> intro hk
   ·refine sr (pM (.int _ _) ?_)
    refine G9 [_, _] DU EJ ?_
    refine DR (xs := [_, _]) hO 1 Bj rfl (fun G hO => pg (Ax (br (gr (gr (br (br (gr (gr (br (gr (have hk := lx wj hk; have hk := lx se hk; ?_))))))))))))
    replace hk := dv hk; subst hk; exact Cv hO (C8 (n := 2) (BV (Af _ _) (BV (Af _ _) (Dm)))) (EW hO 1 [_, _] Ed Bj CC)
   refine Av (bn (gn (Cj (AO ?_))))
   refine pM (.int _ _) (pg ?_)
   cases hk; exact ⟨_, rfl, _, _, (pk hO [1, 2]), sh⟩
  refine Dh (ge (ge (be (bn (gn (have hk := lx wj hk; Cj (AO ?_)))))))
  refine pM (.int _ _) (pg ?_)
  cases hk; exact ⟨_, rfl, _, _, hO, sh⟩
 refine Dh (ge (ge (be (gn (have hk := lx se hk; sr (tD ByteArray Bool hO (fun b15 G hO => ?_)))))))
 refine pA (.Cm _) (pg (AU (sr ?_)))
 refine B4 DK hO 2 (.lit _ _ _) HF ?_
 refine BE NO ?_
 refine pM (.int _ _) (pg (Bn ?_))
 refine AE (F := M5 af) (fun s S' => ∃ J G, A6 H G [.Au b15 (.mp (BC s.1)), .Au b2 (.cells 2 [iv 0, iv 0]), .Au b1 (.cells 2 [A0 l1 0 af.A3, A0 l2 m3 af.A4])] ∧ S' = ⟨Ao [(1, .ptr b1 0),(2, .ptr b2 0),(3, .Cm b15),(119, A0 l2 m3 af.A4),(120, iv (af.A4.length : Int)),(121, iv s.2)] J, G⟩) hk ⟨_, _, hO, sh⟩ ?_
 rintro ⟨zc, x17⟩ _ y1 ⟨J, G, hO, rfl⟩ hk se
 refine sr (AO (pg (AU (As hk ?_ ?_)))) <;> intro hk
 ·refine Av (gn (CX (fun S' => ∃ x18 J G, OP x17 x18 = some y1 ∧ A6 H G [.Au b15 (.mp (BC x18)), .Au b2 (.cells 2 [iv 0, iv 0]), .Au b1 (.cells 2 [A0 l1 0 af.A3, A0 l2 m3 af.A4])] ∧ S' = ⟨Ao [(1, .ptr b1 0),(2, .ptr b2 0),(3, .Cm b15),(119, A0 l2 m3 af.A4),(120, iv (af.A4.length : Int)),(121, iv x17)] J, G⟩) ?_ ?_))
  ·refine Bn (sr (pM (.int _ _) (bk hk fun yc xm hk => ?_)))
   refine pX xm HA BY ?_
   refine CQ (.agg [_, _, _]) (EA (lm := m3) (off := 0) xm I5 BY) (C9 hO BY Ji (fun b20 G hO => ?_))
   refine pA (.int _ _) ?_
   refine DR (xs := [_, _, _]) hO 0 BY rfl (fun G hO => pg (AU (sr ?_)))
   refine B4 DE hO 0 (.int _ _) B5 ?_
   refine AO (pg (As hk ?_ ?_)) <;> intro hk
   ·refine AU (sr (B4 Fq hO 0 (.str _) Kx ?_))
    refine pB (a := .str _) (b := .str _) (pg (As hk ?_ ?_)) <;> intro hk
    ·refine sr (pM (.int _ _) ?_)
     refine G9 [_, _] DU EJ ?_
     refine DR (xs := [_, _]) hO 2 Bj rfl (fun G hO => pg (Ax (gr (gr (br (gr (gr (br (gr (have hk := lx se hk; ?_))))))))))
     replace hk := dv hk; subst hk; exact Cv hO (C8 (n := 2) (BV (Af _ _) (BV (Af _ _) (Dm)))) (EW hO 2 [_, _] Ed Bj CC)
    exact Av (gn (Dh (ge (be (gn (⟨zc, _, _, hk, (pk hO [1, 2, 3]), sh⟩))))))
   refine Av (gn (AU (sr (B4 Fq hO 0 (.str _) Kx (bk hk fun v21 hv21 hk => ?_)))))
   refine Ae (fun _ => PH hv21) ?_
   refine pU ?_
   refine pM (.bool _) ?_
   refine Aa (l1 := [_, _, _, _, _]) (fun S' => ∃ J, S' = ⟨Ao [(1, .ptr b1 0),(2, .ptr b2 0),(3, .Cm b15),(10, iv x17),(11, .ptr b20 0),(119, A0 l2 m3 af.A4),(120, iv (af.A4.length : Int)),(121, iv x17),(143, .bool (!v21 || (Dw yc.Name zc false)))] J, G⟩) ?_ ?_
   ·refine bc (b := !v21) ?_ ?_ <;> intro hg
    ·repeat refine CK hg ?_
     refine Ev hg (.bool _) ?_
     exact pE ⟨_, St.Ao _ ⟨rfl, rfl, rfl, rfl, rfl, rfl, rfl, rfl, by rw [hg]; rfl, trivial⟩⟩
    refine AZ hg (pM (.Cm _) (AZ hg ?_))
    refine pF Fq (AZ hg ?_)
    refine Eg hO 0 (.str _) Kx (AZ hg ?_)
    refine oF yc.Name (false : Bool) (hO.get (k := 1) rfl).1 Xi OZ uV ?_
    refine Eu hg (.bool _) ?_
    exact pE ⟨_, St.Ao _ ⟨rfl, rfl, rfl, rfl, rfl, rfl, rfl, rfl, by rw [hg]; rfl, trivial⟩⟩
   rintro _ ⟨J, rfl⟩
   refine pg (As hk ?_ ?_) <;> intro hk
   ·refine sr (pM (.int _ _) ?_)
    refine G9 [_, _] DU EJ ?_
    refine DR (xs := [_, _]) hO 2 Bj rfl (fun G hO => pg (Ax (gr (br (gr (gr (br (gr (have hk := lx se hk; ?_)))))))))
    replace hk := dv hk; subst hk; exact Cv hO (C8 (n := 2) (BV (Af _ _) (BV (Af _ _) (Dm)))) (EW hO 2 [_, _] Ed Bj CC)
   refine Av (gn (Cj (pM (.Cm _) ?_)))
   refine B4 Fq hO 0 (.str _) Kx ?_
   refine vM hO 1 yc.Name true Xi OZ rfl (fun G hO => pE (bn (gn ?_)))
   exact ⟨Dx yc.Name true zc, _, _, hk, (pk hO [1, 2, 3]), sh⟩
  rintro _ ⟨x18, J, G, hk, hO, rfl⟩
  refine Cj (AO ?_)
  refine pM (.int _ _) (pg ?_)
  cases hk; exact ⟨_, rfl, _, _, hO, sh⟩
 refine Dh (ge (ge (be (gn (have hk := lx se hk; sr (tD Ac Int hO (fun b22 G hO => ?_)))))))
 refine pA (.Cm _) (pg (AU (sr ?_)))
 refine B4 DK hO 3 (.lit _ _ _) HF ?_
 refine BE NO ?_
 refine pM (.int _ _) (pg (Bn ?_))
 refine AE (F := M6 af) (fun s S' => ∃ J G, A6 H G [.Au b22 (.mp (BC s.1)), .Au b2 (.cells 2 [iv 0, iv 0]), .Au b1 (.cells 2 [A0 l1 0 af.A3, A0 l2 m3 af.A4])] ∧ S' = ⟨Ao [(1, .ptr b1 0),(2, .ptr b2 0),(12, .Cm b22),(152, A0 l2 m3 af.A4),(153, iv (af.A4.length : Int)),(154, iv s.2)] J, G⟩) hk ⟨_, _, (pk hO [0, 2, 3]), sh⟩ ?_
 rintro ⟨x23, x24⟩ _ y1 ⟨J, G, hO, rfl⟩ hk se
 refine sr (AO (pg (AU (As hk ?_ ?_)))) <;> intro hk
 ·refine Av (gn (AU (Bn (sr (bk hk fun xi xe hk => pX xe HA BY ?_)))))
  refine CQ (.agg [_, _, _]) (EA (lm := m3) (off := 0) xe I5 BY) (C9 hO BY Ji (fun b26 G hO => ?_))
  refine DR (xs := [_, _, _]) hO 0 BY rfl (fun G hO => pg (sr ?_))
  refine B4 Ct hO 0 (.lit _ _ _) Ew ?_
  refine BE HM ?_
  refine pM (.int _ _) (pg (Bn ?_))
  refine AE (F := OO x24 xi) (fun s S' => ∃ J G, A6 H G [.Au b22 (.mp (BC s.1)), .Au b2 (.cells 2 [iv 0, iv 0]), .Au b1 (.cells 2 [A0 l1 0 af.A3, A0 l2 m3 af.A4])] ∧ S' = ⟨Ao [(1, .ptr b1 0),(2, .ptr b2 0),(12, .Cm b22),(152, A0 l2 m3 af.A4),(153, iv (af.A4.length : Int)),(154, iv x24),(159, A0 m3 0 xi.Ends),(160, iv (xi.Ends.length : Int)),(161, iv s.2)] J, G⟩) hk ⟨_, _, (pk hO [1, 2, 3]), sh⟩ ?_
  rintro ⟨x27, x28⟩ _ y2 ⟨J, G, hO, rfl⟩ hk wj
  refine sr (AO (pg (AU (As hk ?_ ?_)))) <;> intro hk
  ·refine Av (gn (AU (Bn (sr (bk hk fun c29 hc29 hk => pX hc29 CV AS ?_)))))
   refine CQ (.agg [_, _]) (EA (lm := 0) (off := 0) hc29 Br AS) (C9 hO AS Cw (fun b30 G hO => ?_))
   refine DR (xs := [_, _]) hO 0 AS rfl (fun G hO => pg ?_)
   refine GC [1,3,5,6,9,11,12] [_,_,_,_,_,_,_] ?_
   refine pM (.Cm _) ?_
   refine Eh hO 0 [_, _] Br AS ?_
   refine oF c29 (0 : Int) (hO.get (k := 1) rfl).1 Xj KP tE ?_
   refine AO ?_
   refine vV hO 1 c29 (0 : Int) Xj KP tE rfl (fun G hO => ?_)
   refine Qv (.int _ _) ?_
   refine vW hO 1 c29 (0 : Int) (AN ((Dw c29 x27 0) + 1)) rfl (fun G hO => pE (bn (gn (Cj ?_))))
   refine AO ?_
   refine pM (.int _ _) (pg ?_)
   cases hk; exact ⟨_, rfl, _, _, (pk hO [1, 2, 3]), sh⟩
  refine Dh (ge (ge (be (bn (gn (have hk := lx wj hk; Cj (AO ?_)))))))
  refine pM (.int _ _) (pg ?_)
  cases hk; exact ⟨_, rfl, _, _, hO, sh⟩
 refine Dh (ge (ge (be (gn (have hk := lx se hk; AU (sr (B4 D0 hO 2 (.lit _ _ _) Gd ?_)))))))
 refine BE Km ?_
 refine pM (.int _ _) (pg (Bn ?_))
 refine AE (F := M7 af x23) (fun s S' => ∃ J G, A6 H G [.Au b22 (.mp (BC x23)), .Au b2 (.cells 2 [iv 0, iv 0])] ∧ S' = ⟨Ao [(2, .ptr b2 0),(12, .Cm b22),(175, iv (af.A3.length : Int)),(176, iv s)] J, G⟩) hk ⟨_, _, (pk hO [0, 1]), sh⟩ ?_
 rintro zf _ y1 ⟨J, G, hO, rfl⟩ hk se
 refine sr (AO (pg (AU (As hk ?_ ?_)))) <;> intro hk
 ·refine Av (gn (AU (Bn (sr (pM (.int _ _) ?_)))))
  refine pA (.int _ _) (pg (sr ?_))
  refine pM (.Cm _) ?_
  refine pM (.int _ _) ?_
  refine G9 [_, _] Cw Mm ?_
  refine oF (⟨zf, (0:Int)⟩ : Ac) (0 : Int) (hO.get (k := 0) rfl).1 Xj KP tE ?_
  refine AO ?_
  refine pM (.bool _) ?_
  refine Aa (l1 := [_, _, _, _, _, _]) (fun S' => ∃ J, S' = ⟨Ao [(2, .ptr b2 0),(12, .Cm b22),(17, iv zf),(175, iv (af.A3.length : Int)),(176, iv zf),(190, .bool (((Dw (⟨zf, (0:Int)⟩ : Ac) x23 0) != 1) || ((Dw (⟨zf, (1:Int)⟩ : Ac) x23 0) != 1)))] J, G⟩) ?_ ?_
  ·refine bc (b := ((Dw (⟨zf, (0:Int)⟩ : Ac) x23 0) != 1)) ?_ ?_ <;> intro hg
   ·repeat refine CK hg ?_
    refine Ev hg (.bool _) ?_
    exact pE ⟨_, St.Ao _ ⟨rfl, rfl, rfl, rfl, rfl, by rw [hg]; rfl, trivial⟩⟩
   refine AZ hg (pM (.Cm _) (AZ hg ?_))
   refine pM (.int _ _) (AZ hg ?_)
   refine G9 [_, _] Cw Mm (AZ hg ?_)
   refine oF (⟨zf, (1:Int)⟩ : Ac) (0 : Int) (hO.get (k := 0) rfl).1 Xj KP tE (AZ hg ?_)
   refine AO ?_
   refine Eu hg (.bool _) ?_
   exact pE ⟨_, St.Ao _ ⟨rfl, rfl, rfl, rfl, rfl, by rw [hg]; rfl, trivial⟩⟩
  rintro _ ⟨J, rfl⟩
  refine pg (As hk ?_ ?_) <;> intro hk
  ·refine sr (pM (.int _ _) ?_)
   refine G9 [_, _] DU EJ ?_
   refine DR (xs := [_, _]) hO 1 Bj rfl (fun G hO => pg (Ax (br (gr (gr (br (gr (have hk := lx se hk; ?_))))))))
   replace hk := dv hk; subst hk; exact Cv hO (C8 (n := 2) (BV (Af _ _) (BV (Af _ _) (Dm)))) (EW hO 1 [_, _] Ed Bj CC)
  refine Av (bn (gn (Cj (AO ?_))))
  refine pM (.int _ _) (pg ?_)
  cases hk; exact ⟨_, rfl, _, _, hO, sh⟩
 refine Dh (ge (ge (be (gn (have hk := lx se hk; sr (G9 [_, _] DU EJ ?_))))))
 refine DR (xs := [_, _]) hO 1 Bj rfl (fun G hO => pg (Ax ?_))
 replace hk := dv hk; subst hk; exact Cv hO (C8 (n := 2) (BV (Af _ _) (BV (Af _ _) (Dm)))) (EW hO 1 [_, _] Ed Bj CC)
def Zu (af : Bq) : Option Bool :=
 ((aS af).bind fun v2 => some ((v2.Code == 0) && ((v2.At == 0) && true)))
theorem Zv (hk : Zu af = some r) (sn : 0 < lk.length := by simp) : Aw dp hh 145 [.agg [A0 l1 0 af.A3, A0 l2 m3 af.A4]] H lk = some (.bool r, H) := by
 refine AH Tryz.func145 rfl Tryz.ntmps145 Tryz.results145 rfl rfl fun hO => ?_
 unfold Zu at hk
 refine sr (C0 (cs := [_, _]) hO CB (fun b1 G hO => ?_))
 refine pA (.bool _) (pg (sr ?_))
 refine Eh hO 0 [_, _] E4 CB (bk hk fun v2 yo hk => ?_)
 refine Ae (fun _ => aT yo) ?_
 refine G9 [_, _] DU EJ ?_
 refine nI lC (Tp (Tq _ _ _) (Tp (Tq _ _ _) (rfl))) ?_
 refine pA (.bool _) (pg (Ax ?_))
 cases hk; exact Ah hO
def Pt (x10 : Int) (ue : AI) (y13 : List AI) : Int → Option (Int ⊕ (Int ⊕ BW)) := fun s =>
 (bif decide (s < (y13.length : Int)) then ((AR y13 s).bind fun yn => (bif ((ue.Name.toList == yn.Name.toList) || (((ue.A1 == yn.A1) && (ue.At == yn.At)) && (ue.Way == yn.Way))) then (((some (⟨(4:Int), x10⟩ : BW)).map Sum.inr).map Sum.inr) else some (.inl (AN (s + 1))))) else ((some (.inl (AN (x10 + 1)))).map Sum.inr))
def Ps (aa : List AI) : Int → Option (Int ⊕ BW) := fun s =>
 (bif decide (s < (aa.length : Int)) then ((AR aa s).bind fun ue => ((VB aa (0:Int) s).bind fun y13 => (AQ (Pt s ue y13) ((0:Int))))) else ((some (⟨0, 0⟩ : BW)).map Sum.inr))
def Pr (af : Bq) (aa : List AI) : Int → Option (Int ⊕ BW) := fun s =>
 (bif decide (s < (aa.length : Int)) then ((AR aa s).bind fun c5 => ((Vt c5.Name).bind fun v7 => ((bif ((((!v7 || decide (c5.A1 < 0)) || decide (c5.A1 ≥ (af.A3.length : Int))) || ((c5.Way != 1) && (c5.Way != (-1:Int)))) || decide (c5.At < 1)) then some true else ((AR af.A3 c5.A1).bind fun c9 => some (decide (c5.At > (AN (c9.Bo - 1)))))).bind fun t8 => (bif t8 then ((some (⟨(3:Int), s⟩ : BW)).map Sum.inr) else some (.inl (AN (s + 1))))))) else ((AQ (Ps aa) ((0:Int))).map Sum.inr))
def oD (af : Bq) (aa : List AI) : Option BW :=
 ((Zu af).bind fun v3 => (bif !v3 then some (⟨(1:Int), (0:Int)⟩ : BW) else (bif decide ((aa.length : Int) > 60) then some (⟨(2:Int), (0:Int)⟩ : BW) else (AQ (Pr af aa) ((0:Int))))))
theorem iJ (hk : oD af aa = some r) (sn : 0 < lk.length := by simp) : Aw dp hh 77 [.agg [A0 l1 0 af.A3, A0 l2 m3 af.A4], A0 l4 0 aa] H lk = some (.agg [iv r.Code, iv r.At], H) := by
 refine AH Tryz.func77 rfl Tryz.ntmps77 Tryz.results77 rfl rfl fun hO => ?_
 unfold oD at hk
 refine sr (C0 (cs := [_, _]) hO CB (fun b1 G hO => C9 hO Bj DU (fun b2 G hO => pg (AU (sr ?_)))))
 refine Eh hO 1 [_, _] E4 CB (bk hk fun v3 zi hk => ?_)
 refine Ae (fun _ => Zv zi) ?_
 refine pU (pg (As hk ?_ ?_)) <;> intro hk
 ·refine sr (G9 [_, _] DU EJ ?_)
  refine DR (xs := [_, _]) hO 0 Bj rfl (fun G hO => pg (Ax (gr ?_)))
  replace hk := dv hk; subst hk; exact Cv hO (C8 (n := 2) (BV (Af _ _) (BV (Af _ _) (Dm)))) (EW hO 0 [_, _] Ed Bj CC)
 refine Av (gn (AU (sr (pM (.lit _ _ _) ?_))))
 refine BE KI ?_
 refine AO (pg (As hk ?_ ?_)) <;> intro hk
 ·refine sr (G9 [_, _] DU EJ ?_)
  refine DR (xs := [_, _]) hO 0 Bj rfl (fun G hO => pg (Ax (gr ?_)))
  replace hk := dv hk; subst hk; exact Cv hO (C8 (n := 2) (BV (Af _ _) (BV (Af _ _) (Dm)))) (EW hO 0 [_, _] Ed Bj CC)
 refine Av (gn (AU (sr (pM (.lit _ _ _) ?_))))
 refine BE KI ?_
 refine pM (.int _ _) (pg (Bn ?_))
 refine AE (F := Pr af aa) (fun s S' => ∃ J G, A6 H G [.Au b2 (.cells 2 [iv 0, iv 0]), .Au b1 (.cells 2 [A0 l1 0 af.A3, A0 l2 m3 af.A4])] ∧ S' = ⟨Ao [(1, A0 l4 0 aa),(2, .ptr b1 0),(4, .ptr b2 0),(19, A0 l4 0 aa),(20, iv (aa.length : Int)),(21, iv s)] J, G⟩) hk ⟨_, _, hO, sh⟩ ?_
 rintro x4 _ y1 ⟨J, G, hO, rfl⟩ hk se
 refine sr (AO (pg (AU (As hk ?_ ?_)))) <;> intro hk
 ·refine Av (gn (AU (Bn (sr (pM (.int _ _) (bk hk fun c5 tx hk => ?_))))))
  refine pX tx GM BF ?_
  refine CQ (.agg [_, _, _, _]) (EA (lm := 0) (off := 0) tx H8 BF) (C9 hO BF HL (fun b6 G hO => ?_))
  refine pA (.int _ _) ?_
  refine DR (xs := [_, _, _, _]) hO 0 BF rfl (fun G hO => pg (AU ?_))
  refine GC [0,3,4,6,8,10,13,14,16,18,21,23,25,27,29,30,32,34,36,39,40,42,44,47,48,50,52,54,56,59,60,62,64,67,69,71,73,75,77,79,81,83,85,86,88] [_,_,_,_,_,_,_,_,_,_,_,_,_,_,_,_,_,_,_,_,_,_,_,_,_,_,_,_,_,_,_,_,_,_,_,_,_,_,_,_,_,_,_,_,_] ?_
  refine B4 Gl hO 0 (.str _) Kx (bk hk fun v7 hv7 hk => ?_)
  refine Ae (fun _ => PH hv7) ?_
  refine pU ?_
  refine pM (.bool _) ?_
  refine Aa (l1 := [_, _, _, _]) (fun S' => ∃ J, S' = ⟨Ao [(1, A0 l4 0 aa),(2, .ptr b1 0),(4, .ptr b2 0),(5, iv x4),(6, .ptr b6 0),(19, A0 l4 0 aa),(20, iv (aa.length : Int)),(21, iv x4),(34, .bool (!v7 || decide (c5.A1 < 0)))] J, G⟩) ?_ ?_
  ·refine bc (b := !v7) ?_ ?_ <;> intro hg
   ·refine CK hg (CK hg (CK hg (Ev hg (.bool _) ?_)))
    exact pE ⟨_, St.Ao _ ⟨rfl, rfl, rfl, rfl, rfl, rfl, rfl, rfl, by rw [hg]; rfl, trivial⟩⟩
   refine AZ hg (pF DD (AZ hg ?_))
   refine Eg hO 0 (.int _ _) B5 (AZ hg ?_)
   refine AO ?_
   refine Eu hg (.bool _) ?_
   exact pE ⟨_, St.Ao _ ⟨rfl, rfl, rfl, rfl, rfl, rfl, rfl, rfl, by rw [hg]; rfl, trivial⟩⟩
  rintro _ ⟨J, rfl⟩
  refine pM (.bool _) ?_
  refine Aa (l1 := [_, _, _, _, _, _, _]) (fun S' => ∃ J, S' = ⟨Ao [(1, A0 l4 0 aa),(2, .ptr b1 0),(4, .ptr b2 0),(5, iv x4),(6, .ptr b6 0),(19, A0 l4 0 aa),(20, iv (aa.length : Int)),(21, iv x4),(42, .bool ((!v7 || decide (c5.A1 < 0)) || decide (c5.A1 ≥ (af.A3.length : Int))))] J, G⟩) ?_ ?_
  ·refine bc (b := (!v7 || decide (c5.A1 < 0))) ?_ ?_ <;> intro hg
   ·repeat refine CK hg ?_
    refine Ev hg (.bool _) ?_
    exact pE ⟨_, St.Ao _ ⟨rfl, rfl, rfl, rfl, rfl, rfl, rfl, rfl, by rw [hg]; rfl, trivial⟩⟩
   refine AZ hg (pF DD (AZ hg ?_))
   refine Eg hO 0 (.int _ _) B5 (AZ hg ?_)
   refine pF D0 (AZ hg ?_)
   refine Eg hO 2 (.lit _ _ _) Gd (AZ hg ?_)
   refine BE Km (AZ hg ?_)
   refine AO ?_
   refine Eu hg (.bool _) ?_
   exact pE ⟨_, St.Ao _ ⟨rfl, rfl, rfl, rfl, rfl, rfl, rfl, rfl, by rw [hg]; rfl, trivial⟩⟩
  rintro _ ⟨J, rfl⟩
  refine pM (.bool _) ?_
  refine Aa (l1 := [_, _, _, _, _, _, _, _, _]) (fun S' => ∃ J, S' = ⟨Ao [(1, A0 l4 0 aa),(2, .ptr b1 0),(4, .ptr b2 0),(5, iv x4),(6, .ptr b6 0),(19, A0 l4 0 aa),(20, iv (aa.length : Int)),(21, iv x4),(52, .bool (((!v7 || decide (c5.A1 < 0)) || decide (c5.A1 ≥ (af.A3.length : Int))) || ((c5.Way != 1) && (c5.Way != (-1:Int)))))] J, G⟩) ?_ ?_
  ·refine bc (b := ((!v7 || decide (c5.A1 < 0)) || decide (c5.A1 ≥ (af.A3.length : Int)))) ?_ ?_ <;> intro hg
   ·repeat refine CK hg ?_
    refine E9 (E9 (E9 (CK hg (Ev hg (.bool _) ?_))))
    exact pE ⟨_, St.Ao _ ⟨rfl, rfl, rfl, rfl, rfl, rfl, rfl, rfl, by rw [hg]; rfl, trivial⟩⟩
   refine AZ hg (pF DO (AZ hg ?_))
   refine Eg hO 0 (.int _ _) B5 (AZ hg ?_)
   refine AO (AZ hg ?_)
   refine pM (.bool _) ?_
   refine Aa (l1 := [_, _, _, _]) (fun S' => ∃ J, S' = ⟨Ao [(1, A0 l4 0 aa),(2, .ptr b1 0),(4, .ptr b2 0),(5, iv x4),(6, .ptr b6 0),(19, A0 l4 0 aa),(20, iv (aa.length : Int)),(21, iv x4),(43, .bool ((!v7 || decide (c5.A1 < 0)) || decide (c5.A1 ≥ (af.A3.length : Int)))),(51, .bool ((c5.Way != 1) && (c5.Way != (-1:Int))))] J, G⟩) ?_ ?_
   ·refine bc (b := (c5.Way != 1)) (fun si => ?_) (fun si => ?_)
    ·refine AZ si (pF DO (AZ si ?_))
     refine Eg hO 0 (.int _ _) B5 (AZ si ?_)
     refine AO (AZ hg ?_)
     refine Ev si (.bool _) ?_
     exact pE ⟨_, St.Ao _ ⟨rfl, rfl, rfl, rfl, rfl, rfl, rfl, rfl, rfl, by rw [si]; rfl, trivial⟩⟩
    refine CK si (CK si (CK si (AZ hg (Eu si (.bool _) ?_))))
    exact pE ⟨_, St.Ao _ ⟨rfl, rfl, rfl, rfl, rfl, rfl, rfl, rfl, rfl, by rw [si]; rfl, trivial⟩⟩
   rintro _ ⟨J, rfl⟩
   refine Eu hg (.bool _) ?_
   exact pE ⟨_, St.Ao _ ⟨rfl, rfl, rfl, rfl, rfl, rfl, rfl, rfl, by rw [hg]; rfl, trivial⟩⟩
  rintro _ ⟨J, rfl⟩
  refine pM (.bool _) ?_
  refine Aa (l1 := [_, _, _, _]) (fun S' => ∃ J, S' = ⟨Ao [(1, A0 l4 0 aa),(2, .ptr b1 0),(4, .ptr b2 0),(5, iv x4),(6, .ptr b6 0),(19, A0 l4 0 aa),(20, iv (aa.length : Int)),(21, iv x4),(57, .bool ((((!v7 || decide (c5.A1 < 0)) || decide (c5.A1 ≥ (af.A3.length : Int))) || ((c5.Way != 1) && (c5.Way != (-1:Int)))) || decide (c5.At < 1)))] J, G⟩) ?_ ?_
  ·refine bc (b := (((!v7 || decide (c5.A1 < 0)) || decide (c5.A1 ≥ (af.A3.length : Int))) || ((c5.Way != 1) && (c5.Way != (-1:Int))))) ?_ ?_ <;> intro hg
   ·refine CK hg (CK hg (CK hg (Ev hg (.bool _) ?_)))
    exact pE ⟨_, St.Ao _ ⟨rfl, rfl, rfl, rfl, rfl, rfl, rfl, rfl, by rw [hg]; rfl, trivial⟩⟩
   refine AZ hg (pF CW (AZ hg ?_))
   refine Eg hO 0 (.int _ _) B5 (AZ hg ?_)
   refine AO ?_
   refine Eu hg (.bool _) ?_
   exact pE ⟨_, St.Ao _ ⟨rfl, rfl, rfl, rfl, rfl, rfl, rfl, rfl, by rw [hg]; rfl, trivial⟩⟩
  rintro _ ⟨J, rfl⟩
  refine pM (.bool _) (bk hk fun t8 ht hk => ?_)
  refine Aa (l1 := [_, _, _, _, _, _, _, _, _, _, _, _]) (fun S' => ∃ J, S' = ⟨Ao [(1, A0 l4 0 aa),(2, .ptr b1 0),(4, .ptr b2 0),(5, iv x4),(19, A0 l4 0 aa),(20, iv (aa.length : Int)),(21, iv x4),(70, .bool t8)] J, G⟩) ?_ ?_
  ·refine bc (b := ((((!v7 || decide (c5.A1 < 0)) || decide (c5.A1 ≥ (af.A3.length : Int))) || ((c5.Way != 1) && (c5.Way != (-1:Int)))) || decide (c5.At < 1))) ?_ ?_ <;> intro hg
   ·replace hk := ct hg ht
    repeat refine CK hg ?_
    refine Ev hg (.bool _) ?_
    cases hk; exact pE ⟨_, sh⟩
   replace hk := cf hg ht
   refine AZ hg (pF CW (AZ hg ?_))
   refine Eg hO 0 (.int _ _) B5 (AZ hg ?_)
   refine pF D0 (AZ hg ?_)
   refine Eg hO 2 (.lit _ _ _) Gd (AZ hg ?_)
   refine pF DD (AZ hg ?_)
   refine Eg hO 0 (.int _ _) B5 (AZ hg (bk hk fun c9 vk hk => ?_))
   refine pX vk IB Cp (AZ hg ?_)
   refine pF Dj (AZ hg ?_)
   refine CQ (.int _ _) (Gj (lm := 0) (off := 1) vk B5) (AZ hg ?_)
   refine AO (AZ hg ?_)
   refine AO ?_
   refine Eu hg (.bool _) ?_
   cases hk; exact pE ⟨_, sh⟩
  rintro _ ⟨J, rfl⟩
  refine pg (As hk ?_ ?_) <;> intro hk
  ·refine sr (pM (.int _ _) ?_)
   refine G9 [_, _] DU EJ ?_
   refine DR (xs := [_, _]) hO 1 Bj rfl (fun G hO => pg (Ax (br (gr (gr (br (gr (have hk := lx se hk; ?_))))))))
   replace hk := dv hk; subst hk; exact Cv hO (C8 (n := 2) (BV (Af _ _) (BV (Af _ _) (Dm)))) (EW hO 1 [_, _] Ed Bj CC)
  refine Av (bn (gn (Cj (AO ?_))))
  refine pM (.int _ _) (pg ?_)
  cases hk; exact ⟨_, rfl, _, _, (pk hO [1, 2]), sh⟩
 refine Dh (ge (ge (be (gn (have hk := lx se hk; AU (sr (pM (.lit _ _ _) ?_)))))))
 refine BE KI ?_
 refine pM (.int _ _) (pg (Bn ?_))
 refine AE (F := Ps aa) (fun s S' => ∃ J G, A6 H G [.Au b2 (.cells 2 [iv 0, iv 0])] ∧ S' = ⟨Ao [(1, A0 l4 0 aa),(4, .ptr b2 0),(74, A0 l4 0 aa),(75, iv (aa.length : Int)),(76, iv s)] J, G⟩) hk ⟨_, _, (pk hO [0]), sh⟩ ?_
 rintro x10 _ y1 ⟨J, G, hO, rfl⟩ hk se
 refine sr (AO (pg (AU (As hk ?_ ?_)))) <;> intro hk
 ·refine Av (gn (AU (Bn (sr (pM (.int _ _) (bk hk fun ue tq hk => ?_))))))
  refine pX tq GM BF ?_
  refine CQ (.agg [_, _, _, _]) (EA (lm := 0) (off := 0) tq H8 BF) (C9 hO BF HL (fun b12 G hO => ?_))
  refine pA (.int _ _) ?_
  refine DR (xs := [_, _, _, _]) hO 0 BF rfl (fun G hO => pg (sr ?_))
  refine pM (.lit _ _ _) ?_
  refine pM (.int _ _) (bk hk fun y13 hy13 hk => ?_)
  refine uI hy13 GM BF ?_
  refine BE KI ?_
  refine pM (.int _ _) (pg (Bn ?_))
  refine AE (F := Pt x10 ue y13) (fun s S' => ∃ J G, A6 H G [.Au b12 (.cells 4 [.str ue.Name, iv ue.A1, iv ue.At, iv ue.Way]), .Au b2 (.cells 2 [iv 0, iv 0])] ∧ S' = ⟨Ao [(1, A0 l4 0 aa),(4, .ptr b2 0),(7, iv x10),(8, .ptr b12 0),(74, A0 l4 0 aa),(75, iv (aa.length : Int)),(76, iv x10),(83, A0 l4 0 y13),(84, iv (y13.length : Int)),(85, iv s)] J, G⟩) hk ⟨_, _, hO, sh⟩ ?_
  rintro x14 _ y2 ⟨J, G, hO, rfl⟩ hk wj
  refine sr (AO (pg (AU (As hk ?_ ?_)))) <;> intro hk
  ·refine Av (gn (AU (Bn (sr (bk hk fun yn xk hk => pX xk GM BF ?_)))))
   refine CQ (.agg [_, _, _, _]) (EA (lm := 0) (off := 0) xk H8 BF) (C9 hO BF HL (fun b16 G hO => ?_))
   refine DR (xs := [_, _, _, _]) hO 0 BF rfl (fun G hO => pg (sr ?_))
   refine B4 Gl hO 1 (.str _) Kx ?_
   refine B4 Gl hO 0 (.str _) Kx ?_
   refine pB (a := .str _) (b := .str _) ?_
   refine pM (.bool _) ?_
   refine Aa (l1 := [_, _, _, _, _, _, _, _, _, _, _, _, _, _, _, _, _, _, _, _]) (fun S' => ∃ J, S' = ⟨Ao [(1, A0 l4 0 aa),(4, .ptr b2 0),(7, iv x10),(8, .ptr b12 0),(74, A0 l4 0 aa),(75, iv (aa.length : Int)),(76, iv x10),(83, A0 l4 0 y13),(84, iv (y13.length : Int)),(85, iv x14),(114, .bool ((ue.Name.toList == yn.Name.toList) || (((ue.A1 == yn.A1) && (ue.At == yn.At)) && (ue.Way == yn.Way))))] J, G⟩) ?_ ?_
   ·refine bc (b := (ue.Name.toList == yn.Name.toList)) ?_ ?_ <;> intro hg
    ·repeat refine CK hg ?_
     refine E9 (E9 (E9 (E9 (E9 (CK hg (CK hg (E9 (E9 (E9 (E9 (E9 (CK hg (Ev hg (.bool _) ?_)))))))))))))
     exact pE ⟨_, St.Ao _ ⟨rfl, rfl, rfl, rfl, rfl, rfl, rfl, rfl, rfl, rfl, by rw [hg]; rfl, trivial⟩⟩
    refine AZ hg (pF DD (AZ hg ?_))
    refine Eg hO 1 (.int _ _) B5 (AZ hg ?_)
    refine pF DD (AZ hg ?_)
    refine Eg hO 0 (.int _ _) B5 (AZ hg ?_)
    refine AO (AZ hg ?_)
    refine pM (.bool _) ?_
    refine Aa (l1 := [_, _, _, _, _, _]) (fun S' => ∃ J, S' = ⟨Ao [(1, A0 l4 0 aa),(4, .ptr b2 0),(7, iv x10),(8, .ptr b12 0),(10, .ptr b16 0),(74, A0 l4 0 aa),(75, iv (aa.length : Int)),(76, iv x10),(83, A0 l4 0 y13),(84, iv (y13.length : Int)),(85, iv x14),(94, .bool (ue.Name.toList == yn.Name.toList)),(106, .bool ((ue.A1 == yn.A1) && (ue.At == yn.At)))] J, G⟩) ?_ ?_
    ·refine bc (b := (ue.A1 == yn.A1)) (fun si => ?_) (fun si => ?_)
     ·refine AZ si (pF CW (AZ si ?_))
      refine Eg hO 1 (.int _ _) B5 (AZ si ?_)
      refine pF CW (AZ si ?_)
      refine Eg hO 0 (.int _ _) B5 (AZ si ?_)
      refine AO (AZ hg ?_)
      refine Ev si (.bool _) ?_
      exact pE ⟨_, St.Ao _ ⟨rfl, rfl, rfl, rfl, rfl, rfl, rfl, rfl, rfl, rfl, rfl, rfl, by rw [si]; rfl, trivial⟩⟩
     repeat refine CK si ?_
     refine AZ hg (Eu si (.bool _) ?_)
     exact pE ⟨_, St.Ao _ ⟨rfl, rfl, rfl, rfl, rfl, rfl, rfl, rfl, rfl, rfl, rfl, rfl, by rw [si]; rfl, trivial⟩⟩
    rintro _ ⟨J, rfl⟩
    refine AZ hg (pM (.bool _) ?_)
    refine Aa (l1 := [_, _, _, _, _, _]) (fun S' => ∃ J, S' = ⟨Ao [(1, A0 l4 0 aa),(4, .ptr b2 0),(7, iv x10),(8, .ptr b12 0),(74, A0 l4 0 aa),(75, iv (aa.length : Int)),(76, iv x10),(83, A0 l4 0 y13),(84, iv (y13.length : Int)),(85, iv x14),(94, .bool (ue.Name.toList == yn.Name.toList)),(113, .bool (((ue.A1 == yn.A1) && (ue.At == yn.At)) && (ue.Way == yn.Way)))] J, G⟩) ?_ ?_
    ·refine bc (b := ((ue.A1 == yn.A1) && (ue.At == yn.At))) (fun si => ?_) (fun si => ?_)
     ·refine AZ si (pF DO (AZ si ?_))
      refine Eg hO 1 (.int _ _) B5 (AZ si ?_)
      refine pF DO (AZ si ?_)
      refine Eg hO 0 (.int _ _) B5 (AZ si ?_)
      refine AO (AZ hg ?_)
      refine Ev si (.bool _) ?_
      exact pE ⟨_, St.Ao _ ⟨rfl, rfl, rfl, rfl, rfl, rfl, rfl, rfl, rfl, rfl, rfl, by rw [si]; rfl, trivial⟩⟩
     repeat refine CK si ?_
     refine AZ hg (Eu si (.bool _) ?_)
     exact pE ⟨_, St.Ao _ ⟨rfl, rfl, rfl, rfl, rfl, rfl, rfl, rfl, rfl, rfl, rfl, by rw [si]; rfl, trivial⟩⟩
    rintro _ ⟨J, rfl⟩
    refine Eu hg (.bool _) ?_
    exact pE ⟨_, St.Ao _ ⟨rfl, rfl, rfl, rfl, rfl, rfl, rfl, rfl, rfl, rfl, by rw [hg]; rfl, trivial⟩⟩
   rintro _ ⟨J, rfl⟩
   refine pg (As hk ?_ ?_) <;> intro hk
   ·refine sr (pM (.int _ _) ?_)
    refine G9 [_, _] DU EJ ?_
    refine DR (xs := [_, _]) hO 2 Bj rfl (fun G hO => pg (Ax (br (gr (gr (br (br (gr (gr (br (gr (have hk := lx wj hk; have hk := lx se hk; ?_))))))))))))
    replace hk := dv hk; subst hk; exact Cv hO (C8 (n := 2) (BV (Af _ _) (BV (Af _ _) (Dm)))) (EW hO 2 [_, _] Ed Bj CC)
   refine Av (bn (gn (Cj (AO ?_))))
   refine pM (.int _ _) (pg ?_)
   cases hk; exact ⟨_, rfl, _, _, (pk hO [1, 2]), sh⟩
  refine Dh (ge (ge (be (bn (gn (have hk := lx wj hk; Cj (AO ?_)))))))
  refine pM (.int _ _) (pg ?_)
  cases hk; exact ⟨_, rfl, _, _, (pk hO [1]), sh⟩
 refine Dh (ge (ge (be (gn (have hk := lx se hk; sr (G9 [_, _] DU EJ ?_))))))
 refine DR (xs := [_, _]) hO 0 Bj rfl (fun G hO => pg (Ax ?_))
 replace hk := dv hk; subst hk; exact Cv hO (C8 (n := 2) (BV (Af _ _) (BV (Af _ _) (Dm)))) (EW hO 0 [_, _] Ed Bj CC)
def YB (ak : Fa) : Option Bool :=
 some (decide ((ak.BU.length : Int) > 300) || decide (ak.FA > 20000))
theorem UJ (hk : YB ak = some r) (tk : H[q0]? = some (.cells 6 [A0 l1 0 ak.xN.A3, A0 l2 m3 ak.xN.A4, A0 l4 0 ak.A9, iv ak.Ak, yd, iv ak.FA])) (hlan1 : D4 yd = some ak.BU.length) (sn : 0 < lk.length := by simp) : Aw dp hh 120 [.ptr q0 0] H lk = some (.bool r, H) := by
 refine AH Tryz.func120 rfl Tryz.ntmps120 Tryz.results120 rfl rfl fun hO => ?_
 unfold YB at hk
 refine sr (pA (.bool _) (pg (sr ?_)))
 refine pM (.ptr _ _) ?_
 refine Bw ?_
 refine pF Oo ?_
 refine kO yd hO tk Wp ?_
 refine BE (b := false) (a := yd) Tf ?_ (h3 := dH hlan1)
 refine AO ?_
 refine pM (.bool _) ?_
 refine Aa (l1 := [_, _, _, _, _, _]) (fun S' => ∃ J, S' = ⟨Ao [(15, .bool (decide ((ak.BU.length : Int) > 300) || decide (ak.FA > 20000)))] J, H⟩) ?_ ?_
 ·refine bc (b := decide ((ak.BU.length : Int) > 300)) ?_ ?_ <;> intro hg
  ·repeat refine CK hg ?_
   refine Ev hg (.bool _) ?_
   exact pE ⟨_, St.Ao _ ⟨by rw [hg]; rfl, trivial⟩⟩
  refine AZ hg (pM (.ptr _ _) (AZ hg ?_))
  refine Bw (AZ hg ?_)
  refine pF Ml (AZ hg ?_)
  refine kO (.int _ _) hO tk B5 (AZ hg ?_)
  refine AO ?_
  refine Eu hg (.bool _) ?_
  exact pE ⟨_, St.Ao _ ⟨by rw [hg]; rfl, trivial⟩⟩
 rintro _ ⟨J, rfl⟩
 refine pA (.bool _) (pg (Ax ?_))
 cases hk; exact Ah hO
def MB (bd : List BR) (ck : BR) : Int → Option (Int ⊕ Int) := fun s =>
 (bif decide (s < (bd.length : Int)) then ((AR bd s).bind fun c3 => (bif ((ck.A1 == c3.A1) && ((ck.Way == c3.Way) && true)) then ((some s).map Sum.inr) else some (.inl (AN (s + 1))))) else ((some (-1:Int)).map Sum.inr))
def gJ (bd : List BR) (ck : BR) : Option Int :=
 (AQ (MB bd ck) ((0:Int)))
theorem bA (hk : gJ bd ck = some r) (sn : 0 < lk.length := by simp) : Aw dp hh 241 [A0 l1 0 bd, .agg [iv ck.A1, iv ck.Way]] H lk = some (iv r, H) := by
 refine AH Tryz.func241 rfl Tryz.ntmps241 Tryz.results241 rfl rfl fun hO => ?_
 unfold gJ at hk
 refine sr (C0 (cs := [_, _]) hO E5 (fun b1 G hO => ?_))
 refine pA (.int _ _) (pg (AU (sr ?_)))
 refine pM (.lit _ _ _) ?_
 refine BE Wq ?_
 refine pM (.int _ _) (pg (Bn ?_))
 refine AE (F := MB bd ck) (fun s S' => ∃ J G, A6 H G [.Au b1 (.cells 2 [iv ck.A1, iv ck.Way])] ∧ S' = ⟨Ao [(0, A0 l1 0 bd),(3, .ptr b1 0),(7, iv (bd.length : Int)),(8, iv s)] J, G⟩) hk ⟨_, _, hO, sh⟩ ?_
 rintro x2 _ y1 ⟨J, G, hO, rfl⟩ hk se
 refine sr (AO (pg (AU (As hk ?_ ?_)))) <;> intro hk
 ·refine Av (gn (AU (Bn (sr (pM (.int _ _) ?_)))))
  refine pA (.int _ _) (pg (AU ?_))
  refine GC [1,3,5,7,9,10] [_,_,_,_,_,_] ?_
  refine Eh hO 0 [_, _] SK E5 ?_
  refine pM (.lit _ _ _) ?_
  refine pM (.int _ _) (bk hk fun c3 sx hk => ?_)
  refine pX sx JX E5 ?_
  refine CQ (.agg [_, _]) (EA (lm := 0) (off := 0) sx SK E5) ?_
  refine nI sE (Tp (Tq _ _ _) (Tp (Tq _ _ _) (rfl))) (pg (As hk ?_ ?_)) <;> intro hk
  ·refine sr (pM (.int _ _) ?_)
   refine pA (.int _ _) (pg (Ax (br (gr (gr (br (gr (have hk := lx se hk; ?_))))))))
   cases hk; exact Ah hO
  refine Av (bn (gn (Cj (AO ?_))))
  refine pM (.int _ _) (pg ?_)
  cases hk; exact ⟨_, rfl, _, _, hO, sh⟩
 refine Dh (ge (ge (be (gn (have hk := lx se hk; sr (pA (.int _ _) (pg (Ax ?_))))))))
 cases hk; exact Ah hO
def aC (bd : List BR) (ck : BR) : Option Bool :=
 ((gJ bd ck).bind fun v2 => some (decide (v2 ≥ 0)))
theorem aD (hk : aC bd ck = some r) (sn : 0 < lk.length := by simp) : Aw dp hh 178 [A0 l1 0 bd, .agg [iv ck.A1, iv ck.Way]] H lk = some (.bool r, H) := by
 refine AH Tryz.func178 rfl Tryz.ntmps178 Tryz.results178 rfl rfl fun hO => ?_
 unfold aC at hk
 refine sr (C0 (cs := [_, _]) hO E5 (fun b1 G hO => ?_))
 refine pA (.bool _) (pg (sr ?_))
 refine pM (.lit _ _ _) ?_
 refine Eh hO 0 [_, _] SK E5 (bk hk fun v2 yo hk => ?_)
 refine Ae (fun _ => bA yo) ?_
 refine AO ?_
 refine pA (.bool _) (pg (Ax ?_))
 cases hk; exact Ah hO
end
end Go.Proofs.YtjklepgidjimfaaGreat.K
