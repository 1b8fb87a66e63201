/-
 The functions that FnExactDoFrame reaches, as typed Lean functions, and that the interpreter computes them. Part 2 of 4. No conditions.
-/
import Derived.Test.YtphpkphklegfeaaGreatDDfa
set_option linter.unusedVariables false
set_option linter.unusedSimpArgs false
set_option maxRecDepth 100000
set_option autoImplicit true
set_option relaxedAutoImplicit true
namespace Go.Proofs.YtphpkphklegfeaaGreat.K
open Tryz renaming prog → ai
open Option.some renaming inj → av
open List renaming getElem?_eq_some_iff → ak
noncomputable section
variable {H : A6} {lk : Lk}
def PQ (x3 : Int) (c4 : AD) (c6 : AD) : Int → Option (Int ⊕ (Int ⊕ Bool)) := fun s =>
 (bif decide (s < (c4.Ac.length : Int)) then ((AH c4.Ac s).bind fun c9 => ((AH c6.Ac s).bind fun c10 => (bif !(c9 == c10) then (((some false).map Sum.inr).map Sum.inr) else some (.inl (BE (s + 1)))))) else ((some (.inl (BE (x3 + 1)))).map Sum.inr))
def PO (aA0 : Frame) (aB1 : Frame) : Int → Option (Int ⊕ Bool) := fun s =>
 (bif decide (s < (aA0.A3.length : Int)) then ((AH aA0.A3 s).bind fun c4 => ((AH aB1.A3 s).bind fun c6 => (bif ((((c4.State != c6.State) || (c4.Aj != c6.Aj)) || !(c4.Shown == c6.Shown)) || (c4.Timer != c6.Timer)) then ((some false).map Sum.inr) else (AG (PQ s c4 c6) ((0:Int)))))) else ((some true).map Sum.inr))
def jK (aA0 : Frame) (aB1 : Frame) : Option Bool :=
 (AG (PO aA0 aB1) ((0:Int)))
theorem dV (hk : jK aA0 aB1 = some r) (hlk : 0 < lk.length := by simp) : Am ai hh 74 [.agg (Ah l1 0 l2 0 l3 m4 aA0), .agg (Ah l5 0 l6 0 l7 m8 aB1)] H lk = some (.bool r, H) := by
 refine AF Tryz.func74 rfl Tryz.ntmps74 Tryz.results74 rfl rfl fun hO => ?_
 unfold jK at hk
 refine sr (BR (cs := [_, _, _, _]) hO BZ (fun b1 G hO => ?_))
 refine BR (cs := [_, _, _, _]) hO BZ (fun b2 G hO => ?_)
 refine pA (.bool _) (pg (AV (sr ?_)))
 refine Ad BT hO 1 (.lit _ _ _) DZ ?_
 refine Ae Hk ?_
 refine pM (.int _ _) (pg (BO ?_))
 refine A9 (F := PO aA0 aB1) (fun s S' => ∃ J G, A4 H G [.AW b2 (.cells 4 (Ah l5 0 l6 0 l7 m8 aB1)), .AW b1 (.cells 4 (Ah l1 0 l2 0 l3 m4 aA0))] ∧ S' = ⟨CM [(2, .ptr b1 0),(3, .ptr b2 0),(11, iv (aA0.A3.length : Int)),(12, iv s)] J, G⟩) hk ⟨_, _, hO, sh⟩ ?_
 rintro x3 _ y1 ⟨J, G, hO, rfl⟩ hk hx1
 refine sr (AO (pg (AV (Ak hk ?_ ?_)))) <;> intro hk
 ·refine Ao (gn (AV (BO (sr (pM (.int _ _) ?_)))))
  refine pA (.int _ _) (pg (sr ?_))
  refine Ad BT hO 1 (.lit _ _ _) DZ ?_
  refine pM (.int _ _) (bk hk fun c4 hc4 hk => ?_)
  refine pX hc4 Da Av ?_
  refine Bq (.agg [_, _, _, _, _]) (GC (lm := m4) (off := 0) hc4 Gl Av) (C9 hO Av G8 (fun b5 G hO => ?_))
  refine Cg (xs := [_, _, _, _, _]) hO 0 Av rfl (fun G hO => pg (sr ?_))
  refine Ad BT hO 1 (.lit _ _ _) DZ ?_
  refine pM (.int _ _) (bk hk fun c6 hc6 hk => ?_)
  refine pX hc6 Da Av ?_
  refine Bq (.agg [_, _, _, _, _]) (GC (lm := m8) (off := 0) hc6 Gl Av) (C9 hO Av G8 (fun b7 G hO => ?_))
  refine Cg (xs := [_, _, _, _, _]) hO 0 Av rfl (fun G hO => pg (AV (sr ?_)))
  refine Ad Az hO 1 (.int _ _) B3 ?_
  refine Ad Az hO 0 (.int _ _) B3 ?_
  refine AO ?_
  refine pM (.bool _) ?_
  refine AP (l1 := [_, _, _, _, _, _]) [31, 32, 33, 34, 35, 36] 36 (.bool ((c4.State != c6.State) || (c4.Aj != c6.Aj))) ?_ ?_
  ·refine bc (b := (c4.State != c6.State)) ?_ ?_ <;> intro hg
   ·repeat refine Bg hg ?_
    refine Cm hg (.bool _) ?_
    exact pE (ek (by rw [hg]; rfl))
   refine AA hg (pF C7 (AA hg ?_))
   refine CT hO 1 (.int _ _) B3 (AA hg ?_)
   refine pF C7 (AA hg ?_)
   refine CT hO 0 (.int _ _) B3 (AA hg ?_)
   refine AO ?_
   refine Cl hg (.bool _) ?_
   exact pE (ek (by rw [hg]; rfl))
  intro J
  refine pM (.bool _) ?_
  refine AP (l1 := [_, _, _, _, _, _]) [38, 39, 40, 41, 42, 43] 43 (.bool (((c4.State != c6.State) || (c4.Aj != c6.Aj)) || !(c4.Shown == c6.Shown))) ?_ ?_
  ·refine bc (b := ((c4.State != c6.State) || (c4.Aj != c6.Aj))) ?_ ?_ <;> intro hg
   ·repeat refine Bg hg ?_
    refine Cm hg (.bool _) ?_
    exact pE (ek (by rw [hg]; rfl))
   refine AA hg (pF DW (AA hg ?_))
   refine CT hO 1 (.bool _) Fu (AA hg ?_)
   refine pF DW (AA hg ?_)
   refine CT hO 0 (.bool _) Fu (AA hg ?_)
   refine Zu Tryz.underlying4 ?_
   refine Cl hg (.bool _) ?_
   exact pE (ek (by rw [hg]; rfl))
  intro J
  refine pM (.bool _) ?_
  refine AP (l1 := [_, _, _, _, _, _]) [45, 46, 47, 48, 49, 50] 50 (.bool ((((c4.State != c6.State) || (c4.Aj != c6.Aj)) || !(c4.Shown == c6.Shown)) || (c4.Timer != c6.Timer))) ?_ ?_
  ·refine bc (b := (((c4.State != c6.State) || (c4.Aj != c6.Aj)) || !(c4.Shown == c6.Shown))) ?_ ?_ <;> intro hg
   ·repeat refine Bg hg ?_
    refine Cm hg (.bool _) ?_
    exact pE (ek (by rw [hg]; rfl))
   refine AA hg (pF Ce (AA hg ?_))
   refine CT hO 1 (.int _ _) B3 (AA hg ?_)
   refine pF Ce (AA hg ?_)
   refine CT hO 0 (.int _ _) B3 (AA hg ?_)
   refine AO ?_
   refine Cl hg (.bool _) ?_
   exact pE (ek (by rw [hg]; rfl))
  intro J
  refine pg (Ak hk ?_ ?_) <;> intro hk
  ·refine sr (pA (.bool _) (pg (Au (gr (br (gr (gr (br (gr (have hk := lx hx1 hk; ?_))))))))))
   cases hk; exact AQ hO
  refine Ao (gn (sr (Ad CC hO 1 (.lit _ _ _) C5 ?_)))
  refine Ae Hj ?_
  refine pM (.int _ _) (pg (BO ?_))
  refine A9 (F := PQ x3 c4 c6) (fun s S' => ∃ J G, A4 H G [.AW b7 (.cells 5 [iv c6.State, iv c6.Aj, AK m8 0 c6.Ac, .bool c6.Shown, iv c6.Timer]), .AW b5 (.cells 5 [iv c4.State, iv c4.Aj, AK m4 0 c4.Ac, .bool c4.Shown, iv c4.Timer]), .AW b2 (.cells 4 (Ah l5 0 l6 0 l7 m8 aB1)), .AW b1 (.cells 4 (Ah l1 0 l2 0 l3 m4 aA0))] ∧ S' = ⟨CM [(2, .ptr b1 0),(3, .ptr b2 0),(6, .ptr b5 0),(7, .ptr b7 0),(11, iv (aA0.A3.length : Int)),(12, iv x3),(53, iv (c4.Ac.length : Int)),(54, iv s)] J, G⟩) hk ⟨_, _, hO, sh⟩ ?_
  rintro x8 _ y2 ⟨J, G, hO, rfl⟩ hk hx2
  refine sr (AO (pg (AV (Ak hk ?_ ?_)))) <;> intro hk
  ·refine Ao (gn (AV (BO (sr (pM (.int _ _) ?_)))))
   refine pA (.int _ _) (pg (AV ?_))
   refine HY [1,3,5,7,9,11,13,15,17,19,20] [_,_,_,_,_,_,_,_,_,_,_] ?_
   refine Ad CC hO 1 (.lit _ _ _) C5 ?_
   refine pM (.int _ _) (bk hk fun c9 hc9 hk => ?_)
   refine pX hc9 Cd Eu ?_
   refine Bq (.bool _) (Cu (lm := 0) (off := 0) hc9 Fu) ?_
   refine Ad CC hO 0 (.lit _ _ _) C5 ?_
   refine pM (.int _ _) (bk hk fun c10 hc10 hk => ?_)
   refine pX hc10 Cd Eu ?_
   refine Bq (.bool _) (Cu (lm := 0) (off := 0) hc10 Fu) ?_
   refine Zu Tryz.underlying4 (pg (Ak hk ?_ ?_)) <;> intro hk
   ·refine sr (pA (.bool _) (pg (Au (br (gr (gr (br (br (gr (gr (br (gr (have hk := lx hx2 hk; have hk := lx hx1 hk; ?_)))))))))))))
    cases hk; exact AQ hO
   refine Ao (bn (gn (Bs (AO ?_))))
   refine pM (.int _ _) (pg ?_)
   cases hk; exact ⟨_, rfl, _, _, hO, sh⟩
  refine D5 (ge (ge (be (bn (gn (have hk := lx hx2 hk; Bs (AO ?_)))))))
  refine pM (.int _ _) (pg ?_)
  cases hk; exact ⟨_, rfl, _, _, (pk hO [2, 3]), sh⟩
 refine D5 (ge (ge (be (gn (have hk := lx hx1 hk; sr (pA (.bool _) (pg (Au ?_))))))))
 cases hk; exact AQ hO
def SJ (aP0 : AT) (aF1 : Frame) (x10 : Int) : Int → Option (Int ⊕ (Int ⊕ Bool)) := fun s =>
 (bif decide (s < (aF1.A3.length : Int)) then ((bif (x10 != s) then ((AH aP0.Bk x10).bind fun c14 => ((AH c14 s).bind fun c15 => some c15)) else some false).bind fun t13 => ((bif t13 then ((AH aF1.A3 x10).bind fun c17 => some (c17.State != 0)) else some false).bind fun t16 => ((bif t16 then ((AH aF1.A3 s).bind fun c19 => some (c19.State != 0)) else some false).bind fun t18 => (bif t18 then (((some false).map Sum.inr).map Sum.inr) else some (.inl (BE (s + 1))))))) else ((some (.inl (BE (x10 + 1)))).map Sum.inr))
def Ks (aP0 : AT) (aF1 : Frame) : Int → Option (Int ⊕ Bool) := fun s =>
 (bif decide (s < (aF1.A3.length : Int)) then ((lN aP0 aF1 s).bind fun v11 => (bif !v11 then ((some false).map Sum.inr) else (AG (SJ aP0 aF1 s) ((0:Int))))) else (((gK aF1).bind fun v20 => ((YI aP0 v20).bind fun z33 => ((jK aF1 z33).bind fun v35 => some v35))).map Sum.inr))
def Ox (aP0 : AT) (aF1 : Frame) : Int → Option (Int ⊕ Bool) := fun s =>
 (bif decide (s < (aF1.A1.length : Int)) then ((AH aF1.A1 s).bind fun c5 => ((Qc c5.Want (1:Int) (2:Int)).bind fun v7 => ((bif !v7 then some true else ((Qc c5.AJ (0:Int) (2:Int)).bind fun v9 => some (!v9))).bind fun t8 => (bif t8 then ((some false).map Sum.inr) else some (.inl (BE (s + 1))))))) else ((AG (Ks aP0 aF1) ((0:Int))).map Sum.inr))
def mO (aP0 : AT) (aF1 : Frame) : Option Bool :=
 ((nF aP0).bind fun v3 => (bif ((((!v3 || !aF1.Ok) || ((aF1.B1.length : Int) != aP0.A0)) || ((aF1.A1.length : Int) != (aP0.A5.length : Int))) || ((aF1.A3.length : Int) != (aP0.A3.length : Int))) then some false else (AG (Ox aP0 aF1) ((0:Int)))))
theorem cT (hk : mO aP0 aF1 = some r) (hlk : 0 < lk.length := by simp) (hlo : EE lk H.length := by simp [EE]) : Am ai hh 36 [.agg (AY l1 0 l2 m3 l4 m5 aP0), .agg (Ah l6 0 l7 0 l8 m9 aF1)] H lk = some (.bool r, H) := by
 refine AF Tryz.func36 rfl Tryz.ntmps36 Tryz.results36 rfl rfl fun hO => ?_
 unfold mO at hk
 refine sr (BR (cs := [_, _, _, _, _]) hO C0 (fun b1 G hO => ?_))
 refine BR (cs := [_, _, _, _]) hO BZ (fun b2 G hO => ?_)
 refine pA (.bool _) (pg (AV (sr ?_)))
 refine D9 hO 1 [_, _, _, _, _] EP C0 (bk hk fun v3 hv3 hk => ?_)
 refine AM (fun _ => dT hv3) ?_
 refine pU ?_
 refine pM (.bool _) ?_
 refine AP (l1 := [_, _, _, _]) [14, 15, 16, 17] 17 (.bool (!v3 || !aF1.Ok)) ?_ ?_
 ·refine bc (b := !v3) ?_ ?_ <;> intro hg
  ·refine Bg hg (Bg hg (Bg hg (Cm hg (.bool _) ?_)))
   exact pE (ek (by rw [hg]; rfl))
  refine AA hg (pF NL (AA hg ?_))
  refine CT hO 0 (.bool _) Fu (AA hg ?_)
  refine pU ?_
  refine Cl hg (.bool _) ?_
  exact pE (ek (by rw [hg]; rfl))
 intro J
 refine pM (.bool _) ?_
 refine AP (l1 := [_, _, _, _, _, _, _]) [19, 20, 21, 22, 23, 24, 25] 25 (.bool ((!v3 || !aF1.Ok) || ((aF1.B1.length : Int) != aP0.A0))) ?_ ?_
 ·refine bc (b := (!v3 || !aF1.Ok)) ?_ ?_ <;> intro hg
  ·repeat refine Bg hg ?_
   refine Cm hg (.bool _) ?_
   exact pE (ek (by rw [hg]; rfl))
  refine AA hg (pF CP (AA hg ?_))
  refine CT hO 0 (.lit _ _ _) C5 (AA hg ?_)
  refine Ae Hj (AA hg ?_)
  refine pF ES (AA hg ?_)
  refine CT hO 1 (.int _ _) B3 (AA hg ?_)
  refine AO ?_
  refine Cl hg (.bool _) ?_
  exact pE (ek (by rw [hg]; rfl))
 intro J
 refine pM (.bool _) ?_
 refine AP (l1 := [_, _, _, _, _, _, _, _]) [27, 28, 29, 30, 31, 32, 33, 34] 34 (.bool (((!v3 || !aF1.Ok) || ((aF1.B1.length : Int) != aP0.A0)) || ((aF1.A1.length : Int) != (aP0.A5.length : Int)))) ?_ ?_
 ·refine bc (b := ((!v3 || !aF1.Ok) || ((aF1.B1.length : Int) != aP0.A0))) ?_ ?_ <;> intro hg
  ·repeat refine Bg hg ?_
   refine Cm hg (.bool _) ?_
   exact pE (ek (by rw [hg]; rfl))
  refine AA hg (pF Cv (AA hg ?_))
  refine CT hO 0 (.lit _ _ _) H9 (AA hg ?_)
  refine Ae O3 (AA hg ?_)
  refine pF D4 (AA hg ?_)
  refine CT hO 1 (.lit _ _ _) BN (AA hg ?_)
  refine Ae DA (AA hg ?_)
  refine AO ?_
  refine Cl hg (.bool _) ?_
  exact pE (ek (by rw [hg]; rfl))
 intro J
 refine pM (.bool _) ?_
 refine AP (l1 := [_, _, _, _, _, _, _, _]) [36, 37, 38, 39, 40, 41, 42, 43] 43 (.bool ((((!v3 || !aF1.Ok) || ((aF1.B1.length : Int) != aP0.A0)) || ((aF1.A1.length : Int) != (aP0.A5.length : Int))) || ((aF1.A3.length : Int) != (aP0.A3.length : Int)))) ?_ ?_
 ·refine bc (b := (((!v3 || !aF1.Ok) || ((aF1.B1.length : Int) != aP0.A0)) || ((aF1.A1.length : Int) != (aP0.A5.length : Int)))) ?_ ?_ <;> intro hg
  ·repeat refine Bg hg ?_
   refine Cm hg (.bool _) ?_
   exact pE (ek (by rw [hg]; rfl))
  refine AA hg (pF BT (AA hg ?_))
  refine CT hO 0 (.lit _ _ _) DZ (AA hg ?_)
  refine Ae Hk (AA hg ?_)
  refine pF BY (AA hg ?_)
  refine CT hO 1 (.lit _ _ _) Df (AA hg ?_)
  refine Ae Im (AA hg ?_)
  refine AO ?_
  refine Cl hg (.bool _) ?_
  exact pE (ek (by rw [hg]; rfl))
 intro J
 refine pg (Ak hk ?_ ?_) <;> intro hk
 ·refine sr (pA (.bool _) (pg (Au (gr ?_))))
  cases hk; exact AQ hO
 refine Ao (gn (AV (sr (Ad Cv hO 0 (.lit _ _ _) H9 ?_))))
 refine Ae O3 ?_
 refine pM (.int _ _) (pg (BO ?_))
 refine A9 (F := Ox aP0 aF1) (fun s S' => ∃ J G, A4 H G [.AW b2 (.cells 4 (Ah l6 0 l7 0 l8 m9 aF1)), .AW b1 (.cells 5 (AY l1 0 l2 m3 l4 m5 aP0))] ∧ S' = ⟨CM [(2, .ptr b1 0),(3, .ptr b2 0),(45, AK l7 0 aF1.A1),(46, iv (aF1.A1.length : Int)),(47, iv s)] J, G⟩) hk ⟨_, _, hO, sh⟩ ?_
 rintro x4 _ y1 ⟨J, G, hO, rfl⟩ hk hx1
 refine sr (AO (pg (AV (Ak hk ?_ ?_)))) <;> intro hk
 ·refine Ao (gn (AV (BO (sr (bk hk fun c5 hc5 hk => pX hc5 Gm Dq ?_)))))
  refine Bq (.agg [_, _]) (GC (lm := 0) (off := 0) hc5 TM Dq) (C9 hO Dq UQ (fun b6 G hO => ?_))
  refine Cg (xs := [_, _]) hO 0 Dq rfl (fun G hO => pg (sr ?_))
  refine Ad GA hO 0 (.int _ _) B3 (bk hk fun v7 hv7 hk => ?_)
  refine AM (fun _ => Dj hv7) ?_
  refine pU ?_
  refine pM (.bool _) (bk hk fun t8 ht hk => ?_)
  refine AP (l1 := [_, _, _, _, _]) [56, 57, 58, 59, 60] 60 (.bool t8) ?_ ?_
  ·refine bc (b := !v7) ?_ ?_ <;> intro hg
   ·replace hk := ct hg ht
    repeat refine Bg hg ?_
    refine Cm hg (.bool _) ?_
    cases hk; exact pE ek
   replace hk := cf hg ht
   refine AA hg (pF IN (AA hg ?_))
   refine CT hO 0 (.int _ _) B3 (AA hg (bk hk fun v9 hv9 hk => ?_))
   refine AM (fun _ => Dj hv9) (AA hg ?_)
   refine pU ?_
   refine Cl hg (.bool _) ?_
   cases hk; exact pE ek
  intro J
  refine pg (Ak hk ?_ ?_) <;> intro hk
  ·refine sr (pA (.bool _) (pg (Au (br (gr (gr (br (gr (have hk := lx hx1 hk; ?_)))))))))
   cases hk; exact AQ hO
  refine Ao (bn (gn (Bs (AO ?_))))
  refine pM (.int _ _) (pg ?_)
  cases hk; exact ⟨_, rfl, _, _, (pk hO [1, 2]), sh⟩
 refine D5 (ge (ge (be (gn (have hk := lx hx1 hk; AV (sr (Ad BT hO 0 (.lit _ _ _) DZ ?_)))))))
 refine Ae Hk ?_
 refine pM (.int _ _) (pg (BO ?_))
 refine A9 (F := Ks aP0 aF1) (fun s S' => ∃ J G, A4 H G [.AW b2 (.cells 4 (Ah l6 0 l7 0 l8 m9 aF1)), .AW b1 (.cells 5 (AY l1 0 l2 m3 l4 m5 aP0))] ∧ S' = ⟨CM [(2, .ptr b1 0),(3, .ptr b2 0),(64, iv (aF1.A3.length : Int)),(65, iv s)] J, G⟩) hk ⟨_, _, hO, sh⟩ ?_
 rintro x10 _ y1 ⟨J, G, hO, rfl⟩ hk hx1
 refine sr (AO (pg (AV (Ak hk ?_ ?_)))) <;> intro hk
 ·refine Ao (gn (AV (BO (sr (pM (.int _ _) ?_)))))
  refine pA (.int _ _) (pg (AV (sr ?_)))
  refine D9 hO 1 [_, _, _, _, _] EP C0 ?_
  refine D9 hO 0 [_, _, _, _] DT BZ ?_
  refine pM (.int _ _) (bk hk fun v11 hv11 hk => ?_)
  refine AM (fun _ => dU hv11) ?_
  refine pU (pg (Ak hk ?_ ?_)) <;> intro hk
  ·refine sr (pA (.bool _) (pg (Au (gr (br (gr (gr (br (gr (have hk := lx hx1 hk; ?_))))))))))
   cases hk; exact AQ hO
  refine Ao (gn (sr (Ad BT hO 0 (.lit _ _ _) DZ ?_)))
  refine Ae Hk ?_
  refine pM (.int _ _) (pg (BO ?_))
  refine A9 (F := SJ aP0 aF1 x10) (fun s S' => ∃ J G, A4 H G [.AW b2 (.cells 4 (Ah l6 0 l7 0 l8 m9 aF1)), .AW b1 (.cells 5 (AY l1 0 l2 m3 l4 m5 aP0))] ∧ S' = ⟨CM [(2, .ptr b1 0),(3, .ptr b2 0),(7, iv x10),(64, iv (aF1.A3.length : Int)),(65, iv x10),(75, iv (aF1.A3.length : Int)),(76, iv s)] J, G⟩) hk ⟨_, _, hO, sh⟩ ?_
  rintro x12 _ y2 ⟨J, G, hO, rfl⟩ hk hx2
  refine sr (AO (pg (AV (Ak hk ?_ ?_)))) <;> intro hk
  ·refine Ao (gn (AV (BO (sr (pM (.int _ _) ?_)))))
   refine pA (.int _ _) (pg (sr ?_))
   refine pM (.int _ _) ?_
   refine pM (.int _ _) ?_
   refine AO ?_
   refine pM (.bool _) (bk hk fun t13 ht hk => ?_)
   refine AP (l1 := [_, _, _, _, _, _, _, _, _]) [83, 84, 85, 86, 87, 88, 89, 90, 91] 91 (.bool t13) ?_ ?_
   ·refine bc (b := (x10 != x12)) ?_ ?_ <;> intro hg
    ·replace hk := ct hg ht
     refine AA hg (pF Er (AA hg ?_))
     refine CT hO 1 (.lit _ _ _) JX (AA hg ?_)
     refine pM (.int _ _) (AA hg (bk hk fun c14 hc14 hk => ?_))
     refine pX hc14 JZ Gs (AA hg ?_)
     refine Bq (.lit _ _ _) (Cu (lm := m5) (off := 0) hc14 C5) (AA hg ?_)
     refine pM (.int _ _) (AA hg (bk hk fun c15 hc15 hk => ?_))
     refine pX hc15 Cd Eu (AA hg ?_)
     refine Bq (.bool _) (Cu (lm := 0) (off := 0) hc15 Fu) ?_
     refine Cm hg (.bool _) ?_
     cases hk; exact pE ek
    replace hk := cf hg ht
    repeat refine Bg hg ?_
    refine Cl hg (.bool _) ?_
    cases hk; exact pE ek
   intro J
   refine pM (.bool _) (bk hk fun t16 ht hk => ?_)
   refine AP (l1 := [_, _, _, _, _, _, _, _]) [93, 94, 95, 96, 97, 98, 99, 100] 100 (.bool t16) ?_ ?_
   ·refine bc (b := t13) ?_ ?_ <;> intro hg
    ·replace hk := ct hg ht
     refine AA hg (pF BT (AA hg ?_))
     refine CT hO 0 (.lit _ _ _) DZ (AA hg ?_)
     refine pM (.int _ _) (AA hg (bk hk fun c17 hc17 hk => ?_))
     refine pX hc17 Da Av (AA hg ?_)
     refine pF Az (AA hg ?_)
     refine Bq (.int _ _) (Cu (lm := m9) (off := 0) hc17 B3) (AA hg ?_)
     refine AO ?_
     refine Cm hg (.bool _) ?_
     cases hk; exact pE ek
    replace hk := cf hg ht
    repeat refine Bg hg ?_
    refine Cl hg (.bool _) ?_
    cases hk; exact pE ek
   intro J
   refine pM (.bool _) (bk hk fun t18 ht hk => ?_)
   refine AP (l1 := [_, _, _, _, _, _, _, _]) [102, 103, 104, 105, 106, 107, 108, 109] 109 (.bool t18) ?_ ?_
   ·refine bc (b := t16) ?_ ?_ <;> intro hg
    ·replace hk := ct hg ht
     refine AA hg (pF BT (AA hg ?_))
     refine CT hO 0 (.lit _ _ _) DZ (AA hg ?_)
     refine pM (.int _ _) (AA hg (bk hk fun c19 hc19 hk => ?_))
     refine pX hc19 Da Av (AA hg ?_)
     refine pF Az (AA hg ?_)
     refine Bq (.int _ _) (Cu (lm := m9) (off := 0) hc19 B3) (AA hg ?_)
     refine AO ?_
     refine Cm hg (.bool _) ?_
     cases hk; exact pE ek
    replace hk := cf hg ht
    repeat refine Bg hg ?_
    refine Cl hg (.bool _) ?_
    cases hk; exact pE ek
   intro J
   refine pg (Ak hk ?_ ?_) <;> intro hk
   ·refine sr (pA (.bool _) (pg (Au (br (gr (gr (br (br (gr (gr (br (gr (have hk := lx hx2 hk; have hk := lx hx1 hk; ?_)))))))))))))
    cases hk; exact AQ hO
   refine Ao (bn (gn (Bs (AO ?_))))
   refine pM (.int _ _) (pg ?_)
   cases hk; exact ⟨_, rfl, _, _, hO, sh⟩
  refine D5 (ge (ge (be (bn (gn (have hk := lx hx2 hk; Bs (AO ?_)))))))
  refine pM (.int _ _) (pg ?_)
  cases hk; exact ⟨_, rfl, _, _, hO, sh⟩
 refine D5 (ge (ge (be (gn (have hk := lx hx1 hk; sr (D9 hO 0 [_, _, _, _] DT BZ (bk hk fun v20 hv20 hk => ?_)))))))
 refine K8 hO (fun _ => WR hv20) (fun u21 F21 G hO => ?_)
 replace hO : A4 H G (AI [] _ ((v20.Ok, v20.B1, v20.A1, v20.A3) : Bool × (List Bool) × (List AZ) × (List AD)) _ :: [.AW b2 (.cells 4 (Ah l6 0 l7 0 l8 m9 aF1)), .AW b1 (.cells 5 (AY l1 0 l2 m3 l4 m5 aP0))]) := hO
 obtain ⟨cs22, Fb22, he, hP⟩ := A4.TI hO
 clear hO; subst he; have hO := hP; clear hP
 obtain ⟨u23, cs23, F23, Fb23, he, hP⟩ := A4.KD hO
 clear hO; subst he; have hO := hP; clear hP
 obtain ⟨u25, cs25, F25, Fb25, he, hP⟩ := A4.KD hO
 clear hO; subst he; have hO := hP; clear hP
 obtain ⟨u27, rfl⟩ := A4.Wg hO
 refine C9 hO BZ Qx (fun b29 G hO => ?_)
 have hc30 := AN hO (j := 3) rfl
 have hc31 := AN hO (j := 2) rfl
 have hc32 := AN hO (j := 1) rfl
 refine Cg (xs := [_, _, _, _]) hO 0 BZ rfl (fun G hO => ?_) (h6 := (Aa rfl (Aa hc30.2 (Aa hc31.2 (Aa hc32.2 DL)))))
 refine pg (sr (D9 hO 5 [_, _, _, _, _] EP C0 ?_))
 replace hO := (A4.pick hO [0, 3, 2, 1, 4, 5] (by decide) rfl : A4 H G ([.AW b29 (.cells 4 [.bool v20.Ok, u23, u25, u27]), AI [] F23 v20.B1 [u23], AI [] F25 v20.A1 [u25], AI [] Fb25 v20.A3 [u27]] ++ [.AW b2 (.cells 4 (Ah l6 0 l7 0 l8 m9 aF1)), .AW b1 (.cells 5 (AY l1 0 l2 m3 l4 m5 aP0))]))
 refine bk hk fun z33 hz33 hk => Vj (rs0 := [.AW b29 (.cells 4 [.bool v20.Ok, u23, u25, u27]), AI [] F23 v20.B1 [u23], AI [] F25 v20.A1 [u25], AI [] Fb25 v20.A3 [u27]]) (rs1 := fun (Fs34 : List Nat × List Nat × List Nat) => [.AW b29 (.cells 4 [.bool z33.Ok, u23, u25, u27]), AI [] Fs34.1 z33.B1 [u23], AI [] Fs34.2.1 z33.A1 [u25], AI [] Fs34.2.2 z33.A3 [u27]]) (rest := [.AW b2 (.cells 4 (Ah l6 0 l7 0 l8 m9 aF1)), .AW b1 (.cells 5 (AY l1 0 l2 m3 l4 m5 aP0))]) (S := (b29 :: (F23 ++ (F25 ++ (Fb25 ++ []))))) hO hlo rfl (IK rfl) (GY rfl) (A4.lo hO) (fun _ hl1 hlt1 hun1 ho1 => WS hz33 ho1 hun1 hlt1 hl1) (fun _ => (JU rfl (JU rfl (JU rfl (JU rfl Xg))))) (fun Fs34 G hO => pg (sr ?_))
 refine D9 hO 4 [_, _, _, _] DT BZ ?_
 refine D9 hO 0 [_, _, _, _] DT BZ (bk hk fun v35 hv35 hk => ?_)
 obtain ⟨_, hm36⟩ := Nh hO (j := 3) rfl (lk.length + 1) 7
 obtain ⟨_, hm37⟩ := G3 hO (j := 2) rfl (lk.length + 1) 7
 obtain ⟨_, hm38⟩ := G3 hO (j := 1) rfl (lk.length + 1) 7
 refine AM (vs := [(.agg [_, _, _, _]), (.agg [_, _, _, _])]) (caps := []) (fun _ => dV hv35) ?_ (h3 := (B9 rfl (B9 (L9 (CB rfl (CB hm38 (CB hm37 (CB hm36 LA))))) EB)))
 refine pA (.bool _) (pg (Au ?_))
 cases hk; exact AQ hO
def SY (aP0 : AT) (aE1 : BH) (x5 : Bool) : Option Bool :=
 (bif x5 then ((Qc aE1.Of (0:Int) (BE (aP0.A0 - 1))).bind fun v6 => some (v6 && (aE1.CK == 0))) else (bif (aE1.Op == 5) then ((Qc aE1.Of (0:Int) (BE ((aP0.A5.length : Int) - 1))).bind fun v7 => ((bif v7 then ((Qc aE1.CK (0:Int) (2:Int)).bind fun v9 => some v9) else some false).bind fun t8 => some t8)) else (bif (aE1.Op == 6) then ((Qc aE1.Of (0:Int) (BE ((aP0.A5.length : Int) - 1))).bind fun v10 => ((bif v10 then ((Qc aE1.CK (1:Int) (2:Int)).bind fun v12 => some v12) else some false).bind fun t11 => some t11)) else (bif (aE1.Op == 7) then some ((aE1.Of == 0) && (aE1.CK == 0)) else some false))))
def SX (aP0 : AT) (aE1 : BH) (x3 : Bool) : Option Bool :=
 (bif x3 then ((Qc aE1.Of (0:Int) (BE ((aP0.A3.length : Int) - 1))).bind fun v4 => some (v4 && (aE1.CK == 0))) else (bif (aE1.Op == 3) then (SY aP0 aE1 (aE1.Op == 3)) else (SY aP0 aE1 (aE1.Op == 4))))
def dJ (aP0 : AT) (aE1 : BH) : Option Bool :=
 (bif (aE1.Op == 1) then (SX aP0 aE1 (aE1.Op == 1)) else (SX aP0 aE1 (aE1.Op == 2)))
theorem dK (hk : dJ aP0 aE1 = some r) (hlk : 0 < lk.length := by simp) : Am ai hh 60 [.agg (AY l1 0 l2 m3 l4 m5 aP0), .agg [iv aE1.Op, iv aE1.Of, iv aE1.CK]] H lk = some (.bool r, H) := by
 refine AF Tryz.func60 rfl Tryz.ntmps60 Tryz.results60 rfl rfl fun hO => ?_
 unfold dJ at hk
 refine sr (BR (cs := [_, _, _, _, _]) hO C0 (fun b1 G hO => ?_))
 refine BR (cs := [_, _, _]) hO NO (fun b2 G hO => ?_)
 refine pA (.bool _) (pg (AV (sr ?_)))
 refine Ad QV hO 0 (.int _ _) B3 (pg (BO ?_))
 refine By (fun S' => ∃ x3 J G, SX aP0 aE1 x3 = some r ∧ A4 H G [.AW b2 (.cells 3 [iv aE1.Op, iv aE1.Of, iv aE1.CK]), .AW b1 (.cells 5 (AY l1 0 l2 m3 l4 m5 aP0))] ∧ S' = ⟨CM [(2, .ptr b1 0),(3, .ptr b2 0),(6, iv aE1.Op),(7, .bool x3)] J, G⟩) ?_ ?_
 ·refine sr (AO ?_)
  refine pA (.bool _) (pg (Ak hk ?_ ?_)) <;> intro hk
  ·exact Ao (gn (⟨(aE1.Op == 1), _, _, hk, hO, sh⟩))
  refine Bs (AO ?_)
  refine pA (.bool _) (pg ?_)
  exact ⟨(aE1.Op == 2), _, _, hk, hO, sh⟩
 rintro _ ⟨x3, J, G, hk, hO, rfl⟩
 refine Ak hk ?_ ?_ <;> intro hk
 ·refine sr (Ad CS hO 0 (.int _ _) B3 ?_)
  refine Ad BY hO 1 (.lit _ _ _) Df ?_
  refine Ae Im ?_
  refine AO (bk hk fun v4 hv4 hk => ?_)
  refine AM (fun _ => Dj hv4) ?_
  refine pM (.bool _) ?_
  refine AP (l1 := [_, _, _, _]) [18, 19, 20, 21] 21 (.bool (v4 && (aE1.CK == 0))) ?_ ?_
  ·refine bc (b := v4) ?_ ?_ <;> intro hg
   ·refine AA hg (pF Fb (AA hg ?_))
    refine CT hO 0 (.int _ _) B3 (AA hg ?_)
    refine AO ?_
    refine Cm hg (.bool _) ?_
    exact pE (ek (by rw [hg]; rfl))
   refine Bg hg (Bg hg (Bg hg (Cl hg (.bool _) ?_)))
   exact pE (ek (by rw [hg]; rfl))
  intro J
  refine pA (.bool _) (pg (Au (br (gr ?_))))
  cases hk; exact AQ hO
 refine By (fun S' => ∃ x5 J G, SY aP0 aE1 x5 = some r ∧ A4 H G [.AW b2 (.cells 3 [iv aE1.Op, iv aE1.Of, iv aE1.CK]), .AW b1 (.cells 5 (AY l1 0 l2 m3 l4 m5 aP0))] ∧ S' = ⟨CM [(2, .ptr b1 0),(3, .ptr b2 0),(6, iv aE1.Op),(22, .bool x5)] J, G⟩) ?_ ?_
 ·refine sr (AO ?_)
  refine pA (.bool _) (pg (Ak hk ?_ ?_)) <;> intro hk
  ·exact Ao (gn (⟨(aE1.Op == 3), _, _, hk, hO, sh⟩))
  refine Bs (AO ?_)
  refine pA (.bool _) (pg ?_)
  exact ⟨(aE1.Op == 4), _, _, hk, hO, sh⟩
 rintro _ ⟨x5, J, G, hk, hO, rfl⟩
 refine Ak hk ?_ ?_ <;> intro hk
 ·refine sr (Ad CS hO 0 (.int _ _) B3 ?_)
  refine Ad ES hO 1 (.int _ _) B3 ?_
  refine AO (bk hk fun v6 hv6 hk => ?_)
  refine AM (fun _ => Dj hv6) ?_
  refine pM (.bool _) ?_
  refine AP (l1 := [_, _, _, _]) [32, 33, 34, 35] 35 (.bool (v6 && (aE1.CK == 0))) ?_ ?_
  ·refine bc (b := v6) ?_ ?_ <;> intro hg
   ·refine AA hg (pF Fb (AA hg ?_))
    refine CT hO 0 (.int _ _) B3 (AA hg ?_)
    refine AO ?_
    refine Cm hg (.bool _) ?_
    exact pE (ek (by rw [hg]; rfl))
   refine Bg hg (Bg hg (Bg hg (Cl hg (.bool _) ?_)))
   exact pE (ek (by rw [hg]; rfl))
  intro J
  refine pA (.bool _) (pg (Au (br (gr ?_))))
  cases hk; exact AQ hO
 refine sr (AO ?_)
 refine pA (.bool _) (pg (Ak hk ?_ ?_)) <;> intro hk
 ·refine sr (Ad CS hO 0 (.int _ _) B3 ?_)
  refine Ad D4 hO 1 (.lit _ _ _) BN ?_
  refine Ae DA ?_
  refine AO (bk hk fun v7 hv7 hk => ?_)
  refine AM (fun _ => Dj hv7) ?_
  refine pM (.bool _) (bk hk fun t8 ht hk => ?_)
  refine AP (l1 := [_, _, _, _]) [46, 47, 48, 49] 49 (.bool t8) ?_ ?_
  ·refine bc (b := v7) ?_ ?_ <;> intro hg
   ·replace hk := ct hg ht
    refine AA hg (pF Fb (AA hg ?_))
    refine CT hO 0 (.int _ _) B3 (AA hg (bk hk fun v9 hv9 hk => ?_))
    refine AM (fun _ => Dj hv9) ?_
    refine Cm hg (.bool _) ?_
    cases hk; exact pE ek
   replace hk := cf hg ht
   refine Bg hg (Bg hg (Bg hg (Cl hg (.bool _) ?_)))
   cases hk; exact pE ek
  intro J
  refine pA (.bool _) (pg (Au (br (gr ?_))))
  cases hk; exact AQ hO
 refine sr (AO ?_)
 refine pA (.bool _) (pg (Ak hk ?_ ?_)) <;> intro hk
 ·refine sr (Ad CS hO 0 (.int _ _) B3 ?_)
  refine Ad D4 hO 1 (.lit _ _ _) BN ?_
  refine Ae DA ?_
  refine AO (bk hk fun v10 hv10 hk => ?_)
  refine AM (fun _ => Dj hv10) ?_
  refine pM (.bool _) (bk hk fun t11 ht hk => ?_)
  refine AP (l1 := [_, _, _, _]) [60, 61, 62, 63] 63 (.bool t11) ?_ ?_
  ·refine bc (b := v10) ?_ ?_ <;> intro hg
   ·replace hk := ct hg ht
    refine AA hg (pF Fb (AA hg ?_))
    refine CT hO 0 (.int _ _) B3 (AA hg (bk hk fun v12 hv12 hk => ?_))
    refine AM (fun _ => Dj hv12) ?_
    refine Cm hg (.bool _) ?_
    cases hk; exact pE ek
   replace hk := cf hg ht
   refine Bg hg (Bg hg (Bg hg (Cl hg (.bool _) ?_)))
   cases hk; exact pE ek
  intro J
  refine pA (.bool _) (pg (Au (br (gr ?_))))
  cases hk; exact AQ hO
 refine sr (AO ?_)
 refine pA (.bool _) (pg (Ak hk ?_ ?_)) <;> intro hk
 ·refine sr (Ad CS hO 0 (.int _ _) B3 ?_)
  refine AO ?_
  refine pM (.bool _) ?_
  refine AP (l1 := [_, _, _, _]) [70, 71, 72, 73] 73 (.bool ((aE1.Of == 0) && (aE1.CK == 0))) ?_ ?_
  ·refine bc (b := (aE1.Of == 0)) ?_ ?_ <;> intro hg
   ·refine AA hg (pF Fb (AA hg ?_))
    refine CT hO 0 (.int _ _) B3 (AA hg ?_)
    refine AO ?_
    refine Cm hg (.bool _) ?_
    exact pE (ek (by rw [hg]; rfl))
   refine Bg hg (Bg hg (Bg hg (Cl hg (.bool _) ?_)))
   exact pE (ek (by rw [hg]; rfl))
  intro J
  refine pA (.bool _) (pg (Au (br (gr ?_))))
  cases hk; exact AQ hO
 refine Ao (bn (gn (sr (pA (.bool _) (pg (Au ?_))))))
 cases hk; exact AQ hO
def LZ (aF1 : Frame) (aI2 : Int) (aSection3 : Int) (c4 : CA) : Int → Option (Int ⊕ Bool) := fun s =>
 (bif decide (s < (c4.A0.length : Int)) then ((AH c4.A0 s).bind fun c6 => ((bif (c6 == aSection3) then ((AH aF1.A3 aI2).bind fun c8 => some (decide (s ≥ c8.Aj))) else some false).bind fun t7 => (bif t7 then ((some true).map Sum.inr) else some (.inl (BE (s + 1)))))) else ((some false).map Sum.inr))
def Yj (aP0 : AT) (aF1 : Frame) (aI2 : Int) (aSection3 : Int) : Option Bool :=
 ((AH aF1.A3 aI2).bind fun c3 => (bif (c3.State == 0) then some false else ((AH aP0.A3 aI2).bind fun c4 => (AG (LZ aF1 aI2 aSection3 c4) ((0:Int))))))
theorem Yk (hk : Yj aP0 aF1 aI2 aSection3 = some r) (hlk : 0 < lk.length := by simp) : Am ai hh 105 [.agg (AY l1 0 l2 m3 l4 m5 aP0), .agg (Ah l6 0 l7 0 l8 m9 aF1), iv aI2, iv aSection3] H lk = some (.bool r, H) := by
 refine AF Tryz.func105 rfl Tryz.ntmps105 Tryz.results105 rfl rfl fun hO => ?_
 unfold Yj at hk
 refine sr (BR (cs := [_, _, _, _, _]) hO C0 (fun b1 G hO => ?_))
 refine BR (cs := [_, _, _, _]) hO BZ (fun b2 G hO => ?_)
 refine pA (.bool _) (pg (AV (sr ?_)))
 refine Ad BT hO 0 (.lit _ _ _) DZ ?_
 refine pM (.int _ _) (bk hk fun c3 hc3 hk => ?_)
 refine pX hc3 Da Av ?_
 refine pF Az ?_
 refine Bq (.int _ _) (Cu (lm := m9) (off := 0) hc3 B3) ?_
 refine AO (pg (Ak hk ?_ ?_)) <;> intro hk
 ·refine sr (pA (.bool _) (pg (Au (gr ?_))))
  cases hk; exact AQ hO
 refine Ao (gn (AV (sr (Ad BY hO 1 (.lit _ _ _) Df ?_))))
 refine pM (.int _ _) (bk hk fun c4 hc4 hk => ?_)
 refine pX hc4 EY Ay ?_
 refine pF BS ?_
 refine Bq (.lit _ _ _) (Cu (lm := m3) (off := 0) hc4 BN) ?_
 refine Ae DA ?_
 refine pM (.int _ _) (pg (BO ?_))
 refine A9 (F := LZ aF1 aI2 aSection3 c4) (fun s S' => ∃ J G, A4 H G [.AW b2 (.cells 4 (Ah l6 0 l7 0 l8 m9 aF1))] ∧ S' = ⟨CM [(2, iv aI2),(3, iv aSection3),(5, .ptr b2 0),(23, AK m3 0 c4.A0),(24, iv (c4.A0.length : Int)),(25, iv s)] J, G⟩) hk ⟨_, _, (pk hO [0]), sh⟩ ?_
 rintro x5 _ y1 ⟨J, G, hO, rfl⟩ hk hx1
 refine sr (AO (pg (AV (Ak hk ?_ ?_)))) <;> intro hk
 ·refine Ao (gn (AV (BO (sr (pM (.int _ _) (bk hk fun c6 hc6 hk => ?_))))))
  refine pX hc6 CG DB ?_
  refine Bq (.int _ _) (Cu (lm := 0) (off := 0) hc6 B3) ?_
  refine pA (.int _ _) ?_
  refine pA (.int _ _) (pg (sr ?_))
  refine pM (.int _ _) ?_
  refine pM (.int _ _) ?_
  refine AO ?_
  refine pM (.bool _) (bk hk fun t7 ht hk => ?_)
  refine AP (l1 := [_, _, _, _, _, _, _, _, _]) [34, 35, 36, 37, 38, 39, 40, 41, 42] 42 (.bool t7) ?_ ?_
  ·refine bc (b := (c6 == aSection3)) ?_ ?_ <;> intro hg
   ·replace hk := ct hg ht
    refine AA hg (pM (.int _ _) (AA hg ?_))
    refine pF BT (AA hg ?_)
    refine CT hO 0 (.lit _ _ _) DZ (AA hg ?_)
    refine pM (.int _ _) (AA hg (bk hk fun c8 hc8 hk => ?_))
    refine pX hc8 Da Av (AA hg ?_)
    refine pF C7 (AA hg ?_)
    refine Bq (.int _ _) (Cu (lm := m9) (off := 1) hc8 B3) (AA hg ?_)
    refine AO ?_
    refine Cm hg (.bool _) ?_
    cases hk; exact pE ek
   replace hk := cf hg ht
   repeat refine Bg hg ?_
   refine Cl hg (.bool _) ?_
   cases hk; exact pE ek
  intro J
  refine pg (Ak hk ?_ ?_) <;> intro hk
  ·refine sr (pA (.bool _) (pg (Au (br (gr (gr (br (gr (have hk := lx hx1 hk; ?_)))))))))
   cases hk; exact AQ hO
  refine Ao (bn (gn (Bs (AO ?_))))
  refine pM (.int _ _) (pg ?_)
  cases hk; exact ⟨_, rfl, _, _, hO, sh⟩
 refine D5 (ge (ge (be (gn (have hk := lx hx1 hk; sr (pA (.bool _) (pg (Au ?_))))))))
 cases hk; exact AQ hO
def Kv (aP0 : AT) (aF1 : Frame) (aI2 : Int) (aPoint3 : Int) (c8 : CA) : Int → Option (Int ⊕ Int) := fun s =>
 (bif decide (s < (c8.AJ.length : Int)) then ((AH c8.AJ s).bind fun c10 => ((bif (c10.Switch == aPoint3) then ((AH aP0.A5 aPoint3).bind fun c13 => ((Yj aP0 aF1 aI2 c13).bind fun v14 => some v14)) else some false).bind fun t12 => (bif t12 then ((some c10.CK).map Sum.inr) else some (.inl (BE (s + 1)))))) else ((some (0:Int)).map Sum.inr))
def Mp (aP0 : AT) (aF1 : Frame) (aI2 : Int) (aPoint3 : Int) (c4 : CA) : Int → Option (Int ⊕ Int) := fun s =>
 (bif decide (s < (c4.A7.length : Int)) then ((AH c4.A7 s).bind fun c6 => (bif (c6.Switch == aPoint3) then ((some c6.CK).map Sum.inr) else some (.inl (BE (s + 1))))) else (((AH aP0.A3 aI2).bind fun c8 => (AG (Kv aP0 aF1 aI2 aPoint3 c8) ((0:Int)))).map Sum.inr))
def nG (aP0 : AT) (aF1 : Frame) (aI2 : Int) (aPoint3 : Int) : Option Int :=
 ((AH aF1.A3 aI2).bind fun c3 => (bif (c3.State == 0) then some (0:Int) else ((AH aP0.A3 aI2).bind fun c4 => (AG (Mp aP0 aF1 aI2 aPoint3 c4) ((0:Int))))))
theorem dW (hk : nG aP0 aF1 aI2 aPoint3 = some r) (hlk : 0 < lk.length := by simp) : Am ai hh 75 [.agg (AY l1 0 l2 m3 l4 m5 aP0), .agg (Ah l6 0 l7 0 l8 m9 aF1), iv aI2, iv aPoint3] H lk = some (iv r, H) := by
 refine AF Tryz.func75 rfl Tryz.ntmps75 Tryz.results75 rfl rfl fun hO => ?_
 unfold nG at hk
 refine sr (BR (cs := [_, _, _, _, _]) hO C0 (fun b1 G hO => ?_))
 refine BR (cs := [_, _, _, _]) hO BZ (fun b2 G hO => ?_)
 refine pA (.int _ _) (pg (AV (sr ?_)))
 refine Ad BT hO 0 (.lit _ _ _) DZ ?_
 refine pM (.int _ _) (bk hk fun c3 hc3 hk => ?_)
 refine pX hc3 Da Av ?_
 refine pF Az ?_
 refine Bq (.int _ _) (Cu (lm := m9) (off := 0) hc3 B3) ?_
 refine AO (pg (Ak hk ?_ ?_)) <;> intro hk
 ·refine sr (pA (.int _ _) (pg (Au (gr ?_))))
  cases hk; exact AQ hO
 refine Ao (gn (AV (sr (Ad BY hO 1 (.lit _ _ _) Df ?_))))
 refine pM (.int _ _) (bk hk fun c4 hc4 hk => ?_)
 refine pX hc4 EY Ay ?_
 refine pF Ed ?_
 refine Bq (.lit _ _ _) (Cu (lm := m3) (off := 2) hc4 Db) ?_
 refine Ae FF ?_
 refine pM (.int _ _) (pg (BO ?_))
 refine A9 (F := Mp aP0 aF1 aI2 aPoint3 c4) (fun s S' => ∃ J G, A4 H G [.AW b2 (.cells 4 (Ah l6 0 l7 0 l8 m9 aF1)), .AW b1 (.cells 5 (AY l1 0 l2 m3 l4 m5 aP0))] ∧ S' = ⟨CM [(2, iv aI2),(3, iv aPoint3),(4, .ptr b1 0),(5, .ptr b2 0),(25, AK m3 0 c4.A7),(26, iv (c4.A7.length : Int)),(27, iv s)] J, G⟩) hk ⟨_, _, hO, sh⟩ ?_
 rintro x5 _ y1 ⟨J, G, hO, rfl⟩ hk hx1
 refine sr (AO (pg (AV (Ak hk ?_ ?_)))) <;> intro hk
 ·refine Ao (gn (AV (BO (sr (bk hk fun c6 hc6 hk => pX hc6 Dy BA ?_)))))
  refine Bq (.agg [_, _]) (GC (lm := 0) (off := 0) hc6 G9 BA) (C9 hO BA Fo (fun b7 G hO => ?_))
  refine Cg (xs := [_, _]) hO 0 BA rfl (fun G hO => pg (sr ?_))
  refine Ad CU hO 0 (.int _ _) B3 ?_
  refine pM (.int _ _) ?_
  refine AO (pg (Ak hk ?_ ?_)) <;> intro hk
  ·refine sr (Ad E7 hO 0 (.int _ _) B3 ?_)
   refine pA (.int _ _) (pg (Au (br (gr (gr (br (gr (have hk := lx hx1 hk; ?_))))))))
   cases hk; exact AQ hO
  refine Ao (bn (gn (Bs (AO ?_))))
  refine pM (.int _ _) (pg ?_)
  cases hk; exact ⟨_, rfl, _, _, (pk hO [1, 2]), sh⟩
 refine D5 (ge (ge (be (gn (have hk := lx hx1 hk; AV (sr (Ad BY hO 1 (.lit _ _ _) Df ?_)))))))
 refine pM (.int _ _) (bk hk fun c8 hc8 hk => ?_)
 refine pX hc8 EY Ay ?_
 refine pF ER ?_
 refine Bq (.lit _ _ _) (Cu (lm := m3) (off := 1) hc8 Db) ?_
 refine Ae FF ?_
 refine pM (.int _ _) (pg (BO ?_))
 refine A9 (F := Kv aP0 aF1 aI2 aPoint3 c8) (fun s S' => ∃ J G, A4 H G [.AW b2 (.cells 4 (Ah l6 0 l7 0 l8 m9 aF1)), .AW b1 (.cells 5 (AY l1 0 l2 m3 l4 m5 aP0))] ∧ S' = ⟨CM [(2, iv aI2),(3, iv aPoint3),(4, .ptr b1 0),(5, .ptr b2 0),(43, AK m3 0 c8.AJ),(44, iv (c8.AJ.length : Int)),(45, iv s)] J, G⟩) hk ⟨_, _, hO, sh⟩ ?_
 rintro x9 _ y1 ⟨J, G, hO, rfl⟩ hk hx1
 refine sr (AO (pg (AV (Ak hk ?_ ?_)))) <;> intro hk
 ·refine Ao (gn (AV (BO (sr (bk hk fun c10 hc10 hk => pX hc10 Dy BA ?_)))))
  refine Bq (.agg [_, _]) (GC (lm := 0) (off := 0) hc10 G9 BA) (C9 hO BA Fo (fun b11 G hO => ?_))
  refine Cg (xs := [_, _]) hO 0 BA rfl (fun G hO => pg (AV ?_))
  refine HY [0,3,5,6,8,11,13,15,17,19,21,23,25,26,28] [_,_,_,_,_,_,_,_,_,_,_,_,_,_,_] ?_
  refine Ad CU hO 0 (.int _ _) B3 ?_
  refine pM (.int _ _) ?_
  refine AO ?_
  refine pM (.bool _) (bk hk fun t12 ht hk => ?_)
  refine AP (l1 := [_, _, _, _, _, _, _, _, _, _]) [54, 55, 56, 57, 58, 59, 60, 61, 62, 63] 63 (.bool t12) ?_ ?_
  ·refine bc (b := (c10.Switch == aPoint3)) ?_ ?_ <;> intro hg
   ·replace hk := ct hg ht
    refine AA hg (D9 hO 2 [_, _, _, _, _] EP C0 (AA hg ?_))
    refine D9 hO 1 [_, _, _, _] DT BZ (AA hg ?_)
    refine pM (.int _ _) (AA hg ?_)
    refine pF D4 (AA hg ?_)
    refine CT hO 2 (.lit _ _ _) BN (AA hg ?_)
    refine pM (.int _ _) (AA hg (bk hk fun c13 hc13 hk => ?_))
    refine pX hc13 CG DB (AA hg ?_)
    refine Bq (.int _ _) (Cu (lm := 0) (off := 0) hc13 B3) (AA hg (bk hk fun v14 hv14 hk => ?_))
    refine AM (fun _ => Yk hv14) ?_
    refine Cm hg (.bool _) ?_
    cases hk; exact pE ek
   replace hk := cf hg ht
   repeat refine Bg hg ?_
   refine Cl hg (.bool _) ?_
   cases hk; exact pE ek
  intro J
  refine pg (Ak hk ?_ ?_) <;> intro hk
  ·refine sr (Ad E7 hO 0 (.int _ _) B3 ?_)
   refine pA (.int _ _) (pg (Au (br (gr (gr (br (gr (have hk := lx hx1 hk; ?_))))))))
   cases hk; exact AQ hO
  refine Ao (bn (gn (Bs (AO ?_))))
  refine pM (.int _ _) (pg ?_)
  cases hk; exact ⟨_, rfl, _, _, (pk hO [1, 2]), sh⟩
 refine D5 (ge (ge (be (gn (have hk := lx hx1 hk; sr (pA (.int _ _) (pg (Au ?_))))))))
 cases hk; exact AQ hO
def SK (x5 : Int) (x6 : List Int) : Option (((List Int) × Int) ⊕ (List Int)) :=
 some (.inl (x6, BE (x5 + 1)))
def Md (aP0 : AT) (aF1 : Frame) (aPoint2 : Int) : ((List Int) × Int) → Option (((List Int) × Int) ⊕ (List Int)) := fun s =>
 (bif decide (s.2 < (aP0.A3.length : Int)) then ((nG aP0 aF1 s.2 aPoint2).bind fun v8 => (bif decide (v8 > 0) then ((DP 8 s.1 ([s.2] : List Int)).bind fun z9 => (SK s.2 z9)) else (SK s.2 s.1))) else ((some s.1).map Sum.inr))
def lJ (aP0 : AT) (aF1 : Frame) (aPoint2 : Int) : Option (List Int) :=
 (AG (Md aP0 aF1 aPoint2) (([] : List Int), (0:Int)))
theorem WO (hk : lJ aP0 aF1 aPoint2 = some r) (hlk : 0 < lk.length := by simp) : Am ai hh 38 [.agg (AY l1 0 l2 m3 l4 m5 aP0), .agg (Ah l6 0 l7 0 l8 m9 aF1), iv aPoint2] H lk = some (AK 0 0 r, H) := by
 refine AF Tryz.func38 rfl Tryz.ntmps38 Tryz.results38 rfl rfl fun hO => ?_
 unfold lJ at hk
 refine sr (BR (cs := [_, _, _, _, _]) hO C0 (fun b1 G hO => ?_))
 refine BR (cs := [_, _, _, _]) hO BZ (fun b2 G hO => ?_)
 refine pA (.tl 0 []) (pg (sr ?_))
 refine pA (.tl 0 []) (pg (AV (sr ?_)))
 refine Ad BY hO 1 (.lit _ _ _) Df ?_
 refine Ae Im ?_
 refine pM (.int _ _) (pg (BO ?_))
 refine A9 (F := Md aP0 aF1 aPoint2) (fun s S' => ∃ o3 J G, A4 H G [.AW b2 (.cells 4 (Ah l6 0 l7 0 l8 m9 aF1)), .AW b1 (.cells 5 (AY l1 0 l2 m3 l4 m5 aP0)), .own o3 lk.length 1 s.1.length (A8 0 s.1)] ∧ S' = ⟨CM [(2, iv aPoint2),(3, .ptr b1 0),(4, .ptr b2 0),(7, o3),(11, iv (aP0.A3.length : Int)),(12, iv s.2)] J, G⟩) hk ⟨(.tl 0 []), _, _, (A4.pick (A4.Hn hO lk.length ([] : List Int)) [1, 2, 0] (by decide) rfl), sh⟩ ?_
 rintro ⟨x3, x5⟩ _ y1 ⟨o3, J, G, hO, rfl⟩ hk hx1
 refine sr (AO (pg (AV (Ak hk ?_ ?_)))) <;> intro hk
 ·refine Ao (gn (By (fun S' => ∃ x6 o6 J G, SK x5 x6 = some y1 ∧ A4 H G [.AW b2 (.cells 4 (Ah l6 0 l7 0 l8 m9 aF1)), .AW b1 (.cells 5 (AY l1 0 l2 m3 l4 m5 aP0)), .own o6 lk.length 1 x6.length (A8 0 x6)] ∧ S' = ⟨CM [(2, iv aPoint2),(3, .ptr b1 0),(4, .ptr b2 0),(7, o6),(11, iv (aP0.A3.length : Int)),(12, iv x5)] J, G⟩) ?_ ?_))
  ·refine BO (sr (pM (.int _ _) ?_))
   refine pA (.int _ _) (pg (sr ?_))
   refine D9 hO 1 [_, _, _, _, _] EP C0 ?_
   refine D9 hO 0 [_, _, _, _] DT BZ ?_
   refine pM (.int _ _) ?_
   refine pM (.int _ _) (bk hk fun v8 hv8 hk => ?_)
   refine AM (fun _ => dW hv8) ?_
   refine AO (pg (Ak hk ?_ ?_)) <;> intro hk
   ·refine Bs (pM o3 ?_)
    refine pM (.int _ _) ?_
    refine Vi (ps := [(0, (.int _ _))]) ([x5] : List Int) CG DB Nv (Dh (Di _ _) (EJ)) (bk hk fun z9 hz9 hk => ?_)
    refine Uf (xs := x3) hO 2 hz9 (Ee ([x5] : List Int)) CG DB YK Nv CG rfl (fun o9 G hno9 hO => ?_)
    refine pA o9 (pE (bn (gn ?_)))
    exact ⟨z9, o9, _, _, hk, hO, sh⟩
   exact Ao (bn (gn (⟨x3, o3, _, _, hk, hO, sh⟩)))
  rintro _ ⟨x6, o6, J, G, hk, hO, rfl⟩
  refine Bs (AO ?_)
  refine pM (.int _ _) (pg ?_)
  cases hk; exact ⟨_, rfl, o6, _, _, hO, sh⟩
 refine D5 (ge (ge (be (gn (have hk := lx hx1 hk; sr (pM o3 ?_))))))
 refine pA o3 (pg (Au ?_))
 replace hk := av hk; subst hk; exact He hO (HO (xs := x3) hlk 2) (Kc o3 DQ)
def SQ (x10 : Int) (x11 : List Int) (x13 : Int) : Option (((List Int) × Int × Int) ⊕ (DK × Int)) :=
 some (.inl (x11, x13, BE (x10 + 1)))
def PG (x32 : Int) (x33 : List Int) (x35 : List Int) (x37 : Int) : Option (((List Int) × (List Int) × Int × Int) ⊕ (DK × Int)) :=
 some (.inl (x33, x35, x37, BE (x32 + 1)))
def Jn (x52 : Int) (x53 : List Int) (x55 : List Int) (x57 : List Int) (x59 : Int) : Option (((List Int) × (List Int) × (List Int) × Int × Int) ⊕ (DK × Int)) :=
 some (.inl (x53, x55, x57, x59, BE (x52 + 1)))
def SR (x76 : Int) (x77 : List Int) (x79 : List Int) (x81 : List Int) (x83 : Int) : Option (((List Int) × (List Int) × (List Int) × Int × Int) ⊕ (((List Int) × (List Int) × (List Int) × Int × Int) ⊕ (((List Int) × (List Int) × (List Int) × Int × Int) ⊕ (DK × Int)))) :=
 some (.inl (x77, x79, x81, x83, BE (x76 + 1)))
def Mh (x52 : Int) (x67 : Int) (c68 : List Af) : ((List Int) × (List Int) × (List Int) × Int × Int) → Option (((List Int) × (List Int) × (List Int) × Int × Int) ⊕ (((List Int) × (List Int) × (List Int) × Int × Int) ⊕ (((List Int) × (List Int) × (List Int) × Int × Int) ⊕ (DK × Int)))) := fun s =>
 (bif decide (s.2.2.2.2 < (c68.length : Int)) then ((AH c68 s.2.2.2.2).bind fun c84 => (bif (c84.Switch == x52) then (SR s.2.2.2.2 s.1 s.2.1 s.2.2.1 c84.CK) else (SR s.2.2.2.2 s.1 s.2.1 s.2.2.1 s.2.2.2.1))) else ((some (.inl (s.1, s.2.1, s.2.2.1, s.2.2.2.1, BE (x67 + 1)))).map Sum.inr))
def HL (aP0 : AT) (aF1 : Frame) (c5 : CA) (x51 : Int) (x52 : Int) : ((List Int) × (List Int) × (List Int) × Int × Int) → Option (((List Int) × (List Int) × (List Int) × Int × Int) ⊕ (((List Int) × (List Int) × (List Int) × Int × Int) ⊕ (DK × Int))) := fun s =>
 (bif decide (s.2.2.2.2 < (([c5.AJ, c5.A7] : List (List Af)).length : Int)) then ((AH ([c5.AJ, c5.A7] : List (List Af)) s.2.2.2.2).bind fun c68 => (AG (Mh x52 s.2.2.2.2 c68) (s.1, s.2.1, s.2.2.1, s.2.2.2.1, (0:Int)))) else (((bif (s.2.2.2.1 == 0) then some true else ((AH aF1.A1 x52).bind fun c87 => some (s.2.2.2.1 == c87.Want))).bind fun t86 => (bif t86 then (Jn x52 s.1 s.2.1 s.2.2.1 x51) else ((lJ aP0 aF1 x52).bind fun v88 => (bif decide ((v88.length : Int) > 0) then ((DP 8 s.2.2.1 ([x52] : List Int)).bind fun z89 => (Jn x52 s.1 s.2.1 z89 (5:Int))) else ((AH aP0.A5 x52).bind fun c91 => ((AH aF1.B1 c91).bind fun c92 => (bif c92 then ((DP 8 s.2.2.1 ([x52] : List Int)).bind fun z93 => (bif (x51 == 0) then (Jn x52 s.1 s.2.1 z93 (6:Int)) else (Jn x52 s.1 s.2.1 z93 x51))) else (Jn x52 s.1 s.2.1 s.2.2.1 x51)))))))).map Sum.inr))
def OL (x95 : List Int) (x97 : List Int) (x99 : List Int) (x101 : Int) : Option (DK × Int) :=
 some (({ A3 := x95, A0 := x97, A1 := x99 } : DK), x101)
def Mg (aP0 : AT) (aF1 : Frame) (c5 : CA) (x31 : Int) : ((List Int) × (List Int) × (List Int) × Int × Int) → Option (((List Int) × (List Int) × (List Int) × Int × Int) ⊕ (DK × Int)) := fun s =>
 (bif decide (s.2.2.2.2 < (aP0.A5.length : Int)) then (AG (HL aP0 aF1 c5 s.2.2.2.1 s.2.2.2.2) (s.1, s.2.1, s.2.2.1, (0:Int), (0:Int))) else ((bif (x31 == 0) then (OL s.1 s.2.1 s.2.2.1 s.2.2.2.1) else (OL s.1 s.2.1 s.2.2.1 x31)).map Sum.inr))
def Kt (aP0 : AT) (aF1 : Frame) (c5 : CA) : ((List Int) × (List Int) × Int × Int) → Option (((List Int) × (List Int) × Int × Int) ⊕ (DK × Int)) := fun s =>
 (bif decide (s.2.2.2 < aP0.A0) then ((AH aF1.B1 s.2.2.2).bind fun c38 => ((bif c38 then ((ZF ([s.2.2.2] : List Int) c5.A0).bind fun v40 => ((bif v40 then some true else ((ZF ([s.2.2.2] : List Int) c5.Bl).bind fun v42 => some v42)).bind fun t41 => some t41)) else some false).bind fun t39 => (bif t39 then ((DP 8 s.2.1 ([s.2.2.2] : List Int)).bind fun z43 => (bif (s.2.2.1 == 0) then (PG s.2.2.2 s.1 z43 (4:Int)) else (PG s.2.2.2 s.1 z43 s.2.2.1))) else (PG s.2.2.2 s.1 s.2.1 s.2.2.1)))) else ((AG (Mg aP0 aF1 c5 s.2.2.1) (s.1, s.2.1, ([] : List Int), (0:Int), (0:Int))).map Sum.inr))
def Mf (aP0 : AT) (aF1 : Frame) (aWay2 : Int) (c5 : CA) : ((List Int) × Int × Int) → Option (((List Int) × Int × Int) ⊕ (DK × Int)) := fun s =>
 (bif decide (s.2.2 < (aP0.A3.length : Int)) then ((bif (s.2.2 != aWay2) then ((AH aF1.A3 s.2.2).bind fun c15 => some (c15.State != 0)) else some false).bind fun t14 => ((bif t14 then ((AH aP0.Bk aWay2).bind fun c17 => ((AH c17 s.2.2).bind fun c18 => ((bif c18 then some true else ((AH aP0.A3 s.2.2).bind fun c20 => ((ZF c5.A0 c20.Bl).bind fun v21 => some v21))).bind fun t19 => ((bif t19 then some true else ((AH aP0.A3 s.2.2).bind fun c23 => ((ZF c5.Bl c23.A0).bind fun v24 => some v24))).bind fun t22 => some t22)))) else some false).bind fun t16 => (bif t16 then ((DP 8 s.1 ([s.2.2] : List Int)).bind fun z25 => (SQ s.2.2 z25 (3:Int))) else (SQ s.2.2 s.1 s.2.1)))) else ((AG (Kt aP0 aF1 c5) (s.1, ([] : List Int), s.2.1, (0:Int))).map Sum.inr))
def n9 (aP0 : AT) (aF1 : Frame) (aWay2 : Int) : Option (DK × Int) :=
 ((AH aP0.A3 aWay2).bind fun c5 => (AG (Mf aP0 aF1 aWay2 c5) (([] : List Int), (0:Int), (0:Int))))
theorem dH (hk : n9 aP0 aF1 aWay2 = some r) (hlk : 0 < lk.length := by simp) : Am ai hh 58 [.agg (AY l1 0 l2 m3 l4 m5 aP0), .agg (Ah l6 0 l7 0 l8 m9 aF1), iv aWay2] H lk = some (.GS [.agg [AK 0 0 r.1.A3, AK 0 0 r.1.A0, AK 0 0 r.1.A1], iv r.2], H) := by
 refine AF Tryz.func58 rfl Tryz.ntmps58 Tryz.results58 rfl rfl fun hO => ?_
 unfold n9 at hk
 refine sr (BR (cs := [_, _, _, _, _]) hO C0 (fun b1 G hO => ?_))
 refine BR (cs := [_, _, _, _]) hO BZ (fun b2 G hO => C9 hO MM Y9 (fun b3 G hO => ?_))
 refine pA (.int _ _) (pg (sr (C9 hO MM Y9 (fun b4 G hO => pg (sr ?_)))))
 refine pA (.int _ _) (pg (sr ?_))
 refine Ad BY hO 3 (.lit _ _ _) Df ?_
 refine pM (.int _ _) (bk hk fun c5 hc5 hk => ?_)
 refine pX hc5 EY Ay ?_
 refine Bq (.agg [_, _, _, _, _]) (GC (lm := m3) (off := 0) hc5 Ec Ay) (C9 hO Ay Il (fun b6 G hO => ?_))
 refine Cg (xs := [_, _, _, _, _]) hO 0 Ay rfl (fun G hO => pg (AV (sr ?_)))
 refine Ad BY hO 4 (.lit _ _ _) Df ?_
 refine Ae Im ?_
 refine pM (.int _ _) (pg (BO ?_))
 refine A9 (F := Mf aP0 aF1 aWay2 c5) (fun s S' => ∃ o7 J G, A4 H G [.AW b6 (.cells 5 (DG m3 0 m3 0 m3 0 m3 0 m3 0 c5)), .own o7 lk.length 1 s.1.length (A8 0 s.1), .AW b4 (.cells 3 [o7, (.tl 0 []), (.tl 0 [])]), .AW b3 (.cells 3 [(.tl 0 []), (.tl 0 []), (.tl 0 [])]), .AW b2 (.cells 4 (Ah l6 0 l7 0 l8 m9 aF1)), .AW b1 (.cells 5 (AY l1 0 l2 m3 l4 m5 aP0))] ∧ S' = ⟨CM [(2, iv aWay2),(3, .ptr b1 0),(4, .ptr b2 0),(6, .ptr b3 0),(8, .ptr b4 0),(9, iv s.2.1),(10, .ptr b6 0),(27, iv (aP0.A3.length : Int)),(28, iv s.2.2)] J, G⟩) hk ⟨(.tl 0 []), _, _, (A4.pick (A4.Hn hO lk.length ([] : List Int)) [1, 0, 2, 3, 4, 5] (by decide) rfl), sh⟩ ?_
 rintro ⟨x7, x9, x10⟩ _ y1 ⟨o7, J, G, hO, rfl⟩ hk hx1
 refine sr (AO (pg (AV (Ak hk ?_ ?_)))) <;> intro hk
 ·refine Ao (gn (By (fun S' => ∃ x11 x13 o11 J G, SQ x10 x11 x13 = some y1 ∧ A4 H G [.AW b6 (.cells 5 (DG m3 0 m3 0 m3 0 m3 0 m3 0 c5)), .own o11 lk.length 1 x11.length (A8 0 x11), .AW b4 (.cells 3 [o11, (.tl 0 []), (.tl 0 [])]), .AW b3 (.cells 3 [(.tl 0 []), (.tl 0 []), (.tl 0 [])]), .AW b2 (.cells 4 (Ah l6 0 l7 0 l8 m9 aF1)), .AW b1 (.cells 5 (AY l1 0 l2 m3 l4 m5 aP0))] ∧ S' = ⟨CM [(2, iv aWay2),(3, .ptr b1 0),(4, .ptr b2 0),(6, .ptr b3 0),(8, .ptr b4 0),(9, iv x13),(10, .ptr b6 0),(27, iv (aP0.A3.length : Int)),(28, iv x10)] J, G⟩) ?_ ?_))
  ·refine BO (sr (pM (.int _ _) ?_))
   refine pA (.int _ _) (pg (AV ?_))
   refine HY [0,2,4,6,8,11,13,14,16,19,20,22,24,26,29,31,32,35,37,38,41,42,45,47,49,51,53,55,57,59,60,62,64,67,69,71,73,75,77,79,81,82,84,86] [_,_,_,_,_,_,_,_,_,_,_,_,_,_,_,_,_,_,_,_,_,_,_,_,_,_,_,_,_,_,_,_,_,_,_,_,_,_,_,_,_,_,_,_] ?_
   refine pM (.int _ _) ?_
   refine pM (.int _ _) ?_
   refine AO ?_
   refine pM (.bool _) (bk hk fun t14 ht hk => ?_)
   refine AP (l1 := [_, _, _, _, _, _, _, _]) [35, 36, 37, 38, 39, 40, 41, 42] 42 (.bool t14) ?_ ?_
   ·refine bc (b := (x10 != aWay2)) ?_ ?_ <;> intro hg
    ·replace hk := ct hg ht
     refine AA hg (pF BT (AA hg ?_))
     refine CT hO 4 (.lit _ _ _) DZ (AA hg ?_)
     refine pM (.int _ _) (AA hg (bk hk fun c15 hc15 hk => ?_))
     refine pX hc15 Da Av (AA hg ?_)
     refine pF Az (AA hg ?_)
     refine Bq (.int _ _) (Cu (lm := m9) (off := 0) hc15 B3) (AA hg ?_)
     refine AO ?_
     refine Cm hg (.bool _) ?_
     cases hk; exact pE ek
    replace hk := cf hg ht
    repeat refine Bg hg ?_
    refine Cl hg (.bool _) ?_
    cases hk; exact pE ek
   intro J
   refine pM (.bool _) (bk hk fun t16 ht hk => ?_)
   refine AP (l1 := [_, _, _, _, _, _, _, _, _, _, _, _, _, _, _, _, _, _, _, _, _, _, _, _, _, _, _, _, _, _, _]) [44, 45, 46, 47, 48, 49, 50, 51, 52, 53, 54, 55, 56, 57, 58, 59, 60, 61, 62, 63, 64, 65, 66, 67, 68, 69, 70, 71, 72, 73, 74] 74 (.bool t16) ?_ ?_
   ·refine bc (b := t14) ?_ ?_ <;> intro hg
    ·replace hk := ct hg ht
     refine AA hg (pF Er (AA hg ?_))
     refine CT hO 5 (.lit _ _ _) JX (AA hg ?_)
     refine pM (.int _ _) (AA hg (bk hk fun c17 hc17 hk => ?_))
     refine pX hc17 JZ Gs (AA hg ?_)
     refine Bq (.lit _ _ _) (Cu (lm := m5) (off := 0) hc17 C5) (AA hg ?_)
     refine pM (.int _ _) (AA hg (bk hk fun c18 hc18 hk => ?_))
     refine pX hc18 Cd Eu (AA hg ?_)
     refine Bq (.bool _) (Cu (lm := 0) (off := 0) hc18 Fu) (AA hg ?_)
     refine pM (.bool _) (bk hk fun t19 ht hk => ?_)
     refine AP (l1 := [_, _, _, _, _, _, _, _, _, _]) [53, 54, 55, 56, 57, 58, 59, 60, 61, 62] 62 (.bool t19) ?_ ?_
     ·refine bc (b := c18) (fun hg2 => ?_) (fun hg2 => ?_)
      ·replace hk := ct hg2 ht
       repeat refine Bg hg2 ?_
       refine AA hg (Cm hg2 (.bool _) ?_)
       cases hk; exact pE ek
      replace hk := cf hg2 ht
      refine AA hg2 (pF BS (AA hg2 ?_))
      refine CT hO 0 (.lit _ _ _) BN (AA hg2 ?_)
      refine pF BY (AA hg2 ?_)
      refine CT hO 5 (.lit _ _ _) Df (AA hg2 ?_)
      refine pM (.int _ _) (AA hg2 (bk hk fun c20 hc20 hk => ?_))
      refine pX hc20 EY Ay (AA hg2 ?_)
      refine pF E6 (AA hg2 ?_)
      refine Bq (.lit _ _ _) (Cu (lm := m3) (off := 3) hc20 BN) (AA hg2 (bk hk fun v21 hv21 hk => ?_))
      refine AM (fun _ => J0 hv21) (AA hg ?_)
      refine Cl hg2 (.bool _) ?_
      cases hk; exact pE ek
     intro J
     refine AA hg (pM (.bool _) (bk hk fun t22 ht hk => ?_))
     refine AP (l1 := [_, _, _, _, _, _, _, _, _, _]) [64, 65, 66, 67, 68, 69, 70, 71, 72, 73] 73 (.bool t22) ?_ ?_
     ·refine bc (b := t19) (fun hg2 => ?_) (fun hg2 => ?_)
      ·replace hk := ct hg2 ht
       repeat refine Bg hg2 ?_
       refine AA hg (Cm hg2 (.bool _) ?_)
       cases hk; exact pE ek
      replace hk := cf hg2 ht
      refine AA hg2 (pF E6 (AA hg2 ?_))
      refine CT hO 0 (.lit _ _ _) BN (AA hg2 ?_)
      refine pF BY (AA hg2 ?_)
      refine CT hO 5 (.lit _ _ _) Df (AA hg2 ?_)
      refine pM (.int _ _) (AA hg2 (bk hk fun c23 hc23 hk => ?_))
      refine pX hc23 EY Ay (AA hg2 ?_)
      refine pF BS (AA hg2 ?_)
      refine Bq (.lit _ _ _) (Cu (lm := m3) (off := 0) hc23 BN) (AA hg2 (bk hk fun v24 hv24 hk => ?_))
      refine AM (fun _ => J0 hv24) (AA hg ?_)
      refine Cl hg2 (.bool _) ?_
      cases hk; exact pE ek
     intro J
     refine Cm hg (.bool _) ?_
     cases hk; exact pE ek
    replace hk := cf hg ht
    repeat refine Bg hg ?_
    refine Cp (Cp (Cp (Cp (Cp (Cp (Cp (Cp (Cp (Bg hg (Bg hg (Cp (Cp (Cp (Cp (Cp (Cp (Cp (Cp (Cp (Bg hg (Cl hg (.bool _) ?_)))))))))))))))))))))
    cases hk; exact pE ek
   intro J
   refine pg (Ak hk ?_ ?_) <;> intro hk
   ·refine sr (Ad QT hO 2 o7 BN ?_)
    refine pM (.int _ _) ?_
    refine Vi (ps := [(0, (.int _ _))]) ([x10] : List Int) CG DB Nv (Dh (Di _ _) (EJ)) (bk hk fun z25 hz25 hk => ?_)
    refine Uf (xs := x7) hO 1 hz25 (Ee ([x10] : List Int)) CG DB YK Nv CG rfl (fun o25 G hno25 hO => ?_)
    refine pF QT ?_
    have hc26 := CI hO (j := 1) rfl
    refine Cg (xs := [_]) hO 2 ML rfl (fun G hO => ?_) (h3 := hc26.1) (h6 := Bw hc26.2)
    refine pg (Bs (pA (.int _ _) (pE (bn (gn ?_)))))
    exact ⟨z25, (3:Int), o25, _, _, hk, hO, sh⟩
   exact Ao (bn (gn (⟨x7, x9, o7, _, _, hk, hO, sh⟩)))
  rintro _ ⟨x11, x13, o11, J, G, hk, hO, rfl⟩
  refine Bs (AO ?_)
  refine pM (.int _ _) (pg ?_)
  cases hk; exact ⟨_, rfl, o11, _, _, hO, sh⟩
 refine D5 (ge (ge (be (gn (have hk := lx hx1 hk; AV (sr (pA (.int _ _) (pg (BO ?_)))))))))
 refine A9 (F := Kt aP0 aF1 c5) (fun s S' => ∃ o27 o29 J G, A4 H G [.AW b6 (.cells 5 (DG m3 0 m3 0 m3 0 m3 0 m3 0 c5)), .own o27 lk.length 1 s.1.length (A8 0 s.1), .own o29 lk.length 1 s.2.1.length (A8 0 s.2.1), .AW b4 (.cells 3 [o27, o29, (.tl 0 [])]), .AW b3 (.cells 3 [(.tl 0 []), (.tl 0 []), (.tl 0 [])]), .AW b2 (.cells 4 (Ah l6 0 l7 0 l8 m9 aF1)), .AW b1 (.cells 5 (AY l1 0 l2 m3 l4 m5 aP0))] ∧ S' = ⟨CM [(3, .ptr b1 0),(4, .ptr b2 0),(6, .ptr b3 0),(8, .ptr b4 0),(9, iv s.2.2.1),(10, .ptr b6 0),(12, iv s.2.2.2)] J, G⟩) hk ⟨o7, (.tl 0 []), _, _, (A4.pick (A4.Hn hO lk.length ([] : List Int)) [1, 2, 0, 3, 4, 5, 6] (by decide) rfl), sh⟩ ?_
 rintro ⟨x27, x29, x31, x32⟩ _ y1 ⟨o27, o29, J, G, hO, rfl⟩ hk hx1
 refine AV (sr (pM (.int _ _) ?_))
 refine Ad ES hO 6 (.int _ _) B3 ?_
 refine AO (pg (Ak hk ?_ ?_)) <;> intro hk
 ·refine Ao (gn (By (fun S' => ∃ x33 x35 x37 o33 o35 J G, PG x32 x33 x35 x37 = some y1 ∧ A4 H G [.AW b6 (.cells 5 (DG m3 0 m3 0 m3 0 m3 0 m3 0 c5)), .own o33 lk.length 1 x33.length (A8 0 x33), .own o35 lk.length 1 x35.length (A8 0 x35), .AW b4 (.cells 3 [o33, o35, (.tl 0 [])]), .AW b3 (.cells 3 [(.tl 0 []), (.tl 0 []), (.tl 0 [])]), .AW b2 (.cells 4 (Ah l6 0 l7 0 l8 m9 aF1)), .AW b1 (.cells 5 (AY l1 0 l2 m3 l4 m5 aP0))] ∧ S' = ⟨CM [(3, .ptr b1 0),(4, .ptr b2 0),(6, .ptr b3 0),(8, .ptr b4 0),(9, iv x37),(10, .ptr b6 0),(12, iv x32)] J, G⟩) ?_ ?_))
  ·refine BO (sr (Ad CP hO 5 (.lit _ _ _) C5 ?_))
   refine pM (.int _ _) (bk hk fun c38 hc38 hk => ?_)
   refine pX hc38 Cd Eu ?_
   refine Bq (.bool _) (Cu (lm := 0) (off := 0) hc38 Fu) ?_
   refine pM (.bool _) (bk hk fun t39 ht hk => ?_)
   refine AP (l1 := [_, _, _, _, _, _, _, _, _, _, _, _, _]) [94, 95, 96, 97, 98, 99, 100, 101, 102, 103, 104, 105, 106] 106 (.bool t39) ?_ ?_
   ·refine bc (b := c38) ?_ ?_ <;> intro hg
    ·replace hk := ct hg ht
     refine AA hg (pM (.int _ _) (AA hg ?_))
     refine Vi (ps := [(0, (.int _ _))]) ([x32] : List Int) CG DB Nv (Dh (Di _ _) (EJ)) (AA hg ?_)
     refine pF BS (AA hg ?_)
     refine CT hO 0 (.lit _ _ _) BN (AA hg (bk hk fun v40 hv40 hk => ?_))
     refine AM (vs := [(.tl 1 (A8 0 ([x32] : List Int))), (.lit _ _ _)]) (caps := []) (fun _ => J0 hv40) ?_ (h3 := (B9 (ZY ([x32] : List Int) 6) (B9 rfl EB)))
     refine AA hg (pM (.bool _) (bk hk fun t41 ht hk => ?_))
     refine AP (l1 := [_, _, _, _, _, _]) [100, 101, 102, 103, 104, 105] 105 (.bool t41) ?_ ?_
     ·refine bc (b := v40) (fun hg2 => ?_) (fun hg2 => ?_)
      ·replace hk := ct hg2 ht
       repeat refine Bg hg2 ?_
       refine AA hg (Cm hg2 (.bool _) ?_)
       cases hk; exact pE ek
      replace hk := cf hg2 ht
      refine AA hg2 (pM (.int _ _) (AA hg2 ?_))
      refine Vi (ps := [(0, (.int _ _))]) ([x32] : List Int) CG DB Nv (Dh (Di _ _) (EJ)) (AA hg2 ?_)
      refine pF E6 (AA hg2 ?_)
      refine CT hO 0 (.lit _ _ _) BN (AA hg2 (bk hk fun v42 hv42 hk => ?_))
      refine AM (vs := [(.tl 1 (A8 0 ([x32] : List Int))), (.lit _ _ _)]) (caps := []) (fun _ => J0 hv42) ?_ (h3 := (B9 (ZY ([x32] : List Int) 6) (B9 rfl EB)))
      refine AA hg (Cl hg2 (.bool _) ?_)
      cases hk; exact pE ek
     intro J
     refine Cm hg (.bool _) ?_
     cases hk; exact pE ek
    replace hk := cf hg ht
    repeat refine Bg hg ?_
    refine Cp (Cp (Cp (Cp (Cp (Bg hg (Cl hg (.bool _) ?_))))))
    cases hk; exact pE ek
   intro J
   refine pg (Ak hk ?_ ?_) <;> intro hk
   ·refine sr (Ad QU hO 3 o29 BN ?_)
    refine pM (.int _ _) ?_
    refine Vi (ps := [(0, (.int _ _))]) ([x32] : List Int) CG DB Nv (Dh (Di _ _) (EJ)) (bk hk fun z43 hz43 hk => ?_)
    refine Uf (xs := x29) hO 2 hz43 (Ee ([x32] : List Int)) CG DB YK Nv CG rfl (fun o43 G hno43 hO => ?_)
    refine pF QU ?_
    have hc44 := CI hO (j := 2) rfl
    refine Cg (xs := [_]) hO 3 ML rfl (fun G hO => ?_) (h3 := hc44.1) (h6 := Bw hc44.2)
    refine pg (sr (pM (.int _ _) ?_))
    refine AO (pg (Ak hk ?_ ?_)) <;> intro hk
    ·refine Bs (pA (.int _ _) (pE (bn (gn ?_))))
     exact ⟨x27, z43, (4:Int), o27, o43, _, _, hk, hO, sh⟩
    exact Ao (bn (gn (⟨x27, z43, x31, o27, o43, _, _, hk, hO, sh⟩)))
   exact Ao (bn (gn (⟨x27, x29, x31, o27, o29, _, _, hk, hO, sh⟩)))
  rintro _ ⟨x33, x35, x37, o33, o35, J, G, hk, hO, rfl⟩
  refine Bs (pM (.int _ _) ?_)
  refine AO ?_
  refine pA (.int _ _) (pg ?_)
  cases hk; exact ⟨_, rfl, o33, o35, _, _, hO, sh⟩
 refine D5 (ge (ge (be (gn (have hk := lx hx1 hk; sr (pA (.int _ _) (pg (AV (sr ?_)))))))))
 refine Ad D4 hO 6 (.lit _ _ _) BN ?_
 refine Ae DA ?_
 refine pM (.int _ _) (pg (BO ?_))
 refine A9 (F := Mg aP0 aF1 c5 x31) (fun s S' => ∃ o45 o47 o49 J G, A4 H G [.AW b6 (.cells 5 (DG m3 0 m3 0 m3 0 m3 0 m3 0 c5)), .own o45 lk.length 1 s.1.length (A8 0 s.1), .own o47 lk.length 1 s.2.1.length (A8 0 s.2.1), .own o49 lk.length 1 s.2.2.1.length (A8 0 s.2.2.1), .AW b4 (.cells 3 [o45, o47, o49]), .AW b3 (.cells 3 [(.tl 0 []), (.tl 0 []), (.tl 0 [])]), .AW b2 (.cells 4 (Ah l6 0 l7 0 l8 m9 aF1)), .AW b1 (.cells 5 (AY l1 0 l2 m3 l4 m5 aP0))] ∧ S' = ⟨CM [(3, .ptr b1 0),(4, .ptr b2 0),(6, .ptr b3 0),(8, .ptr b4 0),(9, iv x31),(10, .ptr b6 0),(13, iv s.2.2.2.1),(117, iv (aP0.A5.length : Int)),(118, iv s.2.2.2.2)] J, G⟩) hk ⟨o27, o29, (.tl 0 []), _, _, (A4.pick (A4.Hn hO lk.length ([] : List Int)) [1, 2, 3, 0, 4, 5, 6, 7] (by decide) rfl), sh⟩ ?_
 rintro ⟨x45, x47, x49, x51, x52⟩ _ y1 ⟨o45, o47, o49, J, G, hO, rfl⟩ hk hx1
 refine sr (AO (pg (AV (Ak hk ?_ ?_)))) <;> intro hk
 ·refine Ao (gn (By (fun S' => ∃ x53 x55 x57 x59 o53 o55 o57 J G, Jn x52 x53 x55 x57 x59 = some y1 ∧ A4 H G [.AW b6 (.cells 5 (DG m3 0 m3 0 m3 0 m3 0 m3 0 c5)), .own o53 lk.length 1 x53.length (A8 0 x53), .own o55 lk.length 1 x55.length (A8 0 x55), .own o57 lk.length 1 x57.length (A8 0 x57), .AW b4 (.cells 3 [o53, o55, o57]), .AW b3 (.cells 3 [(.tl 0 []), (.tl 0 []), (.tl 0 [])]), .AW b2 (.cells 4 (Ah l6 0 l7 0 l8 m9 aF1)), .AW b1 (.cells 5 (AY l1 0 l2 m3 l4 m5 aP0))] ∧ S' = ⟨CM [(3, .ptr b1 0),(4, .ptr b2 0),(6, .ptr b3 0),(8, .ptr b4 0),(9, iv x31),(10, .ptr b6 0),(13, iv x59),(117, iv (aP0.A5.length : Int)),(118, iv x52)] J, G⟩) ?_ ?_))
  ·refine BO (sr (pM (.int _ _) ?_))
   refine pA (.int _ _) (pg (sr ?_))
   refine pA (.int _ _) (pg (AV (sr ?_)))
   refine Ad ER hO 0 (.lit _ _ _) Db ?_
   refine Ad Ed hO 0 (.lit _ _ _) Db ?_
   refine eX (ps := [(0, (.lit _ _ _)), (1, (.lit _ _ _))]) m3 ([c5.AJ, c5.A7] : List (List Af)) Rh Nw aM ?_
   refine Ae aZ ?_
   refine pM (.int _ _) (pg (BO ?_))
   refine A9 (F := HL aP0 aF1 c5 x51 x52) (fun s S' => ∃ o60 o62 o64 J G, A4 H G [.AW b6 (.cells 5 (DG m3 0 m3 0 m3 0 m3 0 m3 0 c5)), .own o60 lk.length 1 s.1.length (A8 0 s.1), .own o62 lk.length 1 s.2.1.length (A8 0 s.2.1), .own o64 lk.length 1 s.2.2.1.length (A8 0 s.2.2.1), .AW b4 (.cells 3 [o60, o62, o64]), .AW b3 (.cells 3 [(.tl 0 []), (.tl 0 []), (.tl 0 [])]), .AW b2 (.cells 4 (Ah l6 0 l7 0 l8 m9 aF1)), .AW b1 (.cells 5 (AY l1 0 l2 m3 l4 m5 aP0))] ∧ S' = ⟨CM [(3, .ptr b1 0),(4, .ptr b2 0),(6, .ptr b3 0),(8, .ptr b4 0),(9, iv x31),(10, .ptr b6 0),(13, iv x51),(14, iv x52),(15, iv s.2.2.2.1),(117, iv (aP0.A5.length : Int)),(118, iv x52),(125, (.tl 2 (A8 m3 ([c5.AJ, c5.A7] : List (List Af))))),(126, iv (([c5.AJ, c5.A7] : List (List Af)).length : Int)),(127, iv s.2.2.2.2)] J, G⟩) hk ⟨o45, o47, o49, _, _, hO, sh⟩ ?_
   rintro ⟨x60, x62, x64, x66, x67⟩ _ y2 ⟨o60, o62, o64, J, G, hO, rfl⟩ hk hx2
   refine sr (AO (pg (AV (Ak hk ?_ ?_)))) <;> intro hk
   ·refine Ao (gn (AV (BO (sr (bk hk fun c68 hc68 hk => fA (lm := m3) hc68 Rh Nw ?_)))))
    refine Bq (.lit _ _ _) (Cu (lm := m3) (off := 0) hc68 Db) ?_
    refine pA (.lit _ _ _) (pg (sr ?_))
    refine pM (.lit _ _ _) ?_
    refine Ae FF ?_
    refine pM (.int _ _) (pg (BO ?_))
    refine A9 (F := Mh x52 x67 c68) (fun s S' => ∃ o69 o71 o73 J G, A4 H G [.AW b6 (.cells 5 (DG m3 0 m3 0 m3 0 m3 0 m3 0 c5)), .own o69 lk.length 1 s.1.length (A8 0 s.1), .own o71 lk.length 1 s.2.1.length (A8 0 s.2.1), .own o73 lk.length 1 s.2.2.1.length (A8 0 s.2.2.1), .AW b4 (.cells 3 [o69, o71, o73]), .AW b3 (.cells 3 [(.tl 0 []), (.tl 0 []), (.tl 0 [])]), .AW b2 (.cells 4 (Ah l6 0 l7 0 l8 m9 aF1)), .AW b1 (.cells 5 (AY l1 0 l2 m3 l4 m5 aP0))] ∧ S' = ⟨CM [(3, .ptr b1 0),(4, .ptr b2 0),(6, .ptr b3 0),(8, .ptr b4 0),(9, iv x31),(10, .ptr b6 0),(13, iv x51),(14, iv x52),(15, iv s.2.2.2.1),(117, iv (aP0.A5.length : Int)),(118, iv x52),(125, (.tl 2 (A8 m3 ([c5.AJ, c5.A7] : List (List Af))))),(126, iv (([c5.AJ, c5.A7] : List (List Af)).length : Int)),(127, iv x67),(131, AK m3 0 c68),(132, iv (c68.length : Int)),(133, iv s.2.2.2.2)] J, G⟩) hk ⟨o60, o62, o64, _, _, hO, sh⟩ ?_
    rintro ⟨x69, x71, x73, x75, x76⟩ _ y3 ⟨o69, o71, o73, J, G, hO, rfl⟩ hk hx3
    refine sr (AO (pg (AV (Ak hk ?_ ?_)))) <;> intro hk
    ·refine Ao (gn (By (fun S' => ∃ x77 x79 x81 x83 o77 o79 o81 J G, SR x76 x77 x79 x81 x83 = some y3 ∧ A4 H G [.AW b6 (.cells 5 (DG m3 0 m3 0 m3 0 m3 0 m3 0 c5)), .own o77 lk.length 1 x77.length (A8 0 x77), .own o79 lk.length 1 x79.length (A8 0 x79), .own o81 lk.length 1 x81.length (A8 0 x81), .AW b4 (.cells 3 [o77, o79, o81]), .AW b3 (.cells 3 [(.tl 0 []), (.tl 0 []), (.tl 0 [])]), .AW b2 (.cells 4 (Ah l6 0 l7 0 l8 m9 aF1)), .AW b1 (.cells 5 (AY l1 0 l2 m3 l4 m5 aP0))] ∧ S' = ⟨CM [(3, .ptr b1 0),(4, .ptr b2 0),(6, .ptr b3 0),(8, .ptr b4 0),(9, iv x31),(10, .ptr b6 0),(13, iv x51),(14, iv x52),(15, iv x83),(117, iv (aP0.A5.length : Int)),(118, iv x52),(125, (.tl 2 (A8 m3 ([c5.AJ, c5.A7] : List (List Af))))),(126, iv (([c5.AJ, c5.A7] : List (List Af)).length : Int)),(127, iv x67),(131, AK m3 0 c68),(132, iv (c68.length : Int)),(133, iv x76)] J, G⟩) ?_ ?_))
     ·refine BO (sr (bk hk fun c84 hc84 hk => pX hc84 Dy BA ?_))
      refine Bq (.agg [_, _]) (GC (lm := 0) (off := 0) hc84 G9 BA) (C9 hO BA Fo (fun b85 G hO => ?_))
      refine Cg (xs := [_, _]) hO 0 BA rfl (fun G hO => pg (sr ?_))
      refine Ad CU hO 0 (.int _ _) B3 ?_
      refine pM (.int _ _) ?_
      refine AO (pg (Ak hk ?_ ?_)) <;> intro hk
      ·refine Bs (Ad E7 hO 0 (.int _ _) B3 ?_)
       refine pA (.int _ _) (pE (bn (gn ?_)))
       exact ⟨x69, x71, x73, c84.CK, o69, o71, o73, _, _, hk, (pk hO [1, 2, 3, 4, 5, 6, 7, 8]), sh⟩
      exact Ao (bn (gn (⟨x69, x71, x73, x75, o69, o71, o73, _, _, hk, (pk hO [1, 2, 3, 4, 5, 6, 7, 8]), sh⟩)))
     rintro _ ⟨x77, x79, x81, x83, o77, o79, o81, J, G, hk, hO, rfl⟩
     refine Bs (AO ?_)
     refine pM (.int _ _) (pg ?_)
     cases hk; exact ⟨_, rfl, o77, o79, o81, _, _, hO, sh⟩
    refine D5 (ge (ge (be (bn (gn (have hk := lx hx3 hk; Bs (AO ?_)))))))
    refine pM (.int _ _) (pg ?_)
    cases hk; exact ⟨_, rfl, o69, o71, o73, _, _, hO, sh⟩
   refine D5 (ge (ge (be (gn (have hk := lx hx2 hk; AV (sr (pM (.int _ _) ?_)))))))
   refine AO ?_
   refine pM (.bool _) (bk hk fun t86 ht hk => ?_)
   refine AP (l1 := [_, _, _, _, _, _, _, _, _]) [148, 149, 150, 151, 152, 153, 154, 155, 156] 156 (.bool t86) ?_ ?_
   ·refine bc (b := (x66 == 0)) ?_ ?_ <;> intro hg
    ·replace hk := ct hg ht
     repeat refine Bg hg ?_
     refine Cm hg (.bool _) ?_
     cases hk; exact pE ek
    replace hk := cf hg ht
    refine AA hg (pM (.int _ _) (AA hg ?_))
    refine pF Cv (AA hg ?_)
    refine CT hO 6 (.lit _ _ _) H9 (AA hg ?_)
    refine pM (.int _ _) (AA hg (bk hk fun c87 hc87 hk => ?_))
    refine pX hc87 Gm Dq (AA hg ?_)
    refine pF GA (AA hg ?_)
    refine Bq (.int _ _) (Cu (lm := 0) (off := 0) hc87 B3) (AA hg ?_)
    refine AO ?_
    refine Cl hg (.bool _) ?_
    cases hk; exact pE ek
   intro J
   refine pg (Ak hk ?_ ?_) <;> intro hk
   ·exact D5 (ge (be (gn (⟨x60, x62, x64, x51, o60, o62, o64, _, _, hk, hO, sh⟩))))
   refine Ao (gn (sr (D9 hO 7 [_, _, _, _, _] EP C0 ?_)))
   refine D9 hO 6 [_, _, _, _] DT BZ ?_
   refine pM (.int _ _) (bk hk fun v88 hv88 hk => ?_)
   refine AM (fun _ => WO hv88) ?_
   refine Ae DA ?_
   refine AO (pg (Ak hk ?_ ?_)) <;> intro hk
   ·refine sr (Ad NM hO 4 o64 BN ?_)
    refine pM (.int _ _) ?_
    refine Vi (ps := [(0, (.int _ _))]) ([x52] : List Int) CG DB Nv (Dh (Di _ _) (EJ)) (bk hk fun z89 hz89 hk => ?_)
    refine Uf (xs := x64) hO 3 hz89 (Ee ([x52] : List Int)) CG DB YK Nv CG rfl (fun o89 G hno89 hO => ?_)
    refine pF NM ?_
    have hc90 := CI hO (j := 3) rfl
    refine Cg (xs := [_]) hO 4 ML rfl (fun G hO => ?_) (h3 := hc90.1) (h6 := Bw hc90.2)
    refine pg (Bs (pA (.int _ _) (pE (bn (gn ?_)))))
    exact ⟨x60, x62, z89, (5:Int), o60, o62, o89, _, _, hk, hO, sh⟩
   refine AV (HY [1,3,5,7,9,11,13,14,17] [_,_,_,_,_,_,_,_,_] ?_)
   refine Ad CP hO 6 (.lit _ _ _) C5 ?_
   refine Ad D4 hO 7 (.lit _ _ _) BN ?_
   refine pM (.int _ _) (bk hk fun c91 hc91 hk => ?_)
   refine pX hc91 CG DB ?_
   refine Bq (.int _ _) (Cu (lm := 0) (off := 0) hc91 B3) (bk hk fun c92 hc92 hk => ?_)
   refine pX hc92 Cd Eu ?_
   refine Bq (.bool _) (Cu (lm := 0) (off := 0) hc92 Fu) (pg (Ak hk ?_ ?_)) <;> intro hk
   ·refine sr (Ad NM hO 4 o64 BN ?_)
    refine pM (.int _ _) ?_
    refine Vi (ps := [(0, (.int _ _))]) ([x52] : List Int) CG DB Nv (Dh (Di _ _) (EJ)) (bk hk fun z93 hz93 hk => ?_)
    refine Uf (xs := x64) hO 3 hz93 (Ee ([x52] : List Int)) CG DB YK Nv CG rfl (fun o93 G hno93 hO => ?_)
    refine pF NM ?_
    have hc94 := CI hO (j := 3) rfl
    refine Cg (xs := [_]) hO 4 ML rfl (fun G hO => ?_) (h3 := hc94.1) (h6 := Bw hc94.2)
    refine pg (sr (pM (.int _ _) ?_))
    refine AO (pg (Ak hk ?_ ?_)) <;> intro hk
    ·refine Bs (pA (.int _ _) (pE (bn (gn ?_))))
     exact ⟨x60, x62, z93, (6:Int), o60, o62, o93, _, _, hk, hO, sh⟩
    exact Ao (bn (gn (⟨x60, x62, z93, x51, o60, o62, o93, _, _, hk, hO, sh⟩)))
   exact Ao (bn (gn (⟨x60, x62, x64, x51, o60, o62, o64, _, _, hk, hO, sh⟩)))
  rintro _ ⟨x53, x55, x57, x59, o53, o55, o57, J, G, hk, hO, rfl⟩
  refine Bs (AO ?_)
  refine pM (.int _ _) (pg ?_)
  cases hk; exact ⟨_, rfl, o53, o55, o57, _, _, hO, sh⟩
 refine D5 (ge (ge (be (gn (have hk := lx hx1 hk; By (fun S' => ∃ x95 x97 x99 x101 o95 o97 o99 J G, OL x95 x97 x99 x101 = some r ∧ A4 H G [.own o95 lk.length 1 x95.length (A8 0 x95), .own o97 lk.length 1 x97.length (A8 0 x97), .own o99 lk.length 1 x99.length (A8 0 x99), .AW b4 (.cells 3 [o95, o97, o99]), .AW b3 (.cells 3 [(.tl 0 []), (.tl 0 []), (.tl 0 [])])] ∧ S' = ⟨CM [(6, .ptr b3 0),(8, .ptr b4 0),(9, iv x101)] J, G⟩) ?_ ?_)))))
 ·refine sr (pM (.int _ _) ?_)
  refine AO (pg (Ak hk ?_ ?_)) <;> intro hk
  ·refine Bs (pM (.int _ _) ?_)
   refine pA (.int _ _) (pg ?_)
   exact ⟨x45, x47, x49, x51, o45, o47, o49, _, _, hk, (pk hO [1, 2, 3, 4, 5]), sh⟩
  exact Ao (gn (⟨x45, x47, x49, x31, o45, o47, o49, _, _, hk, (pk hO [1, 2, 3, 4, 5]), sh⟩))
 rintro _ ⟨x95, x97, x99, x101, o95, o97, o99, J, G, hk, hO, rfl⟩
 refine sr (D9 hO 3 [_, _, _] fE MM ?_)
 refine pM (.int _ _) ?_
 have hc102 := CI hO (j := 0) rfl
 have hc103 := CI hO (j := 1) rfl
 have hc104 := CI hO (j := 2) rfl
 refine Cg (xs := [_, _, _]) hO 4 MM rfl (fun G hO => ?_) (h6 := (Aa hc102.2 (Aa hc103.2 (Aa hc104.2 DL))))
 refine pA (.int _ _) (pg (Au ?_))
 replace hk := av hk; subst hk; exact He hO (ZN (n := 3) (DY (EN (n := 2) (DY (HO (xs := x95) hlk 0) (DY (HO (xs := x97) hlk 0) (DY (HO (xs := x99) hlk 0) (IG))))) (DY (C8 _ _) (IG)))) (FB hO 4 [_, _, _] fE MM (Kc (.int _ _) DQ))
def nB (aP0 : AT) (aF1 : Frame) (aWay2 : Int) : Option Int :=
 ((AH aF1.A3 aWay2).bind fun c3 => (bif (c3.State != 0) then some (2:Int) else ((n9 aP0 aF1 aWay2).bind fun v4 => some v4.2)))
theorem dL (hk : nB aP0 aF1 aWay2 = some r) (hlk : 0 < lk.length := by simp) : Am ai hh 62 [.agg (AY l1 0 l2 m3 l4 m5 aP0), .agg (Ah l6 0 l7 0 l8 m9 aF1), iv aWay2] H lk = some (iv r, H) := by
 refine AF Tryz.func62 rfl Tryz.ntmps62 Tryz.results62 rfl rfl fun hO => ?_
 unfold nB at hk
 refine sr (BR (cs := [_, _, _, _, _]) hO C0 (fun b1 G hO => ?_))
 refine BR (cs := [_, _, _, _]) hO BZ (fun b2 G hO => ?_)
 refine pA (.int _ _) (pg (AV (sr ?_)))
 refine Ad BT hO 0 (.lit _ _ _) DZ ?_
 refine pM (.int _ _) (bk hk fun c3 hc3 hk => ?_)
 refine pX hc3 Da Av ?_
 refine pF Az ?_
 refine Bq (.int _ _) (Cu (lm := m9) (off := 0) hc3 B3) ?_
 refine AO (pg (Ak hk ?_ ?_)) <;> intro hk
 ·refine sr (pA (.int _ _) (pg (Au (gr ?_))))
  cases hk; exact AQ hO
 refine Ao (gn (sr (D9 hO 1 [_, _, _, _, _] EP C0 ?_)))
 refine D9 hO 0 [_, _, _, _] DT BZ ?_
 refine pM (.int _ _) (bk hk fun v4 hv4 hk => ?_)
 refine AM (fun _ => dH hv4) ?_
 refine pM (.GS [_, _]) ?_
 refine oB (.agg [_, _, _]) ?_
 refine oB (.int _ _) (C9 hO MM Y9 (fun b5 G hO => ?_))
 refine Cg (xs := [_, _, _]) hO 0 MM rfl (fun G hO => ?_)
 refine pA (.int _ _) (pg (sr ?_))
 refine pM (.int _ _) ?_
 refine pA (.int _ _) (pg (Au ?_))
 cases hk; exact AQ hO
def Jq (x8 : Int) (c9 : List Af) : ((List AZ) × Int) → Option (((List AZ) × Int) ⊕ (((List AZ) × Int) ⊕ Frame)) := fun s =>
 (bif decide (s.2 < (c9.length : Int)) then ((AH c9 s.2).bind fun c12 => ((AH s.1 c12.Switch).bind fun c14 => some (.inl (s.1.set c12.Switch.toNat ({ c14 with Want := c12.CK }), BE (s.2 + 1))))) else ((some (.inl (s.1, BE (x8 + 1)))).map Sum.inr))
def Jp (aF1 : Frame) (aI2 : Int) (c2 : CA) (c4 : AD) : ((List AZ) × Int) → Option (((List AZ) × Int) ⊕ Frame) := fun s =>
 (bif decide (s.2 < (([c2.AJ, c2.A7] : List (List Af)).length : Int)) then ((AH ([c2.AJ, c2.A7] : List (List Af)) s.2).bind fun c9 => (AG (Jq s.2 c9) (s.1, (0:Int)))) else ((some ({ Ok := aF1.Ok, B1 := aF1.B1, A1 := s.1, A3 := aF1.A3.set aI2.toNat ({ c4 with State := (1:Int) }) } : Frame)).map Sum.inr))
def nC (aP0 : AT) (aF1 : Frame) (aI2 : Int) : Option Frame :=
 ((AH aP0.A3 aI2).bind fun c2 => ((AH aF1.A3 aI2).bind fun c4 => (AG (Jp aF1 aI2 c2 c4) (aF1.A1, (0:Int)))))
theorem dM (hk : nC aP0 aF1 aI2 = some r) (hO : A4 H H [.Cs S0 q0 (.cells 4 [.bool aF1.Ok, vp1, vp2, vp3]), AI S0 Fp1 aF1.B1 [vp1], AI S0 Fp2 aF1.A1 [vp2], AI S0 Fp3 aF1.A3 [vp3]]) (hS : ∀ b ∈ S0, AX lk b = true) (hlt : ∀ b ∈ S0, b < H.length) (hlo : EE lk H.length) (hlk : 0 < lk.length := by simp) : ∃ v H1, Am ai hh 63 [.agg (AY l1 0 l2 m3 l4 m5 aP0), .ptr q0 0, iv aI2] H lk = some (v, H1) ∧ v = .GS [] ∧ ∃ (Fs : List Nat × List Nat × List Nat) (Hm : A6), Bu H Hm (S0) ∧ A4 Hm H1 [.Cs S0 q0 (.cells 4 [.bool r.Ok, vp1, vp2, vp3]), AI S0 Fs.1 r.B1 [vp1], AI S0 Fs.2.1 r.A1 [vp2], AI S0 Fs.2.2 r.A3 [vp3]] := by
 refine B0 Tryz.func63 rfl Tryz.ntmps63 Tryz.results63 rfl rfl ?_
 have hFr := Bu.refl H (S0)
 unfold nC at hk
 have hq := (ak.1 (hO.VD (k := 0) rfl).1).1
 refine sr (BR (cs := [_, _, _, _, _]) hO C0 (fun b1 G hO => pg (sr ?_)))
 refine Ad BY hO 0 (.lit _ _ _) Df ?_
 refine pM (.int _ _) (bk hk fun c2 hc2 hk => ?_)
 refine pX hc2 EY Ay ?_
 refine Bq (.agg [_, _, _, _, _]) (GC (lm := m3) (off := 0) hc2 Ec Ay) (C9 hO Ay Il (fun b3 G hO => ?_))
 refine Cg (xs := [_, _, _, _, _]) hO 0 Ay hFr.1.symm (fun G hO => pg (sr ?_))
 refine pM (.ptr _ _) ?_
 refine C4 ?_
 refine pF BT ?_
 refine Wm hO 2 vp3 DZ ?_
 refine pM (.int _ _) (bk hk fun c4 hc4 hk => ?_)
 refine HZ hO 5 hc4 Da Av (fun b5 hb5 => ?_)
 refine pF Az ?_
 refine Kb Al (y' := (1:Int)) hO 5 hb5 hc4 DB (fun _ => ⟨rfl, rfl⟩) hFr hS rfl (fun H1 G hFr hO => ?_)
 have hc_6 := B2 hc4 ({ c4 with State := (1:Int) } : AD)
 have hv_6 := Bn (j := aI2.toNat) (y := ({ c4 with State := (1:Int) } : AD)) hb5
 refine pg (sr (Ad ER hO 0 (.lit _ _ _) Db ?_))
 refine Ad Ed hO 0 (.lit _ _ _) Db ?_
 refine eX (ps := [(0, (.lit _ _ _)), (1, (.lit _ _ _))]) m3 ([c2.AJ, c2.A7] : List (List Af)) Rh Nw aM ?_
 refine Ae aZ ?_
 refine pM (.int _ _) (pg (BO ?_))
 refine A9 (F := Jp aF1 aI2 c2 c4) (fun s S' => ∃ J G H1, Bu H H1 S0 ∧ A4 H1 G [.Cs S0 q0 (.cells 4 [.bool aF1.Ok, vp1, vp2, vp3]), AI S0 Fp1 aF1.B1 [vp1], AI S0 Fp2 s.1 [vp2], AI S0 Fp3 (aF1.A3.set aI2.toNat ({ c4 with State := (1:Int) })) [vp3]] ∧ S' = ⟨CM [(1, .ptr q0 0),(27, (.tl 2 (A8 m3 ([c2.AJ, c2.A7] : List (List Af))))),(28, iv (([c2.AJ, c2.A7] : List (List Af)).length : Int)),(29, iv s.2)] J, G⟩) hk ⟨_, _, _, hFr, (pk hO [2, 3, 4, 5]), sh⟩ ?_
 rintro ⟨x7, x8⟩ _ y1 ⟨J, G, H1, hFr, hO, rfl⟩ hk hx1
 refine sr (AO (pg (AV (Ak hk ?_ ?_)))) <;> intro hk
 ·refine Ao (gn (AV (BO (sr (bk hk fun c9 hc9 hk => fA (lm := m3) hc9 Rh Nw ?_)))))
  refine Bq (.lit _ _ _) (Cu (lm := m3) (off := 0) hc9 Db) ?_
  refine pA (.lit _ _ _) (pg (sr ?_))
  refine pM (.lit _ _ _) ?_
  refine Ae FF ?_
  refine pM (.int _ _) (pg (BO ?_))
  refine A9 (F := Jq x8 c9) (fun s S' => ∃ J G H1, Bu H H1 S0 ∧ A4 H1 G [.Cs S0 q0 (.cells 4 [.bool aF1.Ok, vp1, vp2, vp3]), AI S0 Fp1 aF1.B1 [vp1], AI S0 Fp2 s.1 [vp2], AI S0 Fp3 (aF1.A3.set aI2.toNat ({ c4 with State := (1:Int) })) [vp3]] ∧ S' = ⟨CM [(1, .ptr q0 0),(27, (.tl 2 (A8 m3 ([c2.AJ, c2.A7] : List (List Af))))),(28, iv (([c2.AJ, c2.A7] : List (List Af)).length : Int)),(29, iv x8),(33, AK m3 0 c9),(34, iv (c9.length : Int)),(35, iv s.2)] J, G⟩) hk ⟨_, _, _, hFr, hO, sh⟩ ?_
  rintro ⟨x10, x11⟩ _ y2 ⟨J, G, H1, hFr, hO, rfl⟩ hk hx2
  refine sr (AO (pg (AV (Ak hk ?_ ?_)))) <;> intro hk
  ·refine Ao (gn (AV (BO (sr (bk hk fun c12 hc12 hk => pX hc12 Dy BA ?_)))))
   refine Bq (.agg [_, _]) (GC (lm := 0) (off := 0) hc12 G9 BA) (C9 hO BA Fo (fun b13 G hO => ?_))
   refine Cg (xs := [_, _]) hO 0 BA hFr.1.symm (fun G hO => pg ?_)
   refine HY [1,3,5,7,9,11,13,15,16,18,20] [_,_,_,_,_,_,_,_,_,_,_] ?_
   refine pM (.ptr _ _) ?_
   refine C4 ?_
   refine pF Cv ?_
   refine Wm hO 1 vp2 H9 ?_
   refine Ad CU hO 0 (.int _ _) B3 ?_
   refine Ad E7 hO 0 (.int _ _) B3 (bk hk fun c14 hc14 hk => ?_)
   refine HZ hO 3 hc14 Gm Dq (fun b15 hb15 => ?_)
   refine pF GA ?_
   refine Kb Ej (y' := c12.CK) hO 3 hb15 hc14 DB (fun _ => ⟨rfl, rfl⟩) hFr hS rfl (fun H1 G hFr hO => ?_)
   have hc_16 := B2 hc14 ({ c14 with Want := c12.CK } : AZ)
   have hv_16 := Bn (j := c12.Switch.toNat) (y := ({ c14 with Want := c12.CK } : AZ)) hb15
   refine pE (bn (gn (Bs (AO ?_))))
   refine pM (.int _ _) (pg ?_)
   cases hk; exact ⟨_, rfl, _, _, _, hFr, (pk hO [1, 2, 3, 4]), sh⟩
  refine D5 (ge (ge (be (bn (gn (have hk := lx hx2 hk; Bs (AO ?_)))))))
  refine pM (.int _ _) (pg ?_)
  cases hk; exact ⟨_, rfl, _, _, _, hFr, hO, sh⟩
 refine D5 (ge (ge (be (have hk := lx hx1 hk; ?_))))
 replace hk := av hk; subst hk; exact Sj (Fp1, Fp2, Fp3) hO hFr (FI (UI hq) (FI Gr (FI Gr (FI Gr TD)))) rfl rfl rfl rfl (by first | exact Or.inl rfl | exact Or.inr rfl)
def Mk (aP0 : AT) (aF1 : Frame) (aI2 : Int) (c2 : AD) (c4 : CA) : Int → Option (Int ⊕ (Frame × Int)) := fun s =>
 (bif decide (s < (c4.Ci.length : Int)) then ((AH c4.Ci s).bind fun c6 => ((AH aF1.B1 c6).bind fun c7 => (bif (c7 && c2.Shown) then ((some (({ Ok := aF1.Ok, B1 := aF1.B1, A1 := aF1.A1, A3 := (aF1.A3.set aI2.toNat ({ c2 with State := (3:Int) })).set aI2.toNat ({ ({ c2 with State := (3:Int) } : AD) with Timer := aP0.DX }) } : Frame), (0:Int))).map Sum.inr) else some (.inl (BE (s + 1)))))) else (((gL aF1.A3 aI2).bind fun z11 => some (({ Ok := aF1.Ok, B1 := aF1.B1, A1 := aF1.A1, A3 := z11 } : Frame), (0:Int))).map Sum.inr))
def jG (aP0 : AT) (aF1 : Frame) (aI2 : Int) : Option (Frame × Int) :=
 ((AH aF1.A3 aI2).bind fun c2 => (bif ((c2.State != 1) && (c2.State != 2)) then some (aF1, (2:Int)) else ((AH aP0.A3 aI2).bind fun c4 => (AG (Mk aP0 aF1 aI2 c2 c4) ((0:Int))))))
theorem dN (hk : jG aP0 aF1 aI2 = some r) (hO : A4 H H [.Cs S0 q0 (.cells 4 [.bool aF1.Ok, vp1, vp2, vp3]), AI S0 Fp1 aF1.B1 [vp1], AI S0 Fp2 aF1.A1 [vp2], AI S0 Fp3 aF1.A3 [vp3]]) (hS : ∀ b ∈ S0, AX lk b = true) (hlt : ∀ b ∈ S0, b < H.length) (hlo : EE lk H.length) (hlk : 0 < lk.length := by simp) : ∃ v H1, Am ai hh 64 [.agg (AY l1 0 l2 m3 l4 m5 aP0), .ptr q0 0, iv aI2] H lk = some (v, H1) ∧ v = iv r.2 ∧ ∃ (Fs : List Nat × List Nat × List Nat) (Hm : A6), Bu H Hm (S0) ∧ A4 Hm H1 [.Cs S0 q0 (.cells 4 [.bool r.1.Ok, vp1, vp2, vp3]), AI S0 Fs.1 r.1.B1 [vp1], AI S0 Fs.2.1 r.1.A1 [vp2], AI S0 Fs.2.2 r.1.A3 [vp3]] := by
 refine B0 Tryz.func64 rfl Tryz.ntmps64 Tryz.results64 rfl rfl ?_
 have hFr := Bu.refl H (S0)
 unfold jG at hk
 have hq := (ak.1 (hO.VD (k := 0) rfl).1).1
 refine sr (BR (cs := [_, _, _, _, _]) hO C0 (fun b1 G hO => ?_))
 refine pA (.int _ _) (pg (sr ?_))
 refine pM (.ptr _ _) ?_
 refine C4 ?_
 refine pF BT ?_
 refine Wm hO 1 vp3 DZ ?_
 refine pM (.int _ _) (bk hk fun c2 hc2 hk => ?_)
 refine HZ hO 4 hc2 Da Av (fun b3 hb3 => ?_)
 refine pA (.ptr _ _) (pg (AV (sr ?_)))
 refine pM (.ptr _ _) ?_
 refine C4 ?_
 refine pF Az ?_
 refine EV Al (.int _ _) hO 4 hb3 hc2 B3 ?_
 refine AO ?_
 refine pM (.bool _) ?_
 refine AP (l1 := [_, _, _, _, _, _]) [22, 23, 24, 25, 26, 27] 27 (.bool ((c2.State != 1) && (c2.State != 2))) ?_ ?_
 ·refine bc (b := (c2.State != 1)) ?_ ?_ <;> intro hg
  ·refine AA hg (pM (.ptr _ _) (AA hg ?_))
   refine C4 (AA hg ?_)
   refine pF Az (AA hg ?_)
   refine EV Al (.int _ _) hO 4 hb3 hc2 B3 (AA hg ?_)
   refine AO ?_
   refine Cm hg (.bool _) ?_
   exact pE (ek (by rw [hg]; rfl))
  repeat refine Bg hg ?_
  refine Cl hg (.bool _) ?_
  exact pE (ek (by rw [hg]; rfl))
 intro J
 refine pg (Ak hk ?_ ?_) <;> intro hk
 ·refine sr (pA (.int _ _) (pg (Au (gr ?_))))
  replace hk := av hk; subst hk; exact Sj (Fp1, Fp2, Fp3) (pk hO [1, 2, 3, 4]) hFr (FI (UI hq) (FI Gr (FI Gr (FI Gr TD)))) (Kc (.int _ _) DQ) rfl rfl rfl (by first | exact Or.inl rfl | exact Or.inr rfl)
 refine Ao (gn (AV (sr (Ad BY hO 0 (.lit _ _ _) Df ?_))))
 refine pM (.int _ _) (bk hk fun c4 hc4 hk => ?_)
 refine pX hc4 EY Ay ?_
 refine pF IA ?_
 refine Bq (.lit _ _ _) (Cu (lm := m3) (off := 4) hc4 BN) ?_
 refine Ae DA ?_
 refine pM (.int _ _) (pg (BO ?_))
 refine A9 (F := Mk aP0 aF1 aI2 c2 c4) (fun s S' => ∃ J G H1, Bu H H1 S0 ∧ A4 H1 G [.AW b1 (.cells 5 (AY l1 0 l2 m3 l4 m5 aP0)), .Cs S0 q0 (.cells 4 [.bool aF1.Ok, vp1, vp2, vp3]), AI S0 Fp1 aF1.B1 [vp1], AI S0 Fp2 aF1.A1 [vp2], AI S0 Fp3 aF1.A3 [vp3]] ∧ S' = ⟨CM [(1, .ptr q0 0),(3, .ptr b1 0),(7, .ptr b3 (aI2.toNat * 5)),(33, AK m3 0 c4.Ci),(34, iv (c4.Ci.length : Int)),(35, iv s)] J, G⟩) hk ⟨_, _, _, hFr, hO, sh⟩ ?_
 rintro x5 _ y1 ⟨J, G, H1, hFr, hO, rfl⟩ hk hx1
 refine sr (AO (pg (AV (Ak hk ?_ ?_)))) <;> intro hk
 ·refine Ao (gn (AV (BO (sr (bk hk fun c6 hc6 hk => pX hc6 CG DB ?_)))))
  refine Bq (.int _ _) (Cu (lm := 0) (off := 0) hc6 B3) ?_
  refine pA (.int _ _) (pg (sr ?_))
  refine pM (.ptr _ _) ?_
  refine C4 ?_
  refine pF CP ?_
  refine Wm hO 1 vp1 C5 ?_
  refine pM (.int _ _) (bk hk fun c7 hc7 hk => ?_)
  refine HZ hO 2 hc7 Cd Eu (fun b8 hb8 => ?_)
  refine EV (Br.all (α := Bool)) (.bool _) hO 2 hb8 hc7 Fu ?_
  refine pM (.bool _) ?_
  refine AP (l1 := [_, _, _, _, _]) [47, 48, 49, 50, 51] 51 (.bool (c7 && c2.Shown)) ?_ ?_
  ·refine bc (b := c7) ?_ ?_ <;> intro hg
   ·refine AA hg (pM (.ptr _ _) (AA hg ?_))
    refine C4 (AA hg ?_)
    refine pF DW (AA hg ?_)
    refine EV Ei (.bool _) hO 4 hb3 hc2 Fu ?_
    refine Cm hg (.bool _) ?_
    exact pE (ek (by rw [hg]; rfl))
   repeat refine Bg hg ?_
   refine Cl hg (.bool _) ?_
   exact pE (ek (by rw [hg]; rfl))
  intro J
  refine pg (Ak hk ?_ ?_) <;> intro hk
  ·refine sr (pM (.ptr _ _) ?_)
   refine C4 ?_
   refine pF Az ?_
   refine Kb Al (y' := (3:Int)) hO 4 hb3 hc2 DB (fun _ => ⟨rfl, rfl⟩) hFr hS rfl (fun H1 G hFr hO => ?_)
   have hc_9 := B2 hc2 ({ c2 with State := (3:Int) } : AD)
   have hv_9 := Bn (j := aI2.toNat) (y := ({ c2 with State := (3:Int) } : AD)) hb3
   refine pg (sr (pM (.ptr _ _) ?_))
   refine Ad JL hO 0 (.int _ _) B3 ?_
   refine C4 ?_
   refine pF Ce ?_
   refine Kb CE (y' := aP0.DX) hO 4 hv_9 hc_9 DB (fun _ => ⟨rfl, rfl⟩) hFr hS rfl (fun H1 G hFr hO => ?_)
   have hc_10 := B2 hc_9 ({ ({ c2 with State := (3:Int) } : AD) with Timer := aP0.DX } : AD)
   have hv_10 := Bn (j := aI2.toNat) (y := ({ ({ c2 with State := (3:Int) } : AD) with Timer := aP0.DX } : AD)) hv_9
   refine pg (sr (pA (.int _ _) (pg (Au (br (gr (gr (br (gr (have hk := lx hx1 hk; ?_))))))))))
   replace hk := av hk; subst hk; exact Sj (Fp1, Fp2, Fp3) (pk hO [1, 2, 3, 4]) hFr (FI (UI hq) (FI Gr (FI Gr (FI Gr TD)))) (Kc (.int _ _) DQ) rfl rfl rfl (by first | exact Or.inl rfl | exact Or.inr rfl)
  refine Ao (bn (gn (Bs (AO ?_))))
  refine pM (.int _ _) (pg ?_)
  cases hk; exact ⟨_, rfl, _, _, _, hFr, hO, sh⟩
 refine D5 (ge (ge (be (gn (have hk := lx hx1 hk; sr (pM (.ptr _ _) ?_))))))
 replace hO := (A4.pick hO [4, 0, 1, 2, 3] (by decide) rfl : A4 H1 G ([AI S0 Fp3 aF1.A3 [vp3]] ++ [.AW b1 (.cells 5 (AY l1 0 l2 m3 l4 m5 aP0)), .Cs S0 q0 (.cells 4 [.bool aF1.Ok, vp1, vp2, vp3]), AI S0 Fp1 aF1.B1 [vp1], AI S0 Fp2 aF1.A1 [vp2]]))
 refine bk hk fun z11 hz11 hk => Zw (rs0 := [AI S0 Fp3 aF1.A3 [vp3]]) (rs1 := fun (Fs12 : List Nat) => [AI S0 Fs12 z11 [vp3]]) (rest := [.AW b1 (.cells 5 (AY l1 0 l2 m3 l4 m5 aP0)), .Cs S0 q0 (.cells 4 [.bool aF1.Ok, vp1, vp2, vp3]), AI S0 Fp1 aF1.B1 [vp1], AI S0 Fp2 aF1.A1 [vp2]]) (S := (Fp3 ++ [])) hO hFr hS hlo (IK rfl) (GY rfl) (JU rfl Xg) (fun hl1 hlt1 hun1 ho1 => SZ hz11 hb3 ho1 hun1 hlt1 hl1) (fun _ => (JU rfl Xg)) (fun Fs12 H1 G hFr hO => pg (sr ?_))
 refine pA (.int _ _) (pg (Au ?_))
 replace hk := av hk; subst hk; exact Sj (Fp1, Fp2, Fs12) (pk hO [2, 3, 4, 0]) hFr (FI (UI hq) (FI Gr (FI Gr (FI Gr TD)))) (Kc (.int _ _) DQ) rfl rfl rfl (by first | exact Or.inl rfl | exact Or.inr rfl)
def Ef (aP0 : AT) (x21 : Bool) (x22 : List Bool) (x24 : List AZ) (x26 : List AD) (x28 : Int) : Option Aq :=
 ((YI aP0 ({ Ok := x21, B1 := x22, A1 := x24, A3 := x26 } : Frame)).bind fun z29 => some ({ Code := x28, Frame := ({ Ok := z29.Ok, B1 := z29.B1, A1 := z29.A1, A3 := z29.A3 } : Frame) } : Aq))
def Ow (x59 : Int) (x60 : List AD) : Option (((List AD) × Int) ⊕ Aq) :=
 some (.inl (x60, BE (x59 + 1)))
def Mc (aP0 : AT) (v8 : Frame) : ((List AD) × Int) → Option (((List AD) × Int) ⊕ Aq) := fun s =>
 (bif decide (s.2 < (v8.A3.length : Int)) then ((AH s.1 s.2).bind fun c62 => (bif (c62.State != 3) then (Ow s.2 s.1) else (bif ((({ c62 with Timer := BE (c62.Timer - 1) } : AD).Timer) == 0) then ((gL (s.1.set s.2.toNat ({ c62 with Timer := BE (c62.Timer - 1) })) s.2).bind fun z65 => (Ow s.2 z65)) else (Ow s.2 (s.1.set s.2.toNat ({ c62 with Timer := BE (c62.Timer - 1) })))))) else ((Ef aP0 v8.Ok v8.B1 v8.A1 s.1 (0:Int)).map Sum.inr))
def mI (aP0 : AT) (aF1 : Frame) (aE2 : BH) : Option Aq :=
 ((mO aP0 aF1).bind fun v5 => ((bif !v5 then some true else ((dJ aP0 aE2).bind fun v7 => some (!v7))).bind fun t6 => (bif t6 then some ({ Code := (1:Int), Frame := ({ Ok := false, B1 := ([] : List Bool), A1 := ([] : List AZ), A3 := ([] : List AD) } : Frame) } : Aq) else ((gK aF1).bind fun v8 => (bif (aE2.Op == 1) then ((nB aP0 aF1 aE2.Of).bind fun v37 => (bif (v37 == 0) then ((nC aP0 v8 aE2.Of).bind fun z38 => (Ef aP0 z38.Ok z38.B1 z38.A1 z38.A3 v37)) else (Ef aP0 v8.Ok v8.B1 v8.A1 v8.A3 v37))) else (bif (aE2.Op == 2) then ((jG aP0 v8 aE2.Of).bind fun z40 => (Ef aP0 z40.1.Ok z40.1.B1 z40.1.A1 z40.1.A3 z40.2)) else (bif (aE2.Op == 3) then ((AH v8.B1 aE2.Of).bind fun c42 => (Ef aP0 v8.Ok (v8.B1.set aE2.Of.toNat true) v8.A1 v8.A3 (0:Int))) else (bif (aE2.Op == 4) then ((AH v8.B1 aE2.Of).bind fun c45 => (Ef aP0 v8.Ok (v8.B1.set aE2.Of.toNat false) v8.A1 v8.A3 (0:Int))) else (bif (aE2.Op == 5) then ((AH v8.A1 aE2.Of).bind fun c48 => (Ef aP0 v8.Ok v8.B1 (v8.A1.set aE2.Of.toNat ({ c48 with AJ := aE2.CK })) v8.A3 (0:Int))) else (bif (aE2.Op == 6) then ((lJ aP0 aF1 aE2.Of).bind fun v51 => (bif decide ((v51.length : Int) > 0) then (Ef aP0 v8.Ok v8.B1 v8.A1 v8.A3 (2:Int)) else ((AH aP0.A5 aE2.Of).bind fun c52 => ((AH aF1.B1 c52).bind fun c53 => (bif c53 then (Ef aP0 v8.Ok v8.B1 v8.A1 v8.A3 (3:Int)) else ((AH v8.A1 aE2.Of).bind fun c54 => (Ef aP0 v8.Ok v8.B1 (v8.A1.set aE2.Of.toNat ({ c54 with Want := aE2.CK })) v8.A3 (0:Int)))))))) else (bif (aE2.Op == 7) then (AG (Mc aP0 v8) (v8.A3, (0:Int))) else (Ef aP0 v8.Ok v8.B1 v8.A1 v8.A3 (0:Int)))))))))))))
theorem cN (hk : mI aP0 aF1 aE2 = some r) (hlk : 0 < lk.length := by simp) (hlo : EE lk H.length := by simp [EE]) : ∃ v H1, Am ai hh 24 [.agg (AY l1 0 l2 m3 l4 m5 aP0), .agg (Ah l6 0 l7 0 l8 m9 aF1), .agg [iv aE2.Op, iv aE2.Of, iv aE2.CK]] H lk = some (v, H1) ∧ GH H r v H1 := by
 refine B0 Tryz.func24 rfl Tryz.ntmps24 Tryz.results24 rfl rfl ?_
 have hO := A4.nil H
 unfold mI at hk
 refine sr (BR (cs := [_, _, _, _, _]) hO C0 (fun b1 G hO => ?_))
 refine BR (cs := [_, _, _, _]) hO BZ (fun b2 G hO => ?_)
 refine BR (cs := [_, _, _]) hO NO (fun b3 G hO => C9 hO EF MK (fun b4 G hO => pg (AV (sr ?_))))
 refine D9 hO 3 [_, _, _, _, _] EP C0 ?_
 refine D9 hO 2 [_, _, _, _] DT BZ (bk hk fun v5 hv5 hk => ?_)
 refine Vk hO hlo rfl (fun _ hl => cT hv5 (hlo := hl)) ?_
 refine pU ?_
 refine pM (.bool _) (bk hk fun t6 ht hk => ?_)
 refine AP (l1 := [_, _, _, _, _]) [16, 17, 18, 19, 20] 20 (.bool t6) ?_ ?_
 ·refine bc (b := !v5) ?_ ?_ <;> intro hg
  ·replace hk := ct hg ht
   repeat refine Bg hg ?_
   refine Cm hg (.bool _) ?_
   cases hk; exact pE ek
  replace hk := cf hg ht
  refine AA hg (D9 hO 3 [_, _, _, _, _] EP C0 (AA hg ?_))
  refine D9 hO 1 [_, _, _] aP NO (AA hg (bk hk fun v7 hv7 hk => ?_))
  refine AM (fun _ => dK hv7) (AA hg ?_)
  refine pU ?_
  refine Cl hg (.bool _) ?_
  cases hk; exact pE ek
 intro J
 refine pg (Ak hk ?_ ?_) <;> intro hk
 ·refine sr (NB [_, _, _, _, _] MK US ?_)
  refine Cg (xs := [_, _, _, _, _]) hO 0 EF rfl (fun G hO => pg (Au (gr ?_)))
  replace hk := av hk; subst hk; exact FG hO (Dr (As (c1 := [_]) (FJ (1:Int)) (Es (As (c1 := [_]) (FD false) (As (c1 := [_]) (NP Bool) (As (c1 := [_]) (NP AZ) (NP AD))))))) (FB hO 0 [_, _, _, _, _] JY EF DQ)
 refine Ao (gn (sr (D9 hO 2 [_, _, _, _] DT BZ (bk hk fun v8 hv8 hk => ?_))))
 refine K8 hO (fun _ => WR hv8) (fun u9 F9 G hO => ?_)
 replace hO : A4 H G (AI [] _ ((v8.Ok, v8.B1, v8.A1, v8.A3) : Bool × (List Bool) × (List AZ) × (List AD)) _ :: [.AW b4 (.cells 5 [iv 0, .bool false, (.tl 0 []), (.tl 0 []), (.tl 0 [])]), .AW b3 (.cells 3 [iv aE2.Op, iv aE2.Of, iv aE2.CK]), .AW b2 (.cells 4 (Ah l6 0 l7 0 l8 m9 aF1)), .AW b1 (.cells 5 (AY l1 0 l2 m3 l4 m5 aP0))]) := hO
 obtain ⟨cs10, Fb10, he, hP⟩ := A4.TI hO
 clear hO; subst he; have hO := hP; clear hP
 obtain ⟨u11, cs11, F11, Fb11, he, hP⟩ := A4.KD hO
 clear hO; subst he; have hO := hP; clear hP
 obtain ⟨u13, cs13, F13, Fb13, he, hP⟩ := A4.KD hO
 clear hO; subst he; have hO := hP; clear hP
 obtain ⟨u15, rfl⟩ := A4.Wg hO
 refine C9 hO BZ Qx (fun b17 G hO => ?_)
 have hc18 := AN hO (j := 3) rfl
 have hc19 := AN hO (j := 2) rfl
 have hc20 := AN hO (j := 1) rfl
 refine Cg (xs := [_, _, _, _]) hO 0 BZ rfl (fun G hO => ?_) (h6 := (Aa rfl (Aa hc18.2 (Aa hc19.2 (Aa hc20.2 DL)))))
 refine pg (sr (pA (.int _ _) (pg ?_)))
 refine By (fun S' => ∃ x21 x22 x24 x26 x28 F23 F25 F27 J G, Ef aP0 x21 x22 x24 x26 x28 = some r ∧ A4 H G [.AW b17 (.cells 4 [.bool x21, u11, u13, u15]), AI [] F23 x22 [u11], AI [] F25 x24 [u13], AI [] F27 x26 [u15], .AW b4 (.cells 5 [iv 0, .bool false, (.tl 0 []), (.tl 0 []), (.tl 0 [])]), .AW b1 (.cells 5 (AY l1 0 l2 m3 l4 m5 aP0))] ∧ S' = ⟨CM [(3, .ptr b1 0),(6, .ptr b4 0),(7, .ptr b17 0),(8, iv x28)] J, G⟩) ?_ ?_
 ·refine sr (Ad QV hO 5 (.int _ _) B3 (pg (BO (sr ?_))))
  refine AO ?_
  refine pA (.bool _) (pg (Ak hk ?_ ?_)) <;> intro hk
  ·refine sr (D9 hO 7 [_, _, _, _, _] EP C0 ?_)
   refine D9 hO 6 [_, _, _, _] DT BZ ?_
   refine Ad CS hO 5 (.int _ _) B3 (bk hk fun v37 hv37 hk => ?_)
   refine AM (fun _ => dL hv37) ?_
   refine pA (.int _ _) (pg (sr ?_))
   refine pM (.int _ _) ?_
   refine AO (pg (Ak hk ?_ ?_)) <;> intro hk
   ·refine Bs (D9 hO 7 [_, _, _, _, _] EP C0 ?_)
    refine Ad CS hO 5 (.int _ _) B3 ?_
    replace hO := (A4.pick hO [0, 3, 2, 1, 4, 5, 6, 7] (by decide) rfl : A4 H G ([.AW b17 (.cells 4 [.bool v8.Ok, u11, u13, u15]), AI [] F11 v8.B1 [u11], AI [] F13 v8.A1 [u13], AI [] Fb13 v8.A3 [u15]] ++ [.AW b4 (.cells 5 [iv 0, .bool false, (.tl 0 []), (.tl 0 []), (.tl 0 [])]), .AW b3 (.cells 3 [iv aE2.Op, iv aE2.Of, iv aE2.CK]), .AW b2 (.cells 4 (Ah l6 0 l7 0 l8 m9 aF1)), .AW b1 (.cells 5 (AY l1 0 l2 m3 l4 m5 aP0))]))
    refine bk hk fun z38 hz38 hk => Vj (rs0 := [.AW b17 (.cells 4 [.bool v8.Ok, u11, u13, u15]), AI [] F11 v8.B1 [u11], AI [] F13 v8.A1 [u13], AI [] Fb13 v8.A3 [u15]]) (rs1 := fun (Fs39 : List Nat × List Nat × List Nat) => [.AW b17 (.cells 4 [.bool z38.Ok, u11, u13, u15]), AI [] Fs39.1 z38.B1 [u11], AI [] Fs39.2.1 z38.A1 [u13], AI [] Fs39.2.2 z38.A3 [u15]]) (rest := [.AW b4 (.cells 5 [iv 0, .bool false, (.tl 0 []), (.tl 0 []), (.tl 0 [])]), .AW b3 (.cells 3 [iv aE2.Op, iv aE2.Of, iv aE2.CK]), .AW b2 (.cells 4 (Ah l6 0 l7 0 l8 m9 aF1)), .AW b1 (.cells 5 (AY l1 0 l2 m3 l4 m5 aP0))]) (S := (b17 :: (F11 ++ (F13 ++ (Fb13 ++ []))))) hO hlo rfl (IK rfl) (GY rfl) (A4.lo hO) (fun _ hl1 hlt1 hun1 ho1 => dM hz38 ho1 hun1 hlt1 hl1) (fun _ => (JU rfl (JU rfl (JU rfl (JU rfl Xg))))) (fun Fs39 G hO => pE (bn (gn ?_)))
    exact ⟨z38.Ok, z38.B1, z38.A1, z38.A3, v37, Fs39.1, Fs39.2.1, Fs39.2.2, _, _, hk, (pk hO [0, 1, 2, 3, 4, 7]), sh⟩
   exact Ao (bn (gn (⟨v8.Ok, v8.B1, v8.A1, v8.A3, v37, F11, F13, Fb13, _, _, hk, (pk hO [0, 3, 2, 1, 4, 7]), sh⟩)))
  refine sr (AO ?_)
  refine pA (.bool _) (pg (Ak hk ?_ ?_)) <;> intro hk
  ·refine Bs (D9 hO 7 [_, _, _, _, _] EP C0 ?_)
   refine Ad CS hO 5 (.int _ _) B3 ?_
   replace hO := (A4.pick hO [0, 3, 2, 1, 4, 5, 6, 7] (by decide) rfl : A4 H G ([.AW b17 (.cells 4 [.bool v8.Ok, u11, u13, u15]), AI [] F11 v8.B1 [u11], AI [] F13 v8.A1 [u13], AI [] Fb13 v8.A3 [u15]] ++ [.AW b4 (.cells 5 [iv 0, .bool false, (.tl 0 []), (.tl 0 []), (.tl 0 [])]), .AW b3 (.cells 3 [iv aE2.Op, iv aE2.Of, iv aE2.CK]), .AW b2 (.cells 4 (Ah l6 0 l7 0 l8 m9 aF1)), .AW b1 (.cells 5 (AY l1 0 l2 m3 l4 m5 aP0))]))
   refine bk hk fun z40 hz40 hk => Vj (rs0 := [.AW b17 (.cells 4 [.bool v8.Ok, u11, u13, u15]), AI [] F11 v8.B1 [u11], AI [] F13 v8.A1 [u13], AI [] Fb13 v8.A3 [u15]]) (rs1 := fun (Fs41 : List Nat × List Nat × List Nat) => [.AW b17 (.cells 4 [.bool z40.1.Ok, u11, u13, u15]), AI [] Fs41.1 z40.1.B1 [u11], AI [] Fs41.2.1 z40.1.A1 [u13], AI [] Fs41.2.2 z40.1.A3 [u15]]) (rest := [.AW b4 (.cells 5 [iv 0, .bool false, (.tl 0 []), (.tl 0 []), (.tl 0 [])]), .AW b3 (.cells 3 [iv aE2.Op, iv aE2.Of, iv aE2.CK]), .AW b2 (.cells 4 (Ah l6 0 l7 0 l8 m9 aF1)), .AW b1 (.cells 5 (AY l1 0 l2 m3 l4 m5 aP0))]) (S := (b17 :: (F11 ++ (F13 ++ (Fb13 ++ []))))) hO hlo rfl (IK rfl) (GY rfl) (A4.lo hO) (fun _ hl1 hlt1 hun1 ho1 => dN hz40 ho1 hun1 hlt1 hl1) (fun _ => (JU rfl (JU rfl (JU rfl (JU rfl Xg))))) (fun Fs41 G hO => ?_)
   refine pA (.int _ _) (pE (bn (gn ?_)))
   exact ⟨z40.1.Ok, z40.1.B1, z40.1.A1, z40.1.A3, z40.2, Fs41.1, Fs41.2.1, Fs41.2.2, _, _, hk, (pk hO [0, 1, 2, 3, 4, 7]), sh⟩
  refine sr (AO ?_)
  refine pA (.bool _) (pg (Ak hk ?_ ?_)) <;> intro hk
  ·refine Bs (Ad CP hO 0 u11 C5 ?_)
   refine Ad CS hO 5 (.int _ _) B3 (bk hk fun c42 hc42 hk => ?_)
   refine HZ hO 3 hc42 Cd Eu (fun b43 hb43 => ?_)
   refine ME (Br.all (α := Bool)) (y' := true) hO 3 hb43 hc42 Eu (fun _ => ⟨rfl, rfl⟩) rfl (fun G hO => ?_)
   have hc_44 := B2 hc42 true
   have hv_44 := Bn (j := aE2.Of.toNat) (y := true) hb43
   exact pE (bn (gn (⟨v8.Ok, v8.B1.set aE2.Of.toNat true, v8.A1, v8.A3, (0:Int), F11, F13, Fb13, _, _, hk, (pk hO [0, 3, 2, 1, 4, 7]), sh⟩)))
  refine sr (AO ?_)
  refine pA (.bool _) (pg (Ak hk ?_ ?_)) <;> intro hk
  ·refine Bs (Ad CP hO 0 u11 C5 ?_)
   refine Ad CS hO 5 (.int _ _) B3 (bk hk fun c45 hc45 hk => ?_)
   refine HZ hO 3 hc45 Cd Eu (fun b46 hb46 => ?_)
   refine ME (Br.all (α := Bool)) (y' := false) hO 3 hb46 hc45 Eu (fun _ => ⟨rfl, rfl⟩) rfl (fun G hO => ?_)
   have hc_47 := B2 hc45 false
   have hv_47 := Bn (j := aE2.Of.toNat) (y := false) hb46
   exact pE (bn (gn (⟨v8.Ok, v8.B1.set aE2.Of.toNat false, v8.A1, v8.A3, (0:Int), F11, F13, Fb13, _, _, hk, (pk hO [0, 3, 2, 1, 4, 7]), sh⟩)))
  refine sr (AO ?_)
  refine pA (.bool _) (pg (Ak hk ?_ ?_)) <;> intro hk
  ·refine Bs (Ad Cv hO 0 u13 H9 ?_)
   refine Ad CS hO 5 (.int _ _) B3 ?_
   refine Ad Fb hO 5 (.int _ _) B3 (bk hk fun c48 hc48 hk => ?_)
   refine HZ hO 2 hc48 Gm Dq (fun b49 hb49 => ?_)
   refine pF IN ?_
   refine ME HN (y' := aE2.CK) hO 2 hb49 hc48 DB (fun _ => ⟨rfl, rfl⟩) rfl (fun G hO => ?_)
   have hc_50 := B2 hc48 ({ c48 with AJ := aE2.CK } : AZ)
   have hv_50 := Bn (j := aE2.Of.toNat) (y := ({ c48 with AJ := aE2.CK } : AZ)) hb49
   exact pE (bn (gn (⟨v8.Ok, v8.B1, v8.A1.set aE2.Of.toNat ({ c48 with AJ := aE2.CK }), v8.A3, (0:Int), F11, F13, Fb13, _, _, hk, (pk hO [0, 3, 2, 1, 4, 7]), sh⟩)))
  refine sr (AO ?_)
  refine pA (.bool _) (pg (Ak hk ?_ ?_)) <;> intro hk
  ·refine sr (D9 hO 7 [_, _, _, _, _] EP C0 ?_)
   refine D9 hO 6 [_, _, _, _] DT BZ ?_
   refine Ad CS hO 5 (.int _ _) B3 (bk hk fun v51 hv51 hk => ?_)
   refine AM (fun _ => WO hv51) ?_
   refine Ae DA ?_
   refine AO (pg (Ak hk ?_ ?_)) <;> intro hk
   ·refine Bs (pA (.int _ _) (pE (bn (gn ?_))))
    exact ⟨v8.Ok, v8.B1, v8.A1, v8.A3, (2:Int), F11, F13, Fb13, _, _, hk, (pk hO [0, 3, 2, 1, 4, 7]), sh⟩
   refine AV (HY [1,3,5,7,9,11,13,15,16,19] [_,_,_,_,_,_,_,_,_,_] ?_)
   refine Ad CP hO 6 (.lit _ _ _) C5 ?_
   refine Ad D4 hO 7 (.lit _ _ _) BN ?_
   refine Ad CS hO 5 (.int _ _) B3 (bk hk fun c52 hc52 hk => ?_)
   refine pX hc52 CG DB ?_
   refine Bq (.int _ _) (Cu (lm := 0) (off := 0) hc52 B3) (bk hk fun c53 hc53 hk => ?_)
   refine pX hc53 Cd Eu ?_
   refine Bq (.bool _) (Cu (lm := 0) (off := 0) hc53 Fu) (pg (Ak hk ?_ ?_)) <;> intro hk
   ·refine Bs (pA (.int _ _) (pE (bn (gn ?_))))
    exact ⟨v8.Ok, v8.B1, v8.A1, v8.A3, (3:Int), F11, F13, Fb13, _, _, hk, (pk hO [0, 3, 2, 1, 4, 7]), sh⟩
   refine Bs (Ad Cv hO 0 u13 H9 ?_)
   refine Ad CS hO 5 (.int _ _) B3 ?_
   refine Ad Fb hO 5 (.int _ _) B3 (bk hk fun c54 hc54 hk => ?_)
   refine HZ hO 2 hc54 Gm Dq (fun b55 hb55 => ?_)
   refine pF GA ?_
   refine ME Ej (y' := aE2.CK) hO 2 hb55 hc54 DB (fun _ => ⟨rfl, rfl⟩) rfl (fun G hO => ?_)
   have hc_56 := B2 hc54 ({ c54 with Want := aE2.CK } : AZ)
   have hv_56 := Bn (j := aE2.Of.toNat) (y := ({ c54 with Want := aE2.CK } : AZ)) hb55
   exact pE (bn (gn (⟨v8.Ok, v8.B1, v8.A1.set aE2.Of.toNat ({ c54 with Want := aE2.CK }), v8.A3, (0:Int), F11, F13, Fb13, _, _, hk, (pk hO [0, 3, 2, 1, 4, 7]), sh⟩)))
  refine sr (AO ?_)
  refine pA (.bool _) (pg (Ak hk ?_ ?_)) <;> intro hk
  ·refine sr (Ad BT hO 0 u15 DZ ?_)
   refine K9 hO 1 Hk ?_
   refine pM (.int _ _) (pg (BO ?_))
   refine A9 (F := Mc aP0 v8) (fun s S' => ∃ F58 J G, A4 H G [.AW b17 (.cells 4 [.bool v8.Ok, u11, u13, u15]), AI [] F58 s.1 [u15], AI [] F13 v8.A1 [u13], AI [] F11 v8.B1 [u11], .AW b4 (.cells 5 [iv 0, .bool false, (.tl 0 []), (.tl 0 []), (.tl 0 [])]), .AW b1 (.cells 5 (AY l1 0 l2 m3 l4 m5 aP0))] ∧ S' = ⟨CM [(3, .ptr b1 0),(6, .ptr b4 0),(7, .ptr b17 0),(8, iv (0:Int)),(100, iv (v8.A3.length : Int)),(101, iv s.2)] J, G⟩) hk ⟨Fb13, _, _, (pk hO [0, 1, 2, 3, 4, 7]), sh⟩ ?_
   rintro ⟨x57, x59⟩ _ y1 ⟨F58, J, G, hO, rfl⟩ hk hx1
   refine sr (AO (pg (AV (Ak hk ?_ ?_)))) <;> intro hk
   ·refine Ao (gn (By (fun S' => ∃ x60 F61 J G, Ow x59 x60 = some y1 ∧ A4 H G [.AW b17 (.cells 4 [.bool v8.Ok, u11, u13, u15]), AI [] F61 x60 [u15], AI [] F13 v8.A1 [u13], AI [] F11 v8.B1 [u11], .AW b4 (.cells 5 [iv 0, .bool false, (.tl 0 []), (.tl 0 []), (.tl 0 [])]), .AW b1 (.cells 5 (AY l1 0 l2 m3 l4 m5 aP0))] ∧ S' = ⟨CM [(3, .ptr b1 0),(6, .ptr b4 0),(7, .ptr b17 0),(8, iv (0:Int)),(100, iv (v8.A3.length : Int)),(101, iv x59)] J, G⟩) ?_ ?_))
    ·refine BO (sr (pM (.int _ _) ?_))
     refine pA (.int _ _) (pg (sr ?_))
     refine Ad BT hO 0 u15 DZ ?_
     refine pM (.int _ _) (bk hk fun c62 hc62 hk => ?_)
     refine HZ hO 1 hc62 Da Av (fun b63 hb63 => ?_)
     refine pA (.ptr _ _) (pg (AV (sr ?_)))
     refine pM (.ptr _ _) ?_
     refine C4 ?_
     refine pF Az ?_
     refine EV Al (.int _ _) hO 1 hb63 hc62 B3 ?_
     refine AO (pg (Ak hk ?_ ?_)) <;> intro hk
     ·exact D5 (ge (be (gn (⟨x57, F58, _, _, hk, hO, sh⟩))))
     refine Ao (gn (sr (pM (.ptr _ _) ?_)))
     refine C4 ?_
     refine pF Ce ?_
     refine EV CE (.int _ _) hO 1 hb63 hc62 B3 ?_
     refine AO ?_
     refine C4 ?_
     refine pF Ce ?_
     refine ME CE (y' := (BE (c62.Timer - 1))) hO 1 hb63 hc62 DB (fun _ => ⟨rfl, rfl⟩) rfl (fun G hO => ?_)
     have hc_64 := B2 hc62 ({ c62 with Timer := BE (c62.Timer - 1) } : AD)
     have hv_64 := Bn (j := x59.toNat) (y := ({ c62 with Timer := BE (c62.Timer - 1) } : AD)) hb63
     refine pg (sr (pM (.ptr _ _) ?_))
     refine C4 ?_
     refine pF Ce ?_
     refine EV CE (.int _ _) hO 1 hv_64 hc_64 B3 ?_
     refine AO (pg (Ak hk ?_ ?_)) <;> intro hk
     ·refine Bs (pM (.ptr _ _) ?_)
      replace hO := (A4.pick hO [1, 0, 2, 3, 4, 5] (by decide) rfl : A4 H G ([AI [] F58 (x57.set x59.toNat ({ c62 with Timer := BE (c62.Timer - 1) })) [u15]] ++ [.AW b17 (.cells 4 [.bool v8.Ok, u11, u13, u15]), AI [] F13 v8.A1 [u13], AI [] F11 v8.B1 [u11], .AW b4 (.cells 5 [iv 0, .bool false, (.tl 0 []), (.tl 0 []), (.tl 0 [])]), .AW b1 (.cells 5 (AY l1 0 l2 m3 l4 m5 aP0))]))
      refine bk hk fun z65 hz65 hk => Vj (rs0 := [AI [] F58 (x57.set x59.toNat ({ c62 with Timer := BE (c62.Timer - 1) })) [u15]]) (rs1 := fun (Fs66 : List Nat) => [AI [] Fs66 z65 [u15]]) (rest := [.AW b17 (.cells 4 [.bool v8.Ok, u11, u13, u15]), AI [] F13 v8.A1 [u13], AI [] F11 v8.B1 [u11], .AW b4 (.cells 5 [iv 0, .bool false, (.tl 0 []), (.tl 0 []), (.tl 0 [])]), .AW b1 (.cells 5 (AY l1 0 l2 m3 l4 m5 aP0))]) (S := (F58 ++ [])) hO hlo rfl (IK rfl) (GY rfl) (A4.lo hO) (fun _ hl1 hlt1 hun1 ho1 => SZ hz65 hv_64 ho1 hun1 hlt1 hl1) (fun _ => (JU rfl Xg)) (fun Fs66 G hO => pE (bn (gn ?_)))
      exact ⟨z65, Fs66, _, _, hk, (pk hO [1, 0, 2, 3, 4, 5]), sh⟩
     exact Ao (bn (gn (⟨x57.set x59.toNat ({ c62 with Timer := BE (c62.Timer - 1) }), F58, _, _, hk, hO, sh⟩)))
    rintro _ ⟨x60, F61, J, G, hk, hO, rfl⟩
    refine Bs (AO ?_)
    refine pM (.int _ _) (pg ?_)
    cases hk; exact ⟨_, rfl, F61, _, _, hO, sh⟩
   exact D5 (ge (ge (be (bn (gn (have hk := lx hx1 hk; ⟨v8.Ok, v8.B1, v8.A1, x57, (0:Int), F11, F13, F58, _, _, hk, (pk hO [0, 3, 2, 1, 4, 5]), sh⟩))))))
  exact Ao (bn (gn (⟨v8.Ok, v8.B1, v8.A1, v8.A3, (0:Int), F11, F13, Fb13, _, _, hk, (pk hO [0, 3, 2, 1, 4, 7]), sh⟩)))
 rintro _ ⟨x21, x22, x24, x26, x28, F23, F25, F27, J, G, hk, hO, rfl⟩
 refine sr (D9 hO 5 [_, _, _, _, _] EP C0 ?_)
 replace hO := (A4.pick hO [0, 1, 2, 3, 4, 5] (by decide) rfl : A4 H G ([.AW b17 (.cells 4 [.bool x21, u11, u13, u15]), AI [] F23 x22 [u11], AI [] F25 x24 [u13], AI [] F27 x26 [u15]] ++ [.AW b4 (.cells 5 [iv 0, .bool false, (.tl 0 []), (.tl 0 []), (.tl 0 [])]), .AW b1 (.cells 5 (AY l1 0 l2 m3 l4 m5 aP0))]))
 refine bk hk fun z29 hz29 hk => Vj (rs0 := [.AW b17 (.cells 4 [.bool x21, u11, u13, u15]), AI [] F23 x22 [u11], AI [] F25 x24 [u13], AI [] F27 x26 [u15]]) (rs1 := fun (Fs30 : List Nat × List Nat × List Nat) => [.AW b17 (.cells 4 [.bool z29.Ok, u11, u13, u15]), AI [] Fs30.1 z29.B1 [u11], AI [] Fs30.2.1 z29.A1 [u13], AI [] Fs30.2.2 z29.A3 [u15]]) (rest := [.AW b4 (.cells 5 [iv 0, .bool false, (.tl 0 []), (.tl 0 []), (.tl 0 [])]), .AW b1 (.cells 5 (AY l1 0 l2 m3 l4 m5 aP0))]) (S := (b17 :: (F23 ++ (F25 ++ (F27 ++ []))))) hO hlo rfl (IK rfl) (GY rfl) (A4.lo hO) (fun _ hl1 hlt1 hun1 ho1 => WS hz29 ho1 hun1 hlt1 hl1) (fun _ => (JU rfl (JU rfl (JU rfl (JU rfl Xg))))) (fun Fs30 G hO => pg (sr ?_))
 refine pM (.int _ _) ?_
 refine D9 hO 0 [_, _, _, _] DT BZ ?_
 have hc31 := AN hO (j := 1) rfl
 have hc32 := AN hO (j := 2) rfl
 have hc33 := AN hO (j := 3) rfl
 refine NB [iv x28, .bool z29.Ok, u11, u13, u15] MK US ?_ (ps := [(0, iv x28), (1, .agg [.bool z29.Ok, u11, u13, u15])]) (h2 := (Ch (i := 0) (off := 0) (sz := 1) (v := iv x28) (ce := [iv x28]) rfl (Aa rfl DL) (Ch (i := 1) (off := 1) (sz := 4) (v := .agg [.bool z29.Ok, u11, u13, u15]) (ce := [.bool z29.Ok, u11, u13, u15]) rfl (Aa rfl (Aa hc31.2 (Aa hc32.2 (Aa hc33.2 DL)))) rfl)))
 have hc34 := AN hO (j := 1) rfl
 have hc35 := AN hO (j := 2) rfl
 have hc36 := AN hO (j := 3) rfl
 refine Cg (xs := [_, _, _, _, _]) hO 4 EF rfl (fun G hO => ?_) (h6 := (Aa rfl (Aa rfl (Aa hc34.2 (Aa hc35.2 (Aa hc36.2 DL))))))
 refine pg (Au ?_)
 replace hk := av hk; subst hk; exact FG hO (Dr (As (c1 := [_]) (FJ x28) (Es (As (c1 := [_]) (FD z29.Ok) (As (c1 := [_]) (BW 1) (As (c1 := [_]) (BW 1) (BW 1))))))) (FB hO 4 [_, _, _, _, _] JY EF DQ)
def RD (aX0 : Int) (aLo1 : Int) (aHi2 : Int) : Option Bool :=
 some (decide (aX0 ≥ aLo1) && decide (aX0 ≤ aHi2))
theorem Dk (hk : RD aX0 aLo1 aHi2 = some r) (hlk : 0 < lk.length := by simp) : Am ai hh 46 [iv aX0, iv aLo1, iv aHi2] H lk = some (.bool r, H) := by
 refine AF Tryz.func46 rfl Tryz.ntmps46 Tryz.results46 rfl rfl fun hO => ?_
 unfold RD at hk
 refine sr (pA (.bool _) (pg (sr ?_)))
 refine pM (.int _ _) ?_
 refine pM (.int _ _) ?_
 refine AO ?_
 refine pM (.bool _) ?_
 refine AP (l1 := [_, _, _, _]) [11, 12, 13, 14] 14 (.bool (decide (aX0 ≥ aLo1) && decide (aX0 ≤ aHi2))) ?_ ?_
 ·refine bc (b := decide (aX0 ≥ aLo1)) ?_ ?_ <;> intro hg
  ·refine AA hg (pM (.int _ _) (AA hg ?_))
   refine pM (.int _ _) (AA hg ?_)
   refine AO ?_
   refine Cm hg (.bool _) ?_
   exact pE (ek (by rw [hg]; rfl))
  refine Bg hg (Bg hg (Bg hg (Cl hg (.bool _) ?_)))
  exact pE (ek (by rw [hg]; rfl))
 intro J
 refine pA (.bool _) (pg (Au ?_))
 cases hk; exact AQ hO
def Sb (aS0 : List Int) (aV1 : Int) : Int → Option (Int ⊕ Int) := fun s =>
 (bif decide (s < (aS0.length : Int)) then ((AH aS0 s).bind fun c2 => (bif (aV1 == c2) then ((some s).map Sum.inr) else some (.inl (BE (s + 1))))) else ((some (-1:Int)).map Sum.inr))
def jP (aS0 : List Int) (aV1 : Int) : Option Int :=
 (AG (Sb aS0 aV1) ((0:Int)))
theorem WT (hk : jP aS0 aV1 = some r) (hlk : 0 < lk.length := by simp) : Am ai hh 84 [AK l1 0 aS0, iv aV1] H lk = some (iv r, H) := by
 refine AF Tryz.func84 rfl Tryz.ntmps84 Tryz.results84 rfl rfl fun hO => ?_
 unfold jP at hk
 refine sr (pA (.int _ _) (pg (AV (sr ?_))))
 refine pM (.lit _ _ _) ?_
 refine Ae DA ?_
 refine pM (.int _ _) (pg (BO ?_))
 refine A9 (F := Sb aS0 aV1) (fun s S' => ∃ J G, A4 H G [] ∧ S' = ⟨CM [(0, AK l1 0 aS0),(1, iv aV1),(7, iv (aS0.length : Int)),(8, iv s)] J, G⟩) hk ⟨_, _, hO, sh⟩ ?_
 rintro x1 _ y1 ⟨J, G, hO, rfl⟩ hk hx1
 refine sr (AO (pg (AV (Ak hk ?_ ?_)))) <;> intro hk
 ·refine Ao (gn (AV (BO (sr (pM (.int _ _) ?_)))))
  refine pA (.int _ _) (pg (sr ?_))
  refine pM (.int _ _) ?_
  refine pM (.lit _ _ _) ?_
  refine pM (.int _ _) (bk hk fun c2 hc2 hk => ?_)
  refine pX hc2 CG DB ?_
  refine Bq (.int _ _) (Cu (lm := 0) (off := 0) hc2 B3) ?_
  refine AO (pg (Ak hk ?_ ?_)) <;> intro hk
  ·refine sr (pM (.int _ _) ?_)
   refine pA (.int _ _) (pg (Au (br (gr (gr (br (gr (have hk := lx hx1 hk; ?_))))))))
   cases hk; exact AQ hO
  refine Ao (bn (gn (Bs (AO ?_))))
  refine pM (.int _ _) (pg ?_)
  cases hk; exact ⟨_, rfl, _, _, hO, sh⟩
 refine D5 (ge (ge (be (gn (have hk := lx hx1 hk; sr (pA (.int _ _) (pg (Au ?_))))))))
 cases hk; exact AQ hO
def eD (aS0 : List Int) (aV1 : Int) : Option Bool :=
 ((jP aS0 aV1).bind fun v1 => some (decide (v1 ≥ 0)))
theorem Ln (hk : eD aS0 aV1 = some r) (hlk : 0 < lk.length := by simp) : Am ai hh 91 [AK l1 0 aS0, iv aV1] H lk = some (.bool r, H) := by
 refine AF Tryz.func91 rfl Tryz.ntmps91 Tryz.results91 rfl rfl fun hO => ?_
 unfold eD at hk
 refine sr (pA (.bool _) (pg (sr ?_)))
 refine pM (.lit _ _ _) ?_
 refine pM (.int _ _) (bk hk fun v1 hv1 hk => ?_)
 refine AM (fun _ => WT hv1) ?_
 refine AO ?_
 refine pA (.bool _) (pg (Au ?_))
 cases hk; exact AQ hO
def OG (aL0 : List Int) (aN1 : Int) : Int → Option (Int ⊕ Bool) := fun s =>
 (bif decide (s < (aL0.length : Int)) then ((AH aL0 s).bind fun c2 => ((RD c2 (0:Int) (BE (aN1 - 1))).bind fun v3 => ((bif !v3 then some true else ((TJ aL0 (0:Int) s).bind fun y5 => ((eD y5 c2).bind fun v6 => some v6))).bind fun t4 => (bif t4 then ((some false).map Sum.inr) else some (.inl (BE (s + 1))))))) else ((some (decide ((aL0.length : Int) ≤ 30))).map Sum.inr))
def V1 (aL0 : List Int) (aN1 : Int) : Option Bool :=
 (AG (OG aL0 aN1) ((0:Int)))
theorem Ou (hk : V1 aL0 aN1 = some r) (hlk : 0 < lk.length := by simp) : Am ai hh 130 [AK l1 0 aL0, iv aN1] H lk = some (.bool r, H) := by
 refine AF Tryz.func130 rfl Tryz.ntmps130 Tryz.results130 rfl rfl fun hO => ?_
 unfold V1 at hk
 refine sr (pA (.bool _) (pg (AV (sr ?_))))
 refine pM (.lit _ _ _) ?_
 refine Ae DA ?_
 refine pM (.int _ _) (pg (BO ?_))
 refine A9 (F := OG aL0 aN1) (fun s S' => ∃ J G, A4 H G [] ∧ S' = ⟨CM [(0, AK l1 0 aL0),(1, iv aN1),(7, AK l1 0 aL0),(8, iv (aL0.length : Int)),(9, iv s)] J, G⟩) hk ⟨_, _, hO, sh⟩ ?_
 rintro x1 _ y1 ⟨J, G, hO, rfl⟩ hk hx1
 refine sr (AO (pg (AV (Ak hk ?_ ?_)))) <;> intro hk
 ·refine Ao (gn (AV (BO (sr (pM (.int _ _) (bk hk fun c2 hc2 hk => ?_))))))
  refine pX hc2 CG DB ?_
  refine Bq (.int _ _) (Cu (lm := 0) (off := 0) hc2 B3) ?_
  refine pA (.int _ _) ?_
  refine pA (.int _ _) (pg (sr ?_))
  refine pM (.int _ _) ?_
  refine pM (.int _ _) ?_
  refine AO (bk hk fun v3 hv3 hk => ?_)
  refine AM (fun _ => Dk hv3) ?_
  refine pU ?_
  refine pM (.bool _) (bk hk fun t4 ht hk => ?_)
  refine AP (l1 := [_, _, _, _, _, _]) [20, 21, 22, 23, 24, 25] 25 (.bool t4) ?_ ?_
  ·refine bc (b := !v3) ?_ ?_ <;> intro hg
   ·replace hk := ct hg ht
    repeat refine Bg hg ?_
    refine Cm hg (.bool _) ?_
    cases hk; exact pE ek
   replace hk := cf hg ht
   refine AA hg (pM (.lit _ _ _) (AA hg ?_))
   refine pM (.int _ _) (AA hg (bk hk fun y5 hy5 hk => ?_))
   refine oI hy5 CG DB (AA hg ?_)
   refine pM (.int _ _) (AA hg (bk hk fun v6 hv6 hk => ?_))
   refine AM (fun _ => Ln hv6) ?_
   refine Cl hg (.bool _) ?_
   cases hk; exact pE ek
  intro J
  refine pg (Ak hk ?_ ?_) <;> intro hk
  ·refine sr (pA (.bool _) (pg (Au (br (gr (gr (br (gr (have hk := lx hx1 hk; ?_)))))))))
   cases hk; exact AQ hO
  refine Ao (bn (gn (Bs (AO ?_))))
  refine pM (.int _ _) (pg ?_)
  cases hk; exact ⟨_, rfl, _, _, hO, sh⟩
 refine D5 (ge (ge (be (gn (have hk := lx hx1 hk; sr (pM (.lit _ _ _) ?_))))))
 refine Ae DA ?_
 refine AO ?_
 refine pA (.bool _) (pg (Au ?_))
 cases hk; exact AQ hO
def cH (aX0 : Int) (aA1 : List Int) : Option Bool :=
 ((eD aA1 aX0).bind fun v1 => some v1)
theorem Yq (hk : cH aX0 aA1 = some r) (hq0 : H[q0]? = some (.cells 1 [AK l1 0 aA1])) (hlk : 0 < lk.length := by simp) : Am ai hh 113 [iv aX0, .ptr q0 0] H lk = some (.bool r, H) := by
 refine AF Tryz.func113 rfl Tryz.ntmps113 Tryz.results113 rfl rfl fun hO => ?_
 unfold cH at hk
 refine sr (pA (.bool _) (pg (sr ?_)))
 refine qA (.lit _ _ _) hO hq0 BN ?_
 refine pM (.int _ _) (bk hk fun v1 hv1 hk => ?_)
 refine AM (fun _ => Ln hv1) ?_
 refine pA (.bool _) (pg (Au ?_))
 cases hk; exact AQ hO
def Hs (aS0 : List Int) (aC1_0 : List Int) : Int → Option (Int ⊕ Int) := fun s =>
 (bif decide (s < (aS0.length : Int)) then ((AH aS0 s).bind fun c2 => ((cH c2 aC1_0).bind fun v3 => (bif v3 then ((some s).map Sum.inr) else some (.inl (BE (s + 1)))))) else ((some (-1:Int)).map Sum.inr))
def Jl (aS0 : List Int) (aC1_0 : List Int) : Option Int :=
 (AG (Hs aS0 aC1_0) ((0:Int)))
theorem S9 (hk : Jl aS0 aC1_0 = some r) (hq0 : H[q0]? = some (.cells 1 [AK l2 0 aC1_0])) (hlk : 0 < lk.length := by simp) : Am ai hh 127 [AK l1 0 aS0, .fn 113 [.ptr q0 0]] H lk = some (iv r, H) := by
 refine AF Tryz.func127 rfl Tryz.ntmps127 Tryz.results127 rfl rfl fun hO => ?_
 unfold Jl at hk
 refine sr (pA (.int _ _) (pg (AV (sr ?_))))
 refine pM (.lit _ _ _) ?_
 refine Ae DA ?_
 refine pM (.int _ _) (pg (BO ?_))
 refine A9 (F := Hs aS0 aC1_0) (fun s S' => ∃ J G, A4 H G [] ∧ S' = ⟨CM [(0, AK l1 0 aS0),(1, .fn 113 [.ptr q0 0]),(7, iv (aS0.length : Int)),(8, iv s)] J, G⟩) hk ⟨_, _, hO, sh⟩ ?_
 rintro x1 _ y1 ⟨J, G, hO, rfl⟩ hk hx1
 refine sr (AO (pg (AV (Ak hk ?_ ?_)))) <;> intro hk
 ·refine Ao (gn (AV (BO (sr (pM (.int _ _) ?_)))))
  refine pA (.int _ _) (pg (sr ?_))
  refine pM (.fn _ _) ?_
  refine pM (.lit _ _ _) ?_
  refine pM (.int _ _) (bk hk fun c2 hc2 hk => ?_)
  refine pX hc2 CG DB ?_
  refine Bq (.int _ _) (Cu (lm := 0) (off := 0) hc2 B3) (bk hk fun v3 hv3 hk => ?_)
  refine AM (fun _ => Yq hv3 (I5 hO hq0)) (pg (Ak hk ?_ ?_)) <;> intro hk
  ·refine sr (pM (.int _ _) ?_)
   refine pA (.int _ _) (pg (Au (br (gr (gr (br (gr (have hk := lx hx1 hk; ?_))))))))
   cases hk; exact AQ hO
  refine Ao (bn (gn (Bs (AO ?_))))
  refine pM (.int _ _) (pg ?_)
  cases hk; exact ⟨_, rfl, _, _, hO, sh⟩
 refine D5 (ge (ge (be (gn (have hk := lx hx1 hk; sr (pA (.int _ _) (pg (Au ?_))))))))
 cases hk; exact AQ hO
def Lg (aS0 : List Int) (aC1_0 : List Int) : Option Bool :=
 ((Jl aS0 aC1_0).bind fun v1 => some (decide (v1 ≥ 0)))
theorem S7 (hk : Lg aS0 aC1_0 = some r) (hq0 : H[q0]? = some (.cells 1 [AK l2 0 aC1_0])) (hlk : 0 < lk.length := by simp) : Am ai hh 112 [AK l1 0 aS0, .fn 113 [.ptr q0 0]] H lk = some (.bool r, H) := by
 refine AF Tryz.func112 rfl Tryz.ntmps112 Tryz.results112 rfl rfl fun hO => ?_
 unfold Lg at hk
 refine sr (pA (.bool _) (pg (sr ?_)))
 refine pM (.lit _ _ _) ?_
 refine pM (.fn _ _) (bk hk fun v1 hv1 hk => ?_)
 refine AM (fun _ => S9 hv1 (I5 hO hq0)) ?_
 refine AO ?_
 refine pA (.bool _) (pg (Au ?_))
 cases hk; exact AQ hO
def gM (aA0 : List Int) (aB1 : List Int) : Option Bool :=
 ((Lg aA0 aB1).bind fun v2 => some v2)
theorem OM (hk : gM aA0 aB1 = some r) (hlk : 0 < lk.length := by simp) : Am ai hh 90 [AK l1 0 aA0, AK l2 0 aB1] H lk = some (.bool r, H) := by
 refine AF Tryz.func90 rfl Tryz.ntmps90 Tryz.results90 rfl rfl fun hO => ?_
 unfold gM at hk
 refine sr (BR (cs := [_]) hO ML (fun b1 G hO => ?_))
 refine pA (.bool _) (pg (sr ?_))
 refine pM (.lit _ _ _) ?_
 refine q9 (vs := [_]) (bk hk fun v2 hv2 hk => ?_)
 refine AM (fun _ => S7 hv2 (hO.get (k := 0) rfl).1) ?_
 refine pA (.bool _) (pg (Au ?_))
 cases hk; exact AQ hO
def Ll (aP0 : AT) (aW1 : CA) : Int → Option (Int ⊕ Bool) := fun s =>
 (bif decide (s < (aW1.AJ.length : Int)) then ((AH aW1.AJ s).bind fun c24 => ((AH aP0.A5 c24.Switch).bind fun c26 => ((eD aW1.A0 c26).bind fun v27 => (bif !v27 then ((some false).map Sum.inr) else some (.inl (BE (s + 1))))))) else (((gM aW1.A0 aW1.Bl).bind fun v28 => some (!v28)).map Sum.inr))
def Iy (aP0 : AT) (aW1 : CA) (z12 : List Af) : ((List (Int × Bool)) × (List Af) × Int) → Option (((List (Int × Bool)) × (List Af) × Int) ⊕ Bool) := fun s =>
 (bif decide (s.2.2 < (z12.length : Int)) then ((AH s.2.1 s.2.2).bind fun c17 => ((RD c17.Switch (0:Int) (BE ((aP0.A5.length : Int) - 1))).bind fun v20 => ((bif !v20 then some true else ((RD c17.CK (1:Int) (2:Int)).bind fun v22 => some (!v22))).bind fun t21 => (bif (t21 || (K1 c17.Switch s.1 false)) then ((some false).map Sum.inr) else some (.inl (Qs c17.Switch true s.1, s.2.1, BE (s.2.2 + 1))))))) else ((AG (Ll aP0 aW1) ((0:Int))).map Sum.inr))
def Yy (aP0 : AT) (aW1 : CA) : Option Bool :=
 ((bif ((aW1.A0.length : Int) == 0) then some true else ((V1 aW1.A0 aP0.A0).bind fun v4 => some (!v4))).bind fun t3 => ((bif t3 then some true else ((V1 aW1.Bl aP0.A0).bind fun v6 => some (!v6))).bind fun t5 => ((bif t5 then some true else ((V1 aW1.Ci aP0.A0).bind fun v8 => some (!v8))).bind fun t7 => (bif ((t7 || decide ((aW1.AJ.length : Int) > 30)) || decide ((aW1.A7.length : Int) > 30)) then some false else ((DP 16 ([] : List Af) aW1.AJ).bind fun z10 => ((DP 16 z10 aW1.A7).bind fun z12 => (AG (Iy aP0 aW1 z12) (([] : List (Int × Bool)), z12, (0:Int)))))))))
theorem Yz (hk : Yy aP0 aW1 = some r) (hlk : 0 < lk.length := by simp) : Am ai hh 122 [.agg (AY l1 0 l2 m3 l4 m5 aP0), .agg (DG l6 0 l7 0 l8 0 l9 0 l10 0 aW1)] H lk = some (.bool r, H) := by
 refine AF Tryz.func122 rfl Tryz.ntmps122 Tryz.results122 rfl rfl fun hO => ?_
 unfold Yy at hk
 refine sr (BR (cs := [_, _, _, _, _]) hO C0 (fun b1 G hO => ?_))
 refine BR (cs := [_, _, _, _, _]) hO Ay (fun b2 G hO => ?_)
 refine pA (.bool _) (pg (AV (sr ?_)))
 refine Ad BS hO 0 (.lit _ _ _) BN ?_
 refine Ae DA ?_
 refine AO ?_
 refine pM (.bool _) (bk hk fun t3 ht hk => ?_)
 refine AP (l1 := [_, _, _, _, _, _, _]) [15, 16, 17, 18, 19, 20, 21] 21 (.bool t3) ?_ ?_
 ·refine bc (b := ((aW1.A0.length : Int) == 0)) ?_ ?_ <;> intro hg
  ·replace hk := ct hg ht
   repeat refine Bg hg ?_
   refine Cm hg (.bool _) ?_
   cases hk; exact pE ek
  replace hk := cf hg ht
  refine AA hg (pF BS (AA hg ?_))
  refine CT hO 0 (.lit _ _ _) BN (AA hg ?_)
  refine pF ES (AA hg ?_)
  refine CT hO 1 (.int _ _) B3 (AA hg (bk hk fun v4 hv4 hk => ?_))
  refine AM (fun _ => Ou hv4) (AA hg ?_)
  refine pU ?_
  refine Cl hg (.bool _) ?_
  cases hk; exact pE ek
 intro J
 refine pM (.bool _) (bk hk fun t5 ht hk => ?_)
 refine AP (l1 := [_, _, _, _, _, _, _]) [23, 24, 25, 26, 27, 28, 29] 29 (.bool t5) ?_ ?_
 ·refine bc (b := t3) ?_ ?_ <;> intro hg
  ·replace hk := ct hg ht
   repeat refine Bg hg ?_
   refine Cm hg (.bool _) ?_
   cases hk; exact pE ek
  replace hk := cf hg ht
  refine AA hg (pF E6 (AA hg ?_))
  refine CT hO 0 (.lit _ _ _) BN (AA hg ?_)
  refine pF ES (AA hg ?_)
  refine CT hO 1 (.int _ _) B3 (AA hg (bk hk fun v6 hv6 hk => ?_))
  refine AM (fun _ => Ou hv6) (AA hg ?_)
  refine pU ?_
  refine Cl hg (.bool _) ?_
  cases hk; exact pE ek
 intro J
 refine pM (.bool _) (bk hk fun t7 ht hk => ?_)
 refine AP (l1 := [_, _, _, _, _, _, _]) [31, 32, 33, 34, 35, 36, 37] 37 (.bool t7) ?_ ?_
 ·refine bc (b := t5) ?_ ?_ <;> intro hg
  ·replace hk := ct hg ht
   repeat refine Bg hg ?_
   refine Cm hg (.bool _) ?_
   cases hk; exact pE ek
  replace hk := cf hg ht
  refine AA hg (pF IA (AA hg ?_))
  refine CT hO 0 (.lit _ _ _) BN (AA hg ?_)
  refine pF ES (AA hg ?_)
  refine CT hO 1 (.int _ _) B3 (AA hg (bk hk fun v8 hv8 hk => ?_))
  refine AM (fun _ => Ou hv8) (AA hg ?_)
  refine pU ?_
  refine Cl hg (.bool _) ?_
  cases hk; exact pE ek
 intro J
 refine pM (.bool _) ?_
 refine AP (l1 := [_, _, _, _, _]) [39, 40, 41, 42, 43] 43 (.bool (t7 || decide ((aW1.AJ.length : Int) > 30))) ?_ ?_
 ·refine bc (b := t7) ?_ ?_ <;> intro hg
  ·repeat refine Bg hg ?_
   refine Cm hg (.bool _) ?_
   exact pE (ek (by rw [hg]; rfl))
  refine AA hg (pF ER (AA hg ?_))
  refine CT hO 0 (.lit _ _ _) Db (AA hg ?_)
  refine Ae FF (AA hg ?_)
  refine AO ?_
  refine Cl hg (.bool _) ?_
  exact pE (ek (by rw [hg]; rfl))
 intro J
 refine pM (.bool _) ?_
 refine AP (l1 := [_, _, _, _, _]) [45, 46, 47, 48, 49] 49 (.bool ((t7 || decide ((aW1.AJ.length : Int) > 30)) || decide ((aW1.A7.length : Int) > 30))) ?_ ?_
 ·refine bc (b := (t7 || decide ((aW1.AJ.length : Int) > 30))) ?_ ?_ <;> intro hg
  ·repeat refine Bg hg ?_
   refine Cm hg (.bool _) ?_
   exact pE (ek (by rw [hg]; rfl))
  refine AA hg (pF Ed (AA hg ?_))
  refine CT hO 0 (.lit _ _ _) Db (AA hg ?_)
  refine Ae FF (AA hg ?_)
  refine AO ?_
  refine Cl hg (.bool _) ?_
  exact pE (ek (by rw [hg]; rfl))
 intro J
 refine pg (Ak hk ?_ ?_) <;> intro hk
 ·refine sr (pA (.bool _) (pg (Au (gr ?_))))
  cases hk; exact AQ hO
 refine Ao (gn (sr (s8 Int Bool hO (fun b9 G hO => ?_))))
 refine pA (.Ft _) (pg (AV (AV ?_)))
 refine HY [1,3,7,9,15,5,10,12] [_,_,_,_,_,_,_,_] ?_
 refine Ad ER hO 1 (.lit _ _ _) Db ?_
 refine Ad Ed hO 1 (.lit _ _ _) Db ?_
 refine pM (.int _ _) (bk hk fun z10 hz10 hk => ?_)
 refine Zx (xs := aW1.AJ) hO hz10 Tryz.func114 gY Dy BA UR Fo (fun o10 G hno10 hO => bk hk fun z12 hz12 hk => ?_)
 refine Uf (xs := z10) hO 0 hz12 (IS _ aW1.A7) Dy BA UR Fo Dy rfl (fun o12 G hno12 hO => ?_)
 refine oE (XI hO (j := 0) rfl) FF (pg (BO ?_))
 refine A9 (F := Iy aP0 aW1 z12) (fun s S' => ∃ o14 J G, A4 H G [.AW b9 (.mp (BP s.1)), .AW b2 (.cells 5 (DG l6 0 l7 0 l8 0 l9 0 l10 0 aW1)), .AW b1 (.cells 5 (AY l1 0 l2 m3 l4 m5 aP0)), .own o14 lk.length 2 s.2.1.length (A8 0 s.2.1)] ∧ S' = ⟨CM [(2, .ptr b1 0),(3, .ptr b2 0),(5, .Ft b9),(56, o14),(57, iv (z12.length : Int)),(58, iv s.2.2)] J, G⟩) hk ⟨o12, _, _, (pk hO [1, 2, 3, 0]), sh⟩ ?_
 rintro ⟨x13, x14, x16⟩ _ y1 ⟨o14, J, G, hO, rfl⟩ hk hx1
 refine sr (AO (pg (AV (Ak hk ?_ ?_)))) <;> intro hk
 ·refine Ao (gn (AV (BO (sr (bk hk fun c17 hc17 hk => sB hO 3 hc17 Dy BA (fun lv18 => ?_))))))
  refine Bq (.agg [_, _]) (GC (lm := 0) (off := 0) hc17 G9 BA) (C9 hO BA Fo (fun b19 G hO => ?_))
  refine Cg (xs := [_, _]) hO 0 BA rfl (fun G hO => pg (AV (sr ?_)))
  refine Ad CU hO 0 (.int _ _) B3 ?_
  refine Ad D4 hO 3 (.lit _ _ _) BN ?_
  refine Ae DA ?_
  refine AO (bk hk fun v20 hv20 hk => ?_)
  refine AM (fun _ => Dk hv20) ?_
  refine pU ?_
  refine pM (.bool _) (bk hk fun t21 ht hk => ?_)
  refine AP (l1 := [_, _, _, _, _]) [71, 72, 73, 74, 75] 75 (.bool t21) ?_ ?_
  ·refine bc (b := !v20) ?_ ?_ <;> intro hg
   ·replace hk := ct hg ht
    repeat refine Bg hg ?_
    refine Cm hg (.bool _) ?_
    cases hk; exact pE ek
   replace hk := cf hg ht
   refine AA hg (pF E7 (AA hg ?_))
   refine CT hO 0 (.int _ _) B3 (AA hg (bk hk fun v22 hv22 hk => ?_))
   refine AM (fun _ => Dk hv22) (AA hg ?_)
   refine pU ?_
   refine Cl hg (.bool _) ?_
   cases hk; exact pE ek
  intro J
  refine pM (.bool _) ?_
  refine AP (l1 := [_, _, _, _, _]) [77, 78, 79, 80, 81] 81 (.bool (t21 || (K1 c17.Switch x13 false))) ?_ ?_
  ·refine bc (b := t21) ?_ ?_ <;> intro hg
   ·repeat refine Bg hg ?_
    refine Cm hg (.bool _) ?_
    exact pE (ek (by rw [hg]; rfl))
   refine AA hg (pM (.Ft _) (AA hg ?_))
   refine pF CU (AA hg ?_)
   refine CT hO 0 (.int _ _) B3 (AA hg ?_)
   refine s7 c17.Switch (false : Bool) (hO.get (k := 1) rfl).1 hQ WX sD ?_
   refine Cl hg (.bool _) ?_
   exact pE (ek (by rw [hg]; rfl))
  intro J
  refine pg (Ak hk ?_ ?_) <;> intro hk
  ·refine sr (pA (.bool _) (pg (Au (gr (br (gr (gr (br (gr (have hk := lx hx1 hk; ?_))))))))))
   cases hk; exact AQ hO
  refine Ao (gn (Bs (pM (.Ft _) ?_)))
  refine Ad CU hO 0 (.int _ _) B3 ?_
  refine sA hO 1 c17.Switch true hQ WX rfl (fun G hO => pE (bn (gn (Bs ?_))))
  refine AO ?_
  refine pM (.int _ _) (pg ?_)
  cases hk; exact ⟨_, rfl, o14, _, _, (pk hO [1, 2, 3, 4]), sh⟩
 refine D5 (ge (ge (be (gn (have hk := lx hx1 hk; AV (sr (Ad ER hO 1 (.lit _ _ _) Db ?_)))))))
 refine Ae FF ?_
 refine pM (.int _ _) (pg (BO ?_))
 refine A9 (F := Ll aP0 aW1) (fun s S' => ∃ J G, A4 H G [.AW b2 (.cells 5 (DG l6 0 l7 0 l8 0 l9 0 l10 0 aW1)), .AW b1 (.cells 5 (AY l1 0 l2 m3 l4 m5 aP0))] ∧ S' = ⟨CM [(2, .ptr b1 0),(3, .ptr b2 0),(87, AK l7 0 aW1.AJ),(88, iv (aW1.AJ.length : Int)),(89, iv s)] J, G⟩) hk ⟨_, _, (pk hO [1, 2]), sh⟩ ?_
 rintro x23 _ y1 ⟨J, G, hO, rfl⟩ hk hx1
 refine sr (AO (pg (AV (Ak hk ?_ ?_)))) <;> intro hk
 ·refine Ao (gn (AV (BO (sr (bk hk fun c24 hc24 hk => pX hc24 Dy BA ?_)))))
  refine Bq (.agg [_, _]) (GC (lm := 0) (off := 0) hc24 G9 BA) (C9 hO BA Fo (fun b25 G hO => ?_))
  refine Cg (xs := [_, _]) hO 0 BA rfl (fun G hO => pg (AV ?_))
  refine HY [1,3,5,7,9,11,13,15,16,18] [_,_,_,_,_,_,_,_,_,_] ?_
  refine Ad BS hO 1 (.lit _ _ _) BN ?_
  refine Ad D4 hO 2 (.lit _ _ _) BN ?_
  refine Ad CU hO 0 (.int _ _) B3 (bk hk fun c26 hc26 hk => ?_)
  refine pX hc26 CG DB ?_
  refine Bq (.int _ _) (Cu (lm := 0) (off := 0) hc26 B3) (bk hk fun v27 hv27 hk => ?_)
  refine AM (fun _ => Ln hv27) ?_
  refine pU (pg (Ak hk ?_ ?_)) <;> intro hk
  ·refine sr (pA (.bool _) (pg (Au (br (gr (gr (br (gr (have hk := lx hx1 hk; ?_)))))))))
   cases hk; exact AQ hO
  refine Ao (bn (gn (Bs (AO ?_))))
  refine pM (.int _ _) (pg ?_)
  cases hk; exact ⟨_, rfl, _, _, (pk hO [1, 2]), sh⟩
 refine D5 (ge (ge (be (gn (have hk := lx hx1 hk; sr (Ad BS hO 0 (.lit _ _ _) BN ?_))))))
 refine Ad E6 hO 0 (.lit _ _ _) BN (bk hk fun v28 hv28 hk => ?_)
 refine AM (fun _ => OM hv28) ?_
 refine pU ?_
 refine pA (.bool _) (pg (Au ?_))
 cases hk; exact AQ hO
end
end Go.Proofs.YtphpkphklegfeaaGreat.K
