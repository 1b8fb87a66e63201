/-
 Part of a proof. No conditions.
-/
import Derived.Test.YtjklepgidjimfaaGreatDRtc
set_option linter.unusedVariables false
set_option linter.unusedSimpArgs false
set_option maxRecDepth 100000
set_option autoImplicit true
set_option relaxedAutoImplicit true
set_option maxHeartbeats 1000000
namespace Go.Proofs.YtjklepgidjimfaaGreat.K
open _root_.Go.Proofs.Tryz renaming prog → dp
open Int renaming tmod → qy
open Option.some renaming inj → dv
noncomputable section
variable {H : A5} {lk : Lk}
def Zq (ab : AG) (aj : AG) : Option Bool :=
 (bif (ab.Kind != aj.Kind) then some false else (bif !(ab.Name.toList == aj.Name.toList) then some false else ((aQ ab.Ends aj.Ends).bind fun v3 => (bif !v3 then some false else some true))))
theorem Zr (hk : Zq ab aj = some r) (sn : 0 < lk.length := by simp) : Aw dp hh 131 [.agg [iv ab.Kind, .str ab.Name, A0 l1 0 ab.Ends], .agg [iv aj.Kind, .str aj.Name, A0 l2 0 aj.Ends]] H lk = some (.bool r, H) := by
 refine AH Tryz.func131 rfl Tryz.ntmps131 Tryz.results131 rfl rfl fun hO => ?_
 unfold Zq at hk
 refine sr (C0 (cs := [_, _, _]) hO BY (fun b1 G hO => ?_))
 refine C0 (cs := [_, _, _]) hO BY (fun b2 G hO => ?_)
 refine pA (.bool _) (pg (AU (sr ?_)))
 refine B4 DE hO 1 (.int _ _) B5 ?_
 refine B4 DE hO 0 (.int _ _) B5 ?_
 refine AO (pg (As hk ?_ ?_)) <;> intro hk
 ·refine sr (pA (.bool _) (pg (Ax (gr ?_))))
  cases hk; exact Ah hO
 refine Av (gn (AU (sr (B4 Fq hO 1 (.str _) Kx ?_))))
 refine B4 Fq hO 0 (.str _) Kx ?_
 refine pB (a := .str _) (b := .str _) (pg (As hk ?_ ?_)) <;> intro hk
 ·refine sr (pA (.bool _) (pg (Ax (gr ?_))))
  cases hk; exact Ah hO
 refine Av (gn (AU (sr (B4 Ct hO 1 (.lit _ _ _) Ew ?_))))
 refine B4 Ct hO 0 (.lit _ _ _) Ew (bk hk fun v3 zi hk => ?_)
 refine Ae (fun _ => aR zi) ?_
 refine pU (pg (As hk ?_ ?_)) <;> intro hk
 ·refine sr (pA (.bool _) (pg (Ax (gr ?_))))
  cases hk; exact Ah hO
 refine Av (gn (sr (pA (.bool _) (pg (Ax ?_)))))
 cases hk; exact Ah hO
def Pb (ab : List AG) (aj : List AG) : Int → Option (Int ⊕ Bool) := fun s =>
 (bif decide (s < (ab.length : Int)) then ((AR ab s).bind fun c2 => ((AR aj s).bind fun c3 => ((Zq c2 c3).bind fun v4 => (bif !v4 then ((some false).map Sum.inr) else some (.inl (AN (s + 1))))))) else ((some true).map Sum.inr))
def pR (ab : List AG) (aj : List AG) : Option Bool :=
 (bif ((ab.length : Int) != (aj.length : Int)) then some false else (AQ (Pb ab aj) ((0:Int))))
theorem gZ (hk : pR ab aj = some r) (sn : 0 < lk.length := by simp) : Aw dp hh 52 [A0 l1 m2 ab, A0 l3 m4 aj] H lk = some (.bool r, H) := by
 refine AH Tryz.func52 rfl Tryz.ntmps52 Tryz.results52 rfl rfl fun hO => ?_
 unfold pR at hk
 refine sr (pA (.bool _) (pg (AU (sr ?_))))
 refine pM (.lit _ _ _) ?_
 refine BE NO ?_
 refine pM (.lit _ _ _) ?_
 refine BE NO ?_
 refine AO (pg (As hk ?_ ?_)) <;> intro hk
 ·refine sr (pA (.bool _) (pg (Ax (gr ?_))))
  cases hk; exact Ah hO
 refine Av (gn (AU (sr (pA (.int _ _) (pg (Bn ?_))))))
 refine AE (F := Pb ab aj) (fun s S' => ∃ J G, A6 H G [] ∧ S' = ⟨Ao [(0, A0 l1 m2 ab),(1, A0 l3 m4 aj),(5, iv s)] J, G⟩) hk ⟨_, _, hO, sh⟩ ?_
 rintro x1 _ y1 ⟨J, G, hO, rfl⟩ hk se
 refine AU (sr (pM (.int _ _) ?_))
 refine pM (.lit _ _ _) ?_
 refine BE NO ?_
 refine AO (pg (As hk ?_ ?_)) <;> intro hk
 ·refine Av (gn (AU (Bn (AU (GC [1,3,5,7,9,11,13,15,16,18] [_,_,_,_,_,_,_,_,_,_] ?_)))))
  refine pM (.lit _ _ _) ?_
  refine pM (.int _ _) (bk hk fun c2 tv hk => ?_)
  refine pX tv HA BY ?_
  refine CQ (.agg [_, _, _]) (EA (lm := m2) (off := 0) tv I5 BY) ?_
  refine pM (.lit _ _ _) ?_
  refine pM (.int _ _) (bk hk fun c3 sx hk => ?_)
  refine pX sx HA BY ?_
  refine CQ (.agg [_, _, _]) (EA (lm := m4) (off := 0) sx I5 BY) (bk hk fun v4 uq hk => ?_)
  refine Ae (fun _ => Zr uq) ?_
  refine pU (pg (As hk ?_ ?_)) <;> intro hk
  ·refine sr (pA (.bool _) (pg (Ax (br (gr (gr (br (gr (have hk := lx se hk; ?_)))))))))
   cases hk; exact Ah hO
  refine Av (bn (gn (Cj (pM (.int _ _) ?_))))
  refine AO ?_
  refine pA (.int _ _) (pg ?_)
  cases hk; exact ⟨_, rfl, _, _, hO, sh⟩
 refine Dh (ge (ge (be (gn (have hk := lx se hk; sr (pA (.bool _) (pg (Ax ?_))))))))
 cases hk; exact Ah hO
def oZ (ab : Bq) (aj : Bq) : Option Bool :=
 ((pQ ab.A3 aj.A3).bind fun v3 => (bif !v3 then some false else ((pR ab.A4 aj.A4).bind fun v4 => (bif !v4 then some false else some true))))
theorem fV (hk : oZ ab aj = some r) (sn : 0 < lk.length := by simp) : Aw dp hh 15 [.agg [A0 l1 0 ab.A3, A0 l2 m3 ab.A4], .agg [A0 l4 0 aj.A3, A0 l5 m6 aj.A4]] H lk = some (.bool r, H) := by
 refine AH Tryz.func15 rfl Tryz.ntmps15 Tryz.results15 rfl rfl fun hO => ?_
 unfold oZ at hk
 refine sr (C0 (cs := [_, _]) hO CB (fun b1 G hO => ?_))
 refine C0 (cs := [_, _]) hO CB (fun b2 G hO => ?_)
 refine pA (.bool _) (pg (AU (sr ?_)))
 refine B4 D0 hO 1 (.lit _ _ _) Gd ?_
 refine B4 D0 hO 0 (.lit _ _ _) Gd (bk hk fun v3 zi hk => ?_)
 refine Ae (fun _ => gY zi) ?_
 refine pU (pg (As hk ?_ ?_)) <;> intro hk
 ·refine sr (pA (.bool _) (pg (Ax (gr ?_))))
  cases hk; exact Ah hO
 refine Av (gn (AU (sr (B4 DK hO 1 (.lit _ _ _) HF ?_))))
 refine B4 DK hO 0 (.lit _ _ _) HF (bk hk fun v4 uq hk => ?_)
 refine Ae (fun _ => gZ uq) ?_
 refine pU (pg (As hk ?_ ?_)) <;> intro hk
 ·refine sr (pA (.bool _) (pg (Ax (gr ?_))))
  cases hk; exact Ah hO
 refine Av (gn (sr (pA (.bool _) (pg (Ax ?_)))))
 cases hk; exact Ah hO
def pS (ab : AI) (aj : AI) : Option Bool :=
 (bif !(ab.Name.toList == aj.Name.toList) then some false else (bif (ab.A1 != aj.A1) then some false else (bif (ab.At != aj.At) then some false else (bif (ab.Way != aj.Way) then some false else some true))))
theorem hJ (hk : pS ab aj = some r) (sn : 0 < lk.length := by simp) : Aw dp hh 53 [.agg [.str ab.Name, iv ab.A1, iv ab.At, iv ab.Way], .agg [.str aj.Name, iv aj.A1, iv aj.At, iv aj.Way]] H lk = some (.bool r, H) := by
 refine AH Tryz.func53 rfl Tryz.ntmps53 Tryz.results53 rfl rfl fun hO => ?_
 unfold pS at hk
 refine sr (C0 (cs := [_, _, _, _]) hO BF (fun b1 G hO => ?_))
 refine C0 (cs := [_, _, _, _]) hO BF (fun b2 G hO => ?_)
 refine pA (.bool _) (pg (AU (sr ?_)))
 refine B4 Gl hO 1 (.str _) Kx ?_
 refine B4 Gl hO 0 (.str _) Kx ?_
 refine pB (a := .str _) (b := .str _) (pg (As hk ?_ ?_)) <;> intro hk
 ·refine sr (pA (.bool _) (pg (Ax (gr ?_))))
  cases hk; exact Ah hO
 refine Av (gn (AU (sr (B4 DD hO 1 (.int _ _) B5 ?_))))
 refine B4 DD hO 0 (.int _ _) B5 ?_
 refine AO (pg (As hk ?_ ?_)) <;> intro hk
 ·refine sr (pA (.bool _) (pg (Ax (gr ?_))))
  cases hk; exact Ah hO
 refine Av (gn (AU (sr (B4 CW hO 1 (.int _ _) B5 ?_))))
 refine B4 CW hO 0 (.int _ _) B5 ?_
 refine AO (pg (As hk ?_ ?_)) <;> intro hk
 ·refine sr (pA (.bool _) (pg (Ax (gr ?_))))
  cases hk; exact Ah hO
 refine Av (gn (AU (sr (B4 DO hO 1 (.int _ _) B5 ?_))))
 refine B4 DO hO 0 (.int _ _) B5 ?_
 refine AO (pg (As hk ?_ ?_)) <;> intro hk
 ·refine sr (pA (.bool _) (pg (Ax (gr ?_))))
  cases hk; exact Ah hO
 refine Av (gn (sr (pA (.bool _) (pg (Ax ?_)))))
 cases hk; exact Ah hO
def PJ (ab : List AI) (aj : List AI) : Int → Option (Int ⊕ Bool) := fun s =>
 (bif decide (s < (ab.length : Int)) then ((AR ab s).bind fun c2 => ((AR aj s).bind fun c3 => ((pS c2 c3).bind fun v4 => (bif !v4 then ((some false).map Sum.inr) else some (.inl (AN (s + 1))))))) else ((some true).map Sum.inr))
def p9 (ab : List AI) (aj : List AI) : Option Bool :=
 (bif ((ab.length : Int) != (aj.length : Int)) then some false else (AQ (PJ ab aj) ((0:Int))))
theorem fW (hk : p9 ab aj = some r) (sn : 0 < lk.length := by simp) : Aw dp hh 16 [A0 l1 0 ab, A0 l2 0 aj] H lk = some (.bool r, H) := by
 refine AH Tryz.func16 rfl Tryz.ntmps16 Tryz.results16 rfl rfl fun hO => ?_
 unfold p9 at hk
 refine sr (pA (.bool _) (pg (AU (sr ?_))))
 refine pM (.lit _ _ _) ?_
 refine BE KI ?_
 refine pM (.lit _ _ _) ?_
 refine BE KI ?_
 refine AO (pg (As hk ?_ ?_)) <;> intro hk
 ·refine sr (pA (.bool _) (pg (Ax (gr ?_))))
  cases hk; exact Ah hO
 refine Av (gn (AU (sr (pA (.int _ _) (pg (Bn ?_))))))
 refine AE (F := PJ ab aj) (fun s S' => ∃ J G, A6 H G [] ∧ S' = ⟨Ao [(0, A0 l1 0 ab),(1, A0 l2 0 aj),(5, iv s)] J, G⟩) hk ⟨_, _, hO, sh⟩ ?_
 rintro x1 _ y1 ⟨J, G, hO, rfl⟩ hk se
 refine AU (sr (pM (.int _ _) ?_))
 refine pM (.lit _ _ _) ?_
 refine BE KI ?_
 refine AO (pg (As hk ?_ ?_)) <;> intro hk
 ·refine Av (gn (AU (Bn (AU (GC [1,3,5,7,9,11,13,15,16,18] [_,_,_,_,_,_,_,_,_,_] ?_)))))
  refine pM (.lit _ _ _) ?_
  refine pM (.int _ _) (bk hk fun c2 tv hk => ?_)
  refine pX tv GM BF ?_
  refine CQ (.agg [_, _, _, _]) (EA (lm := 0) (off := 0) tv H8 BF) ?_
  refine pM (.lit _ _ _) ?_
  refine pM (.int _ _) (bk hk fun c3 sx hk => ?_)
  refine pX sx GM BF ?_
  refine CQ (.agg [_, _, _, _]) (EA (lm := 0) (off := 0) sx H8 BF) (bk hk fun v4 uq hk => ?_)
  refine Ae (fun _ => hJ uq) ?_
  refine pU (pg (As hk ?_ ?_)) <;> intro hk
  ·refine sr (pA (.bool _) (pg (Ax (br (gr (gr (br (gr (have hk := lx se hk; ?_)))))))))
   cases hk; exact Ah hO
  refine Av (bn (gn (Cj (pM (.int _ _) ?_))))
  refine AO ?_
  refine pA (.int _ _) (pg ?_)
  cases hk; exact ⟨_, rfl, _, _, hO, sh⟩
 refine Dh (ge (ge (be (gn (have hk := lx se hk; sr (pA (.bool _) (pg (Ax ?_))))))))
 cases hk; exact Ah hO
def Pf : (Int × ByteArray) → Option ((Int × ByteArray) ⊕ ByteArray) := fun s =>
 (bif decide (s.1 > 0) then ((ZM (Ve ([⟨IntKind.wrap .u8 (AN ((48:Int) + (qy s.1 (10:Int))))⟩] : List U8)) s.2).bind fun c3 => some (.inl (AN (Int.tdiv s.1 (10:Int)), c3))) else (((ZM ({ data := #[109] } : ByteArray) s.2).bind fun c4 => some c4).map Sum.inr))
def iA (di : Int) : Option ByteArray :=
 (bif decide (di ≤ 0) then some ({ data := #[109, 48] } : ByteArray) else (AQ (Pf) (di, ({ data := #[] } : ByteArray))))
theorem T0 (hk : iA di = some r) (sn : 0 < lk.length := by simp) : Aw dp hh 56 [iv di] H lk = some (.str r, H) := by
 refine AH Tryz.func56 rfl Tryz.ntmps56 Tryz.results56 rfl rfl fun hO => ?_
 unfold iA at hk
 refine sr (pA (.str _) (pg (AU (sr ?_))))
 refine pM (.int _ _) ?_
 refine AO (pg (As hk ?_ ?_)) <;> intro hk
 ·refine sr (pA (.str _) (pg (Ax (gr ?_))))
  cases hk; exact Ah hO
 refine Av (gn (sr (pA (.str _) (pg (AU (Bn ?_))))))
 refine AE (F := Pf) (fun s S' => ∃ J G, A6 H G [] ∧ S' = ⟨Ao [(0, iv s.1),(3, .str s.2)] J, G⟩) hk ⟨_, _, hO, sh⟩ ?_
 rintro ⟨x1, x2⟩ _ y1 ⟨J, G, hO, rfl⟩ hk se
 refine AU (sr (pM (.int _ _) ?_))
 refine AO (pg (As hk ?_ ?_)) <;> intro hk
 ·refine Av (gn (Bn (sr (pM (.int _ _) ?_))))
  refine AO ?_
  refine AO ?_
  refine vU Tryz.underlying3 Tryz.underlying5 ?_
  refine JQ (ps := [(0, (.int _ _))]) ([⟨IntKind.wrap .u8 (AN ((48:Int) + (qy x1 (10:Int))))⟩] : List U8) uU vZ vY (B2 (EZ _ _) (Bb)) ?_
  refine uC (ys := ([⟨IntKind.wrap .u8 (AN ((48:Int) + (qy x1 (10:Int))))⟩] : List U8)) Tryz.underlying65 Tryz.underlying9 Tryz.underlying5 ?_
  refine pM (.str _) (bk hk fun c3 sx hk => ?_)
  refine rF sx ?_
  refine pA (.str _) (pg (Cj ?_))
  refine pM (.int _ _) ?_
  refine AO ?_
  refine pA (.int _ _) (pE (bn (gn ?_)))
  cases hk; exact ⟨_, rfl, _, _, hO, sh⟩
 refine Dh (ge (ge (be (gn (have hk := lx se hk; sr (pM (.str _) (bk hk fun c4 te hk => ?_)))))))
 refine rF te ?_
 refine pA (.str _) (pg (Ax ?_))
 cases hk; exact Ah hO
def Pc : (List A1 × Int × Int) → Option ((List A1 × Int × Int) ⊕ (List A1 × Int)) := fun s =>
 (bif decide (s.2.2 < (s.1.length : Int)) then ((iA s.2.1).bind fun v4 => ((AR s.1 s.2.2).bind fun c5 => ((AR (s.1.set s.2.2.toNat ({ c5 with Name := v4 })) s.2.2).bind fun c8 => ((AR ((s.1.set s.2.2.toNat ({ c5 with Name := v4 })).set s.2.2.toNat ({ c8 with Bo := AN (s.2.1 + 1) })) s.2.2).bind fun ue => ((AR (((s.1.set s.2.2.toNat ({ c5 with Name := v4 })).set s.2.2.toNat ({ c8 with Bo := AN (s.2.1 + 1) })).set s.2.2.toNat ({ ue with Cc := AN ((AN (s.2.1 + 1)) + 1) })) s.2.2).bind fun xc => some (.inl ((((s.1.set s.2.2.toNat ({ c5 with Name := v4 })).set s.2.2.toNat ({ c8 with Bo := AN (s.2.1 + 1) })).set s.2.2.toNat ({ ue with Cc := AN ((AN (s.2.1 + 1)) + 1) })).set s.2.2.toNat ({ xc with DM := AN ((AN ((AN (s.2.1 + 1)) + 1)) + 1) }), AN ((AN ((AN ((AN (s.2.1 + 1)) + 1)) + 1)) + 1), AN (s.2.2 + 1)))))))) else ((some (s.1, s.2.1)).map Sum.inr))
def pT (ab : List A1) (bf : Int) : Option (List A1 × Int) :=
 (AQ (Pc) (ab, bf, (0:Int)))
theorem hQ (hk : pT ab bf = some r) (ha : DL H ab [v0] F0) (hF : ∀ b ∈ F0, b < H.length) (hS : ∀ b ∈ F0, AT lk b = true) (sn : 0 < lk.length := by simp) : ∃ v H1, Aw dp hh 54 [v0, iv bf] H lk = some (v, H1) ∧ v = iv r.2 ∧ DL H1 r.1 [v0] F0 ∧ H1.length = H.length ∧ ∀ b, b ∉ F0 → H1[b]? = H[b]? := by
 refine BG Tryz.func54 rfl Tryz.ntmps54 Tryz.results54 rfl rfl ?_
 have hO := Dg ha hF
 have sb := BK.refl H F0
 unfold pT at hk
 refine sr (pA (.int _ _) (pg (AU (sr ?_))))
 refine pA (.int _ _) (pg (Bn ?_))
 refine AE (F := Pc) (fun s S' => ∃ J G H1, BK H H1 F0 ∧ A6 H1 G [Dl F0 F0 s.1 [v0]] ∧ S' = ⟨Ao [(0, v0),(1, iv s.2.1),(5, iv s.2.2)] J, G⟩) hk ⟨_, _, _, sb, hO, sh⟩ ?_
 rintro ⟨x1, x2, x3⟩ _ y1 ⟨J, G, H1, sb, hO, rfl⟩ hk se
 refine AU (sr (pM (.int _ _) ?_))
 refine pM v0 ?_
 refine Ku hO 0 Km ?_
 refine AO (pg (As hk ?_ ?_)) <;> intro hk
 ·refine Av (gn (AU (Bn (sr (pM v0 ?_)))))
  refine pM (.int _ _) ?_
  refine pM (.int _ _) (bk hk fun v4 uq hk => ?_)
  refine Ae (fun _ => T0 uq) (bk hk fun c5 tx hk => ?_)
  refine Kc hO 0 tx IB Cp (fun b6 hb6 => ?_)
  refine pF Gn ?_
  refine Ni Q7 (y' := v4) hO 0 hb6 tx oG (fun _ => ⟨rfl, rfl⟩) sb hS rfl (fun H1 G sb hO => ?_)
  have hc_7 := Bz tx ({ c5 with Name := v4 } : A1)
  have hv_7 := DJ (j := x3.toNat) (y := ({ c5 with Name := v4 } : A1)) hb6
  refine pg (sr (pM (.int _ _) ?_))
  refine AO ?_
  refine pA (.int _ _) (pg (sr ?_))
  refine pM v0 ?_
  refine pM (.int _ _) ?_
  refine pM (.int _ _) (bk hk fun c8 hc8 hk => ?_)
  refine Kc hO 0 hc8 IB Cp (fun b9 hb9 => ?_)
  refine pF Dj ?_
  refine Ni RK (y' := (AN (x2 + 1))) hO 0 hb9 hc8 G8 (fun _ => ⟨rfl, rfl⟩) sb hS rfl (fun H1 G sb hO => ?_)
  have hc_10 := Bz hc8 ({ c8 with Bo := AN (x2 + 1) } : A1)
  have hv_10 := DJ (j := x3.toNat) (y := ({ c8 with Bo := AN (x2 + 1) } : A1)) hb9
  refine pg (sr (pM (.int _ _) ?_))
  refine AO ?_
  refine pA (.int _ _) (pg (sr ?_))
  refine pM v0 ?_
  refine pM (.int _ _) ?_
  refine pM (.int _ _) (bk hk fun ue tq hk => ?_)
  refine Kc hO 0 tq IB Cp (fun b12 hb12 => ?_)
  refine pF JY ?_
  refine Ni Nw (y' := (AN ((AN (x2 + 1)) + 1))) hO 0 hb12 tq G8 (fun _ => ⟨rfl, rfl⟩) sb hS rfl (fun H1 G sb hO => ?_)
  have hc_13 := Bz tq ({ ue with Cc := AN ((AN (x2 + 1)) + 1) } : A1)
  have hv_13 := DJ (j := x3.toNat) (y := ({ ue with Cc := AN ((AN (x2 + 1)) + 1) } : A1)) hb12
  refine pg (sr (pM (.int _ _) ?_))
  refine AO ?_
  refine pA (.int _ _) (pg (sr ?_))
  refine pM v0 ?_
  refine pM (.int _ _) ?_
  refine pM (.int _ _) (bk hk fun xc ur hk => ?_)
  refine Kc hO 0 ur IB Cp (fun b15 hb15 => ?_)
  refine pF JZ ?_
  refine Ni Nv (y' := (AN ((AN ((AN (x2 + 1)) + 1)) + 1))) hO 0 hb15 ur G8 (fun _ => ⟨rfl, rfl⟩) sb hS rfl (fun H1 G sb hO => ?_)
  have hc_16 := Bz ur ({ xc with DM := AN ((AN ((AN (x2 + 1)) + 1)) + 1) } : A1)
  have hv_16 := DJ (j := x3.toNat) (y := ({ xc with DM := AN ((AN ((AN (x2 + 1)) + 1)) + 1) } : A1)) hb15
  refine pg (Cj (pM (.int _ _) ?_))
  refine AO ?_
  refine pA (.int _ _) (pE (bn (gn (Cj ?_))))
  refine pM (.int _ _) ?_
  refine AO ?_
  refine pA (.int _ _) (pg ?_)
  cases hk; exact ⟨_, rfl, _, _, _, sb, hO, sh⟩
 refine Dh (ge (ge (be (gn (have hk := lx se hk; sr (pM (.int _ _) ?_))))))
 refine pA (.int _ _) (pg (Ax ?_))
 replace hk := dv hk; subst hk; exact Pv hO 0 sb hF
def Ls : (List Ac × Int × Int) → Option ((List Ac × Int × Int) ⊕ (List Ac × Int)) := fun s =>
 (bif decide (s.2.2 < (s.1.length : Int)) then ((AR s.1 s.2.2).bind fun c4 => ((AR (s.1.set s.2.2.toNat ({ c4 with A1 := s.2.1 })) s.2.2).bind fun c7 => some (.inl ((s.1.set s.2.2.toNat ({ c4 with A1 := s.2.1 })).set s.2.2.toNat ({ c7 with BI := AN (s.2.1 + 1) }), AN ((AN (s.2.1 + 1)) + 1), AN (s.2.2 + 1))))) else ((some (s.1, s.2.1)).map Sum.inr))
def Zs (ab : List Ac) (bf : Int) : Option (List Ac × Int) :=
 (AQ (Ls) (ab, bf, (0:Int)))
theorem Zt (hk : Zs ab bf = some r) (ha : DL H ab [v0] F0) (hF : ∀ b ∈ F0, b < H.length) (hS : ∀ b ∈ F0, AT lk b = true) (sn : 0 < lk.length := by simp) : ∃ v H1, Aw dp hh 132 [v0, iv bf] H lk = some (v, H1) ∧ v = iv r.2 ∧ DL H1 r.1 [v0] F0 ∧ H1.length = H.length ∧ ∀ b, b ∉ F0 → H1[b]? = H[b]? := by
 refine BG Tryz.func132 rfl Tryz.ntmps132 Tryz.results132 rfl rfl ?_
 have hO := Dg ha hF
 have sb := BK.refl H F0
 unfold Zs at hk
 refine sr (pA (.int _ _) (pg (AU (sr ?_))))
 refine pA (.int _ _) (pg (Bn ?_))
 refine AE (F := Ls) (fun s S' => ∃ J G H1, BK H H1 F0 ∧ A6 H1 G [Dl F0 F0 s.1 [v0]] ∧ S' = ⟨Ao [(0, v0),(1, iv s.2.1),(5, iv s.2.2)] J, G⟩) hk ⟨_, _, _, sb, hO, sh⟩ ?_
 rintro ⟨x1, x2, x3⟩ _ y1 ⟨J, G, H1, sb, hO, rfl⟩ hk se
 refine AU (sr (pM (.int _ _) ?_))
 refine pM v0 ?_
 refine Ku hO 0 HM ?_
 refine AO (pg (As hk ?_ ?_)) <;> intro hk
 ·refine Av (gn (AU (Bn (sr (pM v0 ?_)))))
  refine pM (.int _ _) ?_
  refine pM (.int _ _) (bk hk fun c4 te hk => ?_)
  refine Kc hO 0 te CV AS (fun b5 yj => ?_)
  refine pF Dk ?_
  refine Ni RG (y' := x2) hO 0 yj te G8 (fun _ => ⟨rfl, rfl⟩) sb hS rfl (fun H1 G sb hO => ?_)
  have hc_6 := Bz te ({ c4 with A1 := x2 } : Ac)
  have hv_6 := DJ (j := x3.toNat) (y := ({ c4 with A1 := x2 } : Ac)) yj
  refine pg (sr (pM (.int _ _) ?_))
  refine AO ?_
  refine pA (.int _ _) (pg (sr ?_))
  refine pM v0 ?_
  refine pM (.int _ _) ?_
  refine pM (.int _ _) (bk hk fun c7 tw hk => ?_)
  refine Kc hO 0 tw CV AS (fun b8 hb8 => ?_)
  refine pF EX ?_
  refine Ni T5 (y' := (AN (x2 + 1))) hO 0 hb8 tw G8 (fun _ => ⟨rfl, rfl⟩) sb hS rfl (fun H1 G sb hO => ?_)
  have hc_9 := Bz tw ({ c7 with BI := AN (x2 + 1) } : Ac)
  have hv_9 := DJ (j := x3.toNat) (y := ({ c7 with BI := AN (x2 + 1) } : Ac)) hb8
  refine pg (Cj (pM (.int _ _) ?_))
  refine AO ?_
  refine pA (.int _ _) (pE (bn (gn (Cj ?_))))
  refine pM (.int _ _) ?_
  refine AO ?_
  refine pA (.int _ _) (pg ?_)
  cases hk; exact ⟨_, rfl, _, _, _, sb, hO, sh⟩
 refine Dh (ge (ge (be (gn (have hk := lx se hk; sr (pM (.int _ _) ?_))))))
 refine pA (.int _ _) (pg (Ax ?_))
 replace hk := dv hk; subst hk; exact Pv hO 0 sb hF
def Pe : (List AG × Int × Int) → Option ((List AG × Int × Int) ⊕ (List AG × Int)) := fun s =>
 (bif decide (s.2.2 < (s.1.length : Int)) then ((AR s.1 s.2.2).bind fun c4 => ((iA (AN (s.2.1 + 1))).bind fun v7 => ((AR (s.1.set s.2.2.toNat ({ c4 with Kind := s.2.1 })) s.2.2).bind fun c8 => ((AR ((s.1.set s.2.2.toNat ({ c4 with Kind := s.2.1 })).set s.2.2.toNat ({ c8 with Name := v7 })) s.2.2).bind fun ue => ((Zs ue.Ends (AN ((AN (s.2.1 + 1)) + 1))).bind fun z14 => some (.inl (((s.1.set s.2.2.toNat ({ c4 with Kind := s.2.1 })).set s.2.2.toNat ({ c8 with Name := v7 })).set s.2.2.toNat ({ ue with Ends := z14.1 }), z14.2, AN (s.2.2 + 1)))))))) else ((some (s.1, s.2.1)).map Sum.inr))
def pW (ab : List AG) (bf : Int) : Option (List AG × Int) :=
 (AQ (Pe) (ab, bf, (0:Int)))
theorem hZ (hk : pW ab bf = some r) (ha : DL H ab [v0] F0) (hF : ∀ b ∈ F0, b < H.length) (hS : ∀ b ∈ F0, AT lk b = true) (sn : 0 < lk.length := by simp) : ∃ v H1, Aw dp hh 55 [v0, iv bf] H lk = some (v, H1) ∧ v = iv r.2 ∧ DL H1 r.1 [v0] F0 ∧ H1.length = H.length ∧ ∀ b, b ∉ F0 → H1[b]? = H[b]? := by
 refine BG Tryz.func55 rfl Tryz.ntmps55 Tryz.results55 rfl rfl ?_
 have hO := Dg ha hF
 have sb := BK.refl H F0
 unfold pW at hk
 refine sr (pA (.int _ _) (pg (AU (sr ?_))))
 refine pA (.int _ _) (pg (Bn ?_))
 refine AE (F := Pe) (fun s S' => ∃ J G H1, BK H H1 F0 ∧ A6 H1 G [Dl F0 F0 s.1 [v0]] ∧ S' = ⟨Ao [(0, v0),(1, iv s.2.1),(5, iv s.2.2)] J, G⟩) hk ⟨_, _, _, sb, hO, sh⟩ ?_
 rintro ⟨x1, x2, x3⟩ _ y1 ⟨J, G, H1, sb, hO, rfl⟩ hk se
 refine AU (sr (pM (.int _ _) ?_))
 refine pM v0 ?_
 refine Ku hO 0 NO ?_
 refine AO (pg (As hk ?_ ?_)) <;> intro hk
 ·refine Av (gn (AU (Bn (sr (pM v0 ?_)))))
  refine pM (.int _ _) ?_
  refine pM (.int _ _) (bk hk fun c4 te hk => ?_)
  refine Kc hO 0 te HA BY (fun b5 yj => ?_)
  refine pF DE ?_
  refine Ni Q2 (y' := x2) hO 0 yj te G8 (fun _ => ⟨rfl, rfl⟩) sb hS rfl (fun H1 G sb hO => ?_)
  have hc_6 := Bz te ({ c4 with Kind := x2 } : AG)
  have hv_6 := DJ (j := x3.toNat) (y := ({ c4 with Kind := x2 } : AG)) yj
  refine pg (sr (pM (.int _ _) ?_))
  refine AO ?_
  refine pA (.int _ _) (pg (sr ?_))
  refine pM v0 ?_
  refine pM (.int _ _) ?_
  refine pM (.int _ _) (bk hk fun v7 hv7 hk => ?_)
  refine Ae (fun _ => T0 hv7) (bk hk fun c8 hc8 hk => ?_)
  refine Kc hO 0 hc8 HA BY (fun b9 hb9 => ?_)
  refine pF Fq ?_
  refine Ni Q3 (y' := v7) hO 0 hb9 hc8 oG (fun _ => ⟨rfl, rfl⟩) sb hS rfl (fun H1 G sb hO => ?_)
  have hc_10 := Bz hc8 ({ c8 with Name := v7 } : AG)
  have hv_10 := DJ (j := x3.toNat) (y := ({ c8 with Name := v7 } : AG)) hb9
  refine pg (sr (pM (.int _ _) ?_))
  refine AO ?_
  refine pA (.int _ _) (pg (Cj ?_))
  refine pM v0 ?_
  refine pM (.int _ _) (bk hk fun ue tq hk => ?_)
  refine Kc hO 0 tq HA BY (fun b12 hb12 => ?_)
  refine pF Ct ?_
  refine nJ Q1 hO 0 hb12 tq Ew (fun u13 fs13 hs13 => ?_)
  refine pM (.int _ _) (bk hk fun z14 hz14 hk => ?_)
  refine jB (y' := z14.1) (r := iv z14.2) hO 0 hs13 (fun _ h => h) sb hS (fun yk xz yl => Zt hz14 yl yk xz) (fun H1 G sb hO => ?_)
  refine pA (.int _ _) (pE (bn (gn (Cj ?_))))
  refine pM (.int _ _) ?_
  refine AO ?_
  refine pA (.int _ _) (pg ?_)
  cases hk; exact ⟨_, rfl, _, _, _, sb, hO, sh⟩
 refine Dh (ge (ge (be (gn (have hk := lx se hk; sr (pM (.int _ _) ?_))))))
 refine pA (.int _ _) (pg (Ax ?_))
 replace hk := dv hk; subst hk; exact Pv hO 0 sb hF
def pC (ab : Bq) (bf : Int) : Option (Bq × Int) :=
 ((pT ab.A3 bf).bind fun z3 => ((pW (({ ab with A3 := z3.1 }).A4) z3.2).bind fun z5 => some ({ { ab with A3 := z3.1 } with A4 := z5.1 }, z5.2)))
theorem fZ (hk : pC ab bf = some r) (ha : DL H ab v0 F0) (hF : ∀ b ∈ F0, b < H.length) (hS : ∀ b ∈ F0, AT lk b = true) (sn : 0 < lk.length := by simp) : ∃ v H1, Aw dp hh 17 [.agg v0, iv bf] H lk = some (v, H1) ∧ v = iv r.2 ∧ DL H1 r.1 v0 F0 ∧ H1.length = H.length ∧ ∀ b, b ∉ F0 → H1[b]? = H[b]? := by
 refine BG Tryz.func17 rfl Tryz.ntmps17 Tryz.results17 rfl rfl ?_
 have hO := Dg ha hF
 have sb := BK.refl H F0
 unfold pC at hk
 refine sr (rC hO 0 CB (fun b1 G hO => ?_))
 refine pA (.int _ _) (pg (sr ?_))
 refine pF D0 ?_
 refine rG Q5 hO 0 1 Gd (fun u2 fs2 hs2 => ?_)
 refine pM (.int _ _) (bk hk fun z3 hz3 hk => ?_)
 refine jB (y' := z3.1) (r := iv z3.2) hO 1 hs2 (fun _ h => h) sb hS (fun yk xz yl => hQ hz3 yl yk xz) (fun H1 G sb hO => ?_)
 refine pA (.int _ _) (pg (sr ?_))
 refine pF DK ?_
 refine rG Q4 hO 0 1 HF (fun u4 fs4 hs4 => ?_)
 refine pM (.int _ _) (bk hk fun z5 hz5 hk => ?_)
 refine jB (y' := z5.1) (r := iv z5.2) hO 1 hs4 (fun _ h => h) sb hS (fun yk xz yl => hZ hz5 yl yk xz) (fun H1 G sb hO => ?_)
 refine pA (.int _ _) (pg (sr ?_))
 refine pM (.int _ _) ?_
 refine pA (.int _ _) (pg (Ax ?_))
 replace hk := dv hk; subst hk; exact Pv hO 1 sb hF
def PO : (List AI × Int × Int) → Option ((List AI × Int × Int) ⊕ (List AI × Int)) := fun s =>
 (bif decide (s.2.2 < (s.1.length : Int)) then ((iA s.2.1).bind fun v4 => ((AR s.1 s.2.2).bind fun c5 => ((AR (s.1.set s.2.2.toNat ({ c5 with Name := v4 })) s.2.2).bind fun c8 => ((AR ((s.1.set s.2.2.toNat ({ c5 with Name := v4 })).set s.2.2.toNat ({ c8 with A1 := AN (s.2.1 + 1) })) s.2.2).bind fun ue => ((AR (((s.1.set s.2.2.toNat ({ c5 with Name := v4 })).set s.2.2.toNat ({ c8 with A1 := AN (s.2.1 + 1) })).set s.2.2.toNat ({ ue with At := AN ((AN (s.2.1 + 1)) + 1) })) s.2.2).bind fun xc => some (.inl ((((s.1.set s.2.2.toNat ({ c5 with Name := v4 })).set s.2.2.toNat ({ c8 with A1 := AN (s.2.1 + 1) })).set s.2.2.toNat ({ ue with At := AN ((AN (s.2.1 + 1)) + 1) })).set s.2.2.toNat ({ xc with Way := AN ((AN ((AN (s.2.1 + 1)) + 1)) + 1) }), AN ((AN ((AN ((AN (s.2.1 + 1)) + 1)) + 1)) + 1), AN (s.2.2 + 1)))))))) else ((some (s.1, s.2.1)).map Sum.inr))
def pD (ab : List AI) (bf : Int) : Option (List AI × Int) :=
 (AQ (PO) (ab, bf, (0:Int)))
theorem gD (hk : pD ab bf = some r) (ha : DL H ab [v0] F0) (hF : ∀ b ∈ F0, b < H.length) (hS : ∀ b ∈ F0, AT lk b = true) (sn : 0 < lk.length := by simp) : ∃ v H1, Aw dp hh 18 [v0, iv bf] H lk = some (v, H1) ∧ v = iv r.2 ∧ DL H1 r.1 [v0] F0 ∧ H1.length = H.length ∧ ∀ b, b ∉ F0 → H1[b]? = H[b]? := by
 refine BG Tryz.func18 rfl Tryz.ntmps18 Tryz.results18 rfl rfl ?_
 have hO := Dg ha hF
 have sb := BK.refl H F0
 unfold pD at hk
 refine sr (pA (.int _ _) (pg (AU (sr ?_))))
 refine pA (.int _ _) (pg (Bn ?_))
 refine AE (F := PO) (fun s S' => ∃ J G H1, BK H H1 F0 ∧ A6 H1 G [Dl F0 F0 s.1 [v0]] ∧ S' = ⟨Ao [(0, v0),(1, iv s.2.1),(5, iv s.2.2)] J, G⟩) hk ⟨_, _, _, sb, hO, sh⟩ ?_
 rintro ⟨x1, x2, x3⟩ _ y1 ⟨J, G, H1, sb, hO, rfl⟩ hk se
 refine AU (sr (pM (.int _ _) ?_))
 refine pM v0 ?_
 refine Ku hO 0 KI ?_
 refine AO (pg (As hk ?_ ?_)) <;> intro hk
 ·refine Av (gn (AU (Bn (sr (pM v0 ?_)))))
  refine pM (.int _ _) ?_
  refine pM (.int _ _) (bk hk fun v4 uq hk => ?_)
  refine Ae (fun _ => T0 uq) (bk hk fun c5 tx hk => ?_)
  refine Kc hO 0 tx GM BF (fun b6 hb6 => ?_)
  refine pF Gl ?_
  refine Ni O0 (y' := v4) hO 0 hb6 tx oG (fun _ => ⟨rfl, rfl⟩) sb hS rfl (fun H1 G sb hO => ?_)
  have hc_7 := Bz tx ({ c5 with Name := v4 } : AI)
  have hv_7 := DJ (j := x3.toNat) (y := ({ c5 with Name := v4 } : AI)) hb6
  refine pg (sr (pM (.int _ _) ?_))
  refine AO ?_
  refine pA (.int _ _) (pg (sr ?_))
  refine pM v0 ?_
  refine pM (.int _ _) ?_
  refine pM (.int _ _) (bk hk fun c8 hc8 hk => ?_)
  refine Kc hO 0 hc8 GM BF (fun b9 hb9 => ?_)
  refine pF DD ?_
  refine Ni N3 (y' := (AN (x2 + 1))) hO 0 hb9 hc8 G8 (fun _ => ⟨rfl, rfl⟩) sb hS rfl (fun H1 G sb hO => ?_)
  have hc_10 := Bz hc8 ({ c8 with A1 := AN (x2 + 1) } : AI)
  have hv_10 := DJ (j := x3.toNat) (y := ({ c8 with A1 := AN (x2 + 1) } : AI)) hb9
  refine pg (sr (pM (.int _ _) ?_))
  refine AO ?_
  refine pA (.int _ _) (pg (sr ?_))
  refine pM v0 ?_
  refine pM (.int _ _) ?_
  refine pM (.int _ _) (bk hk fun ue tq hk => ?_)
  refine Kc hO 0 tq GM BF (fun b12 hb12 => ?_)
  refine pF CW ?_
  refine Ni RL (y' := (AN ((AN (x2 + 1)) + 1))) hO 0 hb12 tq G8 (fun _ => ⟨rfl, rfl⟩) sb hS rfl (fun H1 G sb hO => ?_)
  have hc_13 := Bz tq ({ ue with At := AN ((AN (x2 + 1)) + 1) } : AI)
  have hv_13 := DJ (j := x3.toNat) (y := ({ ue with At := AN ((AN (x2 + 1)) + 1) } : AI)) hb12
  refine pg (sr (pM (.int _ _) ?_))
  refine AO ?_
  refine pA (.int _ _) (pg (sr ?_))
  refine pM v0 ?_
  refine pM (.int _ _) ?_
  refine pM (.int _ _) (bk hk fun xc ur hk => ?_)
  refine Kc hO 0 ur GM BF (fun b15 hb15 => ?_)
  refine pF DO ?_
  refine Ni QB (y' := (AN ((AN ((AN (x2 + 1)) + 1)) + 1))) hO 0 hb15 ur G8 (fun _ => ⟨rfl, rfl⟩) sb hS rfl (fun H1 G sb hO => ?_)
  have hc_16 := Bz ur ({ xc with Way := AN ((AN ((AN (x2 + 1)) + 1)) + 1) } : AI)
  have hv_16 := DJ (j := x3.toNat) (y := ({ xc with Way := AN ((AN ((AN (x2 + 1)) + 1)) + 1) } : AI)) hb15
  refine pg (Cj (pM (.int _ _) ?_))
  refine AO ?_
  refine pA (.int _ _) (pE (bn (gn (Cj ?_))))
  refine pM (.int _ _) ?_
  refine AO ?_
  refine pA (.int _ _) (pg ?_)
  cases hk; exact ⟨_, rfl, _, _, _, sb, hO, sh⟩
 refine Dh (ge (ge (be (gn (have hk := lx se hk; sr (pM (.int _ _) ?_))))))
 refine pA (.int _ _) (pg (Ax ?_))
 replace hk := dv hk; subst hk; exact Pv hO 0 sb hF
def Pg : (List BR × Int × Int) → Option ((List BR × Int × Int) ⊕ (List BR × Int)) := fun s =>
 (bif decide (s.2.2 < (s.1.length : Int)) then ((AR s.1 s.2.2).bind fun c4 => ((AR (s.1.set s.2.2.toNat ({ c4 with A1 := s.2.1 })) s.2.2).bind fun c7 => some (.inl ((s.1.set s.2.2.toNat ({ c4 with A1 := s.2.1 })).set s.2.2.toNat ({ c7 with Way := AN (s.2.1 + 1) }), AN ((AN (s.2.1 + 1)) + 1), AN (s.2.2 + 1))))) else ((some (s.1, s.2.1)).map Sum.inr))
def pY (ab : List BR) (bf : Int) : Option (List BR × Int) :=
 (AQ (Pg) (ab, bf, (0:Int)))
theorem iB (hk : pY ab bf = some r) (ha : DL H ab [v0] F0) (hF : ∀ b ∈ F0, b < H.length) (hS : ∀ b ∈ F0, AT lk b = true) (sn : 0 < lk.length := by simp) : ∃ v H1, Aw dp hh 57 [v0, iv bf] H lk = some (v, H1) ∧ v = iv r.2 ∧ DL H1 r.1 [v0] F0 ∧ H1.length = H.length ∧ ∀ b, b ∉ F0 → H1[b]? = H[b]? := by
 refine BG Tryz.func57 rfl Tryz.ntmps57 Tryz.results57 rfl rfl ?_
 have hO := Dg ha hF
 have sb := BK.refl H F0
 unfold pY at hk
 refine sr (pA (.int _ _) (pg (AU (sr ?_))))
 refine pA (.int _ _) (pg (Bn ?_))
 refine AE (F := Pg) (fun s S' => ∃ J G H1, BK H H1 F0 ∧ A6 H1 G [Dl F0 F0 s.1 [v0]] ∧ S' = ⟨Ao [(0, v0),(1, iv s.2.1),(5, iv s.2.2)] J, G⟩) hk ⟨_, _, _, sb, hO, sh⟩ ?_
 rintro ⟨x1, x2, x3⟩ _ y1 ⟨J, G, H1, sb, hO, rfl⟩ hk se
 refine AU (sr (pM (.int _ _) ?_))
 refine pM v0 ?_
 refine Ku hO 0 Wq ?_
 refine AO (pg (As hk ?_ ?_)) <;> intro hk
 ·refine Av (gn (AU (Bn (sr (pM v0 ?_)))))
  refine pM (.int _ _) ?_
  refine pM (.int _ _) (bk hk fun c4 te hk => ?_)
  refine Kc hO 0 te JX E5 (fun b5 yj => ?_)
  refine pF Mj ?_
  refine Ni QC (y' := x2) hO 0 yj te G8 (fun _ => ⟨rfl, rfl⟩) sb hS rfl (fun H1 G sb hO => ?_)
  have hc_6 := Bz te ({ c4 with A1 := x2 } : BR)
  have hv_6 := DJ (j := x3.toNat) (y := ({ c4 with A1 := x2 } : BR)) yj
  refine pg (sr (pM (.int _ _) ?_))
  refine AO ?_
  refine pA (.int _ _) (pg (sr ?_))
  refine pM v0 ?_
  refine pM (.int _ _) ?_
  refine pM (.int _ _) (bk hk fun c7 tw hk => ?_)
  refine Kc hO 0 tw JX E5 (fun b8 hb8 => ?_)
  refine pF Mk ?_
  refine Ni T9 (y' := (AN (x2 + 1))) hO 0 hb8 tw G8 (fun _ => ⟨rfl, rfl⟩) sb hS rfl (fun H1 G sb hO => ?_)
  have hc_9 := Bz tw ({ c7 with Way := AN (x2 + 1) } : BR)
  have hv_9 := DJ (j := x3.toNat) (y := ({ c7 with Way := AN (x2 + 1) } : BR)) hb8
  refine pg (Cj (pM (.int _ _) ?_))
  refine AO ?_
  refine pA (.int _ _) (pE (bn (gn (Cj ?_))))
  refine pM (.int _ _) ?_
  refine AO ?_
  refine pA (.int _ _) (pg ?_)
  cases hk; exact ⟨_, rfl, _, _, _, sb, hO, sh⟩
 refine Dh (ge (ge (be (gn (have hk := lx se hk; sr (pM (.int _ _) ?_))))))
 refine pA (.int _ _) (pg (Ax ?_))
 replace hk := dv hk; subst hk; exact Pv hO 0 sb hF
def Ph : (List BQ × Int × Int) → Option ((List BQ × Int × Int) ⊕ (List BQ × Int)) := fun s =>
 (bif decide (s.2.2 < (s.1.length : Int)) then ((AR s.1 s.2.2).bind fun c4 => ((AR (s.1.set s.2.2.toNat ({ c4 with AG := s.2.1 })) s.2.2).bind fun c7 => some (.inl ((s.1.set s.2.2.toNat ({ c4 with AG := s.2.1 })).set s.2.2.toNat ({ c7 with BQ := AN (s.2.1 + 1) }), AN ((AN (s.2.1 + 1)) + 1), AN (s.2.2 + 1))))) else ((some (s.1, s.2.1)).map Sum.inr))
def pZ (ab : List BQ) (bf : Int) : Option (List BQ × Int) :=
 (AQ (Ph) (ab, bf, (0:Int)))
theorem iC (hk : pZ ab bf = some r) (ha : DL H ab [v0] F0) (hF : ∀ b ∈ F0, b < H.length) (hS : ∀ b ∈ F0, AT lk b = true) (sn : 0 < lk.length := by simp) : ∃ v H1, Aw dp hh 58 [v0, iv bf] H lk = some (v, H1) ∧ v = iv r.2 ∧ DL H1 r.1 [v0] F0 ∧ H1.length = H.length ∧ ∀ b, b ∉ F0 → H1[b]? = H[b]? := by
 refine BG Tryz.func58 rfl Tryz.ntmps58 Tryz.results58 rfl rfl ?_
 have hO := Dg ha hF
 have sb := BK.refl H F0
 unfold pZ at hk
 refine sr (pA (.int _ _) (pg (AU (sr ?_))))
 refine pA (.int _ _) (pg (Bn ?_))
 refine AE (F := Ph) (fun s S' => ∃ J G H1, BK H H1 F0 ∧ A6 H1 G [Dl F0 F0 s.1 [v0]] ∧ S' = ⟨Ao [(0, v0),(1, iv s.2.1),(5, iv s.2.2)] J, G⟩) hk ⟨_, _, _, sb, hO, sh⟩ ?_
 rintro ⟨x1, x2, x3⟩ _ y1 ⟨J, G, H1, sb, hO, rfl⟩ hk se
 refine AU (sr (pM (.int _ _) ?_))
 refine pM v0 ?_
 refine Ku hO 0 KH ?_
 refine AO (pg (As hk ?_ ?_)) <;> intro hk
 ·refine Av (gn (AU (Bn (sr (pM v0 ?_)))))
  refine pM (.int _ _) ?_
  refine pM (.int _ _) (bk hk fun c4 te hk => ?_)
  refine Kc hO 0 te Ex CM (fun b5 yj => ?_)
  refine pF Ez ?_
  refine Ni RI (y' := x2) hO 0 yj te G8 (fun _ => ⟨rfl, rfl⟩) sb hS rfl (fun H1 G sb hO => ?_)
  have hc_6 := Bz te ({ c4 with AG := x2 } : BQ)
  have hv_6 := DJ (j := x3.toNat) (y := ({ c4 with AG := x2 } : BQ)) yj
  refine pg (sr (pM (.int _ _) ?_))
  refine AO ?_
  refine pA (.int _ _) (pg (sr ?_))
  refine pM v0 ?_
  refine pM (.int _ _) ?_
  refine pM (.int _ _) (bk hk fun c7 tw hk => ?_)
  refine Kc hO 0 tw Ex CM (fun b8 hb8 => ?_)
  refine pF HY ?_
  refine Ni UU (y' := (AN (x2 + 1))) hO 0 hb8 tw G8 (fun _ => ⟨rfl, rfl⟩) sb hS rfl (fun H1 G sb hO => ?_)
  have hc_9 := Bz tw ({ c7 with BQ := AN (x2 + 1) } : BQ)
  have hv_9 := DJ (j := x3.toNat) (y := ({ c7 with BQ := AN (x2 + 1) } : BQ)) hb8
  refine pg (Cj (pM (.int _ _) ?_))
  refine AO ?_
  refine pA (.int _ _) (pE (bn (gn (Cj ?_))))
  refine pM (.int _ _) ?_
  refine AO ?_
  refine pA (.int _ _) (pg ?_)
  cases hk; exact ⟨_, rfl, _, _, _, sb, hO, sh⟩
 refine Dh (ge (ge (be (gn (have hk := lx se hk; sr (pM (.int _ _) ?_))))))
 refine pA (.int _ _) (pg (Ax ?_))
 replace hk := dv hk; subst hk; exact Pv hO 0 sb hF
def Pj : (List Int × Int × Int) → Option ((List Int × Int × Int) ⊕ (List Int × Int)) := fun s =>
 (bif decide (s.2.2 < (s.1.length : Int)) then ((AR s.1 s.2.2).bind fun c4 => some (.inl (s.1.set s.2.2.toNat s.2.1, AN (s.2.1 + 1), AN (s.2.2 + 1)))) else ((some (s.1, s.2.1)).map Sum.inr))
def q8 (ab : List Int) (bf : Int) : Option (List Int × Int) :=
 (AQ (Pj) (ab, bf, (0:Int)))
theorem iD (hk : q8 ab bf = some r) (ha : DL H ab [v0] F0) (hF : ∀ b ∈ F0, b < H.length) (hS : ∀ b ∈ F0, AT lk b = true) (sn : 0 < lk.length := by simp) : ∃ v H1, Aw dp hh 59 [v0, iv bf] H lk = some (v, H1) ∧ v = iv r.2 ∧ DL H1 r.1 [v0] F0 ∧ H1.length = H.length ∧ ∀ b, b ∉ F0 → H1[b]? = H[b]? := by
 refine BG Tryz.func59 rfl Tryz.ntmps59 Tryz.results59 rfl rfl ?_
 have hO := Dg ha hF
 have sb := BK.refl H F0
 unfold q8 at hk
 refine sr (pA (.int _ _) (pg (AU (sr ?_))))
 refine pA (.int _ _) (pg (Bn ?_))
 refine AE (F := Pj) (fun s S' => ∃ J G H1, BK H H1 F0 ∧ A6 H1 G [Dl F0 F0 s.1 [v0]] ∧ S' = ⟨Ao [(0, v0),(1, iv s.2.1),(5, iv s.2.2)] J, G⟩) hk ⟨_, _, _, sb, hO, sh⟩ ?_
 rintro ⟨x1, x2, x3⟩ _ y1 ⟨J, G, H1, sb, hO, rfl⟩ hk se
 refine AU (sr (pM (.int _ _) ?_))
 refine pM v0 ?_
 refine Ku hO 0 eO ?_
 refine AO (pg (As hk ?_ ?_)) <;> intro hk
 ·refine Av (gn (AU (Bn (sr (pM v0 ?_)))))
  refine pM (.int _ _) ?_
  refine pM (.int _ _) (bk hk fun c4 te hk => ?_)
  refine Kc hO 0 te I6 G8 (fun b5 yj => ?_)
  refine Ni (BM.all (α := Int)) (y' := x2) hO 0 yj te G8 (fun _ => ⟨rfl, rfl⟩) sb hS rfl (fun H1 G sb hO => ?_)
  have hc_6 := Bz te x2
  have hv_6 := DJ (j := x3.toNat) (y := x2) yj
  refine pg (Cj (pM (.int _ _) ?_))
  refine AO ?_
  refine pA (.int _ _) (pE (bn (gn (Cj ?_))))
  refine pM (.int _ _) ?_
  refine AO ?_
  refine pA (.int _ _) (pg ?_)
  cases hk; exact ⟨_, rfl, _, _, _, sb, hO, sh⟩
 refine Dh (ge (ge (be (gn (have hk := lx se hk; sr (pM (.int _ _) ?_))))))
 refine pA (.int _ _) (pg (Ax ?_))
 replace hk := dv hk; subst hk; exact Pv hO 0 sb hF
def Pk : (List Ai × Int × Int) → Option ((List Ai × Int × Int) ⊕ (List Ai × Int)) := fun s =>
 (bif decide (s.2.2 < (s.1.length : Int)) then ((AR s.1 s.2.2).bind fun c4 => ((AR (s.1.set s.2.2.toNat ({ c4 with A1 := s.2.1 })) s.2.2).bind fun c7 => ((AR ((s.1.set s.2.2.toNat ({ c4 with A1 := s.2.1 })).set s.2.2.toNat ({ c7 with AY := AN (s.2.1 + 1) })) s.2.2).bind fun ss => some (.inl (((s.1.set s.2.2.toNat ({ c4 with A1 := s.2.1 })).set s.2.2.toNat ({ c7 with AY := AN (s.2.1 + 1) })).set s.2.2.toNat ({ ss with To := AN ((AN (s.2.1 + 1)) + 1) }), AN ((AN ((AN (s.2.1 + 1)) + 1)) + 1), AN (s.2.2 + 1)))))) else ((some (s.1, s.2.1)).map Sum.inr))
def oB (ab : List Ai) (bf : Int) : Option (List Ai × Int) :=
 (AQ (Pk) (ab, bf, (0:Int)))
theorem XB (hk : oB ab bf = some r) (ha : DL H ab [v0] F0) (hF : ∀ b ∈ F0, b < H.length) (hS : ∀ b ∈ F0, AT lk b = true) (sn : 0 < lk.length := by simp) : ∃ v H1, Aw dp hh 60 [v0, iv bf] H lk = some (v, H1) ∧ v = iv r.2 ∧ DL H1 r.1 [v0] F0 ∧ H1.length = H.length ∧ ∀ b, b ∉ F0 → H1[b]? = H[b]? := by
 refine BG Tryz.func60 rfl Tryz.ntmps60 Tryz.results60 rfl rfl ?_
 have hO := Dg ha hF
 have sb := BK.refl H F0
 unfold oB at hk
 refine sr (pA (.int _ _) (pg (AU (sr ?_))))
 refine pA (.int _ _) (pg (Bn ?_))
 refine AE (F := Pk) (fun s S' => ∃ J G H1, BK H H1 F0 ∧ A6 H1 G [Dl F0 F0 s.1 [v0]] ∧ S' = ⟨Ao [(0, v0),(1, iv s.2.1),(5, iv s.2.2)] J, G⟩) hk ⟨_, _, _, sb, hO, sh⟩ ?_
 rintro ⟨x1, x2, x3⟩ _ y1 ⟨J, G, H1, sb, hO, rfl⟩ hk se
 refine AU (sr (pM (.int _ _) ?_))
 refine pM v0 ?_
 refine Ku hO 0 VH ?_
 refine AO (pg (As hk ?_ ?_)) <;> intro hk
 ·refine Av (gn (AU (Bn (sr (pM v0 ?_)))))
  refine pM (.int _ _) ?_
  refine pM (.int _ _) (bk hk fun c4 te hk => ?_)
  refine Kc hO 0 te DV DB (fun b5 yj => ?_)
  refine pF Ok ?_
  refine Ni Q6 (y' := x2) hO 0 yj te G8 (fun _ => ⟨rfl, rfl⟩) sb hS rfl (fun H1 G sb hO => ?_)
  have hc_6 := Bz te ({ c4 with A1 := x2 } : Ai)
  have hv_6 := DJ (j := x3.toNat) (y := ({ c4 with A1 := x2 } : Ai)) yj
  refine pg (sr (pM (.int _ _) ?_))
  refine AO ?_
  refine pA (.int _ _) (pg (sr ?_))
  refine pM v0 ?_
  refine pM (.int _ _) ?_
  refine pM (.int _ _) (bk hk fun c7 tw hk => ?_)
  refine Kc hO 0 tw DV DB (fun b8 hb8 => ?_)
  refine pF Ol ?_
  refine Ni RJ (y' := (AN (x2 + 1))) hO 0 hb8 tw G8 (fun _ => ⟨rfl, rfl⟩) sb hS rfl (fun H1 G sb hO => ?_)
  have hc_9 := Bz tw ({ c7 with AY := AN (x2 + 1) } : Ai)
  have hv_9 := DJ (j := x3.toNat) (y := ({ c7 with AY := AN (x2 + 1) } : Ai)) hb8
  refine pg (sr (pM (.int _ _) ?_))
  refine AO ?_
  refine pA (.int _ _) (pg (sr ?_))
  refine pM v0 ?_
  refine pM (.int _ _) ?_
  refine pM (.int _ _) (bk hk fun ss sy hk => ?_)
  refine Kc hO 0 sy DV DB (fun b11 hb11 => ?_)
  refine pF Om ?_
  refine Ni UW (y' := (AN ((AN (x2 + 1)) + 1))) hO 0 hb11 sy G8 (fun _ => ⟨rfl, rfl⟩) sb hS rfl (fun H1 G sb hO => ?_)
  have hc_12 := Bz sy ({ ss with To := AN ((AN (x2 + 1)) + 1) } : Ai)
  have hv_12 := DJ (j := x3.toNat) (y := ({ ss with To := AN ((AN (x2 + 1)) + 1) } : Ai)) hb11
  refine pg (Cj (pM (.int _ _) ?_))
  refine AO ?_
  refine pA (.int _ _) (pE (bn (gn (Cj ?_))))
  refine pM (.int _ _) ?_
  refine AO ?_
  refine pA (.int _ _) (pg ?_)
  cases hk; exact ⟨_, rfl, _, _, _, sb, hO, sh⟩
 refine Dh (ge (ge (be (gn (have hk := lx se hk; sr (pM (.int _ _) ?_))))))
 refine pA (.int _ _) (pg (Ax ?_))
 replace hk := dv hk; subst hk; exact Pv hO 0 sb hF
def Pl : (List AD × Int × Int) → Option ((List AD × Int × Int) ⊕ (List AD × Int)) := fun s =>
 (bif decide (s.2.2 < (s.1.length : Int)) then ((AR s.1 s.2.2).bind fun c4 => ((AR (s.1.set s.2.2.toNat ({ c4 with At := s.2.1 })) s.2.2).bind fun c7 => ((AR ((s.1.set s.2.2.toNat ({ c4 with At := s.2.1 })).set s.2.2.toNat ({ c7 with Kind := AN (s.2.1 + 1) })) s.2.2).bind fun ss => ((AR (((s.1.set s.2.2.toNat ({ c4 with At := s.2.1 })).set s.2.2.toNat ({ c7 with Kind := AN (s.2.1 + 1) })).set s.2.2.toNat ({ ss with Of := AN ((AN (s.2.1 + 1)) + 1) })) s.2.2).bind fun vj => some (.inl ((((s.1.set s.2.2.toNat ({ c4 with At := s.2.1 })).set s.2.2.toNat ({ c7 with Kind := AN (s.2.1 + 1) })).set s.2.2.toNat ({ ss with Of := AN ((AN (s.2.1 + 1)) + 1) })).set s.2.2.toNat ({ vj with BQ := AN ((AN ((AN (s.2.1 + 1)) + 1)) + 1) }), AN ((AN ((AN ((AN (s.2.1 + 1)) + 1)) + 1)) + 1), AN (s.2.2 + 1))))))) else ((some (s.1, s.2.1)).map Sum.inr))
def q9 (ab : List AD) (bf : Int) : Option (List AD × Int) :=
 (AQ (Pl) (ab, bf, (0:Int)))
theorem iE (hk : q9 ab bf = some r) (ha : DL H ab [v0] F0) (hF : ∀ b ∈ F0, b < H.length) (hS : ∀ b ∈ F0, AT lk b = true) (sn : 0 < lk.length := by simp) : ∃ v H1, Aw dp hh 61 [v0, iv bf] H lk = some (v, H1) ∧ v = iv r.2 ∧ DL H1 r.1 [v0] F0 ∧ H1.length = H.length ∧ ∀ b, b ∉ F0 → H1[b]? = H[b]? := by
 refine BG Tryz.func61 rfl Tryz.ntmps61 Tryz.results61 rfl rfl ?_
 have hO := Dg ha hF
 have sb := BK.refl H F0
 unfold q9 at hk
 refine sr (pA (.int _ _) (pg (AU (sr ?_))))
 refine pA (.int _ _) (pg (Bn ?_))
 refine AE (F := Pl) (fun s S' => ∃ J G H1, BK H H1 F0 ∧ A6 H1 G [Dl F0 F0 s.1 [v0]] ∧ S' = ⟨Ao [(0, v0),(1, iv s.2.1),(5, iv s.2.2)] J, G⟩) hk ⟨_, _, _, sb, hO, sh⟩ ?_
 rintro ⟨x1, x2, x3⟩ _ y1 ⟨J, G, H1, sb, hO, rfl⟩ hk se
 refine AU (sr (pM (.int _ _) ?_))
 refine pM v0 ?_
 refine Ku hO 0 VI ?_
 refine AO (pg (As hk ?_ ?_)) <;> intro hk
 ·refine Av (gn (AU (Bn (sr (pM v0 ?_)))))
  refine pM (.int _ _) ?_
  refine pM (.int _ _) (bk hk fun c4 te hk => ?_)
  refine Kc hO 0 te D5 Db (fun b5 yj => ?_)
  refine pF Oq ?_
  refine Ni T6 (y' := x2) hO 0 yj te G8 (fun _ => ⟨rfl, rfl⟩) sb hS rfl (fun H1 G sb hO => ?_)
  have hc_6 := Bz te ({ c4 with At := x2 } : AD)
  have hv_6 := DJ (j := x3.toNat) (y := ({ c4 with At := x2 } : AD)) yj
  refine pg (sr (pM (.int _ _) ?_))
  refine AO ?_
  refine pA (.int _ _) (pg (sr ?_))
  refine pM v0 ?_
  refine pM (.int _ _) ?_
  refine pM (.int _ _) (bk hk fun c7 tw hk => ?_)
  refine Kc hO 0 tw D5 Db (fun b8 hb8 => ?_)
  refine pF Ot ?_
  refine Ni Q0 (y' := (AN (x2 + 1))) hO 0 hb8 tw G8 (fun _ => ⟨rfl, rfl⟩) sb hS rfl (fun H1 G sb hO => ?_)
  have hc_9 := Bz tw ({ c7 with Kind := AN (x2 + 1) } : AD)
  have hv_9 := DJ (j := x3.toNat) (y := ({ c7 with Kind := AN (x2 + 1) } : AD)) hb8
  refine pg (sr (pM (.int _ _) ?_))
  refine AO ?_
  refine pA (.int _ _) (pg (sr ?_))
  refine pM v0 ?_
  refine pM (.int _ _) ?_
  refine pM (.int _ _) (bk hk fun ss sy hk => ?_)
  refine Kc hO 0 sy D5 Db (fun b11 hb11 => ?_)
  refine pF Ou ?_
  refine Ni T7 (y' := (AN ((AN (x2 + 1)) + 1))) hO 0 hb11 sy G8 (fun _ => ⟨rfl, rfl⟩) sb hS rfl (fun H1 G sb hO => ?_)
  have hc_12 := Bz sy ({ ss with Of := AN ((AN (x2 + 1)) + 1) } : AD)
  have hv_12 := DJ (j := x3.toNat) (y := ({ ss with Of := AN ((AN (x2 + 1)) + 1) } : AD)) hb11
  refine pg (sr (pM (.int _ _) ?_))
  refine AO ?_
  refine pA (.int _ _) (pg (sr ?_))
  refine pM v0 ?_
  refine pM (.int _ _) ?_
  refine pM (.int _ _) (bk hk fun vj vq hk => ?_)
  refine Kc hO 0 vq D5 Db (fun b14 hb14 => ?_)
  refine pF Ov ?_
  refine Ni RH (y' := (AN ((AN ((AN (x2 + 1)) + 1)) + 1))) hO 0 hb14 vq G8 (fun _ => ⟨rfl, rfl⟩) sb hS rfl (fun H1 G sb hO => ?_)
  have hc_15 := Bz vq ({ vj with BQ := AN ((AN ((AN (x2 + 1)) + 1)) + 1) } : AD)
  have hv_15 := DJ (j := x3.toNat) (y := ({ vj with BQ := AN ((AN ((AN (x2 + 1)) + 1)) + 1) } : AD)) hb14
  refine pg (Cj (pM (.int _ _) ?_))
  refine AO ?_
  refine pA (.int _ _) (pE (bn (gn (Cj ?_))))
  refine pM (.int _ _) ?_
  refine AO ?_
  refine pA (.int _ _) (pg ?_)
  cases hk; exact ⟨_, rfl, _, _, _, sb, hO, sh⟩
 refine Dh (ge (ge (be (gn (have hk := lx se hk; sr (pM (.int _ _) ?_))))))
 refine pA (.int _ _) (pg (Ax ?_))
 replace hk := dv hk; subst hk; exact Pv hO 0 sb hF
def PQ : (List A8 × Int × Int) → Option ((List A8 × Int × Int) ⊕ (List A8 × Int)) := fun s =>
 (bif decide (s.2.2 < (s.1.length : Int)) then ((AR s.1 s.2.2).bind fun c4 => ((AR (s.1.set s.2.2.toNat ({ c4 with AY := s.2.1 })) s.2.2).bind fun c7 => ((AR ((s.1.set s.2.2.toNat ({ c4 with AY := s.2.1 })).set s.2.2.toNat ({ c7 with To := AN (s.2.1 + 1) })) s.2.2).bind fun ss => ((pY ss.Steps (AN ((AN (s.2.1 + 1)) + 1))).bind fun z13 => ((AR (((s.1.set s.2.2.toNat ({ c4 with AY := s.2.1 })).set s.2.2.toNat ({ c7 with To := AN (s.2.1 + 1) })).set s.2.2.toNat ({ ss with Steps := z13.1 })) s.2.2).bind fun xc => ((pZ xc.AK z13.2).bind fun z17 => ((AR ((((s.1.set s.2.2.toNat ({ c4 with AY := s.2.1 })).set s.2.2.toNat ({ c7 with To := AN (s.2.1 + 1) })).set s.2.2.toNat ({ ss with Steps := z13.1 })).set s.2.2.toNat ({ xc with AK := z17.1 })) s.2.2).bind fun c18 => ((q8 c18.A7 z17.2).bind fun z21 => ((AR (((((s.1.set s.2.2.toNat ({ c4 with AY := s.2.1 })).set s.2.2.toNat ({ c7 with To := AN (s.2.1 + 1) })).set s.2.2.toNat ({ ss with Steps := z13.1 })).set s.2.2.toNat ({ xc with AK := z17.1 })).set s.2.2.toNat ({ c18 with A7 := z21.1 })) s.2.2).bind fun c22 => ((oB c22.AP z21.2).bind fun z25 => ((AR ((((((s.1.set s.2.2.toNat ({ c4 with AY := s.2.1 })).set s.2.2.toNat ({ c7 with To := AN (s.2.1 + 1) })).set s.2.2.toNat ({ ss with Steps := z13.1 })).set s.2.2.toNat ({ xc with AK := z17.1 })).set s.2.2.toNat ({ c18 with A7 := z21.1 })).set s.2.2.toNat ({ c22 with AP := z25.1 })) s.2.2).bind fun c26 => ((oB c26.C2 z25.2).bind fun wv => ((AR (((((((s.1.set s.2.2.toNat ({ c4 with AY := s.2.1 })).set s.2.2.toNat ({ c7 with To := AN (s.2.1 + 1) })).set s.2.2.toNat ({ ss with Steps := z13.1 })).set s.2.2.toNat ({ xc with AK := z17.1 })).set s.2.2.toNat ({ c18 with A7 := z21.1 })).set s.2.2.toNat ({ c22 with AP := z25.1 })).set s.2.2.toNat ({ c26 with C2 := wv.1 })) s.2.2).bind fun c30 => ((q9 c30.Ad wv.2).bind fun z33 => some (.inl ((((((((s.1.set s.2.2.toNat ({ c4 with AY := s.2.1 })).set s.2.2.toNat ({ c7 with To := AN (s.2.1 + 1) })).set s.2.2.toNat ({ ss with Steps := z13.1 })).set s.2.2.toNat ({ xc with AK := z17.1 })).set s.2.2.toNat ({ c18 with A7 := z21.1 })).set s.2.2.toNat ({ c22 with AP := z25.1 })).set s.2.2.toNat ({ c26 with C2 := wv.1 })).set s.2.2.toNat ({ c30 with Ad := z33.1 }), z33.2, AN (s.2.2 + 1))))))))))))))))) else ((some (s.1, s.2.1)).map Sum.inr))
def pG (ab : List A8) (bf : Int) : Option (List A8 × Int) :=
 (AQ (PQ) (ab, bf, (0:Int)))
theorem gH (hk : pG ab bf = some r) (ha : DL H ab [v0] F0) (hF : ∀ b ∈ F0, b < H.length) (hS : ∀ b ∈ F0, AT lk b = true) (sn : 0 < lk.length := by simp) : ∃ v H1, Aw dp hh 19 [v0, iv bf] H lk = some (v, H1) ∧ v = iv r.2 ∧ DL H1 r.1 [v0] F0 ∧ H1.length = H.length ∧ ∀ b, b ∉ F0 → H1[b]? = H[b]? := by
 refine BG Tryz.func19 rfl Tryz.ntmps19 Tryz.results19 rfl rfl ?_
 have hO := Dg ha hF
 have sb := BK.refl H F0
 unfold pG at hk
 refine sr (pA (.int _ _) (pg (AU (sr ?_))))
 refine pA (.int _ _) (pg (Bn ?_))
 refine AE (F := PQ) (fun s S' => ∃ J G H1, BK H H1 F0 ∧ A6 H1 G [Dl F0 F0 s.1 [v0]] ∧ S' = ⟨Ao [(0, v0),(1, iv s.2.1),(5, iv s.2.2)] J, G⟩) hk ⟨_, _, _, sb, hO, sh⟩ ?_
 rintro ⟨x1, x2, x3⟩ _ y1 ⟨J, G, H1, sb, hO, rfl⟩ hk se
 refine AU (sr (pM (.int _ _) ?_))
 refine pM v0 ?_
 refine Ku hO 0 Tf ?_
 refine AO (pg (As hk ?_ ?_)) <;> intro hk
 ·refine Av (gn (AU (Bn (sr (pM v0 ?_)))))
  refine pM (.int _ _) ?_
  refine pM (.int _ _) (bk hk fun c4 te hk => ?_)
  refine Kc hO 0 te HG Bs (fun b5 yj => ?_)
  refine pF Oj ?_
  refine Ni Q8 (y' := x2) hO 0 yj te G8 (fun _ => ⟨rfl, rfl⟩) sb hS rfl (fun H1 G sb hO => ?_)
  have hc_6 := Bz te ({ c4 with AY := x2 } : A8)
  have hv_6 := DJ (j := x3.toNat) (y := ({ c4 with AY := x2 } : A8)) yj
  refine pg (sr (pM (.int _ _) ?_))
  refine AO ?_
  refine pA (.int _ _) (pg (sr ?_))
  refine pM v0 ?_
  refine pM (.int _ _) ?_
  refine pM (.int _ _) (bk hk fun c7 tw hk => ?_)
  refine Kc hO 0 tw HG Bs (fun b8 hb8 => ?_)
  refine pF Gm ?_
  refine Ni T8 (y' := (AN (x2 + 1))) hO 0 hb8 tw G8 (fun _ => ⟨rfl, rfl⟩) sb hS rfl (fun H1 G sb hO => ?_)
  have hc_9 := Bz tw ({ c7 with To := AN (x2 + 1) } : A8)
  have hv_9 := DJ (j := x3.toNat) (y := ({ c7 with To := AN (x2 + 1) } : A8)) hb8
  refine pg (sr (pM (.int _ _) ?_))
  refine AO ?_
  refine pA (.int _ _) (pg (sr ?_))
  refine pM v0 ?_
  refine pM (.int _ _) (bk hk fun ss sy hk => ?_)
  refine Kc hO 0 sy HG Bs (fun b11 hb11 => ?_)
  refine pF Ey ?_
  refine nJ Ny hO 0 hb11 sy RX (fun u12 fs12 hs12 => ?_)
  refine pM (.int _ _) (bk hk fun z13 hz13 hk => ?_)
  refine jB (y' := z13.1) (r := iv z13.2) hO 0 hs12 (fun _ h => h) sb hS (fun yk xz yl => iB hz13 yl yk xz) (fun H1 G sb hO => ?_)
  refine pA (.int _ _) (pg (sr ?_))
  refine pM v0 ?_
  refine pM (.int _ _) (bk hk fun xc ur hk => ?_)
  refine Kc hO 0 ur HG Bs (fun b15 hb15 => ?_)
  refine pF DY ?_
  refine nJ Q9 hO 0 hb15 ur I2 (fun u16 fs16 hs16 => ?_)
  refine pM (.int _ _) (bk hk fun z17 hz17 hk => ?_)
  refine jB (y' := z17.1) (r := iv z17.2) hO 0 hs16 (fun _ h => h) sb hS (fun yk xz yl => iC hz17 yl yk xz) (fun H1 G sb hO => ?_)
  refine pA (.int _ _) (pg (sr ?_))
  refine pM v0 ?_
  refine pM (.int _ _) (bk hk fun c18 hc18 hk => ?_)
  refine Kc hO 0 hc18 HG Bs (fun b19 hb19 => ?_)
  refine pF Fp ?_
  refine nJ ML hO 0 hb19 hc18 VE (fun u20 fs20 hs20 => ?_)
  refine pM (.int _ _) (bk hk fun z21 hz21 hk => ?_)
  refine jB (y' := z21.1) (r := iv z21.2) hO 0 hs20 (fun _ h => h) sb hS (fun yk xz yl => iD hz21 yl yk xz) (fun H1 G sb hO => ?_)
  refine pA (.int _ _) (pg (sr ?_))
  refine pM v0 ?_
  refine pM (.int _ _) (bk hk fun c22 hc22 hk => ?_)
  refine Kc hO 0 hc22 HG Bs (fun b23 hb23 => ?_)
  refine pF EB ?_
  refine nJ Nx hO 0 hb23 hc22 I3 (fun u24 fs24 hs24 => ?_)
  refine pM (.int _ _) (bk hk fun z25 hz25 hk => ?_)
  refine jB (y' := z25.1) (r := iv z25.2) hO 0 hs24 (fun _ h => h) sb hS (fun yk xz yl => XB hz25 yl yk xz) (fun H1 G sb hO => ?_)
  refine pA (.int _ _) (pg (sr ?_))
  refine pM v0 ?_
  refine pM (.int _ _) (bk hk fun c26 hc26 hk => ?_)
  refine Kc hO 0 hc26 HG Bs (fun b27 hb27 => ?_)
  refine pF IW ?_
  refine nJ QA hO 0 hb27 hc26 I3 (fun u28 fs28 hs28 => ?_)
  refine pM (.int _ _) (bk hk fun wv hz29 hk => ?_)
  refine jB (y' := wv.1) (r := iv wv.2) hO 0 hs28 (fun _ h => h) sb hS (fun yk xz yl => XB hz29 yl yk xz) (fun H1 G sb hO => ?_)
  refine pA (.int _ _) (pg (Cj ?_))
  refine pM v0 ?_
  refine pM (.int _ _) (bk hk fun c30 ym hk => ?_)
  refine Kc hO 0 ym HG Bs (fun b31 hb31 => ?_)
  refine pF EC ?_
  refine nJ N2 hO 0 hb31 ym I4 (fun u32 fs32 hs32 => ?_)
  refine pM (.int _ _) (bk hk fun z33 hz33 hk => ?_)
  refine jB (y' := z33.1) (r := iv z33.2) hO 0 hs32 (fun _ h => h) sb hS (fun yk xz yl => iE hz33 yl yk xz) (fun H1 G sb hO => ?_)
  refine pA (.int _ _) (pE (bn (gn (Cj ?_))))
  refine pM (.int _ _) ?_
  refine AO ?_
  refine pA (.int _ _) (pg ?_)
  cases hk; exact ⟨_, rfl, _, _, _, sb, hO, sh⟩
 refine Dh (ge (ge (be (gn (have hk := lx se hk; sr (pM (.int _ _) ?_))))))
 refine pA (.int _ _) (pg (Ax ?_))
 replace hk := dv hk; subst hk; exact Pv hO 0 sb hF
def Pm (ab : List BR) : (Int × Int) → Option ((Int × Int) ⊕ Int) := fun s =>
 (bif decide (s.2 < (ab.length : Int)) then ((AR ab s.2).bind fun c3 => (bif (c3.A1 != s.1) then ((some (-1:Int)).map Sum.inr) else ((AR ab s.2).bind fun c4 => (bif (c4.Way != (AN (s.1 + 1))) then ((some (-1:Int)).map Sum.inr) else some (.inl (AN ((AN (s.1 + 1)) + 1), AN (s.2 + 1))))))) else ((some s.1).map Sum.inr))
def qA (ab : List BR) (bf : Int) : Option Int :=
 (AQ (Pm ab) (bf, (0:Int)))
theorem iF (hk : qA ab bf = some r) (sn : 0 < lk.length := by simp) : Aw dp hh 62 [A0 l1 0 ab, iv bf] H lk = some (iv r, H) := by
 refine AH Tryz.func62 rfl Tryz.ntmps62 Tryz.results62 rfl rfl fun hO => ?_
 unfold qA at hk
 refine sr (pA (.int _ _) (pg (AU (sr ?_))))
 refine pA (.int _ _) (pg (Bn ?_))
 refine AE (F := Pm ab) (fun s S' => ∃ J G, A6 H G [] ∧ S' = ⟨Ao [(0, A0 l1 0 ab),(1, iv s.1),(5, iv s.2)] J, G⟩) hk ⟨_, _, hO, sh⟩ ?_
 rintro ⟨x1, x2⟩ _ y1 ⟨J, G, hO, rfl⟩ hk se
 refine AU (sr (pM (.int _ _) ?_))
 refine pM (.lit _ _ _) ?_
 refine BE Wq ?_
 refine AO (pg (As hk ?_ ?_)) <;> intro hk
 ·refine Av (gn (AU (Bn (AU (sr (pM (.lit _ _ _) ?_))))))
  refine pM (.int _ _) (bk hk fun c3 sx hk => ?_)
  refine pX sx JX E5 ?_
  refine pF Mj ?_
  refine CQ (.int _ _) (Gj (lm := 0) (off := 0) sx B5) ?_
  refine pM (.int _ _) ?_
  refine AO (pg (As hk ?_ ?_)) <;> intro hk
  ·refine sr (pA (.int _ _) (pg (Ax (gr (br (gr (gr (br (gr (have hk := lx se hk; ?_))))))))))
   cases hk; exact Ah hO
  refine Av (gn (sr (pM (.int _ _) ?_)))
  refine AO ?_
  refine pA (.int _ _) (pg (AU (sr ?_)))
  refine pM (.lit _ _ _) ?_
  refine pM (.int _ _) (bk hk fun c4 te hk => ?_)
  refine pX te JX E5 ?_
  refine pF Mk ?_
  refine CQ (.int _ _) (Gj (lm := 0) (off := 1) te B5) ?_
  refine pM (.int _ _) ?_
  refine AO (pg (As hk ?_ ?_)) <;> intro hk
  ·refine sr (pA (.int _ _) (pg (Ax (gr (br (gr (gr (br (gr (have hk := lx se hk; ?_))))))))))
   cases hk; exact Ah hO
  refine Av (gn (Cj (pM (.int _ _) ?_)))
  refine AO ?_
  refine pA (.int _ _) (pE (bn (gn (Cj ?_))))
  refine pM (.int _ _) ?_
  refine AO ?_
  refine pA (.int _ _) (pg ?_)
  cases hk; exact ⟨_, rfl, _, _, hO, sh⟩
 refine Dh (ge (ge (be (gn (have hk := lx se hk; sr (pM (.int _ _) ?_))))))
 refine pA (.int _ _) (pg (Ax ?_))
 cases hk; exact Ah hO
def Pn (ab : List BQ) : (Int × Int) → Option ((Int × Int) ⊕ Int) := fun s =>
 (bif decide (s.2 < (ab.length : Int)) then ((AR ab s.2).bind fun c3 => (bif (c3.AG != s.1) then ((some (-1:Int)).map Sum.inr) else ((AR ab s.2).bind fun c4 => (bif (c4.BQ != (AN (s.1 + 1))) then ((some (-1:Int)).map Sum.inr) else some (.inl (AN ((AN (s.1 + 1)) + 1), AN (s.2 + 1))))))) else ((some s.1).map Sum.inr))
def qB (ab : List BQ) (bf : Int) : Option Int :=
 (AQ (Pn ab) (bf, (0:Int)))
theorem iG (hk : qB ab bf = some r) (sn : 0 < lk.length := by simp) : Aw dp hh 63 [A0 l1 0 ab, iv bf] H lk = some (iv r, H) := by
 refine AH Tryz.func63 rfl Tryz.ntmps63 Tryz.results63 rfl rfl fun hO => ?_
 unfold qB at hk
 refine sr (pA (.int _ _) (pg (AU (sr ?_))))
 refine pA (.int _ _) (pg (Bn ?_))
 refine AE (F := Pn ab) (fun s S' => ∃ J G, A6 H G [] ∧ S' = ⟨Ao [(0, A0 l1 0 ab),(1, iv s.1),(5, iv s.2)] J, G⟩) hk ⟨_, _, hO, sh⟩ ?_
 rintro ⟨x1, x2⟩ _ y1 ⟨J, G, hO, rfl⟩ hk se
 refine AU (sr (pM (.int _ _) ?_))
 refine pM (.lit _ _ _) ?_
 refine BE KH ?_
 refine AO (pg (As hk ?_ ?_)) <;> intro hk
 ·refine Av (gn (AU (Bn (AU (sr (pM (.lit _ _ _) ?_))))))
  refine pM (.int _ _) (bk hk fun c3 sx hk => ?_)
  refine pX sx Ex CM ?_
  refine pF Ez ?_
  refine CQ (.int _ _) (Gj (lm := 0) (off := 0) sx B5) ?_
  refine pM (.int _ _) ?_
  refine AO (pg (As hk ?_ ?_)) <;> intro hk
  ·refine sr (pA (.int _ _) (pg (Ax (gr (br (gr (gr (br (gr (have hk := lx se hk; ?_))))))))))
   cases hk; exact Ah hO
  refine Av (gn (sr (pM (.int _ _) ?_)))
  refine AO ?_
  refine pA (.int _ _) (pg (AU (sr ?_)))
  refine pM (.lit _ _ _) ?_
  refine pM (.int _ _) (bk hk fun c4 te hk => ?_)
  refine pX te Ex CM ?_
  refine pF HY ?_
  refine CQ (.int _ _) (Gj (lm := 0) (off := 1) te B5) ?_
  refine pM (.int _ _) ?_
  refine AO (pg (As hk ?_ ?_)) <;> intro hk
  ·refine sr (pA (.int _ _) (pg (Ax (gr (br (gr (gr (br (gr (have hk := lx se hk; ?_))))))))))
   cases hk; exact Ah hO
  refine Av (gn (Cj (pM (.int _ _) ?_)))
  refine AO ?_
  refine pA (.int _ _) (pE (bn (gn (Cj ?_))))
  refine pM (.int _ _) ?_
  refine AO ?_
  refine pA (.int _ _) (pg ?_)
  cases hk; exact ⟨_, rfl, _, _, hO, sh⟩
 refine Dh (ge (ge (be (gn (have hk := lx se hk; sr (pM (.int _ _) ?_))))))
 refine pA (.int _ _) (pg (Ax ?_))
 cases hk; exact Ah hO
def Po (ab : List Int) : (Int × Int) → Option ((Int × Int) ⊕ Int) := fun s =>
 (bif decide (s.2 < (ab.length : Int)) then ((AR ab s.2).bind fun c3 => (bif (c3 != s.1) then ((some (-1:Int)).map Sum.inr) else some (.inl (AN (s.1 + 1), AN (s.2 + 1))))) else ((some s.1).map Sum.inr))
def qC (ab : List Int) (bf : Int) : Option Int :=
 (AQ (Po ab) (bf, (0:Int)))
theorem iH (hk : qC ab bf = some r) (sn : 0 < lk.length := by simp) : Aw dp hh 64 [A0 l1 0 ab, iv bf] H lk = some (iv r, H) := by
 refine AH Tryz.func64 rfl Tryz.ntmps64 Tryz.results64 rfl rfl fun hO => ?_
 unfold qC at hk
 refine sr (pA (.int _ _) (pg (AU (sr ?_))))
 refine pA (.int _ _) (pg (Bn ?_))
 refine AE (F := Po ab) (fun s S' => ∃ J G, A6 H G [] ∧ S' = ⟨Ao [(0, A0 l1 0 ab),(1, iv s.1),(5, iv s.2)] J, G⟩) hk ⟨_, _, hO, sh⟩ ?_
 rintro ⟨x1, x2⟩ _ y1 ⟨J, G, hO, rfl⟩ hk se
 refine AU (sr (pM (.int _ _) ?_))
 refine pM (.lit _ _ _) ?_
 refine BE eO ?_
 refine AO (pg (As hk ?_ ?_)) <;> intro hk
 ·refine Av (gn (AU (Bn (AU (sr (pM (.lit _ _ _) ?_))))))
  refine pM (.int _ _) (bk hk fun c3 sx hk => ?_)
  refine pX sx I6 G8 ?_
  refine CQ (.int _ _) (Gj (lm := 0) (off := 0) sx B5) ?_
  refine pM (.int _ _) ?_
  refine AO (pg (As hk ?_ ?_)) <;> intro hk
  ·refine sr (pA (.int _ _) (pg (Ax (gr (br (gr (gr (br (gr (have hk := lx se hk; ?_))))))))))
   cases hk; exact Ah hO
  refine Av (gn (Cj (pM (.int _ _) ?_)))
  refine AO ?_
  refine pA (.int _ _) (pE (bn (gn (Cj ?_))))
  refine pM (.int _ _) ?_
  refine AO ?_
  refine pA (.int _ _) (pg ?_)
  cases hk; exact ⟨_, rfl, _, _, hO, sh⟩
 refine Dh (ge (ge (be (gn (have hk := lx se hk; sr (pM (.int _ _) ?_))))))
 refine pA (.int _ _) (pg (Ax ?_))
 cases hk; exact Ah hO
def Pp (ab : List Ai) : (Int × Int) → Option ((Int × Int) ⊕ Int) := fun s =>
 (bif decide (s.2 < (ab.length : Int)) then ((AR ab s.2).bind fun c3 => (bif (c3.A1 != s.1) then ((some (-1:Int)).map Sum.inr) else ((AR ab s.2).bind fun c4 => (bif (c4.AY != (AN (s.1 + 1))) then ((some (-1:Int)).map Sum.inr) else ((AR ab s.2).bind fun c5 => (bif (c5.To != (AN ((AN (s.1 + 1)) + 1))) then ((some (-1:Int)).map Sum.inr) else some (.inl (AN ((AN ((AN (s.1 + 1)) + 1)) + 1), AN (s.2 + 1))))))))) else ((some s.1).map Sum.inr))
def oC (ab : List Ai) (bf : Int) : Option Int :=
 (AQ (Pp ab) (bf, (0:Int)))
theorem XC (hk : oC ab bf = some r) (sn : 0 < lk.length := by simp) : Aw dp hh 65 [A0 l1 0 ab, iv bf] H lk = some (iv r, H) := by
 refine AH Tryz.func65 rfl Tryz.ntmps65 Tryz.results65 rfl rfl fun hO => ?_
 unfold oC at hk
 refine sr (pA (.int _ _) (pg (AU (sr ?_))))
 refine pA (.int _ _) (pg (Bn ?_))
 refine AE (F := Pp ab) (fun s S' => ∃ J G, A6 H G [] ∧ S' = ⟨Ao [(0, A0 l1 0 ab),(1, iv s.1),(5, iv s.2)] J, G⟩) hk ⟨_, _, hO, sh⟩ ?_
 rintro ⟨x1, x2⟩ _ y1 ⟨J, G, hO, rfl⟩ hk se
 refine AU (sr (pM (.int _ _) ?_))
 refine pM (.lit _ _ _) ?_
 refine BE VH ?_
 refine AO (pg (As hk ?_ ?_)) <;> intro hk
 ·refine Av (gn (AU (Bn (AU (sr (pM (.lit _ _ _) ?_))))))
  refine pM (.int _ _) (bk hk fun c3 sx hk => ?_)
  refine pX sx DV DB ?_
  refine pF Ok ?_
  refine CQ (.int _ _) (Gj (lm := 0) (off := 0) sx B5) ?_
  refine pM (.int _ _) ?_
  refine AO (pg (As hk ?_ ?_)) <;> intro hk
  ·refine sr (pA (.int _ _) (pg (Ax (gr (br (gr (gr (br (gr (have hk := lx se hk; ?_))))))))))
   cases hk; exact Ah hO
  refine Av (gn (sr (pM (.int _ _) ?_)))
  refine AO ?_
  refine pA (.int _ _) (pg (AU (sr ?_)))
  refine pM (.lit _ _ _) ?_
  refine pM (.int _ _) (bk hk fun c4 te hk => ?_)
  refine pX te DV DB ?_
  refine pF Ol ?_
  refine CQ (.int _ _) (Gj (lm := 0) (off := 1) te B5) ?_
  refine pM (.int _ _) ?_
  refine AO (pg (As hk ?_ ?_)) <;> intro hk
  ·refine sr (pA (.int _ _) (pg (Ax (gr (br (gr (gr (br (gr (have hk := lx se hk; ?_))))))))))
   cases hk; exact Ah hO
  refine Av (gn (sr (pM (.int _ _) ?_)))
  refine AO ?_
  refine pA (.int _ _) (pg (AU (sr ?_)))
  refine pM (.lit _ _ _) ?_
  refine pM (.int _ _) (bk hk fun c5 tx hk => ?_)
  refine pX tx DV DB ?_
  refine pF Om ?_
  refine CQ (.int _ _) (Gj (lm := 0) (off := 2) tx B5) ?_
  refine pM (.int _ _) ?_
  refine AO (pg (As hk ?_ ?_)) <;> intro hk
  ·refine sr (pA (.int _ _) (pg (Ax (gr (br (gr (gr (br (gr (have hk := lx se hk; ?_))))))))))
   cases hk; exact Ah hO
  refine Av (gn (Cj (pM (.int _ _) ?_)))
  refine AO ?_
  refine pA (.int _ _) (pE (bn (gn (Cj ?_))))
  refine pM (.int _ _) ?_
  refine AO ?_
  refine pA (.int _ _) (pg ?_)
  cases hk; exact ⟨_, rfl, _, _, hO, sh⟩
 refine Dh (ge (ge (be (gn (have hk := lx se hk; sr (pM (.int _ _) ?_))))))
 refine pA (.int _ _) (pg (Ax ?_))
 cases hk; exact Ah hO
def Pq (ab : List AD) : (Int × Int) → Option ((Int × Int) ⊕ Int) := fun s =>
 (bif decide (s.2 < (ab.length : Int)) then ((AR ab s.2).bind fun c3 => (bif (c3.At != s.1) then ((some (-1:Int)).map Sum.inr) else ((AR ab s.2).bind fun c4 => (bif (c4.Kind != (AN (s.1 + 1))) then ((some (-1:Int)).map Sum.inr) else ((AR ab s.2).bind fun c5 => (bif (c5.Of != (AN ((AN (s.1 + 1)) + 1))) then ((some (-1:Int)).map Sum.inr) else ((AR ab s.2).bind fun c6 => (bif (c6.BQ != (AN ((AN ((AN (s.1 + 1)) + 1)) + 1))) then ((some (-1:Int)).map Sum.inr) else some (.inl (AN ((AN ((AN ((AN (s.1 + 1)) + 1)) + 1)) + 1), AN (s.2 + 1))))))))))) else ((some s.1).map Sum.inr))
def qD (ab : List AD) (bf : Int) : Option Int :=
 (AQ (Pq ab) (bf, (0:Int)))
theorem iI (hk : qD ab bf = some r) (sn : 0 < lk.length := by simp) : Aw dp hh 66 [A0 l1 0 ab, iv bf] H lk = some (iv r, H) := by
 refine AH Tryz.func66 rfl Tryz.ntmps66 Tryz.results66 rfl rfl fun hO => ?_
 unfold qD at hk
 refine sr (pA (.int _ _) (pg (AU (sr ?_))))
 refine pA (.int _ _) (pg (Bn ?_))
 refine AE (F := Pq ab) (fun s S' => ∃ J G, A6 H G [] ∧ S' = ⟨Ao [(0, A0 l1 0 ab),(1, iv s.1),(5, iv s.2)] J, G⟩) hk ⟨_, _, hO, sh⟩ ?_
 rintro ⟨x1, x2⟩ _ y1 ⟨J, G, hO, rfl⟩ hk se
 refine AU (sr (pM (.int _ _) ?_))
 refine pM (.lit _ _ _) ?_
 refine BE VI ?_
 refine AO (pg (As hk ?_ ?_)) <;> intro hk
 ·refine Av (gn (AU (Bn (AU (sr (pM (.lit _ _ _) ?_))))))
  refine pM (.int _ _) (bk hk fun c3 sx hk => ?_)
  refine pX sx D5 Db ?_
  refine pF Oq ?_
  refine CQ (.int _ _) (Gj (lm := 0) (off := 0) sx B5) ?_
  refine pM (.int _ _) ?_
  refine AO (pg (As hk ?_ ?_)) <;> intro hk
  ·refine sr (pA (.int _ _) (pg (Ax (gr (br (gr (gr (br (gr (have hk := lx se hk; ?_))))))))))
   cases hk; exact Ah hO
  refine Av (gn (sr (pM (.int _ _) ?_)))
  refine AO ?_
  refine pA (.int _ _) (pg (AU (sr ?_)))
  refine pM (.lit _ _ _) ?_
  refine pM (.int _ _) (bk hk fun c4 te hk => ?_)
  refine pX te D5 Db ?_
  refine pF Ot ?_
  refine CQ (.int _ _) (Gj (lm := 0) (off := 1) te B5) ?_
  refine pM (.int _ _) ?_
  refine AO (pg (As hk ?_ ?_)) <;> intro hk
  ·refine sr (pA (.int _ _) (pg (Ax (gr (br (gr (gr (br (gr (have hk := lx se hk; ?_))))))))))
   cases hk; exact Ah hO
  refine Av (gn (sr (pM (.int _ _) ?_)))
  refine AO ?_
  refine pA (.int _ _) (pg (AU (sr ?_)))
  refine pM (.lit _ _ _) ?_
  refine pM (.int _ _) (bk hk fun c5 tx hk => ?_)
  refine pX tx D5 Db ?_
  refine pF Ou ?_
  refine CQ (.int _ _) (Gj (lm := 0) (off := 2) tx B5) ?_
  refine pM (.int _ _) ?_
  refine AO (pg (As hk ?_ ?_)) <;> intro hk
  ·refine sr (pA (.int _ _) (pg (Ax (gr (br (gr (gr (br (gr (have hk := lx se hk; ?_))))))))))
   cases hk; exact Ah hO
  refine Av (gn (sr (pM (.int _ _) ?_)))
  refine AO ?_
  refine pA (.int _ _) (pg (AU (sr ?_)))
  refine pM (.lit _ _ _) ?_
  refine pM (.int _ _) (bk hk fun c6 xo hk => ?_)
  refine pX xo D5 Db ?_
  refine pF Ov ?_
  refine CQ (.int _ _) (Gj (lm := 0) (off := 3) xo B5) ?_
  refine pM (.int _ _) ?_
  refine AO (pg (As hk ?_ ?_)) <;> intro hk
  ·refine sr (pA (.int _ _) (pg (Ax (gr (br (gr (gr (br (gr (have hk := lx se hk; ?_))))))))))
   cases hk; exact Ah hO
  refine Av (gn (Cj (pM (.int _ _) ?_)))
  refine AO ?_
  refine pA (.int _ _) (pE (bn (gn (Cj ?_))))
  refine pM (.int _ _) ?_
  refine AO ?_
  refine pA (.int _ _) (pg ?_)
  cases hk; exact ⟨_, rfl, _, _, hO, sh⟩
 refine Dh (ge (ge (be (gn (have hk := lx se hk; sr (pM (.int _ _) ?_))))))
 refine pA (.int _ _) (pg (Ax ?_))
 cases hk; exact Ah hO
def PR (ab : List A8) : (Int × Int) → Option ((Int × Int) ⊕ Int) := fun s =>
 (bif decide (s.2 < (ab.length : Int)) then ((AR ab s.2).bind fun c3 => (bif (c3.AY != s.1) then ((some (-1:Int)).map Sum.inr) else ((AR ab s.2).bind fun c4 => (bif (c4.To != (AN (s.1 + 1))) then ((some (-1:Int)).map Sum.inr) else ((AR ab s.2).bind fun c5 => ((qA c5.Steps (AN ((AN (s.1 + 1)) + 1))).bind fun v6 => (bif decide (v6 < 0) then ((some (-1:Int)).map Sum.inr) else ((AR ab s.2).bind fun c7 => ((qB c7.AK v6).bind fun v8 => (bif decide (v8 < 0) then ((some (-1:Int)).map Sum.inr) else ((AR ab s.2).bind fun c9 => ((qC c9.A7 v8).bind fun v10 => (bif decide (v10 < 0) then ((some (-1:Int)).map Sum.inr) else ((AR ab s.2).bind fun ue => ((oC ue.AP v10).bind fun v12 => (bif decide (v12 < 0) then ((some (-1:Int)).map Sum.inr) else ((AR ab s.2).bind fun vj => ((oC vj.C2 v12).bind fun v14 => (bif decide (v14 < 0) then ((some (-1:Int)).map Sum.inr) else ((AR ab s.2).bind fun yn => ((qD yn.Ad v14).bind fun ya => (bif decide (ya < 0) then ((some (-1:Int)).map Sum.inr) else some (.inl (ya, AN (s.2 + 1))))))))))))))))))))))))) else ((some s.1).map Sum.inr))
def o0 (ab : List A8) (bf : Int) : Option Int :=
 (AQ (PR ab) (bf, (0:Int)))
theorem XA (hk : o0 ab bf = some r) (sn : 0 < lk.length := by simp) : Aw dp hh 20 [A0 l1 m2 ab, iv bf] H lk = some (iv r, H) := by
 refine AH Tryz.func20 rfl Tryz.ntmps20 Tryz.results20 rfl rfl fun hO => ?_
 unfold o0 at hk
 refine sr (pA (.int _ _) (pg (AU (sr ?_))))
 refine pA (.int _ _) (pg (Bn ?_))
 refine AE (F := PR ab) (fun s S' => ∃ J G, A6 H G [] ∧ S' = ⟨Ao [(0, A0 l1 m2 ab),(1, iv s.1),(5, iv s.2)] J, G⟩) hk ⟨_, _, hO, sh⟩ ?_
 rintro ⟨x1, x2⟩ _ y1 ⟨J, G, hO, rfl⟩ hk se
 refine AU (sr (pM (.int _ _) ?_))
 refine pM (.lit _ _ _) ?_
 refine BE Tf ?_
 refine AO (pg (As hk ?_ ?_)) <;> intro hk
 ·refine Av (gn (AU (Bn (AU (sr (pM (.lit _ _ _) ?_))))))
  refine pM (.int _ _) (bk hk fun c3 sx hk => ?_)
  refine pX sx HG Bs ?_
  refine pF Oj ?_
  refine CQ (.int _ _) (Gj (lm := m2) (off := 0) sx B5) ?_
  refine pM (.int _ _) ?_
  refine AO (pg (As hk ?_ ?_)) <;> intro hk
  ·refine sr (pA (.int _ _) (pg (Ax (gr (br (gr (gr (br (gr (have hk := lx se hk; ?_))))))))))
   cases hk; exact Ah hO
  refine Av (gn (sr (pM (.int _ _) ?_)))
  refine AO ?_
  refine pA (.int _ _) (pg (AU (sr ?_)))
  refine pM (.lit _ _ _) ?_
  refine pM (.int _ _) (bk hk fun c4 te hk => ?_)
  refine pX te HG Bs ?_
  refine pF Gm ?_
  refine CQ (.int _ _) (Gj (lm := m2) (off := 1) te B5) ?_
  refine pM (.int _ _) ?_
  refine AO (pg (As hk ?_ ?_)) <;> intro hk
  ·refine sr (pA (.int _ _) (pg (Ax (gr (br (gr (gr (br (gr (have hk := lx se hk; ?_))))))))))
   cases hk; exact Ah hO
  refine Av (gn (sr (pM (.int _ _) ?_)))
  refine AO ?_
  refine pA (.int _ _) (pg (sr ?_))
  refine pM (.lit _ _ _) ?_
  refine pM (.int _ _) (bk hk fun c5 tx hk => ?_)
  refine pX tx HG Bs ?_
  refine pF Ey ?_
  refine CQ (.lit _ _ _) (Gj (lm := m2) (off := 2) tx RX) ?_
  refine pM (.int _ _) (bk hk fun v6 hv6 hk => ?_)
  refine Ae (fun _ => iF hv6) ?_
  refine pA (.int _ _) (pg (AU (sr ?_)))
  refine pM (.int _ _) ?_
  refine AO (pg (As hk ?_ ?_)) <;> intro hk
  ·refine sr (pA (.int _ _) (pg (Ax (gr (br (gr (gr (br (gr (have hk := lx se hk; ?_))))))))))
   cases hk; exact Ah hO
  refine Av (gn (sr (pM (.lit _ _ _) ?_)))
  refine pM (.int _ _) (bk hk fun c7 tw hk => ?_)
  refine pX tw HG Bs ?_
  refine pF DY ?_
  refine CQ (.lit _ _ _) (Gj (lm := m2) (off := 3) tw I2) ?_
  refine pM (.int _ _) (bk hk fun v8 hv8 hk => ?_)
  refine Ae (fun _ => iG hv8) ?_
  refine pA (.int _ _) (pg (AU (sr ?_)))
  refine pM (.int _ _) ?_
  refine AO (pg (As hk ?_ ?_)) <;> intro hk
  ·refine sr (pA (.int _ _) (pg (Ax (gr (br (gr (gr (br (gr (have hk := lx se hk; ?_))))))))))
   cases hk; exact Ah hO
  refine Av (gn (sr (pM (.lit _ _ _) ?_)))
  refine pM (.int _ _) (bk hk fun c9 vk hk => ?_)
  refine pX vk HG Bs ?_
  refine pF Fp ?_
  refine CQ (.lit _ _ _) (Gj (lm := m2) (off := 4) vk VE) ?_
  refine pM (.int _ _) (bk hk fun v10 hv10 hk => ?_)
  refine Ae (fun _ => iH hv10) ?_
  refine pA (.int _ _) (pg (AU (sr ?_)))
  refine pM (.int _ _) ?_
  refine AO (pg (As hk ?_ ?_)) <;> intro hk
  ·refine sr (pA (.int _ _) (pg (Ax (gr (br (gr (gr (br (gr (have hk := lx se hk; ?_))))))))))
   cases hk; exact Ah hO
  refine Av (gn (sr (pM (.lit _ _ _) ?_)))
  refine pM (.int _ _) (bk hk fun ue tq hk => ?_)
  refine pX tq HG Bs ?_
  refine pF EB ?_
  refine CQ (.lit _ _ _) (Gj (lm := m2) (off := 5) tq I3) ?_
  refine pM (.int _ _) (bk hk fun v12 hv12 hk => ?_)
  refine Ae (fun _ => XC hv12) ?_
  refine pA (.int _ _) (pg (AU (sr ?_)))
  refine pM (.int _ _) ?_
  refine AO (pg (As hk ?_ ?_)) <;> intro hk
  ·refine sr (pA (.int _ _) (pg (Ax (gr (br (gr (gr (br (gr (have hk := lx se hk; ?_))))))))))
   cases hk; exact Ah hO
  refine Av (gn (sr (pM (.lit _ _ _) ?_)))
  refine pM (.int _ _) (bk hk fun vj vq hk => ?_)
  refine pX vq HG Bs ?_
  refine pF IW ?_
  refine CQ (.lit _ _ _) (Gj (lm := m2) (off := 6) vq I3) ?_
  refine pM (.int _ _) (bk hk fun v14 hv14 hk => ?_)
  refine Ae (fun _ => XC hv14) ?_
  refine pA (.int _ _) (pg (AU (sr ?_)))
  refine pM (.int _ _) ?_
  refine AO (pg (As hk ?_ ?_)) <;> intro hk
  ·refine sr (pA (.int _ _) (pg (Ax (gr (br (gr (gr (br (gr (have hk := lx se hk; ?_))))))))))
   cases hk; exact Ah hO
  refine Av (gn (sr (pM (.lit _ _ _) ?_)))
  refine pM (.int _ _) (bk hk fun yn xk hk => ?_)
  refine pX xk HG Bs ?_
  refine pF EC ?_
  refine CQ (.lit _ _ _) (Gj (lm := m2) (off := 7) xk I4) ?_
  refine pM (.int _ _) (bk hk fun ya hv16 hk => ?_)
  refine Ae (fun _ => iI hv16) ?_
  refine pA (.int _ _) (pg (sr ?_))
  refine pM (.int _ _) ?_
  refine AO (pg (As hk ?_ ?_)) <;> intro hk
  ·refine sr (pA (.int _ _) (pg (Ax (br (gr (gr (br (gr (have hk := lx se hk; ?_)))))))))
   cases hk; exact Ah hO
  refine Av (bn (gn (Cj (pM (.int _ _) ?_))))
  refine AO ?_
  refine pA (.int _ _) (pg ?_)
  cases hk; exact ⟨_, rfl, _, _, hO, sh⟩
 refine Dh (ge (ge (be (gn (have hk := lx se hk; sr (pM (.int _ _) ?_))))))
 refine pA (.int _ _) (pg (Ax ?_))
 cases hk; exact Ah hO
def f3 (bz : Bq) (ao : List AI) (bq : Int) : Option Bool :=
 ((f8 bz (1048576:Int)).bind fun v2 => (bif decide (v2 < 0) then some true else ((f9 ao v2).bind fun v3 => (bif decide (v3 < 0) then some true else ((kG bz).bind fun v4 => ((kH ao).bind fun v6 => ((oY v4 v6 bq).bind fun v8 => ((kG bz).bind fun v11 => ((kH ao).bind fun v14 => ((nZ v11 v14 bq).bind fun ya => ((m7 ya v8).bind fun v20 => (bif !v20 then some false else ((kG bz).bind fun v22 => ((oZ v11 v22).bind fun v24 => (bif !v24 then some false else ((kH ao).bind fun v27 => ((p9 v14 v27).bind fun v29 => (bif !v29 then some false else ((pC v11 (1:Int)).bind fun z32 => ((pD v14 z32.2).bind fun z33 => ((bif decide (z33.2 < 0) then some true else ((m7 ya v8).bind fun v35 => some (!v35))).bind fun t34 => (bif t34 then some false else ((pG ya (1:Int)).bind fun z37 => ((o0 z37.1 (1:Int)).bind fun v38 => (bif decide (v38 < 0) then some false else (bif (v38 != z37.2) then some false else ((kG bz).bind fun v40 => ((kH ao).bind fun v42 => ((nZ v40 v42 bq).bind fun v44 => ((m7 v44 v8).bind fun v48 => (bif !v48 then some false else ((o0 z37.1 (1:Int)).bind fun v50 => (bif decide (v50 < 0) then some false else (bif (v50 != z37.2) then some false else some true))))))))))))))))))))))))))))))))))
theorem mE (hk : f3 bz ao bq = some r) (sn : 0 < lk.length := by simp) (hlo : EK lk H.length := by simp [EK]) : Aw dp hh 3 [.agg [A0 l1 0 bz.A3, A0 l2 m3 bz.A4], A0 l4 0 ao, iv bq] H lk = some (.bool r, H) := by
 refine AH Tryz.func3 rfl Tryz.ntmps3 Tryz.results3 rfl rfl fun hO => ?_
 unfold f3 at hk
 refine sr (C0 (cs := [_, _]) hO VJ (fun b1 G hO => ?_))
 refine pA (.bool _) (pg (sr ?_))
 refine pA (.int _ _) (pg (sr ?_))
 refine Eh hO 0 [_, _] eI VJ ?_
 refine pM (.int _ _) (bk hk fun v2 yo hk => ?_)
 refine Ae (fun _ => mP yo) ?_
 refine pA (.int _ _) (pg (AU (sr ?_)))
 refine pM (.int _ _) ?_
 refine AO (pg (As hk ?_ ?_)) <;> intro hk
 ·refine sr (pA (.bool _) (pg (Ax (gr ?_))))
  cases hk; exact Ah hO
 refine Av (gn (sr (pM (.lit _ _ _) ?_)))
 refine pM (.int _ _) (bk hk fun v3 zi hk => ?_)
 refine Ae (fun _ => mQ zi) ?_
 refine pA (.int _ _) (pg (AU (sr ?_)))
 refine pM (.int _ _) ?_
 refine AO (pg (As hk ?_ ?_)) <;> intro hk
 ·refine sr (pA (.bool _) (pg (Ax (gr ?_))))
  cases hk; exact Ah hO
 refine Av (gn (sr (Eh hO 0 [_, _] eI VJ (bk hk fun v4 uq hk => ?_))))
 refine dW hO (fun _ => OD uq) (fun u5 F5 G hO => ?_)
 refine pM (.lit _ _ _) (bk hk fun v6 hv6 hk => ?_)
 refine nG hO (fun _ => OE hv6) (fun u7 F7 G hO => ?_)
 refine pM (.int _ _) (bk hk fun v8 hv8 hk => ?_)
 obtain ⟨_, hm9⟩ := Qe hO (j := 1) rfl (lk.length + 1) 7
 obtain ⟨_, hm10⟩ := QZ hO (j := 0) rfl (lk.length + 1) 8
 refine dX (vs := [(.agg u5), u7, (.int _ _)]) (caps := []) hO hlo rfl (fun _ hl => fN hv8 (hlo := hl)) ?_ (h3 := (CO hm9 (CO hm10 (CO rfl El))))
 refine pA (.lit _ _ _) (pg (sr ?_))
 refine Eh hO 2 [_, _] eI VJ (bk hk fun v11 hv11 hk => ?_)
 refine dW hO (fun _ => OD hv11) (fun u12 F12 G hO => C9 hO CB nO (fun b13 G hO => ?_))
 refine uK hO 0 1 CB rfl (fun G hO => pg (sr ?_))
 refine pM (.lit _ _ _) (bk hk fun v14 hv14 hk => ?_)
 refine nG hO (fun _ => OE hv14) (fun u15 F15 G hO => ?_)
 refine pA u15 (pg (sr ?_))
 refine nK hO 1 2 E4 CB ?_
 refine pM u15 ?_
 refine pM (.int _ _) (bk hk fun ya hv16 hk => ?_)
 obtain ⟨_, hm17⟩ := Qe hO (j := 2) rfl (lk.length + 1) 7
 obtain ⟨_, hm18⟩ := QZ hO (j := 0) rfl (lk.length + 1) 8
 refine rE (vs := [(.agg u12), u15, (.int _ _)]) (caps := []) hO hlo rfl (fun _ hl => X9 hv16 (hlo := hl)) (fun u19 F19 G hO => ?_) (h3 := (CO hm17 (CO hm18 (CO rfl El))))
 refine pA u19 (pg (AU (sr ?_)))
 refine pM u19 ?_
 refine pM (.lit _ _ _) (bk hk fun v20 hv20 hk => ?_)
 obtain ⟨_, hm21⟩ := Ru hO (j := 0) rfl (lk.length + 1) 8
 refine Ae (vs := [u19, (.lit _ _ _)]) (caps := []) (fun _ => Ss hv20) ?_ (h3 := (CO hm21 (CO rfl El)))
 refine pU (pg (As hk ?_ ?_)) <;> intro hk
 ·refine sr (pA (.bool _) (pg (Ax (gr ?_))))
  cases hk; exact Ah hO
 refine Av (gn (AU (AU (GC [1,3,5,6,8] [_,_,_,_,_] ?_))))
 refine nK hO 2 3 E4 CB ?_
 refine Eh hO 6 [_, _] eI VJ (bk hk fun v22 hv22 hk => ?_)
 refine dW hO (fun _ => OD hv22) (fun u23 F23 G hO => bk hk fun v24 hv24 hk => ?_)
 obtain ⟨_, hm25⟩ := Qe hO (j := 4) rfl (lk.length + 1) 7
 obtain ⟨_, hm26⟩ := Qe hO (j := 0) rfl (lk.length + 1) 7
 refine Ae (vs := [(.agg u12), (.agg u23)]) (caps := []) (fun _ => fV hv24) ?_ (h3 := (CO hm25 (CO hm26 El)))
 refine pU (pg (As hk ?_ ?_)) <;> intro hk
 ·refine sr (pA (.bool _) (pg (Ax (gr ?_))))
  cases hk; exact Ah hO
 refine Av (gn (AU (sr (pM u15 ?_))))
 refine pM (.lit _ _ _) (bk hk fun v27 hv27 hk => ?_)
 refine nG hO (fun _ => OE hv27) (fun u28 F28 G hO => bk hk fun v29 hv29 hk => ?_)
 obtain ⟨_, hm30⟩ := QZ hO (j := 3) rfl (lk.length + 1) 8
 obtain ⟨_, hm31⟩ := QZ hO (j := 0) rfl (lk.length + 1) 8
 refine Ae (vs := [u15, u28]) (caps := []) (fun _ => fW hv29) ?_ (h3 := (CO hm30 (CO hm31 El)))
 refine pU (pg (As hk ?_ ?_)) <;> intro hk
 ·refine sr (pA (.bool _) (pg (Ax (gr ?_))))
  cases hk; exact Ah hO
 refine Av (gn (sr (pA (.int _ _) (pg (sr ?_)))))
 refine nK hO 4 5 E4 CB ?_
 refine pM (.int _ _) (bk hk fun z32 hz32 hk => ?_)
 refine nH (y' := z32.1) (r := iv z32.2) hO 5 (ZF.all hO (j := 5) rfl) hlo (fun yk xz yl => fZ hz32 yl yk xz) (fun G hO => ?_)
 refine pA (.int _ _) (pg (sr ?_))
 refine pM u15 ?_
 refine pM (.int _ _) (bk hk fun z33 hz33 hk => ?_)
 refine nH (y' := z33.1) (r := iv z33.2) hO 3 (ZF.all hO (j := 3) rfl) hlo (fun yk xz yl => gD hz33 yl yk xz) (fun G hO => ?_)
 refine pA (.int _ _) (pg (AU (sr ?_)))
 refine pM (.int _ _) ?_
 refine AO ?_
 refine pM (.bool _) (bk hk fun t34 ht hk => ?_)
 refine Aa (l1 := [_, _, _, _, _]) (fun S' => ∃ J, S' = ⟨Ao [(1, A0 l4 0 ao),(2, iv bq),(3, .ptr b1 0),(8, A0 0 0 v8),(11, u19),(67, .bool t34)] J, G⟩) ?_ ?_
 ·refine bc (b := decide (z33.2 < 0)) ?_ ?_ <;> intro hg
  ·replace hk := ct hg ht
   repeat refine CK hg ?_
   refine Ev hg (.bool _) ?_
   cases hk; exact pE ⟨_, sh⟩
  replace hk := cf hg ht
  refine AZ hg (pM u19 (AZ hg ?_))
  refine pM (.lit _ _ _) (AZ hg (bk hk fun v35 hv35 hk => ?_))
  obtain ⟨_, hm36⟩ := Ru hO (j := 2) rfl (lk.length + 1) 8
  refine Ae (vs := [u19, (.lit _ _ _)]) (caps := []) (fun _ => Ss hv35) ?_ (h3 := (CO hm36 (CO rfl El)))
  refine AZ hg (pU ?_)
  refine Eu hg (.bool _) ?_
  cases hk; exact pE ⟨_, sh⟩
 rintro _ ⟨J, rfl⟩
 refine pg (As hk ?_ ?_) <;> intro hk
 ·refine sr (pA (.bool _) (pg (Ax (gr ?_))))
  cases hk; exact Ah hO
 refine Av (gn (sr (pA (.int _ _) (pg (sr ?_)))))
 refine pM u19 ?_
 refine pM (.int _ _) (bk hk fun z37 hz37 hk => ?_)
 refine nH (y' := z37.1) (r := iv z37.2) hO 2 (ZF.all hO (j := 2) rfl) hlo (fun yk xz yl => gH hz37 yl yk xz) (fun G hO => ?_)
 refine pA (.int _ _) (pg (sr ?_))
 refine pA (.int _ _) (pg (sr ?_))
 refine pM u19 ?_
 refine pM (.int _ _) (bk hk fun v38 hv38 hk => ?_)
 obtain ⟨_, hm39⟩ := Ru hO (j := 2) rfl (lk.length + 1) 8
 refine Ae (vs := [u19, (.int _ _)]) (caps := []) (fun _ => XA hv38) ?_ (h3 := (CO hm39 (CO rfl El)))
 refine pA (.int _ _) (pg (AU (sr ?_)))
 refine pM (.int _ _) ?_
 refine AO (pg (As hk ?_ ?_)) <;> intro hk
 ·refine sr (pA (.bool _) (pg (Ax (gr ?_))))
  cases hk; exact Ah hO
 refine Av (gn (AU (sr (pM (.int _ _) ?_))))
 refine pM (.int _ _) ?_
 refine AO (pg (As hk ?_ ?_)) <;> intro hk
 ·refine sr (pA (.bool _) (pg (Ax (gr ?_))))
  cases hk; exact Ah hO
 refine Av (gn (sr (Eh hO 8 [_, _] eI VJ (bk hk fun v40 hv40 hk => ?_))))
 refine dW hO (fun _ => OD hv40) (fun u41 F41 G hO => ?_)
 refine pM (.lit _ _ _) (bk hk fun v42 hv42 hk => ?_)
 refine nG hO (fun _ => OE hv42) (fun u43 F43 G hO => ?_)
 refine pM (.int _ _) (bk hk fun v44 hv44 hk => ?_)
 obtain ⟨_, hm45⟩ := Qe hO (j := 1) rfl (lk.length + 1) 7
 obtain ⟨_, hm46⟩ := QZ hO (j := 0) rfl (lk.length + 1) 8
 refine rE (vs := [(.agg u41), u43, (.int _ _)]) (caps := []) hO hlo rfl (fun _ hl => X9 hv44 (hlo := hl)) (fun u47 F47 G hO => ?_) (h3 := (CO hm45 (CO hm46 (CO rfl El))))
 refine pA u47 (pg (AU (sr ?_)))
 refine pM u47 ?_
 refine pM (.lit _ _ _) (bk hk fun v48 hv48 hk => ?_)
 obtain ⟨_, hm49⟩ := Ru hO (j := 0) rfl (lk.length + 1) 8
 refine Ae (vs := [u47, (.lit _ _ _)]) (caps := []) (fun _ => Ss hv48) ?_ (h3 := (CO hm49 (CO rfl El)))
 refine pU (pg (As hk ?_ ?_)) <;> intro hk
 ·refine sr (pA (.bool _) (pg (Ax (gr ?_))))
  cases hk; exact Ah hO
 refine Av (gn (sr (pA (.int _ _) (pg (sr ?_)))))
 refine pM u19 ?_
 refine pM (.int _ _) (bk hk fun v50 hv50 hk => ?_)
 obtain ⟨_, hm51⟩ := Ru hO (j := 5) rfl (lk.length + 1) 8
 refine Ae (vs := [u19, (.int _ _)]) (caps := []) (fun _ => XA hv50) ?_ (h3 := (CO hm51 (CO rfl El)))
 refine pA (.int _ _) (pg (AU (sr ?_)))
 refine pM (.int _ _) ?_
 refine AO (pg (As hk ?_ ?_)) <;> intro hk
 ·refine sr (pA (.bool _) (pg (Ax (gr ?_))))
  cases hk; exact Ah hO
 refine Av (gn (AU (sr (pM (.int _ _) ?_))))
 refine pM (.int _ _) ?_
 refine AO (pg (As hk ?_ ?_)) <;> intro hk
 ·refine sr (pA (.bool _) (pg (Ax (gr ?_))))
  cases hk; exact Ah hO
 refine Av (gn (sr (pA (.bool _) (pg (Ax ?_)))))
 cases hk; exact Ah hO
end
end Go.Proofs.YtjklepgidjimfaaGreat.K
