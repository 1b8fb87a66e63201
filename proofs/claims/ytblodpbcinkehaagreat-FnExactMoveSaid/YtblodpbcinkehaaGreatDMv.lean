/-
 The functions that FnExactMove reaches, as typed Lean functions, and that the interpreter computes them. Part 3 of 3. No conditions.
-/
import Derived.Test.YtblodpbcinkehaaGreatDMvb
set_option linter.unusedVariables false
set_option linter.unusedSimpArgs false
set_option maxRecDepth 100000
set_option autoImplicit true
set_option relaxedAutoImplicit true
namespace Go.Proofs.YtblodpbcinkehaaGreat.K
open _root_.Go.Proofs.Tryz renaming prog → ah
open Option.some renaming inj → an
noncomputable section
variable {H : A4} {lk : Lk}
def N6 : ((List Ay) × Int × Int) → Option (((List Ay) × Int × Int) ⊕ (List Ay × Int)) := fun s =>
 (bif decide (s.2.2 < (s.1.length : Int)) then ((Aa s.1 s.2.2).bind fun c4 => ((Aa (s.1.set s.2.2.toNat ({ c4 with A0 := s.2.1 })) s.2.2).bind fun c7 => some (.inl ((s.1.set s.2.2.toNat ({ c4 with A0 := s.2.1 })).set s.2.2.toNat ({ c7 with B9 := AV (s.2.1 + 1) }), AV ((AV (s.2.1 + 1)) + 1), AV (s.2.2 + 1))))) else ((some (s.1, s.2.1)).map Sum.inr))
def fJ (aA0 : List Ay) (aK1 : Int) : Option (List Ay × Int) :=
 (AP (N6) (aA0, aK1, (0:Int)))
theorem Yc (hk : fJ aA0 aK1 = some r) (ha : D5 H aA0 [v0] F0) (hF : ∀ b ∈ F0, b < H.length) (hS : ∀ b ∈ F0, AT lk b = true) (hlk : 0 < lk.length := by simp) : ∃ v H1, Ai ah hh 82 [v0, iv aK1] H lk = some (v, H1) ∧ v = iv r.2 ∧ D5 H1 r.1 [v0] F0 ∧ H1.length = H.length ∧ ∀ b, b ∉ F0 → H1[b]? = H[b]? := by
 refine BA Tryz.func82 rfl Tryz.ntmps82 Tryz.results82 rfl rfl ?_
 have hO := Dj ha hF
 have hFr := EK.refl H F0
 unfold fJ at hk
 refine sr (pA (.int _ _) (pg (AX (sr ?_))))
 refine pA (.int _ _) (pg (CE ?_))
 refine AJ (F := N6) (fun s S' => ∃ J G H1, EK H H1 F0 ∧ A8 H1 G [Ck F0 F0 s.1 [v0]] ∧ S' = ⟨Aq [(0, v0),(1, iv s.2.1),(5, iv s.2.2)] J, G⟩) hk ⟨_, _, _, hFr, hO, sh⟩ ?_
 rintro ⟨x1, x2, x3⟩ _ y1 ⟨J, G, H1, hFr, hO, rfl⟩ hk hx1
 refine AX (sr (pM (.int _ _) ?_))
 refine pM v0 ?_
 refine PC hO 0 HK ?_
 refine AR (pg (B1 hk ?_ ?_)) <;> intro hk
 ·refine B7 (gn (AX (CE (sr (pM v0 ?_)))))
  refine pM (.int _ _) ?_
  refine pM (.int _ _) (bk hk fun c4 hc4 hk => ?_)
  refine S6 hO 0 hc4 CT AS (fun b5 hb5 => ?_)
  refine pF Fi ?_
  refine U9 OS (y' := x2) hO 0 hb5 hc4 Ey (fun _ => ⟨rfl, rfl⟩) hFr hS rfl (fun H1 G hFr hO => ?_)
  have hc_6 := DO hc4 ({ c4 with A0 := x2 } : Ay)
  have hv_6 := FD (j := x3.toNat) (y := ({ c4 with A0 := x2 } : Ay)) hb5
  refine pg (sr (pM (.int _ _) ?_))
  refine AR ?_
  refine pA (.int _ _) (pg (sr ?_))
  refine pM v0 ?_
  refine pM (.int _ _) ?_
  refine pM (.int _ _) (bk hk fun c7 hc7 hk => ?_)
  refine S6 hO 0 hc7 CT AS (fun b8 hb8 => ?_)
  refine pF IN ?_
  refine U9 QA (y' := (AV (x2 + 1))) hO 0 hb8 hc7 Ey (fun _ => ⟨rfl, rfl⟩) hFr hS rfl (fun H1 G hFr hO => ?_)
  have hc_9 := DO hc7 ({ c7 with B9 := AV (x2 + 1) } : Ay)
  have hv_9 := FD (j := x3.toNat) (y := ({ c7 with B9 := AV (x2 + 1) } : Ay)) hb8
  refine pg (Da (pM (.int _ _) ?_))
  refine AR ?_
  refine pA (.int _ _) (pE (bn (gn (Da ?_))))
  refine pM (.int _ _) ?_
  refine AR ?_
  refine pA (.int _ _) (pg ?_)
  cases hk; exact ⟨_, rfl, _, _, _, hFr, hO, sh⟩
 refine Eo (ge (ge (be (gn (have hk := lx hx1 hk; sr (pM (.int _ _) ?_))))))
 refine pA (.int _ _) (pg (Ak ?_))
 replace hk := an hk; subst hk; exact Q8 hO 0 hFr hF
def My : ((List AO) × Int × Int) → Option (((List AO) × Int × Int) ⊕ (List AO × Int)) := fun s =>
 (bif decide (s.2.2 < (s.1.length : Int)) then ((Aa s.1 s.2.2).bind fun c4 => ((ZY (AV (s.2.1 + 1))).bind fun v7 => ((Aa (s.1.set s.2.2.toNat ({ c4 with Kind := s.2.1 })) s.2.2).bind fun c8 => ((Aa ((s.1.set s.2.2.toNat ({ c4 with Kind := s.2.1 })).set s.2.2.toNat ({ c8 with Name := v7 })) s.2.2).bind fun c11 => ((fJ c11.Ends (AV ((AV (s.2.1 + 1)) + 1))).bind fun z14 => some (.inl (((s.1.set s.2.2.toNat ({ c4 with Kind := s.2.1 })).set s.2.2.toNat ({ c8 with Name := v7 })).set s.2.2.toNat ({ c11 with Ends := z14.1 }), z14.2, AV (s.2.2 + 1)))))))) else ((some (s.1, s.2.1)).map Sum.inr))
def eL (aA0 : List AO) (aK1 : Int) : Option (List AO × Int) :=
 (AP (My) (aA0, aK1, (0:Int)))
theorem Y9 (hk : eL aA0 aK1 = some r) (ha : D5 H aA0 [v0] F0) (hF : ∀ b ∈ F0, b < H.length) (hS : ∀ b ∈ F0, AT lk b = true) (hlk : 0 < lk.length := by simp) : ∃ v H1, Ai ah hh 39 [v0, iv aK1] H lk = some (v, H1) ∧ v = iv r.2 ∧ D5 H1 r.1 [v0] F0 ∧ H1.length = H.length ∧ ∀ b, b ∉ F0 → H1[b]? = H[b]? := by
 refine BA Tryz.func39 rfl Tryz.ntmps39 Tryz.results39 rfl rfl ?_
 have hO := Dj ha hF
 have hFr := EK.refl H F0
 unfold eL at hk
 refine sr (pA (.int _ _) (pg (AX (sr ?_))))
 refine pA (.int _ _) (pg (CE ?_))
 refine AJ (F := My) (fun s S' => ∃ J G H1, EK H H1 F0 ∧ A8 H1 G [Ck F0 F0 s.1 [v0]] ∧ S' = ⟨Aq [(0, v0),(1, iv s.2.1),(5, iv s.2.2)] J, G⟩) hk ⟨_, _, _, hFr, hO, sh⟩ ?_
 rintro ⟨x1, x2, x3⟩ _ y1 ⟨J, G, H1, hFr, hO, rfl⟩ hk hx1
 refine AX (sr (pM (.int _ _) ?_))
 refine pM v0 ?_
 refine PC hO 0 K2 ?_
 refine AR (pg (B1 hk ?_ ?_)) <;> intro hk
 ·refine B7 (gn (AX (CE (sr (pM v0 ?_)))))
  refine pM (.int _ _) ?_
  refine pM (.int _ _) (bk hk fun c4 hc4 hk => ?_)
  refine S6 hO 0 hc4 Gq BL (fun b5 hb5 => ?_)
  refine pF DF ?_
  refine U9 NO (y' := x2) hO 0 hb5 hc4 Ey (fun _ => ⟨rfl, rfl⟩) hFr hS rfl (fun H1 G hFr hO => ?_)
  have hc_6 := DO hc4 ({ c4 with Kind := x2 } : AO)
  have hv_6 := FD (j := x3.toNat) (y := ({ c4 with Kind := x2 } : AO)) hb5
  refine pg (sr (pM (.int _ _) ?_))
  refine AR ?_
  refine pA (.int _ _) (pg (sr ?_))
  refine pM v0 ?_
  refine pM (.int _ _) ?_
  refine pM (.int _ _) (bk hk fun v7 hv7 hk => ?_)
  refine AL (fun _ => Tp hv7) (bk hk fun c8 hc8 hk => ?_)
  refine S6 hO 0 hc8 Gq BL (fun b9 hb9 => ?_)
  refine pF EY ?_
  refine U9 NP (y' := v7) hO 0 hb9 hc8 j9 (fun _ => ⟨rfl, rfl⟩) hFr hS rfl (fun H1 G hFr hO => ?_)
  have hc_10 := DO hc8 ({ c8 with Name := v7 } : AO)
  have hv_10 := FD (j := x3.toNat) (y := ({ c8 with Name := v7 } : AO)) hb9
  refine pg (sr (pM (.int _ _) ?_))
  refine AR ?_
  refine pA (.int _ _) (pg (Da ?_))
  refine pM v0 ?_
  refine pM (.int _ _) (bk hk fun c11 hc11 hk => ?_)
  refine S6 hO 0 hc11 Gq BL (fun b12 hb12 => ?_)
  refine pF Cu ?_
  refine lJ NN hO 0 hb12 hc11 FQ (fun u13 fs13 hs13 => ?_)
  refine pM (.int _ _) (bk hk fun z14 hz14 hk => ?_)
  refine dD (y' := z14.1) (r := iv z14.2) hO 0 hs13 (fun _ h => h) hFr hS (fun hF1 hS1 ht1 => Yc hz14 ht1 hF1 hS1) (fun H1 G hFr hO => ?_)
  refine pA (.int _ _) (pE (bn (gn (Da ?_))))
  refine pM (.int _ _) ?_
  refine AR ?_
  refine pA (.int _ _) (pg ?_)
  cases hk; exact ⟨_, rfl, _, _, _, hFr, hO, sh⟩
 refine Eo (ge (ge (be (gn (have hk := lx hx1 hk; sr (pM (.int _ _) ?_))))))
 refine pA (.int _ _) (pg (Ak ?_))
 replace hk := an hk; subst hk; exact Q8 hO 0 hFr hF
def dX (aA0 : Az) (aK1 : Int) : Option (Az × Int) :=
 ((eK aA0.A3 aK1).bind fun z3 => ((eL (({ aA0 with A3 := z3.1 }).A1) z3.2).bind fun z5 => some ({ { aA0 with A3 := z3.1 } with A1 := z5.1 }, z5.2)))
theorem Xo (hk : dX aA0 aK1 = some r) (ha : D5 H aA0 v0 F0) (hF : ∀ b ∈ F0, b < H.length) (hS : ∀ b ∈ F0, AT lk b = true) (hlk : 0 < lk.length := by simp) : ∃ v H1, Ai ah hh 15 [.agg v0, iv aK1] H lk = some (v, H1) ∧ v = iv r.2 ∧ D5 H1 r.1 v0 F0 ∧ H1.length = H.length ∧ ∀ b, b ∉ F0 → H1[b]? = H[b]? := by
 refine BA Tryz.func15 rfl Tryz.ntmps15 Tryz.results15 rfl rfl ?_
 have hO := Dj ha hF
 have hFr := EK.refl H F0
 unfold dX at hk
 refine sr (Wp hO 0 B2 (fun b1 G hO => ?_))
 refine pA (.int _ _) (pg (sr ?_))
 refine pF C0 ?_
 refine Wq NR hO 0 1 Ei (fun u2 fs2 hs2 => ?_)
 refine pM (.int _ _) (bk hk fun z3 hz3 hk => ?_)
 refine dD (y' := z3.1) (r := iv z3.2) hO 1 hs2 (fun _ h => h) hFr hS (fun hF1 hS1 ht1 => Y8 hz3 ht1 hF1 hS1) (fun H1 G hFr hO => ?_)
 refine pA (.int _ _) (pg (sr ?_))
 refine pF Cv ?_
 refine Wq NQ hO 0 1 Gj (fun u4 fs4 hs4 => ?_)
 refine pM (.int _ _) (bk hk fun z5 hz5 hk => ?_)
 refine dD (y' := z5.1) (r := iv z5.2) hO 1 hs4 (fun _ h => h) hFr hS (fun hF1 hS1 ht1 => Y9 hz5 ht1 hF1 hS1) (fun H1 G hFr hO => ?_)
 refine pA (.int _ _) (pg (sr ?_))
 refine pM (.int _ _) ?_
 refine pA (.int _ _) (pg (Ak ?_))
 replace hk := an hk; subst hk; exact Q8 hO 1 hFr hF
def Mo : ((List Int) × Int × Int) → Option (((List Int) × Int × Int) ⊕ (List Int × Int)) := fun s =>
 (bif decide (s.2.2 < (s.1.length : Int)) then ((Aa s.1 s.2.2).bind fun c4 => some (.inl (s.1.set s.2.2.toNat s.2.1, AV (s.2.1 + 1), AV (s.2.2 + 1)))) else ((some (s.1, s.2.1)).map Sum.inr))
def dY (aA0 : List Int) (aK1 : Int) : Option (List Int × Int) :=
 (AP (Mo) (aA0, aK1, (0:Int)))
theorem Xp (hk : dY aA0 aK1 = some r) (ha : D5 H aA0 [v0] F0) (hF : ∀ b ∈ F0, b < H.length) (hS : ∀ b ∈ F0, AT lk b = true) (hlk : 0 < lk.length := by simp) : ∃ v H1, Ai ah hh 16 [v0, iv aK1] H lk = some (v, H1) ∧ v = iv r.2 ∧ D5 H1 r.1 [v0] F0 ∧ H1.length = H.length ∧ ∀ b, b ∉ F0 → H1[b]? = H[b]? := by
 refine BA Tryz.func16 rfl Tryz.ntmps16 Tryz.results16 rfl rfl ?_
 have hO := Dj ha hF
 have hFr := EK.refl H F0
 unfold dY at hk
 refine sr (pA (.int _ _) (pg (AX (sr ?_))))
 refine pA (.int _ _) (pg (CE ?_))
 refine AJ (F := Mo) (fun s S' => ∃ J G H1, EK H H1 F0 ∧ A8 H1 G [Ck F0 F0 s.1 [v0]] ∧ S' = ⟨Aq [(0, v0),(1, iv s.2.1),(5, iv s.2.2)] J, G⟩) hk ⟨_, _, _, hFr, hO, sh⟩ ?_
 rintro ⟨x1, x2, x3⟩ _ y1 ⟨J, G, H1, hFr, hO, rfl⟩ hk hx1
 refine AX (sr (pM (.int _ _) ?_))
 refine pM v0 ?_
 refine PC hO 0 OJ ?_
 refine AR (pg (B1 hk ?_ ?_)) <;> intro hk
 ·refine B7 (gn (AX (CE (sr (pM v0 ?_)))))
  refine pM (.int _ _) ?_
  refine pM (.int _ _) (bk hk fun c4 hc4 hk => ?_)
  refine S6 hO 0 hc4 HV Ey (fun b5 hb5 => ?_)
  refine U9 (CJ.all (α := Int)) (y' := x2) hO 0 hb5 hc4 Ey (fun _ => ⟨rfl, rfl⟩) hFr hS rfl (fun H1 G hFr hO => ?_)
  have hc_6 := DO hc4 x2
  have hv_6 := FD (j := x3.toNat) (y := x2) hb5
  refine pg (Da (pM (.int _ _) ?_))
  refine AR ?_
  refine pA (.int _ _) (pE (bn (gn (Da ?_))))
  refine pM (.int _ _) ?_
  refine AR ?_
  refine pA (.int _ _) (pg ?_)
  cases hk; exact ⟨_, rfl, _, _, _, hFr, hO, sh⟩
 refine Eo (ge (ge (be (gn (have hk := lx hx1 hk; sr (pM (.int _ _) ?_))))))
 refine pA (.int _ _) (pg (Ak ?_))
 replace hk := an hk; subst hk; exact Q8 hO 0 hFr hF
def Mz : ((List AW) × Int × Int) → Option (((List AW) × Int × Int) ⊕ (List AW × Int)) := fun s =>
 (bif decide (s.2.2 < (s.1.length : Int)) then ((Aa s.1 s.2.2).bind fun c4 => ((Aa (s.1.set s.2.2.toNat ({ c4 with A0 := s.2.1 })) s.2.2).bind fun c7 => some (.inl ((s.1.set s.2.2.toNat ({ c4 with A0 := s.2.1 })).set s.2.2.toNat ({ c7 with Way := AV (s.2.1 + 1) }), AV ((AV (s.2.1 + 1)) + 1), AV (s.2.2 + 1))))) else ((some (s.1, s.2.1)).map Sum.inr))
def eM (aA0 : List AW) (aK1 : Int) : Option (List AW × Int) :=
 (AP (Mz) (aA0, aK1, (0:Int)))
theorem YA (hk : eM aA0 aK1 = some r) (ha : D5 H aA0 [v0] F0) (hF : ∀ b ∈ F0, b < H.length) (hS : ∀ b ∈ F0, AT lk b = true) (hlk : 0 < lk.length := by simp) : ∃ v H1, Ai ah hh 40 [v0, iv aK1] H lk = some (v, H1) ∧ v = iv r.2 ∧ D5 H1 r.1 [v0] F0 ∧ H1.length = H.length ∧ ∀ b, b ∉ F0 → H1[b]? = H[b]? := by
 refine BA Tryz.func40 rfl Tryz.ntmps40 Tryz.results40 rfl rfl ?_
 have hO := Dj ha hF
 have hFr := EK.refl H F0
 unfold eM at hk
 refine sr (pA (.int _ _) (pg (AX (sr ?_))))
 refine pA (.int _ _) (pg (CE ?_))
 refine AJ (F := Mz) (fun s S' => ∃ J G H1, EK H H1 F0 ∧ A8 H1 G [Ck F0 F0 s.1 [v0]] ∧ S' = ⟨Aq [(0, v0),(1, iv s.2.1),(5, iv s.2.2)] J, G⟩) hk ⟨_, _, _, hFr, hO, sh⟩ ?_
 rintro ⟨x1, x2, x3⟩ _ y1 ⟨J, G, H1, hFr, hO, rfl⟩ hk hx1
 refine AX (sr (pM (.int _ _) ?_))
 refine pM v0 ?_
 refine PC hO 0 K1 ?_
 refine AR (pg (B1 hk ?_ ?_)) <;> intro hk
 ·refine B7 (gn (AX (CE (sr (pM v0 ?_)))))
  refine pM (.int _ _) ?_
  refine pM (.int _ _) (bk hk fun c4 hc4 hk => ?_)
  refine S6 hO 0 hc4 GB BY (fun b5 hb5 => ?_)
  refine pF EG ?_
  refine U9 NU (y' := x2) hO 0 hb5 hc4 Ey (fun _ => ⟨rfl, rfl⟩) hFr hS rfl (fun H1 G hFr hO => ?_)
  have hc_6 := DO hc4 ({ c4 with A0 := x2 } : AW)
  have hv_6 := FD (j := x3.toNat) (y := ({ c4 with A0 := x2 } : AW)) hb5
  refine pg (sr (pM (.int _ _) ?_))
  refine AR ?_
  refine pA (.int _ _) (pg (sr ?_))
  refine pM v0 ?_
  refine pM (.int _ _) ?_
  refine pM (.int _ _) (bk hk fun c7 hc7 hk => ?_)
  refine S6 hO 0 hc7 GB BY (fun b8 hb8 => ?_)
  refine pF Ek ?_
  refine U9 QB (y' := (AV (x2 + 1))) hO 0 hb8 hc7 Ey (fun _ => ⟨rfl, rfl⟩) hFr hS rfl (fun H1 G hFr hO => ?_)
  have hc_9 := DO hc7 ({ c7 with Way := AV (x2 + 1) } : AW)
  have hv_9 := FD (j := x3.toNat) (y := ({ c7 with Way := AV (x2 + 1) } : AW)) hb8
  refine pg (Da (pM (.int _ _) ?_))
  refine AR ?_
  refine pA (.int _ _) (pE (bn (gn (Da ?_))))
  refine pM (.int _ _) ?_
  refine AR ?_
  refine pA (.int _ _) (pg ?_)
  cases hk; exact ⟨_, rfl, _, _, _, hFr, hO, sh⟩
 refine Eo (ge (ge (be (gn (have hk := lx hx1 hk; sr (pM (.int _ _) ?_))))))
 refine pA (.int _ _) (pg (Ak ?_))
 replace hk := an hk; subst hk; exact Q8 hO 0 hFr hF
def cS (aA0 : AB) (aK1 : Int) : Option (AB × Int) :=
 ((eM aA0.AF aK1).bind fun z3 => some ({ aA0 with AF := z3.1 }, z3.2))
theorem Te (hk : cS aA0 aK1 = some r) (ha : D5 H aA0 v0 F0) (hF : ∀ b ∈ F0, b < H.length) (hS : ∀ b ∈ F0, AT lk b = true) (hlk : 0 < lk.length := by simp) : ∃ v H1, Ai ah hh 17 [.agg v0, iv aK1] H lk = some (v, H1) ∧ v = iv r.2 ∧ D5 H1 r.1 v0 F0 ∧ H1.length = H.length ∧ ∀ b, b ∉ F0 → H1[b]? = H[b]? := by
 refine BA Tryz.func17 rfl Tryz.ntmps17 Tryz.results17 rfl rfl ?_
 have hO := Dj ha hF
 have hFr := EK.refl H F0
 unfold cS at hk
 refine sr (Wp hO 0 Bt (fun b1 G hO => ?_))
 refine pA (.int _ _) (pg (sr ?_))
 refine pF DD ?_
 refine Wq Io hO 0 1 IY (fun u2 fs2 hs2 => ?_)
 refine pM (.int _ _) (bk hk fun z3 hz3 hk => ?_)
 refine dD (y' := z3.1) (r := iv z3.2) hO 1 hs2 (fun _ h => h) hFr hS (fun hF1 hS1 ht1 => YA hz3 ht1 hF1 hS1) (fun H1 G hFr hO => ?_)
 refine pA (.int _ _) (pg (sr ?_))
 refine pM (.int _ _) ?_
 refine pA (.int _ _) (pg (Ak ?_))
 replace hk := an hk; subst hk; exact Q8 hO 1 hFr hF
def N0 : ((List BD) × Int × Int) → Option (((List BD) × Int × Int) ⊕ (List BD × Int)) := fun s =>
 (bif decide (s.2.2 < (s.1.length : Int)) then ((Aa s.1 s.2.2).bind fun c4 => ((Aa (s.1.set s.2.2.toNat ({ c4 with A0 := s.2.1 })) s.2.2).bind fun c7 => ((Aa ((s.1.set s.2.2.toNat ({ c4 with A0 := s.2.1 })).set s.2.2.toNat ({ c7 with GV := AV (s.2.1 + 1) })) s.2.2).bind fun c10 => some (.inl (((s.1.set s.2.2.toNat ({ c4 with A0 := s.2.1 })).set s.2.2.toNat ({ c7 with GV := AV (s.2.1 + 1) })).set s.2.2.toNat ({ c10 with To := AV ((AV (s.2.1 + 1)) + 1) }), AV ((AV ((AV (s.2.1 + 1)) + 1)) + 1), AV (s.2.2 + 1)))))) else ((some (s.1, s.2.1)).map Sum.inr))
def eN (aA0 : List BD) (aK1 : Int) : Option (List BD × Int) :=
 (AP (N0) (aA0, aK1, (0:Int)))
theorem YB (hk : eN aA0 aK1 = some r) (ha : D5 H aA0 [v0] F0) (hF : ∀ b ∈ F0, b < H.length) (hS : ∀ b ∈ F0, AT lk b = true) (hlk : 0 < lk.length := by simp) : ∃ v H1, Ai ah hh 41 [v0, iv aK1] H lk = some (v, H1) ∧ v = iv r.2 ∧ D5 H1 r.1 [v0] F0 ∧ H1.length = H.length ∧ ∀ b, b ∉ F0 → H1[b]? = H[b]? := by
 refine BA Tryz.func41 rfl Tryz.ntmps41 Tryz.results41 rfl rfl ?_
 have hO := Dj ha hF
 have hFr := EK.refl H F0
 unfold eN at hk
 refine sr (pA (.int _ _) (pg (AX (sr ?_))))
 refine pA (.int _ _) (pg (CE ?_))
 refine AJ (F := N0) (fun s S' => ∃ J G H1, EK H H1 F0 ∧ A8 H1 G [Ck F0 F0 s.1 [v0]] ∧ S' = ⟨Aq [(0, v0),(1, iv s.2.1),(5, iv s.2.2)] J, G⟩) hk ⟨_, _, _, hFr, hO, sh⟩ ?_
 rintro ⟨x1, x2, x3⟩ _ y1 ⟨J, G, H1, hFr, hO, rfl⟩ hk hx1
 refine AX (sr (pM (.int _ _) ?_))
 refine pM v0 ?_
 refine PC hO 0 XE ?_
 refine AR (pg (B1 hk ?_ ?_)) <;> intro hk
 ·refine B7 (gn (AX (CE (sr (pM v0 ?_)))))
  refine pM (.int _ _) ?_
  refine pM (.int _ _) (bk hk fun c4 hc4 hk => ?_)
  refine S6 hO 0 hc4 Kg Gr (fun b5 hb5 => ?_)
  refine pF Qg ?_
  refine U9 NS (y' := x2) hO 0 hb5 hc4 Ey (fun _ => ⟨rfl, rfl⟩) hFr hS rfl (fun H1 G hFr hO => ?_)
  have hc_6 := DO hc4 ({ c4 with A0 := x2 } : BD)
  have hv_6 := FD (j := x3.toNat) (y := ({ c4 with A0 := x2 } : BD)) hb5
  refine pg (sr (pM (.int _ _) ?_))
  refine AR ?_
  refine pA (.int _ _) (pg (sr ?_))
  refine pM v0 ?_
  refine pM (.int _ _) ?_
  refine pM (.int _ _) (bk hk fun c7 hc7 hk => ?_)
  refine S6 hO 0 hc7 Kg Gr (fun b8 hb8 => ?_)
  refine pF Qh ?_
  refine U9 OT (y' := (AV (x2 + 1))) hO 0 hb8 hc7 Ey (fun _ => ⟨rfl, rfl⟩) hFr hS rfl (fun H1 G hFr hO => ?_)
  have hc_9 := DO hc7 ({ c7 with GV := AV (x2 + 1) } : BD)
  have hv_9 := FD (j := x3.toNat) (y := ({ c7 with GV := AV (x2 + 1) } : BD)) hb8
  refine pg (sr (pM (.int _ _) ?_))
  refine AR ?_
  refine pA (.int _ _) (pg (sr ?_))
  refine pM v0 ?_
  refine pM (.int _ _) ?_
  refine pM (.int _ _) (bk hk fun c10 hc10 hk => ?_)
  refine S6 hO 0 hc10 Kg Gr (fun b11 hb11 => ?_)
  refine pF Qi ?_
  refine U9 RD (y' := (AV ((AV (x2 + 1)) + 1))) hO 0 hb11 hc10 Ey (fun _ => ⟨rfl, rfl⟩) hFr hS rfl (fun H1 G hFr hO => ?_)
  have hc_12 := DO hc10 ({ c10 with To := AV ((AV (x2 + 1)) + 1) } : BD)
  have hv_12 := FD (j := x3.toNat) (y := ({ c10 with To := AV ((AV (x2 + 1)) + 1) } : BD)) hb11
  refine pg (Da (pM (.int _ _) ?_))
  refine AR ?_
  refine pA (.int _ _) (pE (bn (gn (Da ?_))))
  refine pM (.int _ _) ?_
  refine AR ?_
  refine pA (.int _ _) (pg ?_)
  cases hk; exact ⟨_, rfl, _, _, _, hFr, hO, sh⟩
 refine Eo (ge (ge (be (gn (have hk := lx hx1 hk; sr (pM (.int _ _) ?_))))))
 refine pA (.int _ _) (pg (Ak ?_))
 replace hk := an hk; subst hk; exact Q8 hO 0 hFr hF
def dZ (aA0 : BF) (aK1 : Int) : Option (BF × Int) :=
 ((cS aA0.AB aK1).bind fun z3 => ((eN (({ aA0 with AB := z3.1 }).Dp) z3.2).bind fun z5 => some ({ { aA0 with AB := z3.1 } with Dp := z5.1 }, z5.2)))
theorem Xq (hk : dZ aA0 aK1 = some r) (ha : D5 H aA0 v0 F0) (hF : ∀ b ∈ F0, b < H.length) (hS : ∀ b ∈ F0, AT lk b = true) (hlk : 0 < lk.length := by simp) : ∃ v H1, Ai ah hh 18 [.agg v0, iv aK1] H lk = some (v, H1) ∧ v = iv r.2 ∧ D5 H1 r.1 v0 F0 ∧ H1.length = H.length ∧ ∀ b, b ∉ F0 → H1[b]? = H[b]? := by
 refine BA Tryz.func18 rfl Tryz.ntmps18 Tryz.results18 rfl rfl ?_
 have hO := Dj ha hF
 have hFr := EK.refl H F0
 unfold dZ at hk
 refine sr (Wp hO 0 Cc (fun b1 G hO => ?_))
 refine pA (.int _ _) (pg (sr ?_))
 refine pF DE ?_
 refine jW L5 hO 0 1 Eh Bt (fun u2 fs2 hs2 => ?_)
 refine pM (.int _ _) (bk hk fun z3 hz3 hk => ?_)
 refine dD (y' := z3.1) (r := iv z3.2) hO 1 hs2 (fun _ h => h) hFr hS (fun hF1 hS1 ht1 => Te hz3 ht1 hF1 hS1) (fun H1 G hFr hO => ?_)
 refine pA (.int _ _) (pg (sr ?_))
 refine pF JA ?_
 refine Wq M4 hO 0 1 VO (fun u4 fs4 hs4 => ?_)
 refine pM (.int _ _) (bk hk fun z5 hz5 hk => ?_)
 refine dD (y' := z5.1) (r := iv z5.2) hO 1 hs4 (fun _ h => h) hFr hS (fun hF1 hS1 ht1 => YB hz5 ht1 hF1 hS1) (fun H1 G hFr hO => ?_)
 refine pA (.int _ _) (pg (sr ?_))
 refine pM (.int _ _) ?_
 refine pA (.int _ _) (pg (Ak ?_))
 replace hk := an hk; subst hk; exact Q8 hO 1 hFr hF
def N7 (aA0 : List AW) : (Int × Int) → Option ((Int × Int) ⊕ Int) := fun s =>
 (bif decide (s.2 < (aA0.length : Int)) then ((Aa aA0 s.2).bind fun c3 => (bif (c3.A0 != s.1) then ((some (-1:Int)).map Sum.inr) else ((Aa aA0 s.2).bind fun c4 => (bif (c4.Way != (AV (s.1 + 1))) then ((some (-1:Int)).map Sum.inr) else some (.inl (AV ((AV (s.1 + 1)) + 1), AV (s.2 + 1))))))) else ((some s.1).map Sum.inr))
def fK (aA0 : List AW) (aK1 : Int) : Option Int :=
 (AP (N7 aA0) (aK1, (0:Int)))
theorem Yd (hk : fK aA0 aK1 = some r) (hlk : 0 < lk.length := by simp) : Ai ah hh 83 [A7 l1 0 aA0, iv aK1] H lk = some (iv r, H) := by
 refine AA Tryz.func83 rfl Tryz.ntmps83 Tryz.results83 rfl rfl fun hO => ?_
 unfold fK at hk
 refine sr (pA (.int _ _) (pg (AX (sr ?_))))
 refine pA (.int _ _) (pg (CE ?_))
 refine AJ (F := N7 aA0) (fun s S' => ∃ J G, A8 H G [] ∧ S' = ⟨Aq [(0, A7 l1 0 aA0),(1, iv s.1),(5, iv s.2)] J, G⟩) hk ⟨_, _, hO, sh⟩ ?_
 rintro ⟨x1, x2⟩ _ y1 ⟨J, G, hO, rfl⟩ hk hx1
 refine AX (sr (pM (.int _ _) ?_))
 refine pM (.lit _ _ _) ?_
 refine BC K1 ?_
 refine AR (pg (B1 hk ?_ ?_)) <;> intro hk
 ·refine B7 (gn (AX (CE (AX (sr (pM (.lit _ _ _) ?_))))))
  refine pM (.int _ _) (bk hk fun c3 hc3 hk => ?_)
  refine pX hc3 GB BY ?_
  refine pF EG ?_
  refine DG (.int _ _) (IU (lm := 0) (off := 0) hc3 B5) ?_
  refine pM (.int _ _) ?_
  refine AR (pg (B1 hk ?_ ?_)) <;> intro hk
  ·refine sr (pA (.int _ _) (pg (Ak (gr (br (gr (gr (br (gr (have hk := lx hx1 hk; ?_))))))))))
   cases hk; exact AU hO
  refine B7 (gn (sr (pM (.int _ _) ?_)))
  refine AR ?_
  refine pA (.int _ _) (pg (AX (sr ?_)))
  refine pM (.lit _ _ _) ?_
  refine pM (.int _ _) (bk hk fun c4 hc4 hk => ?_)
  refine pX hc4 GB BY ?_
  refine pF Ek ?_
  refine DG (.int _ _) (IU (lm := 0) (off := 1) hc4 B5) ?_
  refine pM (.int _ _) ?_
  refine AR (pg (B1 hk ?_ ?_)) <;> intro hk
  ·refine sr (pA (.int _ _) (pg (Ak (gr (br (gr (gr (br (gr (have hk := lx hx1 hk; ?_))))))))))
   cases hk; exact AU hO
  refine B7 (gn (Da (pM (.int _ _) ?_)))
  refine AR ?_
  refine pA (.int _ _) (pE (bn (gn (Da ?_))))
  refine pM (.int _ _) ?_
  refine AR ?_
  refine pA (.int _ _) (pg ?_)
  cases hk; exact ⟨_, rfl, _, _, hO, sh⟩
 refine Eo (ge (ge (be (gn (have hk := lx hx1 hk; sr (pM (.int _ _) ?_))))))
 refine pA (.int _ _) (pg (Ak ?_))
 cases hk; exact AU hO
def eO (aA0 : AB) (aK1 : Int) : Option Int :=
 ((fK aA0.AF aK1).bind fun v2 => (bif decide (v2 < 0) then some (-1:Int) else some v2))
theorem YC (hk : eO aA0 aK1 = some r) (hlk : 0 < lk.length := by simp) : Ai ah hh 42 [.agg [iv aA0.A5.A0, iv aA0.A5.At, iv aA0.A5.Way, iv aA0.AI, A7 l1 0 aA0.AF], iv aK1] H lk = some (iv r, H) := by
 refine AA Tryz.func42 rfl Tryz.ntmps42 Tryz.results42 rfl rfl fun hO => ?_
 unfold eO at hk
 refine sr (Ax (cs := [_, _, _, _, _]) hO Bt (fun b1 G hO => ?_))
 refine pA (.int _ _) (pg (sr ?_))
 refine Ao DD hO 0 (.lit _ _ _) IY ?_
 refine pM (.int _ _) (bk hk fun v2 hv2 hk => ?_)
 refine AL (fun _ => Yd hv2) ?_
 refine pA (.int _ _) (pg (AX (sr ?_)))
 refine pM (.int _ _) ?_
 refine AR (pg (B1 hk ?_ ?_)) <;> intro hk
 ·refine sr (pA (.int _ _) (pg (Ak (gr ?_))))
  cases hk; exact AU hO
 refine B7 (gn (sr (pM (.int _ _) ?_)))
 refine pA (.int _ _) (pg (Ak ?_))
 cases hk; exact AU hO
def N1 (aA0 : List BD) : (Int × Int) → Option ((Int × Int) ⊕ Int) := fun s =>
 (bif decide (s.2 < (aA0.length : Int)) then ((Aa aA0 s.2).bind fun c3 => (bif (c3.A0 != s.1) then ((some (-1:Int)).map Sum.inr) else ((Aa aA0 s.2).bind fun c4 => (bif (c4.GV != (AV (s.1 + 1))) then ((some (-1:Int)).map Sum.inr) else ((Aa aA0 s.2).bind fun c5 => (bif (c5.To != (AV ((AV (s.1 + 1)) + 1))) then ((some (-1:Int)).map Sum.inr) else some (.inl (AV ((AV ((AV (s.1 + 1)) + 1)) + 1), AV (s.2 + 1))))))))) else ((some s.1).map Sum.inr))
def eP (aA0 : List BD) (aK1 : Int) : Option Int :=
 (AP (N1 aA0) (aK1, (0:Int)))
theorem YD (hk : eP aA0 aK1 = some r) (hlk : 0 < lk.length := by simp) : Ai ah hh 43 [A7 l1 0 aA0, iv aK1] H lk = some (iv r, H) := by
 refine AA Tryz.func43 rfl Tryz.ntmps43 Tryz.results43 rfl rfl fun hO => ?_
 unfold eP at hk
 refine sr (pA (.int _ _) (pg (AX (sr ?_))))
 refine pA (.int _ _) (pg (CE ?_))
 refine AJ (F := N1 aA0) (fun s S' => ∃ J G, A8 H G [] ∧ S' = ⟨Aq [(0, A7 l1 0 aA0),(1, iv s.1),(5, iv s.2)] J, G⟩) hk ⟨_, _, hO, sh⟩ ?_
 rintro ⟨x1, x2⟩ _ y1 ⟨J, G, hO, rfl⟩ hk hx1
 refine AX (sr (pM (.int _ _) ?_))
 refine pM (.lit _ _ _) ?_
 refine BC XE ?_
 refine AR (pg (B1 hk ?_ ?_)) <;> intro hk
 ·refine B7 (gn (AX (CE (AX (sr (pM (.lit _ _ _) ?_))))))
  refine pM (.int _ _) (bk hk fun c3 hc3 hk => ?_)
  refine pX hc3 Kg Gr ?_
  refine pF Qg ?_
  refine DG (.int _ _) (IU (lm := 0) (off := 0) hc3 B5) ?_
  refine pM (.int _ _) ?_
  refine AR (pg (B1 hk ?_ ?_)) <;> intro hk
  ·refine sr (pA (.int _ _) (pg (Ak (gr (br (gr (gr (br (gr (have hk := lx hx1 hk; ?_))))))))))
   cases hk; exact AU hO
  refine B7 (gn (sr (pM (.int _ _) ?_)))
  refine AR ?_
  refine pA (.int _ _) (pg (AX (sr ?_)))
  refine pM (.lit _ _ _) ?_
  refine pM (.int _ _) (bk hk fun c4 hc4 hk => ?_)
  refine pX hc4 Kg Gr ?_
  refine pF Qh ?_
  refine DG (.int _ _) (IU (lm := 0) (off := 1) hc4 B5) ?_
  refine pM (.int _ _) ?_
  refine AR (pg (B1 hk ?_ ?_)) <;> intro hk
  ·refine sr (pA (.int _ _) (pg (Ak (gr (br (gr (gr (br (gr (have hk := lx hx1 hk; ?_))))))))))
   cases hk; exact AU hO
  refine B7 (gn (sr (pM (.int _ _) ?_)))
  refine AR ?_
  refine pA (.int _ _) (pg (AX (sr ?_)))
  refine pM (.lit _ _ _) ?_
  refine pM (.int _ _) (bk hk fun c5 hc5 hk => ?_)
  refine pX hc5 Kg Gr ?_
  refine pF Qi ?_
  refine DG (.int _ _) (IU (lm := 0) (off := 2) hc5 B5) ?_
  refine pM (.int _ _) ?_
  refine AR (pg (B1 hk ?_ ?_)) <;> intro hk
  ·refine sr (pA (.int _ _) (pg (Ak (gr (br (gr (gr (br (gr (have hk := lx hx1 hk; ?_))))))))))
   cases hk; exact AU hO
  refine B7 (gn (Da (pM (.int _ _) ?_)))
  refine AR ?_
  refine pA (.int _ _) (pE (bn (gn (Da ?_))))
  refine pM (.int _ _) ?_
  refine AR ?_
  refine pA (.int _ _) (pg ?_)
  cases hk; exact ⟨_, rfl, _, _, hO, sh⟩
 refine Eo (ge (ge (be (gn (have hk := lx hx1 hk; sr (pM (.int _ _) ?_))))))
 refine pA (.int _ _) (pg (Ak ?_))
 cases hk; exact AU hO
def cT (aA0 : BF) (aK1 : Int) : Option Int :=
 ((eO aA0.AB aK1).bind fun v2 => (bif decide (v2 < 0) then some (-1:Int) else ((eP aA0.Dp v2).bind fun v3 => (bif decide (v3 < 0) then some (-1:Int) else some v3))))
theorem Tf (hk : cT aA0 aK1 = some r) (hlk : 0 < lk.length := by simp) : Ai ah hh 19 [.agg [iv aA0.Code, iv aA0.MT, iv aA0.AO, iv aA0.AB.A5.A0, iv aA0.AB.A5.At, iv aA0.AB.A5.Way, iv aA0.AB.AI, A7 l1 0 aA0.AB.AF, A7 l2 0 aA0.Dp], iv aK1] H lk = some (iv r, H) := by
 refine AA Tryz.func19 rfl Tryz.ntmps19 Tryz.results19 rfl rfl fun hO => ?_
 unfold cT at hk
 refine sr (Ax (cs := [_, _, _, _, _, _, _, _, _]) hO Cc (fun b1 G hO => ?_))
 refine pA (.int _ _) (pg (sr ?_))
 refine pF DE ?_
 refine Bj hO 0 [_, _, _, _, _] Eh Bt ?_
 refine pM (.int _ _) (bk hk fun v2 hv2 hk => ?_)
 refine AL (fun _ => YC hv2) ?_
 refine pA (.int _ _) (pg (AX (sr ?_)))
 refine pM (.int _ _) ?_
 refine AR (pg (B1 hk ?_ ?_)) <;> intro hk
 ·refine sr (pA (.int _ _) (pg (Ak (gr ?_))))
  cases hk; exact AU hO
 refine B7 (gn (sr (Ao JA hO 0 (.lit _ _ _) VO ?_)))
 refine pM (.int _ _) (bk hk fun v3 hv3 hk => ?_)
 refine AL (fun _ => YD hv3) ?_
 refine pA (.int _ _) (pg (AX (sr ?_)))
 refine pM (.int _ _) ?_
 refine AR (pg (B1 hk ?_ ?_)) <;> intro hk
 ·refine sr (pA (.int _ _) (pg (Ak (gr ?_))))
  cases hk; exact AU hO
 refine B7 (gn (sr (pM (.int _ _) ?_)))
 refine pA (.int _ _) (pg (Ak ?_))
 cases hk; exact AU hO
def f3 (aAN0 : Az) (aALies1 : List Int) (aAT2 : AB) (aAFar3 : Int) : Option Bool :=
 (bif decide ((aALies1.length : Int) > 1048576) then some true else ((f4 aAN0 (1048576:Int)).bind fun v3 => (bif decide (v3 < 0) then some true else ((f5 aAT2 v3).bind fun v4 => (bif decide (v4 < 0) then some true else ((f7 aAN0).bind fun v5 => ((f8 aALies1).bind fun v7 => ((f9 aAT2).bind fun v9 => ((f6 v5 v7 v9 aAFar3).bind fun v11 => ((f7 aAN0).bind fun v17 => ((f8 aALies1).bind fun v20 => ((f9 aAT2).bind fun v22 => ((cQ v17 v20 v22 aAFar3).bind fun v25 => ((Zu v25 v11).bind fun v31 => (bif !v31 then some false else ((f7 aAN0).bind fun v34 => ((dV v17 v34).bind fun v36 => (bif !v36 then some false else ((f8 aALies1).bind fun v39 => ((dW v20 v39).bind fun v41 => (bif !v41 then some false else ((f9 aAT2).bind fun v44 => ((cR v22 v44).bind fun v46 => (bif !v46 then some false else ((dX v17 (1:Int)).bind fun z49 => ((dY v20 z49.2).bind fun z50 => ((cS v22 z50.2).bind fun z51 => ((bif decide (z51.2 < 0) then some true else ((Zu v25 v11).bind fun v53 => some (!v53))).bind fun t52 => (bif t52 then some false else ((dZ v25 (1:Int)).bind fun z56 => ((cT z56.1 (1:Int)).bind fun v57 => (bif decide (v57 < 0) then some false else (bif (v57 != z56.2) then some false else ((f7 aAN0).bind fun v59 => ((f8 aALies1).bind fun v61 => ((f9 aAT2).bind fun v63 => ((cQ v59 v61 v63 aAFar3).bind fun v65 => ((Zu v65 v11).bind fun v71 => (bif !v71 then some false else ((cT z56.1 (1:Int)).bind fun v74 => (bif decide (v74 < 0) then some false else (bif (v74 != z56.2) then some false else some true))))))))))))))))))))))))))))))))))))))))))
theorem aH (hk : f3 aAN0 aALies1 aAT2 aAFar3 = some r) (hlk : 0 < lk.length := by simp) (hlo : OQ lk H.length := by simp [OQ]) : Ai ah hh 3 [.agg [A7 l1 0 aAN0.A3, A7 l2 m3 aAN0.A1], A7 l4 0 aALies1, .agg [iv aAT2.A5.A0, iv aAT2.A5.At, iv aAT2.A5.Way, iv aAT2.AI, A7 l5 0 aAT2.AF], iv aAFar3] H lk = some (.bool r, H) := by
 refine AA Tryz.func3 rfl Tryz.ntmps3 Tryz.results3 rfl rfl fun hO => ?_
 unfold f3 at hk
 refine sr (Ax (cs := [_, _]) hO Rt (fun b1 G hO => ?_))
 refine Ax (cs := [_, _, _, _, _]) hO Ru (fun b2 G hO => ?_)
 refine pA (.bool _) (pg (AX (sr ?_)))
 refine pM (.lit _ _ _) ?_
 refine BC OJ ?_
 refine AR (pg (B1 hk ?_ ?_)) <;> intro hk
 ·refine sr (pA (.bool _) (pg (Ak (gr ?_))))
  cases hk; exact AU hO
 refine B7 (gn (sr (pA (.int _ _) (pg (sr ?_)))))
 refine Bj hO 1 [_, _] X5 Rt ?_
 refine pM (.int _ _) (bk hk fun v3 hv3 hk => ?_)
 refine AL (fun _ => aK hv3) ?_
 refine pA (.int _ _) (pg (AX (sr ?_)))
 refine pM (.int _ _) ?_
 refine AR (pg (B1 hk ?_ ?_)) <;> intro hk
 ·refine sr (pA (.bool _) (pg (Ak (gr ?_))))
  cases hk; exact AU hO
 refine B7 (gn (sr (Bj hO 0 [_, _, _, _, _] X6 Ru ?_)))
 refine pM (.int _ _) (bk hk fun v4 hv4 hk => ?_)
 refine AL (fun _ => aP hv4) ?_
 refine pA (.int _ _) (pg (AX (sr ?_)))
 refine pM (.int _ _) ?_
 refine AR (pg (B1 hk ?_ ?_)) <;> intro hk
 ·refine sr (pA (.bool _) (pg (Ak (gr ?_))))
  cases hk; exact AU hO
 refine B7 (gn (AX (Hz [1,5,9,13,3,7,10,14,17,18] [_,_,_,_,_,_,_,_,_,_] ?_)))
 refine Bj hO 1 [_, _] X5 Rt ?_
 refine pM (.lit _ _ _) ?_
 refine Bj hO 0 [_, _, _, _, _] X6 Ru ?_
 refine pM (.int _ _) (bk hk fun v5 hv5 hk => ?_)
 refine IW hO (fun _ => Pv hv5) (fun u6 F6 G hO => bk hk fun v7 hv7 hk => ?_)
 refine Zd hO (fun _ => Q0 hv7) (fun u8 F8 G hO => bk hk fun v9 hv9 hk => ?_)
 refine IW hO (fun _ => Q7 hv9) (fun u10 F10 G hO => bk hk fun v11 hv11 hk => ?_)
 obtain ⟨_, hm12⟩ := Nu hO (j := 2) rfl (lk.length + 1) 7
 obtain ⟨_, hm13⟩ := Np hO (j := 1) rfl (lk.length + 1) 8
 obtain ⟨_, hm14⟩ := Is hO (j := 0) rfl (lk.length + 1) 7
 refine IW (vs := [(.agg u6), u8, (.agg u10), (.int _ _)]) (caps := []) hO (fun _ => aU hv11) (fun u15 F15 G hO => ?_) (h3 := (BB hm12 (BB hm13 (BB hm14 (BB rfl Eg)))))
 refine Bd hO Cc LX (fun b16 G hO => Ri hO 0 1 Cc rfl (fun G hO => pg (sr ?_)))
 refine Bj hO 6 [_, _] X5 Rt (bk hk fun v17 hv17 hk => ?_)
 refine IW hO (fun _ => Pv hv17) (fun u18 F18 G hO => Bd hO B2 bX (fun b19 G hO => ?_))
 refine Ri hO 0 1 B2 rfl (fun G hO => pg (sr ?_))
 refine pM (.lit _ _ _) (bk hk fun v20 hv20 hk => ?_)
 refine Zd hO (fun _ => Q0 hv20) (fun u21 F21 G hO => ?_)
 refine pA u21 (pg (sr ?_))
 refine Bj hO 8 [_, _, _, _, _] X6 Ru (bk hk fun v22 hv22 hk => ?_)
 refine IW hO (fun _ => Q7 hv22) (fun u23 F23 G hO => Bd hO Bt Qf (fun b24 G hO => ?_))
 refine Ri hO 0 1 Bt rfl (fun G hO => pg (sr ?_))
 refine Ju hO 3 4 CL B2 ?_
 refine pM u21 ?_
 refine Ju hO 0 1 Eh Bt ?_
 refine pM (.int _ _) (bk hk fun v25 hv25 hk => ?_)
 obtain ⟨_, hm26⟩ := Nu hO (j := 4) rfl (lk.length + 1) 7
 obtain ⟨_, hm27⟩ := Np hO (j := 2) rfl (lk.length + 1) 8
 obtain ⟨_, hm28⟩ := Is hO (j := 1) rfl (lk.length + 1) 7
 refine IW (vs := [(.agg u18), u21, (.agg u23), (.int _ _)]) (caps := []) hO (fun _ => Tc hv25) (fun u29 F29 G hO => ?_) (h3 := (BB hm26 (BB hm27 (BB hm28 (BB rfl Eg)))))
 refine Bd hO Cc LX (fun b30 G hO => Ri hO 0 1 Cc rfl (fun G hO => pg (AX (sr ?_))))
 refine Ju hO 0 1 GA Cc ?_
 refine Ju hO 7 8 GA Cc (bk hk fun v31 hv31 hk => ?_)
 obtain ⟨_, hm32⟩ := Er hO (j := 1) rfl (lk.length + 1) 7
 obtain ⟨_, hm33⟩ := Er hO (j := 8) rfl (lk.length + 1) 7
 refine AL (vs := [(.agg u29), (.agg u15)]) (caps := []) (fun _ => Pk hv31) ?_ (h3 := (BB hm32 (BB hm33 Eg)))
 refine pU (pg (B1 hk ?_ ?_)) <;> intro hk
 ·refine sr (pA (.bool _) (pg (Ak (gr ?_))))
  cases hk; exact AU hO
 refine B7 (gn (AX (AX (Hz [1,3,5,6,8] [_,_,_,_,_] ?_))))
 refine Ju hO 5 6 CL B2 ?_
 refine Bj hO 13 [_, _] X5 Rt (bk hk fun v34 hv34 hk => ?_)
 refine IW hO (fun _ => Pv hv34) (fun u35 F35 G hO => bk hk fun v36 hv36 hk => ?_)
 obtain ⟨_, hm37⟩ := Nu hO (j := 7) rfl (lk.length + 1) 7
 obtain ⟨_, hm38⟩ := Nu hO (j := 0) rfl (lk.length + 1) 7
 refine AL (vs := [(.agg u18), (.agg u35)]) (caps := []) (fun _ => Xm hv36) ?_ (h3 := (BB hm37 (BB hm38 Eg)))
 refine pU (pg (B1 hk ?_ ?_)) <;> intro hk
 ·refine sr (pA (.bool _) (pg (Ak (gr ?_))))
  cases hk; exact AU hO
 refine B7 (gn (AX (sr (pM u21 ?_))))
 refine pM (.lit _ _ _) (bk hk fun v39 hv39 hk => ?_)
 refine Zd hO (fun _ => Q0 hv39) (fun u40 F40 G hO => bk hk fun v41 hv41 hk => ?_)
 obtain ⟨_, hm42⟩ := Np hO (j := 6) rfl (lk.length + 1) 8
 obtain ⟨_, hm43⟩ := Np hO (j := 0) rfl (lk.length + 1) 8
 refine AL (vs := [u21, u40]) (caps := []) (fun _ => Xn hv41) ?_ (h3 := (BB hm42 (BB hm43 Eg)))
 refine pU (pg (B1 hk ?_ ?_)) <;> intro hk
 ·refine sr (pA (.bool _) (pg (Ak (gr ?_))))
  cases hk; exact AU hO
 refine B7 (gn (AX (AX (Hz [1,3,5,6,8] [_,_,_,_,_] ?_))))
 refine Ju hO 4 5 Eh Bt ?_
 refine Bj hO 14 [_, _, _, _, _] X6 Ru (bk hk fun v44 hv44 hk => ?_)
 refine IW hO (fun _ => Q7 hv44) (fun u45 F45 G hO => bk hk fun v46 hv46 hk => ?_)
 obtain ⟨_, hm47⟩ := Is hO (j := 6) rfl (lk.length + 1) 7
 obtain ⟨_, hm48⟩ := Is hO (j := 0) rfl (lk.length + 1) 7
 refine AL (vs := [(.agg u23), (.agg u45)]) (caps := []) (fun _ => Td hv46) ?_ (h3 := (BB hm47 (BB hm48 Eg)))
 refine pU (pg (B1 hk ?_ ?_)) <;> intro hk
 ·refine sr (pA (.bool _) (pg (Ak (gr ?_))))
  cases hk; exact AU hO
 refine B7 (gn (sr (pA (.int _ _) (pg (sr ?_)))))
 refine Ju hO 8 9 CL B2 ?_
 refine pM (.int _ _) (bk hk fun z49 hz49 hk => ?_)
 refine Z3 (y' := z49.1) (r := iv z49.2) hO 9 (TW.all hO (j := 9) rfl) hlo (fun hF1 hS1 ht1 => Xo hz49 ht1 hF1 hS1) (fun G hO => ?_)
 refine pA (.int _ _) (pg (sr ?_))
 refine pM u21 ?_
 refine pM (.int _ _) (bk hk fun z50 hz50 hk => ?_)
 refine Z3 (y' := z50.1) (r := iv z50.2) hO 7 (TW.all hO (j := 7) rfl) hlo (fun hF1 hS1 ht1 => Xp hz50 ht1 hF1 hS1) (fun G hO => ?_)
 refine pA (.int _ _) (pg (sr ?_))
 refine Ju hO 5 6 Eh Bt ?_
 refine pM (.int _ _) (bk hk fun z51 hz51 hk => ?_)
 refine Z3 (y' := z51.1) (r := iv z51.2) hO 6 (TW.all hO (j := 6) rfl) hlo (fun hF1 hS1 ht1 => Te hz51 ht1 hF1 hS1) (fun G hO => ?_)
 refine pA (.int _ _) (pg (AX (sr ?_)))
 refine pM (.int _ _) ?_
 refine AR ?_
 refine pM (.bool _) (bk hk fun t52 ht hk => ?_)
 refine AQ (l1 := [_, _, _, _, _]) (fun S' => ∃ J, S' = ⟨Aq [(1, A7 l4 0 aALies1),(3, iv aAFar3),(4, .ptr b1 0),(6, .ptr b2 0),(10, .ptr b16 0),(14, .ptr b30 0),(86, .bool t52)] J, G⟩) ?_ ?_
 ·refine bc (b := decide (z51.2 < 0)) ?_ ?_ <;> intro hg
  ·replace hk := ct hg ht
   repeat refine Bu hg ?_
   refine EJ hg (.bool _) ?_
   cases hk; exact pE ⟨_, sh⟩
  replace hk := cf hg ht
  refine Ae hg (Ju hO 3 4 GA Cc (Ae hg ?_))
  refine Ju hO 10 11 GA Cc (Ae hg (bk hk fun v53 hv53 hk => ?_))
  obtain ⟨_, hm54⟩ := Er hO (j := 4) rfl (lk.length + 1) 7
  obtain ⟨_, hm55⟩ := Er hO (j := 11) rfl (lk.length + 1) 7
  refine AL (vs := [(.agg u29), (.agg u15)]) (caps := []) (fun _ => Pk hv53) ?_ (h3 := (BB hm54 (BB hm55 Eg)))
  refine Ae hg (pU ?_)
  refine EI hg (.bool _) ?_
  cases hk; exact pE ⟨_, sh⟩
 rintro _ ⟨J, rfl⟩
 refine pg (B1 hk ?_ ?_) <;> intro hk
 ·refine sr (pA (.bool _) (pg (Ak (gr ?_))))
  cases hk; exact AU hO
 refine B7 (gn (sr (pA (.int _ _) (pg (sr ?_)))))
 refine Ju hO 3 4 GA Cc ?_
 refine pM (.int _ _) (bk hk fun z56 hz56 hk => ?_)
 refine Z3 (y' := z56.1) (r := iv z56.2) hO 4 (TW.all hO (j := 4) rfl) hlo (fun hF1 hS1 ht1 => Xq hz56 ht1 hF1 hS1) (fun G hO => ?_)
 refine pA (.int _ _) (pg (sr ?_))
 refine pA (.int _ _) (pg (sr ?_))
 refine Ju hO 3 4 GA Cc ?_
 refine pM (.int _ _) (bk hk fun v57 hv57 hk => ?_)
 obtain ⟨_, hm58⟩ := Er hO (j := 4) rfl (lk.length + 1) 7
 refine AL (vs := [(.agg u29), (.int _ _)]) (caps := []) (fun _ => Tf hv57) ?_ (h3 := (BB hm58 (BB rfl Eg)))
 refine pA (.int _ _) (pg (AX (sr ?_)))
 refine pM (.int _ _) ?_
 refine AR (pg (B1 hk ?_ ?_)) <;> intro hk
 ·refine sr (pA (.bool _) (pg (Ak (gr ?_))))
  cases hk; exact AU hO
 refine B7 (gn (AX (sr (pM (.int _ _) ?_))))
 refine pM (.int _ _) ?_
 refine AR (pg (B1 hk ?_ ?_)) <;> intro hk
 ·refine sr (pA (.bool _) (pg (Ak (gr ?_))))
  cases hk; exact AU hO
 refine B7 (gn (AX (Hz [1,5,9,13,3,7,10,14,17,18] [_,_,_,_,_,_,_,_,_,_] ?_)))
 refine Bj hO 16 [_, _] X5 Rt ?_
 refine pM (.lit _ _ _) ?_
 refine Bj hO 15 [_, _, _, _, _] X6 Ru ?_
 refine pM (.int _ _) (bk hk fun v59 hv59 hk => ?_)
 refine IW hO (fun _ => Pv hv59) (fun u60 F60 G hO => bk hk fun v61 hv61 hk => ?_)
 refine Zd hO (fun _ => Q0 hv61) (fun u62 F62 G hO => bk hk fun v63 hv63 hk => ?_)
 refine IW hO (fun _ => Q7 hv63) (fun u64 F64 G hO => bk hk fun v65 hv65 hk => ?_)
 obtain ⟨_, hm66⟩ := Nu hO (j := 2) rfl (lk.length + 1) 7
 obtain ⟨_, hm67⟩ := Np hO (j := 1) rfl (lk.length + 1) 8
 obtain ⟨_, hm68⟩ := Is hO (j := 0) rfl (lk.length + 1) 7
 refine IW (vs := [(.agg u60), u62, (.agg u64), (.int _ _)]) (caps := []) hO (fun _ => Tc hv65) (fun u69 F69 G hO => ?_) (h3 := (BB hm66 (BB hm67 (BB hm68 (BB rfl Eg)))))
 refine Bd hO Cc LX (fun b70 G hO => Ri hO 0 1 Cc rfl (fun G hO => pg (AX (sr ?_))))
 refine Ju hO 0 1 GA Cc ?_
 refine Ju hO 15 16 GA Cc (bk hk fun v71 hv71 hk => ?_)
 obtain ⟨_, hm72⟩ := Er hO (j := 1) rfl (lk.length + 1) 7
 obtain ⟨_, hm73⟩ := Er hO (j := 16) rfl (lk.length + 1) 7
 refine AL (vs := [(.agg u69), (.agg u15)]) (caps := []) (fun _ => Pk hv71) ?_ (h3 := (BB hm72 (BB hm73 Eg)))
 refine pU (pg (B1 hk ?_ ?_)) <;> intro hk
 ·refine sr (pA (.bool _) (pg (Ak (gr ?_))))
  cases hk; exact AU hO
 refine B7 (gn (sr (pA (.int _ _) (pg (sr ?_)))))
 refine Ju hO 8 9 GA Cc ?_
 refine pM (.int _ _) (bk hk fun v74 hv74 hk => ?_)
 obtain ⟨_, hm75⟩ := Er hO (j := 9) rfl (lk.length + 1) 7
 refine AL (vs := [(.agg u29), (.int _ _)]) (caps := []) (fun _ => Tf hv74) ?_ (h3 := (BB hm75 (BB rfl Eg)))
 refine pA (.int _ _) (pg (AX (sr ?_)))
 refine pM (.int _ _) ?_
 refine AR (pg (B1 hk ?_ ?_)) <;> intro hk
 ·refine sr (pA (.bool _) (pg (Ak (gr ?_))))
  cases hk; exact AU hO
 refine B7 (gn (AX (sr (pM (.int _ _) ?_))))
 refine pM (.int _ _) ?_
 refine AR (pg (B1 hk ?_ ?_)) <;> intro hk
 ·refine sr (pA (.bool _) (pg (Ak (gr ?_))))
  cases hk; exact AU hO
 refine B7 (gn (sr (pA (.bool _) (pg (Ak ?_)))))
 cases hk; exact AU hO
end
end Go.Proofs.YtblodpbcinkehaaGreat.K
