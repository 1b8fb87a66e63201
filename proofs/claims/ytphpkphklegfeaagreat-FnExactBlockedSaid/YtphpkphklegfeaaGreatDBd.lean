/-
 The functions that FnExactBlocked reaches, as typed Lean functions, and that the interpreter computes them. Part 4 of 4. No conditions.
-/
import Derived.Test.YtphpkphklegfeaaGreatDBdc
set_option linter.unusedVariables false
set_option linter.unusedSimpArgs false
set_option maxRecDepth 100000
namespace Go.Proofs.YtphpkphklegfeaaGreat.K
noncomputable section
variable {H : A3} {lk : Lk}
def OF : ((List Am) × Int × Int) → Option (((List Am) × Int × Int) ⊕ (List Am × Int)) := fun s =>
 (bif decide (s.2.2 < (s.1.length : Int)) then ((AL s.1 s.2.2).bind fun c4 => ((AL (s.1.set s.2.2.toNat ({ c4 with Want := s.2.1 })) s.2.2).bind fun c7 => some (.inl ((s.1.set s.2.2.toNat ({ c4 with Want := s.2.1 })).set s.2.2.toNat ({ c7 with AO := BV (s.2.1 + (1:Int)) }), BV ((BV (s.2.1 + (1:Int))) + (1:Int)), BV (s.2.2 + (1:Int)))))) else ((some (s.1, s.2.1)).map Sum.inr))
def jJ (aA0 : List Am) (aK1 : Int) : Option (List Am × Int) :=
 (AJ (OF) (aA0, aK1, (0:Int)))
theorem Zu {aA0 : List Am} {aK1 : Int} {r : (List Am × Int)} {v0 : V} {F0 : List Nat} (hk : jJ aA0 aK1 = some r) (ha : CG H aA0 [v0] F0) (hF : ∀ b ∈ F0, b < H.length) (hS : ∀ b ∈ F0, AV lk b = true) (hlk : 0 < lk.length := by simp) : ∃ v H1, Al Tryz.prog hh 56 [v0, iv aK1] H lk = some (v, H1) ∧ v = iv r.2 ∧ CG H1 r.1 [v0] F0 ∧ H1.length = H.length ∧ ∀ b, b ∉ F0 → H1[b]? = H[b]? := by
 refine B0 Tryz.func56 rfl Tryz.ntmps56 Tryz.results56 rfl rfl ?_
 have hO := DR ha hF
 have hFr := Bz.refl H F0
 unfold jJ at hk
 refine A1 (A4 (pA (.int _ _) (pE (gn (A1 (A1 (A4 ?_)))))))
 refine pA (.int _ _) (pE (gn (BQ ?_)))
 refine AD (F := OF) (fun s S' => ∃ (J : Nat → V) (G : A3) (H1 : A3), Bz H H1 F0 ∧ A6 H1 G [AY F0 F0 s.1 [v0]] ∧ S' = ⟨CO [(0, v0), (1, iv s.2.1), (5, iv s.2.2)] J, G⟩) hk ⟨_, _, _, hFr, hO, sh⟩ ?_
 rintro ⟨x1, x2, x3⟩ _ y1 ⟨J, G, H1, hFr, hO, rfl⟩ hk hx1
 refine A1 (A1 (A4 (pM (.int _ _) ?_)))
 refine pM v0 ?_
 refine JT hO 0 Pa ?_
 refine AX (pE (gn (Aq hk (fun hk => ?_) (fun hk => ?_))))
 ·refine As (gn (A1 (BQ (A1 (A4 (pM v0 ?_))))))
  refine pM (.int _ _) ?_
  refine pM (.int _ _) (bk hk fun c4 hc4 hk => ?_)
  refine Lb hO 0 hc4 Iv EE (fun b5 hb5 => ?_)
  refine pF Ig ?_
  refine ZI Oh (y' := x2) hO 0 hb5 hc4 DS (fun _ => ⟨rfl, rfl⟩) hFr hS rfl (fun H1 G hFr hO => ?_)
  have hc_6 := Bv hc4 ({ c4 with Want := x2 } : Am)
  have hv_6 := Cw (j := x3.toNat) (y := ({ c4 with Want := x2 } : Am)) hb5
  refine pE (gn (A1 (A4 (pM (.int _ _) ?_))))
  refine AX ?_
  refine pA (.int _ _) (pE (gn (A1 (A4 ?_))))
  refine pM v0 ?_
  refine pM (.int _ _) ?_
  refine pM (.int _ _) (bk hk fun c7 hc7 hk => ?_)
  refine Lb hO 0 hc7 Iv EE (fun b8 hb8 => ?_)
  refine pF KZ ?_
  refine ZI Og (y' := (BV (x2 + (1:Int)))) hO 0 hb8 hc7 DS (fun _ => ⟨rfl, rfl⟩) hFr hS rfl (fun H1 G hFr hO => ?_)
  have hc_9 := Bv hc7 ({ c7 with AO := BV (x2 + (1:Int)) } : Am)
  have hv_9 := Cw (j := x3.toNat) (y := ({ c7 with AO := BV (x2 + (1:Int)) } : Am)) hb8
  refine pE (gn (A4 (pM (.int _ _) ?_)))
  refine AX ?_
  refine pA (.int _ _) (pE (bn (gn (A4 ?_))))
  refine pM (.int _ _) ?_
  refine AX ?_
  refine pA (.int _ _) (pE (gn ?_))
  cases hk; exact ⟨_, rfl, _, _, _, hFr, hO, sh⟩
 ·refine D6 (ge (ge (be (gn (have hk := lx hx1 hk; A1 (A4 (pM (.int _ _) ?_)))))))
  refine pA (.int _ _) (pE (gn (Av ?_)))
  replace hk := Option.some.inj hk; subst hk; exact Pn hO 0 hFr hF
def OG : ((List AH) × Int × Int) → Option (((List AH) × Int × Int) ⊕ (List AH × Int)) := fun s =>
 (bif decide (s.2.2 < (s.1.length : Int)) then ((AL s.1 s.2.2).bind fun c4 => ((AL (s.1.set s.2.2.toNat ({ c4 with State := s.2.1 })) s.2.2).bind fun c7 => ((AL ((s.1.set s.2.2.toNat ({ c4 with State := s.2.1 })).set s.2.2.toNat ({ c7 with Ac := BV (s.2.1 + (1:Int)) })) s.2.2).bind fun c10 => ((eL c10.Ab (BV ((BV (s.2.1 + (1:Int))) + (1:Int)))).bind fun z13 => ((AL (((s.1.set s.2.2.toNat ({ c4 with State := s.2.1 })).set s.2.2.toNat ({ c7 with Ac := BV (s.2.1 + (1:Int)) })).set s.2.2.toNat ({ c10 with Ab := z13.1 })) s.2.2).bind fun c14 => ((AL ((((s.1.set s.2.2.toNat ({ c4 with State := s.2.1 })).set s.2.2.toNat ({ c7 with Ac := BV (s.2.1 + (1:Int)) })).set s.2.2.toNat ({ c10 with Ab := z13.1 })).set s.2.2.toNat ({ c14 with Shown := ((Int.tmod z13.2 (3:Int)) == (0:Int)) })) s.2.2).bind fun c17 => some (.inl (((((s.1.set s.2.2.toNat ({ c4 with State := s.2.1 })).set s.2.2.toNat ({ c7 with Ac := BV (s.2.1 + (1:Int)) })).set s.2.2.toNat ({ c10 with Ab := z13.1 })).set s.2.2.toNat ({ c14 with Shown := ((Int.tmod z13.2 (3:Int)) == (0:Int)) })).set s.2.2.toNat ({ c17 with Timer := BV (z13.2 + (1:Int)) }), BV ((BV (z13.2 + (1:Int))) + (1:Int)), BV (s.2.2 + (1:Int)))))))))) else ((some (s.1, s.2.1)).map Sum.inr))
def jK (aA0 : List AH) (aK1 : Int) : Option (List AH × Int) :=
 (AJ (OG) (aA0, aK1, (0:Int)))
theorem Zv {aA0 : List AH} {aK1 : Int} {r : (List AH × Int)} {v0 : V} {F0 : List Nat} (hk : jK aA0 aK1 = some r) (ha : CG H aA0 [v0] F0) (hF : ∀ b ∈ F0, b < H.length) (hS : ∀ b ∈ F0, AV lk b = true) (hlk : 0 < lk.length := by simp) : ∃ v H1, Al Tryz.prog hh 57 [v0, iv aK1] H lk = some (v, H1) ∧ v = iv r.2 ∧ CG H1 r.1 [v0] F0 ∧ H1.length = H.length ∧ ∀ b, b ∉ F0 → H1[b]? = H[b]? := by
 refine B0 Tryz.func57 rfl Tryz.ntmps57 Tryz.results57 rfl rfl ?_
 have hO := DR ha hF
 have hFr := Bz.refl H F0
 unfold jK at hk
 refine A1 (A4 (pA (.int _ _) (pE (gn (A1 (A1 (A4 ?_)))))))
 refine pA (.int _ _) (pE (gn (BQ ?_)))
 refine AD (F := OG) (fun s S' => ∃ (J : Nat → V) (G : A3) (H1 : A3), Bz H H1 F0 ∧ A6 H1 G [AY F0 F0 s.1 [v0]] ∧ S' = ⟨CO [(0, v0), (1, iv s.2.1), (5, iv s.2.2)] J, G⟩) hk ⟨_, _, _, hFr, hO, sh⟩ ?_
 rintro ⟨x1, x2, x3⟩ _ y1 ⟨J, G, H1, hFr, hO, rfl⟩ hk hx1
 refine A1 (A1 (A4 (pM (.int _ _) ?_)))
 refine pM v0 ?_
 refine JT hO 0 Ih ?_
 refine AX (pE (gn (Aq hk (fun hk => ?_) (fun hk => ?_))))
 ·refine As (gn (A1 (BQ (A1 (A4 (pM v0 ?_))))))
  refine pM (.int _ _) ?_
  refine pM (.int _ _) (bk hk fun c4 hc4 hk => ?_)
  refine Lb hO 0 hc4 EN Ay (fun b5 hb5 => ?_)
  refine pF B9 ?_
  refine ZI BN (y' := x2) hO 0 hb5 hc4 DS (fun _ => ⟨rfl, rfl⟩) hFr hS rfl (fun H1 G hFr hO => ?_)
  have hc_6 := Bv hc4 ({ c4 with State := x2 } : AH)
  have hv_6 := Cw (j := x3.toNat) (y := ({ c4 with State := x2 } : AH)) hb5
  refine pE (gn (A1 (A4 (pM (.int _ _) ?_))))
  refine AX ?_
  refine pA (.int _ _) (pE (gn (A1 (A4 ?_))))
  refine pM v0 ?_
  refine pM (.int _ _) ?_
  refine pM (.int _ _) (bk hk fun c7 hc7 hk => ?_)
  refine Lb hO 0 hc7 EN Ay (fun b8 hb8 => ?_)
  refine pF C1 ?_
  refine ZI Bt (y' := (BV (x2 + (1:Int)))) hO 0 hb8 hc7 DS (fun _ => ⟨rfl, rfl⟩) hFr hS rfl (fun H1 G hFr hO => ?_)
  have hc_9 := Bv hc7 ({ c7 with Ac := BV (x2 + (1:Int)) } : AH)
  have hv_9 := Cw (j := x3.toNat) (y := ({ c7 with Ac := BV (x2 + (1:Int)) } : AH)) hb8
  refine pE (gn (A1 (A4 (pM (.int _ _) ?_))))
  refine AX ?_
  refine pA (.int _ _) (pE (gn (A1 (A4 ?_))))
  refine pM v0 ?_
  refine pM (.int _ _) (bk hk fun c10 hc10 hk => ?_)
  refine Lb hO 0 hc10 EN Ay (fun b11 hb11 => ?_)
  refine pF C6 ?_
  refine Ui Cd hO 0 hb11 hc10 CC (fun u12 fs12 hs12 => ?_)
  refine pM (.int _ _) (bk hk fun z13 hz13 hk => ?_)
  refine Tb (y' := z13.1) (r := iv z13.2) hO 0 hs12 (fun _ h => h) hFr hS (fun hF1 hS1 ht1 => RJ hz13 ht1 hF1 hS1) (fun H1 G hFr hO => ?_)
  refine pA (.int _ _) (pE (gn (A1 (A4 ?_))))
  refine pM v0 ?_
  refine pM (.int _ _) ?_
  refine pM (.int _ _) ?_
  refine AX ?_
  refine AX (bk hk fun c14 hc14 hk => ?_)
  refine Lb hO 0 hc14 EN Ay (fun b15 hb15 => ?_)
  refine pF Dv ?_
  refine ZI Gl (y' := ((Int.tmod z13.2 (3:Int)) == (0:Int))) hO 0 hb15 hc14 FU (fun _ => ⟨rfl, rfl⟩) hFr hS rfl (fun H1 G hFr hO => ?_)
  have hc_16 := Bv hc14 ({ c14 with Shown := ((Int.tmod z13.2 (3:Int)) == (0:Int)) } : AH)
  have hv_16 := Cw (j := x3.toNat) (y := ({ c14 with Shown := ((Int.tmod z13.2 (3:Int)) == (0:Int)) } : AH)) hb15
  refine pE (gn (A1 (A4 (pM (.int _ _) ?_))))
  refine AX ?_
  refine pA (.int _ _) (pE (gn (A1 (A4 ?_))))
  refine pM v0 ?_
  refine pM (.int _ _) ?_
  refine pM (.int _ _) (bk hk fun c17 hc17 hk => ?_)
  refine Lb hO 0 hc17 EN Ay (fun b18 hb18 => ?_)
  refine pF EA ?_
  refine ZI Gm (y' := (BV (z13.2 + (1:Int)))) hO 0 hb18 hc17 DS (fun _ => ⟨rfl, rfl⟩) hFr hS rfl (fun H1 G hFr hO => ?_)
  have hc_19 := Bv hc17 ({ c17 with Timer := BV (z13.2 + (1:Int)) } : AH)
  have hv_19 := Cw (j := x3.toNat) (y := ({ c17 with Timer := BV (z13.2 + (1:Int)) } : AH)) hb18
  refine pE (gn (A4 (pM (.int _ _) ?_)))
  refine AX ?_
  refine pA (.int _ _) (pE (bn (gn (A4 ?_))))
  refine pM (.int _ _) ?_
  refine AX ?_
  refine pA (.int _ _) (pE (gn ?_))
  cases hk; exact ⟨_, rfl, _, _, _, hFr, hO, sh⟩
 ·refine D6 (ge (ge (be (gn (have hk := lx hx1 hk; A1 (A4 (pM (.int _ _) ?_)))))))
  refine pA (.int _ _) (pE (gn (Av ?_)))
  replace hk := Option.some.inj hk; subst hk; exact Pn hO 0 hFr hF
def iR (aA0 : AE) (aK1 : Int) : Option (AE × Int) :=
 ((eL aA0.C9 aK1).bind fun z3 => ((jJ (({ aA0 with C9 := z3.1 }).A8) z3.2).bind fun z5 => ((jK (({ { aA0 with C9 := z3.1 } with A8 := z5.1 }).A5) z5.2).bind fun z7 => some ({ { { aA0 with C9 := z3.1 } with A8 := z5.1 } with A5 := z7.1 }, z7.2))))
theorem ZZ {aA0 : AE} {aK1 : Int} {r : (AE × Int)} {v0 : List V} {F0 : List Nat} (hk : iR aA0 aK1 = some r) (ha : CG H aA0 v0 F0) (hF : ∀ b ∈ F0, b < H.length) (hS : ∀ b ∈ F0, AV lk b = true) (hlk : 0 < lk.length := by simp) : ∃ v H1, Al Tryz.prog hh 16 [.agg v0, iv aK1] H lk = some (v, H1) ∧ v = iv r.2 ∧ CG H1 r.1 v0 F0 ∧ H1.length = H.length ∧ ∀ b, b ∉ F0 → H1[b]? = H[b]? := by
 refine B0 Tryz.func16 rfl Tryz.ntmps16 Tryz.results16 rfl rfl ?_
 have hO := DR ha hF
 have hFr := Bz.refl H F0
 unfold iR at hk
 refine A1 (A4 (YV hO 0 C0 (fun b1 G hO => ?_)))
 refine pA (.int _ _) (pE (gn (A1 (A4 ?_))))
 refine pF Co ?_
 refine PR Po hO 0 1 CC (fun u2 fs2 hs2 => ?_)
 refine pM (.int _ _) (bk hk fun z3 hz3 hk => ?_)
 refine Tb (y' := z3.1) (r := iv z3.2) hO 1 hs2 (fun _ h => h) hFr hS (fun hF1 hS1 ht1 => RJ hz3 ht1 hF1 hS1) (fun H1 G hFr hO => ?_)
 refine pA (.int _ _) (pE (gn (A1 (A4 ?_))))
 refine pF Dh ?_
 refine PR M4 hO 0 1 JX (fun u4 fs4 hs4 => ?_)
 refine pM (.int _ _) (bk hk fun z5 hz5 hk => ?_)
 refine Tb (y' := z5.1) (r := iv z5.2) hO 1 hs4 (fun _ h => h) hFr hS (fun hF1 hS1 ht1 => Zu hz5 ht1 hF1 hS1) (fun H1 G hFr hO => ?_)
 refine pA (.int _ _) (pE (gn (A1 (A4 ?_))))
 refine pF Bl ?_
 refine PR Of hO 0 1 E6 (fun u6 fs6 hs6 => ?_)
 refine pM (.int _ _) (bk hk fun z7 hz7 hk => ?_)
 refine Tb (y' := z7.1) (r := iv z7.2) hO 1 hs6 (fun _ h => h) hFr hS (fun hF1 hS1 ht1 => Zv hz7 ht1 hF1 hS1) (fun H1 G hFr hO => ?_)
 refine pA (.int _ _) (pE (gn (A1 (A4 ?_))))
 refine pM (.int _ _) ?_
 refine pA (.int _ _) (pE (gn (Av ?_)))
 replace hk := Option.some.inj hk; subst hk; exact Pn hO 1 hFr hF
def iT (aA0 : BE) (aK1 : Int) : Option (BE × Int) :=
 ((Xk aA0.A5 aK1).bind fun z3 => ((Xk (({ aA0 with A5 := z3.1 }).A0) z3.2).bind fun z5 => ((Xk (({ { aA0 with A5 := z3.1 } with A0 := z5.1 }).A8) z5.2).bind fun z7 => some ({ { { aA0 with A5 := z3.1 } with A0 := z5.1 } with A8 := z7.1 }, z7.2))))
theorem Zb {aA0 : BE} {aK1 : Int} {r : (BE × Int)} {v0 : List V} {F0 : List Nat} (hk : iT aA0 aK1 = some r) (ha : CG H aA0 v0 F0) (hF : ∀ b ∈ F0, b < H.length) (hS : ∀ b ∈ F0, AV lk b = true) (hlk : 0 < lk.length := by simp) : ∃ v H1, Al Tryz.prog hh 22 [.agg v0, iv aK1] H lk = some (v, H1) ∧ v = iv r.2 ∧ CG H1 r.1 v0 F0 ∧ H1.length = H.length ∧ ∀ b, b ∉ F0 → H1[b]? = H[b]? := by
 refine B0 Tryz.func22 rfl Tryz.ntmps22 Tryz.results22 rfl rfl ?_
 have hO := DR ha hF
 have hFr := Bz.refl H F0
 unfold iT at hk
 refine A1 (A4 (YV hO 0 Cy (fun b1 G hO => ?_)))
 refine pA (.int _ _) (pE (gn (A1 (A4 ?_))))
 refine pF Ic ?_
 refine PR JD hO 0 1 BC (fun u2 fs2 hs2 => ?_)
 refine pM (.int _ _) (bk hk fun z3 hz3 hk => ?_)
 refine Tb (y' := z3.1) (r := iv z3.2) hO 1 hs2 (fun _ h => h) hFr hS (fun hF1 hS1 ht1 => ID hz3 ht1 hF1 hS1) (fun H1 G hFr hO => ?_)
 refine pA (.int _ _) (pE (gn (A1 (A4 ?_))))
 refine pF Ie ?_
 refine PR Gn hO 0 1 BC (fun u4 fs4 hs4 => ?_)
 refine pM (.int _ _) (bk hk fun z5 hz5 hk => ?_)
 refine Tb (y' := z5.1) (r := iv z5.2) hO 1 hs4 (fun _ h => h) hFr hS (fun hF1 hS1 ht1 => ID hz5 ht1 hF1 hS1) (fun H1 G hFr hO => ?_)
 refine pA (.int _ _) (pE (gn (A1 (A4 ?_))))
 refine pF HZ ?_
 refine PR M5 hO 0 1 BC (fun u6 fs6 hs6 => ?_)
 refine pM (.int _ _) (bk hk fun z7 hz7 hk => ?_)
 refine Tb (y' := z7.1) (r := iv z7.2) hO 1 hs6 (fun _ h => h) hFr hS (fun hF1 hS1 ht1 => ID hz7 ht1 hF1 hS1) (fun H1 G hFr hO => ?_)
 refine pA (.int _ _) (pE (gn (A1 (A4 ?_))))
 refine pM (.int _ _) ?_
 refine pA (.int _ _) (pE (gn (Av ?_)))
 replace hk := Option.some.inj hk; subst hk; exact Pn hO 1 hFr hF
def Nv (aA0 : List Int) : (Int × Int) → Option ((Int × Int) ⊕ Int) := fun s =>
 (bif decide (s.2 < (aA0.length : Int)) then ((AL aA0 s.2).bind fun c3 => (bif (c3 != s.1) then ((some (-1:Int)).map Sum.inr) else some (.inl (BV (s.1 + (1:Int)), BV (s.2 + (1:Int)))))) else ((some s.1).map Sum.inr))
def dX (aA0 : List Int) (aK1 : Int) : Option Int :=
 (AJ (Nv aA0) (aK1, (0:Int)))
theorem R6 {aA0 : List Int} {aK1 : Int} {r : Int} {l1 : Nat} (hk : dX aA0 aK1 = some r) (hlk : 0 < lk.length := by simp) : Al Tryz.prog hh 18 [AN l1 0 aA0, iv aK1] H lk = some (iv r, H) := by
 refine AI Tryz.func18 rfl Tryz.ntmps18 Tryz.results18 rfl rfl fun hO => ?_
 unfold dX at hk
 refine A1 (A4 (pA (.int _ _) (pE (gn (A1 (A1 (A4 ?_)))))))
 refine pA (.int _ _) (pE (gn (BQ ?_)))
 refine AD (F := Nv aA0) (fun s S' => ∃ (J : Nat → V) (G : A3), A6 H G [] ∧ S' = ⟨CO [(0, AN l1 0 aA0), (1, iv s.1), (5, iv s.2)] J, G⟩) hk ⟨_, _, hO, sh⟩ ?_
 rintro ⟨x1, x2⟩ _ y1 ⟨J, G, hO, rfl⟩ hk hx1
 refine A1 (A1 (A4 (pM (.int _ _) ?_)))
 refine pM (.lit _ _ _) ?_
 refine Ah DE ?_
 refine AX (pE (gn (Aq hk (fun hk => ?_) (fun hk => ?_))))
 ·refine As (gn (A1 (BQ (A1 (A1 (A4 (pM (.lit _ _ _) ?_)))))))
  refine pM (.int _ _) (bk hk fun c3 hc3 hk => ?_)
  refine pX hc3 C8 DS ?_
  refine By (.int _ _) (D7 (lm := 0) (off := 0) hc3 BW) ?_
  refine pM (.int _ _) ?_
  refine AX (pE (gn (Aq hk (fun hk => ?_) (fun hk => ?_))))
  ·refine A1 (A4 (pA (.int _ _) (pE (gn (Av (gr (br (gr (gr (br (gr (have hk := lx hx1 hk; ?_))))))))))))
   cases hk; exact AT hO
  ·refine As (gn (A4 (pM (.int _ _) ?_)))
   refine AX ?_
   refine pA (.int _ _) (pE (bn (gn (A4 ?_))))
   refine pM (.int _ _) ?_
   refine AX ?_
   refine pA (.int _ _) (pE (gn ?_))
   cases hk; exact ⟨_, rfl, _, _, hO, sh⟩
 ·refine D6 (ge (ge (be (gn (have hk := lx hx1 hk; A1 (A4 (pM (.int _ _) ?_)))))))
  refine pA (.int _ _) (pE (gn (Av ?_)))
  cases hk; exact AT hO
def gR (aA0 : BE) (aK1 : Int) : Option Int :=
 ((dX aA0.A5 aK1).bind fun v2 => (bif decide (v2 < (0:Int)) then some (-1:Int) else ((dX aA0.A0 v2).bind fun v3 => (bif decide (v3 < (0:Int)) then some (-1:Int) else ((dX aA0.A8 v3).bind fun v4 => (bif decide (v4 < (0:Int)) then some (-1:Int) else some v4))))))
theorem VJ {aA0 : BE} {aK1 : Int} {r : Int} {l1 l2 l3 : Nat} (hk : gR aA0 aK1 = some r) (hlk : 0 < lk.length := by simp) : Al Tryz.prog hh 23 [.agg [AN l1 0 aA0.A5, AN l2 0 aA0.A0, AN l3 0 aA0.A8], iv aK1] H lk = some (iv r, H) := by
 refine AI Tryz.func23 rfl Tryz.ntmps23 Tryz.results23 rfl rfl fun hO => ?_
 unfold gR at hk
 refine A1 (A4 (Ba (cs := [_, _, _]) hO Cy (fun b1 G hO => ?_)))
 refine pA (.int _ _) (pE (gn (A1 (A4 ?_))))
 refine Au Ic hO 0 (.lit _ _ _) BC ?_
 refine pM (.int _ _) (bk hk fun v2 hv2 hk => ?_)
 refine AR (fun _ => R6 hv2) ?_
 refine pA (.int _ _) (pE (gn (A1 (A1 (A4 ?_)))))
 refine pM (.int _ _) ?_
 refine AX (pE (gn (Aq hk (fun hk => ?_) (fun hk => ?_))))
 ·refine A1 (A4 (pA (.int _ _) (pE (gn (Av (gr ?_))))))
  cases hk; exact AT hO
 ·refine As (gn (A1 (A4 (Au Ie hO 0 (.lit _ _ _) BC ?_))))
  refine pM (.int _ _) (bk hk fun v3 hv3 hk => ?_)
  refine AR (fun _ => R6 hv3) ?_
  refine pA (.int _ _) (pE (gn (A1 (A1 (A4 ?_)))))
  refine pM (.int _ _) ?_
  refine AX (pE (gn (Aq hk (fun hk => ?_) (fun hk => ?_))))
  ·refine A1 (A4 (pA (.int _ _) (pE (gn (Av (gr ?_))))))
   cases hk; exact AT hO
  ·refine As (gn (A1 (A4 (Au HZ hO 0 (.lit _ _ _) BC ?_))))
   refine pM (.int _ _) (bk hk fun v4 hv4 hk => ?_)
   refine AR (fun _ => R6 hv4) ?_
   refine pA (.int _ _) (pE (gn (A1 (A1 (A4 ?_)))))
   refine pM (.int _ _) ?_
   refine AX (pE (gn (Aq hk (fun hk => ?_) (fun hk => ?_))))
   ·refine A1 (A4 (pA (.int _ _) (pE (gn (Av (gr ?_))))))
    cases hk; exact AT hO
   ·refine As (gn (A1 (A4 (pM (.int _ _) ?_))))
    refine pA (.int _ _) (pE (gn (Av ?_)))
    cases hk; exact AT hO
def f4 (aAP0 : AQ) (aAF1 : AE) (aAWay2 : Int) : Option Bool :=
 ((f6 aAP0 (1048576:Int)).bind fun v3 => (bif decide (v3 < (0:Int)) then some true else ((f7 aAF1 v3).bind fun v4 => (bif decide (v4 < (0:Int)) then some true else ((f9 aAP0).bind fun v5 => ((cI aAF1).bind fun v7 => ((iS v5 v7 aAWay2).bind fun v9 => ((f9 aAP0).bind fun v13 => ((cI aAF1).bind fun v16 => ((gQ v13 v16 aAWay2).bind fun v19 => ((dY v19 v9).bind fun v24 => (bif !v24 then some false else ((f9 aAP0).bind fun v26 => ((iO v13 v26).bind fun v28 => (bif !v28 then some false else ((cI aAF1).bind fun v31 => ((iP v16 v31).bind fun v33 => (bif !v33 then some false else ((iQ v13 (1:Int)).bind fun z36 => ((iR v16 z36.2).bind fun z37 => ((bif decide (z37.2 < (0:Int)) then some true else ((dY v19 v9).bind fun v39 => some (!v39))).bind fun t38 => (bif t38 then some false else ((iT v19 (1:Int)).bind fun z41 => ((gR z41.1 (1:Int)).bind fun v42 => (bif decide (v42 < (0:Int)) then some false else (bif (v42 != z41.2) then some false else ((f9 aAP0).bind fun v44 => ((cI aAF1).bind fun v46 => ((gQ v44 v46 aAWay2).bind fun v48 => ((dY v48 v9).bind fun v53 => (bif !v53 then some false else ((gR z41.1 (1:Int)).bind fun v55 => (bif decide (v55 < (0:Int)) then some false else (bif (v55 != z41.2) then some false else some true))))))))))))))))))))))))))))))))))
theorem eH {aAP0 : AQ} {aAF1 : AE} {aAWay2 : Int} {r : Bool} {l1 l2 m3 l4 m5 l6 l7 l8 m9 : Nat} (hk : f4 aAP0 aAF1 aAWay2 = some r) (hlk : 0 < lk.length := by simp) (hlo : Di lk H.length := by simp [Di]) : Al Tryz.prog hh 4 [.agg (Aj l1 0 l2 m3 l4 m5 aAP0), .agg (Ai l6 0 l7 0 l8 m9 aAF1), iv aAWay2] H lk = some (.bool r, H) := by
 refine AI Tryz.func4 rfl Tryz.ntmps4 Tryz.results4 rfl rfl fun hO => ?_
 unfold f4 at hk
 refine A1 (A4 (Ba (cs := [_, _, _, _, _]) hO TP (fun b1 G hO => ?_)))
 refine Ba (cs := [_, _, _, _]) hO TQ (fun b2 G hO => ?_)
 refine pA (.bool _) (pE (gn (A1 (A4 ?_))))
 refine pA (.int _ _) (pE (gn (A1 (A4 ?_))))
 refine Dw hO 1 [_, _, _, _, _] Ym TP ?_
 refine pM (.int _ _) (bk hk fun v3 hv3 hk => ?_)
 refine AR (fun _ => eN hv3) ?_
 refine pA (.int _ _) (pE (gn (A1 (A1 (A4 ?_)))))
 refine pM (.int _ _) ?_
 refine AX (pE (gn (Aq hk (fun hk => ?_) (fun hk => ?_))))
 ·refine A1 (A4 (pA (.bool _) (pE (gn (Av (gr ?_))))))
  cases hk; exact AT hO
 ·refine As (gn (A1 (A4 (Dw hO 0 [_, _, _, _] Yn TQ ?_))))
  refine pM (.int _ _) (bk hk fun v4 hv4 hk => ?_)
  refine AR (fun _ => eU hv4) ?_
  refine pA (.int _ _) (pE (gn (A1 (A1 (A4 ?_)))))
  refine pM (.int _ _) ?_
  refine AX (pE (gn (Aq hk (fun hk => ?_) (fun hk => ?_))))
  ·refine A1 (A4 (pA (.bool _) (pE (gn (Av (gr ?_))))))
   cases hk; exact AT hO
  ·refine As (gn (A1 (BG [(0, true), (2, true), (4, true), (1, true), (3, false), (5, false), (6, true), (7, false)] [_, _, _, _, _, _, _, _] (by decide +kernel) (by rfl) ?_)))
   refine Dw hO 1 [_, _, _, _, _] Ym TP ?_
   refine Dw hO 0 [_, _, _, _] Yn TQ ?_
   refine pM (.int _ _) (bk hk fun v5 hv5 hk => ?_)
   refine ML hO (fun _ => RU hv5) (fun u6 F6 G hO => bk hk fun v7 hv7 hk => ?_)
   refine ML hO (fun _ => N9 hv7) (fun u8 F8 G hO => bk hk fun v9 hv9 hk => ?_)
   obtain ⟨_, hm10⟩ := LI hO (j := 1) rfl (lk.length + 1) 7
   obtain ⟨_, hm11⟩ := JI hO (j := 0) rfl (lk.length + 1) 7
   refine Rv (vs := [(.agg u6), (.agg u8), (.int _ _)]) (caps := []) hO hlo rfl (fun _ hl => Za hv9 (hlo := hl)) ?_ (h3 := (BK hm10 (BK hm11 (BK rfl EJ))))
   refine C7 hO Cy KX (fun b12 G hO => Cl (xs := [_, _, _]) hO 0 Cy rfl (fun G hO => pE (gn (A1 (A4 ?_)))))
   refine Dw hO 4 [_, _, _, _, _] Ym TP (bk hk fun v13 hv13 hk => ?_)
   refine ML hO (fun _ => RU hv13) (fun u14 F14 G hO => C7 hO CH fZ (fun b15 G hO => ?_))
   refine Uj hO 0 1 CH rfl (fun G hO => pE (gn (A1 (A4 ?_))))
   refine Dw hO 5 [_, _, _, _] Yn TQ (bk hk fun v16 hv16 hk => ?_)
   refine ML hO (fun _ => N9 hv16) (fun u17 F17 G hO => C7 hO C0 SC (fun b18 G hO => ?_))
   refine Uj hO 0 1 C0 rfl (fun G hO => pE (gn (A1 (A4 ?_))))
   refine MM hO 2 3 FG CH ?_
   refine MM hO 0 1 Ew C0 ?_
   refine pM (.int _ _) (bk hk fun v19 hv19 hk => ?_)
   obtain ⟨_, hm20⟩ := LI hO (j := 3) rfl (lk.length + 1) 7
   obtain ⟨_, hm21⟩ := JI hO (j := 1) rfl (lk.length + 1) 7
   refine cV (vs := [(.agg u14), (.agg u17), (.int _ _)]) (caps := []) hO hlo rfl (fun _ hl => VI hv19 (hlo := hl)) (fun u22 F22 G hO => ?_) (h3 := (BK hm20 (BK hm21 (BK rfl EJ))))
   refine C7 hO Cy KX (fun b23 G hO => Uj hO 0 1 Cy rfl (fun G hO => pE (gn (A1 (A1 (A4 ?_))))))
   refine MM hO 0 1 Ib Cy ?_
   refine Dw hO 6 [_, _, _] Ib Cy (bk hk fun v24 hv24 hk => ?_)
   obtain ⟨_, hm25⟩ := JJ hO (j := 1) rfl (lk.length + 1) 7
   refine AR (vs := [(.agg u22), (.agg [_, _, _])]) (caps := []) (fun _ => R7 hv24) ?_ (h3 := (BK hm25 (BK rfl EJ)))
   refine pU (pE (gn (Aq hk (fun hk => ?_) (fun hk => ?_))))
   ·refine A1 (A4 (pA (.bool _) (pE (gn (Av (gr ?_))))))
    cases hk; exact AT hO
   ·refine As (gn (A1 (A1 (BG [(0, true), (1, true), (2, true), (3, false), (4, false)] [_, _, _, _, _] (by decide +kernel) (by rfl) ?_))))
    refine MM hO 4 5 FG CH ?_
    refine Dw hO 10 [_, _, _, _, _] Ym TP (bk hk fun v26 hv26 hk => ?_)
    refine ML hO (fun _ => RU hv26) (fun u27 F27 G hO => bk hk fun v28 hv28 hk => ?_)
    obtain ⟨_, hm29⟩ := LI hO (j := 6) rfl (lk.length + 1) 7
    obtain ⟨_, hm30⟩ := LI hO (j := 0) rfl (lk.length + 1) 7
    refine AR (vs := [(.agg u14), (.agg u27)]) (caps := []) (fun _ => ZW hv28) ?_ (h3 := (BK hm29 (BK hm30 EJ)))
    refine pU (pE (gn (Aq hk (fun hk => ?_) (fun hk => ?_))))
    ·refine A1 (A4 (pA (.bool _) (pE (gn (Av (gr ?_))))))
     cases hk; exact AT hO
    ·refine As (gn (A1 (A1 (BG [(0, true), (1, true), (2, true), (3, false), (4, false)] [_, _, _, _, _] (by decide +kernel) (by rfl) ?_))))
     refine MM hO 3 4 Ew C0 ?_
     refine Dw hO 10 [_, _, _, _] Yn TQ (bk hk fun v31 hv31 hk => ?_)
     refine ML hO (fun _ => N9 hv31) (fun u32 F32 G hO => bk hk fun v33 hv33 hk => ?_)
     obtain ⟨_, hm34⟩ := JI hO (j := 5) rfl (lk.length + 1) 7
     obtain ⟨_, hm35⟩ := JI hO (j := 0) rfl (lk.length + 1) 7
     refine AR (vs := [(.agg u17), (.agg u32)]) (caps := []) (fun _ => ZX hv33) ?_ (h3 := (BK hm34 (BK hm35 EJ)))
     refine pU (pE (gn (Aq hk (fun hk => ?_) (fun hk => ?_))))
     ·refine A1 (A4 (pA (.bool _) (pE (gn (Av (gr ?_))))))
      cases hk; exact AT hO
     ·refine As (gn (A1 (A4 (pA (.int _ _) (pE (gn (A1 (A4 ?_))))))))
      refine MM hO 6 7 FG CH ?_
      refine pM (.int _ _) (bk hk fun z36 hz36 hk => ?_)
      refine fQ (y' := z36.1) (r := iv z36.2) hO 7 (Tg.all hO (j := 7) rfl) hlo (fun hF1 hS1 ht1 => ZY hz36 ht1 hF1 hS1) (fun G hO => ?_)
      refine pA (.int _ _) (pE (gn (A1 (A4 ?_))))
      refine MM hO 4 5 Ew C0 ?_
      refine pM (.int _ _) (bk hk fun z37 hz37 hk => ?_)
      refine fQ (y' := z37.1) (r := iv z37.2) hO 5 (Tg.all hO (j := 5) rfl) hlo (fun hF1 hS1 ht1 => ZZ hz37 ht1 hF1 hS1) (fun G hO => ?_)
      refine pA (.int _ _) (pE (gn (A1 (A1 (A4 ?_)))))
      refine pM (.int _ _) ?_
      refine AX ?_
      refine pM (.bool _) (bk hk fun t38 ht hk => ?_)
      refine AU (l1 := [_, _, _, _, _]) [63, 64, 65, 66, 67] 67 (.bool t38) ?_ ?_
      ·refine bc (b := decide (z37.2 < (0:Int))) (fun hg => ?_) (fun hg => ?_)
       ·replace hk := ct hg ht
        refine AG hg (AG hg (AG hg (AG hg (Cv hg (.bool _) ?_))))
        cases hk; exact pE ek
       ·replace hk := cf hg ht
        refine AF hg (MM hO 2 3 Ib Cy (AF hg ?_))
        refine Dw hO 8 [_, _, _] Ib Cy (AF hg (bk hk fun v39 hv39 hk => ?_))
        obtain ⟨_, hm40⟩ := JJ hO (j := 3) rfl (lk.length + 1) 7
        refine AR (vs := [(.agg u22), (.agg [_, _, _])]) (caps := []) (fun _ => R7 hv39) ?_ (h3 := (BK hm40 (BK rfl EJ)))
        refine AF hg (pU ?_)
        refine Cu hg (.bool _) ?_
        cases hk; exact pE ek
      ·intro J
       refine pE (gn (Aq hk (fun hk => ?_) (fun hk => ?_)))
       ·refine A1 (A4 (pA (.bool _) (pE (gn (Av (gr ?_))))))
        cases hk; exact AT hO
       ·refine As (gn (A1 (A4 (pA (.int _ _) (pE (gn (A1 (A4 ?_))))))))
        refine MM hO 2 3 Ib Cy ?_
        refine pM (.int _ _) (bk hk fun z41 hz41 hk => ?_)
        refine fQ (y' := z41.1) (r := iv z41.2) hO 3 (Tg.all hO (j := 3) rfl) hlo (fun hF1 hS1 ht1 => Zb hz41 ht1 hF1 hS1) (fun G hO => ?_)
        refine pA (.int _ _) (pE (gn (A1 (A4 ?_))))
        refine pA (.int _ _) (pE (gn (A1 (A4 ?_))))
        refine MM hO 2 3 Ib Cy ?_
        refine pM (.int _ _) (bk hk fun v42 hv42 hk => ?_)
        obtain ⟨_, hm43⟩ := JJ hO (j := 3) rfl (lk.length + 1) 7
        refine AR (vs := [(.agg u22), (.int _ _)]) (caps := []) (fun _ => VJ hv42) ?_ (h3 := (BK hm43 (BK rfl EJ)))
        refine pA (.int _ _) (pE (gn (A1 (A1 (A4 ?_)))))
        refine pM (.int _ _) ?_
        refine AX (pE (gn (Aq hk (fun hk => ?_) (fun hk => ?_))))
        ·refine A1 (A4 (pA (.bool _) (pE (gn (Av (gr ?_))))))
         cases hk; exact AT hO
        ·refine As (gn (A1 (A1 (A4 (pM (.int _ _) ?_)))))
         refine pM (.int _ _) ?_
         refine AX (pE (gn (Aq hk (fun hk => ?_) (fun hk => ?_))))
         ·refine A1 (A4 (pA (.bool _) (pE (gn (Av (gr ?_))))))
          cases hk; exact AT hO
         ·refine As (gn (A1 (BG [(0, true), (2, true), (4, true), (1, true), (3, false), (5, false), (6, true), (7, false)] [_, _, _, _, _, _, _, _] (by decide +kernel) (by rfl) ?_)))
          refine Dw hO 12 [_, _, _, _, _] Ym TP ?_
          refine Dw hO 11 [_, _, _, _] Yn TQ ?_
          refine pM (.int _ _) (bk hk fun v44 hv44 hk => ?_)
          refine ML hO (fun _ => RU hv44) (fun u45 F45 G hO => bk hk fun v46 hv46 hk => ?_)
          refine ML hO (fun _ => N9 hv46) (fun u47 F47 G hO => bk hk fun v48 hv48 hk => ?_)
          obtain ⟨_, hm49⟩ := LI hO (j := 1) rfl (lk.length + 1) 7
          obtain ⟨_, hm50⟩ := JI hO (j := 0) rfl (lk.length + 1) 7
          refine cV (vs := [(.agg u45), (.agg u47), (.int _ _)]) (caps := []) hO hlo rfl (fun _ hl => VI hv48 (hlo := hl)) (fun u51 F51 G hO => ?_) (h3 := (BK hm49 (BK hm50 (BK rfl EJ))))
          refine C7 hO Cy KX (fun b52 G hO => Uj hO 0 1 Cy rfl (fun G hO => pE (gn (A1 (A1 (A4 ?_))))))
          refine MM hO 0 1 Ib Cy ?_
          refine Dw hO 12 [_, _, _] Ib Cy (bk hk fun v53 hv53 hk => ?_)
          obtain ⟨_, hm54⟩ := JJ hO (j := 1) rfl (lk.length + 1) 7
          refine AR (vs := [(.agg u51), (.agg [_, _, _])]) (caps := []) (fun _ => R7 hv53) ?_ (h3 := (BK hm54 (BK rfl EJ)))
          refine pU (pE (gn (Aq hk (fun hk => ?_) (fun hk => ?_))))
          ·refine A1 (A4 (pA (.bool _) (pE (gn (Av (gr ?_))))))
           cases hk; exact AT hO
          ·refine As (gn (A1 (A4 (pA (.int _ _) (pE (gn (A1 (A4 ?_))))))))
           refine MM hO 6 7 Ib Cy ?_
           refine pM (.int _ _) (bk hk fun v55 hv55 hk => ?_)
           obtain ⟨_, hm56⟩ := JJ hO (j := 7) rfl (lk.length + 1) 7
           refine AR (vs := [(.agg u22), (.int _ _)]) (caps := []) (fun _ => VJ hv55) ?_ (h3 := (BK hm56 (BK rfl EJ)))
           refine pA (.int _ _) (pE (gn (A1 (A1 (A4 ?_)))))
           refine pM (.int _ _) ?_
           refine AX (pE (gn (Aq hk (fun hk => ?_) (fun hk => ?_))))
           ·refine A1 (A4 (pA (.bool _) (pE (gn (Av (gr ?_))))))
            cases hk; exact AT hO
           ·refine As (gn (A1 (A1 (A4 (pM (.int _ _) ?_)))))
            refine pM (.int _ _) ?_
            refine AX (pE (gn (Aq hk (fun hk => ?_) (fun hk => ?_))))
            ·refine A1 (A4 (pA (.bool _) (pE (gn (Av (gr ?_))))))
             cases hk; exact AT hO
            ·refine As (gn (A1 (A4 (pA (.bool _) (pE (gn (Av ?_)))))))
             cases hk; exact AT hO
def nS (aP0 : AQ) (aF1 : AE) (aWay2 : Int) : Option Int :=
 ((AL aF1.A5 aWay2).bind fun c3 => (bif (c3.State != (0:Int)) then some (2:Int) else ((gS aP0 aF1 aWay2).bind fun v4 => some v4.2)))
theorem lR {aP0 : AQ} {aF1 : AE} {aWay2 : Int} {r : Int} {l1 l2 m3 l4 m5 l6 l7 l8 m9 : Nat} (hk : nS aP0 aF1 aWay2 = some r) (hlk : 0 < lk.length := by simp) : Al Tryz.prog hh 62 [.agg (Aj l1 0 l2 m3 l4 m5 aP0), .agg (Ai l6 0 l7 0 l8 m9 aF1), iv aWay2] H lk = some (iv r, H) := by
 refine AI Tryz.func62 rfl Tryz.ntmps62 Tryz.results62 rfl rfl fun hO => ?_
 unfold nS at hk
 refine A1 (A4 (Ba (cs := [_, _, _, _, _]) hO CH (fun b1 G hO => ?_)))
 refine Ba (cs := [_, _, _, _]) hO C0 (fun b2 G hO => ?_)
 refine pA (.int _ _) (pE (gn (A1 (A1 (A4 ?_)))))
 refine Au Bl hO 0 (.lit _ _ _) E6 ?_
 refine pM (.int _ _) (bk hk fun c3 hc3 hk => ?_)
 refine pX hc3 EN Ay ?_
 refine pF B9 ?_
 refine By (.int _ _) (D7 (lm := m9) (off := 0) hc3 BW) ?_
 refine AX (pE (gn (Aq hk (fun hk => ?_) (fun hk => ?_))))
 ·refine A1 (A4 (pA (.int _ _) (pE (gn (Av (gr ?_))))))
  cases hk; exact AT hO
 ·refine As (gn (A1 (A4 (Dw hO 1 [_, _, _, _, _] FG CH ?_))))
  refine Dw hO 0 [_, _, _, _] Ew C0 ?_
  refine pM (.int _ _) (bk hk fun v4 hv4 hk => ?_)
  refine AR (fun _ => VK hv4) ?_
  refine pM (.FH [_, _]) ?_
  refine ZG (.agg [_, _, _]) ?_
  refine ZG (.int _ _) (C7 hO Cy KX (fun b5 G hO => ?_))
  refine Cl (xs := [_, _, _]) hO 0 Cy rfl (fun G hO => ?_)
  refine pA (.int _ _) (pE (gn (A1 (A4 ?_))))
  refine pM (.int _ _) ?_
  refine pA (.int _ _) (pE (gn (Av ?_)))
  cases hk; exact AT hO
def nT (aP0 : AQ) (aF1 : AE) (aWay2 : Int) : Option Int :=
 ((gT aP0 aF1 aWay2).bind fun v3 => ((AL aF1.A5 aWay2).bind fun c7 => (bif (c7.State != (0:Int)) then some (2:Int) else (bif decide ((v3.1.A5.length : Int) > (0:Int)) then some (3:Int) else (bif decide ((v3.1.A0.length : Int) > (0:Int)) then some (4:Int) else (bif decide ((v3.2.1.length : Int) > (0:Int)) then some (5:Int) else (bif decide ((v3.2.2.length : Int) > (0:Int)) then some (6:Int) else some (0:Int))))))))
theorem lW {aP0 : AQ} {aF1 : AE} {aWay2 : Int} {r : Int} {l1 l2 m3 l4 m5 l6 l7 l8 m9 : Nat} (hk : nT aP0 aF1 aWay2 = some r) (hlk : 0 < lk.length := by simp) (hlo : Di lk H.length := by simp [Di]) : Al Tryz.prog hh 96 [.agg (Aj l1 0 l2 m3 l4 m5 aP0), .agg (Ai l6 0 l7 0 l8 m9 aF1), iv aWay2] H lk = some (iv r, H) := by
 refine AI Tryz.func96 rfl Tryz.ntmps96 Tryz.results96 rfl rfl fun hO => ?_
 unfold nT at hk
 refine A1 (A4 (Ba (cs := [_, _, _, _, _]) hO CH (fun b1 G hO => ?_)))
 refine Ba (cs := [_, _, _, _]) hO C0 (fun b2 G hO => ?_)
 refine pA (.int _ _) (pE (gn (A1 (A4 ?_))))
 refine Dw hO 1 [_, _, _, _, _] FG CH ?_
 refine Dw hO 0 [_, _, _, _] Ew C0 ?_
 refine pM (.int _ _) (bk hk fun v3 hv3 hk => ?_)
 refine kH hO hlo rfl (fun _ hl => VL hv3) (fun u4 ua5 ub5 F4 Fa5 Fb5 G hO => ?_)
 refine pM (.FH [_, _, _]) ?_
 refine ZG (.agg u4) ?_
 refine ZG ua5 ?_
 refine ZG ub5 (C7 hO Cy KX (fun b6 G hO => ?_))
 refine Uj hO 0 3 Cy rfl (fun G hO => ?_)
 refine pA ua5 ?_
 refine pA ub5 (pE (gn (A1 (BQ (A1 (A4 ?_))))))
 refine Au Bl hO 4 (.lit _ _ _) E6 ?_
 refine pM (.int _ _) (bk hk fun c7 hc7 hk => ?_)
 refine pX hc7 EN Ay ?_
 refine pF B9 ?_
 refine By (.int _ _) (D7 (lm := m9) (off := 0) hc7 BW) ?_
 refine AX ?_
 refine pA (.bool _) (pE (gn (Aq hk (fun hk => ?_) (fun hk => ?_))))
 ·refine A1 (A4 (pA (.int _ _) (pE (gn (Av (br (gr ?_)))))))
  cases hk; exact AT hO
 ·refine A1 (A4 (pF Ic ?_))
  refine PR JD hO 0 3 BC (fun u8 fs8 hs8 => ?_)
  refine YY hs8 DE ?_
  refine AX ?_
  refine pA (.bool _) (pE (gn (Aq hk (fun hk => ?_) (fun hk => ?_))))
  ·refine A1 (A4 (pA (.int _ _) (pE (gn (Av (br (gr ?_)))))))
   cases hk; exact AT hO
  ·refine A1 (A4 (pF Ie ?_))
   refine PR Gn hO 0 3 BC (fun u9 fs9 hs9 => ?_)
   refine YY hs9 DE ?_
   refine AX ?_
   refine pA (.bool _) (pE (gn (Aq hk (fun hk => ?_) (fun hk => ?_))))
   ·refine A1 (A4 (pA (.int _ _) (pE (gn (Av (br (gr ?_)))))))
    cases hk; exact AT hO
   ·refine A1 (A4 (pM ua5 ?_))
    refine JT hO 2 DE ?_
    refine AX ?_
    refine pA (.bool _) (pE (gn (Aq hk (fun hk => ?_) (fun hk => ?_))))
    ·refine A1 (A4 (pA (.int _ _) (pE (gn (Av (br (gr ?_)))))))
     cases hk; exact AT hO
    ·refine A1 (A4 (pM ub5 ?_))
     refine JT hO 1 DE ?_
     refine AX ?_
     refine pA (.bool _) (pE (gn (Aq hk (fun hk => ?_) (fun hk => ?_))))
     ·refine A1 (A4 (pA (.int _ _) (pE (gn (Av (br (gr ?_)))))))
      cases hk; exact AT hO
     ·refine As (bn (gn (A1 (A4 (pA (.int _ _) (pE (gn (Av ?_))))))))
      cases hk; exact AT hO
end
end Go.Proofs.YtphpkphklegfeaaGreat.K
