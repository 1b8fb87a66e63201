/-
  The functions that FnExactFrameEventOk reaches, as typed Lean functions, and that the interpreter computes them. Part 2 of 2. No conditions.
-/
import Derived.Test.YtkfekjcahepfnaaDFea
set_option linter.unusedVariables false
set_option linter.unusedSimpArgs false
set_option maxRecDepth 100000
namespace Go.Proofs.Ytkfekjcahepfnaa.K
noncomputable section
/-- laws.eqWay -/
def f274 (aA0 : Way) (aB1 : Way) : Option Bool :=
  ((f28 aA0.Sections aB1.Sections).bind fun v3 => (bif !v3 then some false else ((f327 aA0.Lies aB1.Lies).bind fun v4 => (bif !v4 then some false else ((f327 aA0.Flanks aB1.Flanks).bind fun v5 => (bif !v5 then some false else ((f28 aA0.Over aB1.Over).bind fun v6 => (bif !v6 then some false else ((f28 aA0.Near aB1.Near).bind fun v7 => (bif !v7 then some false else some true))))))))))
theorem f274_run {aA0 : Way} {aB1 : Way} {r : Bool} {l1 l2 l3 l4 l5 l6 l7 l8 l9 l10 : Nat} {H : Heap} {lk : Lk} (hk : f274 aA0 aB1 = some r) (hlk : 0 < lk.length := by simp) : runL Try.prog hh 274 [.agg [.lit l1 aA0.Sections.length (flat aA0.Sections), .lit l2 aA0.Lies.length (flat aA0.Lies), .lit l3 aA0.Flanks.length (flat aA0.Flanks), .lit l4 aA0.Over.length (flat aA0.Over), .lit l5 aA0.Near.length (flat aA0.Near)], .agg [.lit l6 aB1.Sections.length (flat aB1.Sections), .lit l7 aB1.Lies.length (flat aB1.Lies), .lit l8 aB1.Flanks.length (flat aB1.Flanks), .lit l9 aB1.Over.length (flat aB1.Over), .lit l10 aB1.Near.length (flat aB1.Near)]] H lk = some (.bool r, H) := by
  refine run_start Try.func274 rfl Try.ntmps274 Try.results274 rfl rfl fun hO => ?_
  unfold f274 at hk
  refine wpL_sq ?_
  refine wpL_rg ?_
  refine pBox (cs := [_, _, _, _, _]) hO tZ218 (fun b1 G hO => ?_)
  refine pBox (cs := [_, _, _, _, _]) hO tZ218 (fun b2 G hO => ?_)
  refine pA (.bool _) ?_
  refine pE ?_
  refine gn ?_
  refine wpL_sq ?_
  refine wpL_sq ?_
  refine wpL_rg ?_
  refine pF tF218_0 ?_
  refine pLo hO 1 (.lit _ _ _) tA26 ?_
  refine pF tF218_0 ?_
  refine pLo hO 0 (.lit _ _ _) tA26 ?_
  obtain ⟨v3, hv3, hk⟩ := bs hk
  refine pCall (fun _ => f28_run hv3) ?_
  refine pU ?_
  refine pE ?_
  refine gn ?_
  refine wpL_cd (b := !v3) (fun hb => ?_) (fun hb => ?_)
  · replace hk := ct hb hk
    refine wpL_sq ?_
    refine wpL_rg ?_
    refine pA (.bool _) ?_
    refine pE ?_
    refine gn ?_
    refine wpL_rt ?_
    refine gr ?_
    replace hk := Option.some.inj hk; subst hk; exact fin0 hO
  · replace hk := cf hb hk
    refine wpL_sk ?_
    refine gn ?_
    refine wpL_sq ?_
    refine wpL_sq ?_
    refine wpL_rg ?_
    refine pF tF218_1 ?_
    refine pLo hO 1 (.lit _ _ _) tA216 ?_
    refine pF tF218_1 ?_
    refine pLo hO 0 (.lit _ _ _) tA216 ?_
    obtain ⟨v4, hv4, hk⟩ := bs hk
    refine pCall (fun _ => f327_run hv4) ?_
    refine pU ?_
    refine pE ?_
    refine gn ?_
    refine wpL_cd (b := !v4) (fun hb => ?_) (fun hb => ?_)
    · replace hk := ct hb hk
      refine wpL_sq ?_
      refine wpL_rg ?_
      refine pA (.bool _) ?_
      refine pE ?_
      refine gn ?_
      refine wpL_rt ?_
      refine gr ?_
      replace hk := Option.some.inj hk; subst hk; exact fin0 hO
    · replace hk := cf hb hk
      refine wpL_sk ?_
      refine gn ?_
      refine wpL_sq ?_
      refine wpL_sq ?_
      refine wpL_rg ?_
      refine pF tF218_2 ?_
      refine pLo hO 1 (.lit _ _ _) tA216 ?_
      refine pF tF218_2 ?_
      refine pLo hO 0 (.lit _ _ _) tA216 ?_
      obtain ⟨v5, hv5, hk⟩ := bs hk
      refine pCall (fun _ => f327_run hv5) ?_
      refine pU ?_
      refine pE ?_
      refine gn ?_
      refine wpL_cd (b := !v5) (fun hb => ?_) (fun hb => ?_)
      · replace hk := ct hb hk
        refine wpL_sq ?_
        refine wpL_rg ?_
        refine pA (.bool _) ?_
        refine pE ?_
        refine gn ?_
        refine wpL_rt ?_
        refine gr ?_
        replace hk := Option.some.inj hk; subst hk; exact fin0 hO
      · replace hk := cf hb hk
        refine wpL_sk ?_
        refine gn ?_
        refine wpL_sq ?_
        refine wpL_sq ?_
        refine wpL_rg ?_
        refine pF tF218_3 ?_
        refine pLo hO 1 (.lit _ _ _) tA26 ?_
        refine pF tF218_3 ?_
        refine pLo hO 0 (.lit _ _ _) tA26 ?_
        obtain ⟨v6, hv6, hk⟩ := bs hk
        refine pCall (fun _ => f28_run hv6) ?_
        refine pU ?_
        refine pE ?_
        refine gn ?_
        refine wpL_cd (b := !v6) (fun hb => ?_) (fun hb => ?_)
        · replace hk := ct hb hk
          refine wpL_sq ?_
          refine wpL_rg ?_
          refine pA (.bool _) ?_
          refine pE ?_
          refine gn ?_
          refine wpL_rt ?_
          refine gr ?_
          replace hk := Option.some.inj hk; subst hk; exact fin0 hO
        · replace hk := cf hb hk
          refine wpL_sk ?_
          refine gn ?_
          refine wpL_sq ?_
          refine wpL_sq ?_
          refine wpL_rg ?_
          refine pF tF218_4 ?_
          refine pLo hO 1 (.lit _ _ _) tA26 ?_
          refine pF tF218_4 ?_
          refine pLo hO 0 (.lit _ _ _) tA26 ?_
          obtain ⟨v7, hv7, hk⟩ := bs hk
          refine pCall (fun _ => f28_run hv7) ?_
          refine pU ?_
          refine pE ?_
          refine gn ?_
          refine wpL_cd (b := !v7) (fun hb => ?_) (fun hb => ?_)
          · replace hk := ct hb hk
            refine wpL_sq ?_
            refine wpL_rg ?_
            refine pA (.bool _) ?_
            refine pE ?_
            refine gn ?_
            refine wpL_rt ?_
            refine gr ?_
            replace hk := Option.some.inj hk; subst hk; exact fin0 hO
          · replace hk := cf hb hk
            refine wpL_sk ?_
            refine gn ?_
            refine wpL_sq ?_
            refine wpL_rg ?_
            refine pA (.bool _) ?_
            refine pE ?_
            refine gn ?_
            refine wpL_rt ?_
            replace hk := Option.some.inj hk; subst hk; exact fin0 hO
/-- laws.eqWayS -/
def f174_L1 (aA0 : List Way) (aB1 : List Way) : Int → Option (Int ⊕ Bool) := fun s =>
  (bif decide (s < (aA0.length : Int)) then ((getI aA0 s).bind fun c2 => ((getI aB1 s).bind fun c3 => ((f274 c2 c3).bind fun v4 => (bif !v4 then ((some false).map Sum.inr) else some (.inl (w64 (s + (1:Int)))))))) else ((some true).map Sum.inr))
def f174 (aA0 : List Way) (aB1 : List Way) : Option Bool :=
  (bif ((aA0.length : Int) != (aB1.length : Int)) then some false else (loopO (f174_L1 aA0 aB1) ((0:Int))))
theorem f174_run {aA0 : List Way} {aB1 : List Way} {r : Bool} {l1 l2 : Nat} {H : Heap} {lk : Lk} (hk : f174 aA0 aB1 = some r) (hlk : 0 < lk.length := by simp) : runL Try.prog hh 174 [.lit l1 aA0.length (flat aA0), .lit l2 aB1.length (flat aB1)] H lk = some (.bool r, H) := by
  refine run_start Try.func174 rfl Try.ntmps174 Try.results174 rfl rfl fun hO => ?_
  unfold f174 at hk
  refine wpL_sq ?_
  refine wpL_rg ?_
  refine pA (.bool _) ?_
  refine pE ?_
  refine gn ?_
  refine wpL_sq ?_
  refine wpL_sq ?_
  refine wpL_rg ?_
  refine pM (.lit _ _ _) ?_
  refine pLen tS79 ?_
  refine pM (.lit _ _ _) ?_
  refine pLen tS79 ?_
  refine pBi ?_
  refine pE ?_
  refine gn ?_
  refine wpL_cd (b := ((aA0.length : Int) != (aB1.length : Int))) (fun hb => ?_) (fun hb => ?_)
  · replace hk := ct hb hk
    refine wpL_sq ?_
    refine wpL_rg ?_
    refine pA (.bool _) ?_
    refine pE ?_
    refine gn ?_
    refine wpL_rt ?_
    refine gr ?_
    replace hk := Option.some.inj hk; subst hk; exact fin0 hO
  · replace hk := cf hb hk
    refine wpL_sk ?_
    refine gn ?_
    refine wpL_sq ?_
    refine wpL_sq ?_
    refine wpL_rg ?_
    refine pA (.int _ _) ?_
    refine pE ?_
    refine gn ?_
    refine wpL_bl ?_
    refine wpL_loopO (F := f174_L1 aA0 aB1) (fun s S' => ∃ (J : Nat → V) (G : Heap), Owns H G [] ∧ S' = ⟨hav [(0, .lit l1 aA0.length (flat aA0)), (1, .lit l2 aB1.length (flat aB1)), (5, .int .i64 s)] J, G⟩) hk ⟨_, _, hO, St.hav _ ⟨rfl, rfl, rfl, trivial⟩⟩ ?_
    rintro x1 _ y1 ⟨J, G, hO, rfl⟩ hk hx1
    refine wpL_sq ?_
    refine wpL_sq ?_
    refine wpL_rg ?_
    refine pM (.int _ _) ?_
    refine pM (.lit _ _ _) ?_
    refine pLen tS79 ?_
    refine pBi ?_
    refine pE ?_
    refine gn ?_
    refine wpL_cd (b := decide (x1 < (aA0.length : Int))) (fun hb => ?_) (fun hb => ?_)
    · replace hk := ct hb hk
      refine wpL_sk ?_
      refine gn ?_
      refine wpL_sq ?_
      refine wpL_bl ?_
      refine wpL_sq ?_
      refine wpL_drw [(0, true), (1, true), (2, true), (3, true), (4, true), (5, true), (6, true), (7, true), (8, false), (9, false)] [_, _, _, _, _, _, _, _, _, _] (by decide +kernel) (by rfl) ?_
      refine pM (.lit _ _ _) ?_
      refine pM (.int _ _) ?_
      obtain ⟨c2, hc2, hk⟩ := bs hk
      refine pX hc2 tE79 tZ218 ?_
      refine pLp (.agg [_, _, _, _, _]) (rd2 (off := 0) hc2 tA218 tZ218) ?_
      refine pM (.lit _ _ _) ?_
      refine pM (.int _ _) ?_
      obtain ⟨c3, hc3, hk⟩ := bs hk
      refine pX hc3 tE79 tZ218 ?_
      refine pLp (.agg [_, _, _, _, _]) (rd2 (off := 0) hc3 tA218 tZ218) ?_
      obtain ⟨v4, hv4, hk⟩ := bs hk
      refine pCall (fun _ => f274_run hv4) ?_
      refine pU ?_
      refine pE ?_
      refine gn ?_
      refine wpL_cd (b := !v4) (fun hb => ?_) (fun hb => ?_)
      · replace hk := ct hb hk
        refine wpL_sq ?_
        refine wpL_rg ?_
        refine pA (.bool _) ?_
        refine pE ?_
        refine gn ?_
        refine wpL_rt ?_
        refine br (gr (gr (br (gr ?_))))
        replace hk := lx hx1 hk
        replace hk := Option.some.inj hk; subst hk; exact fin0 hO
      · replace hk := cf hb hk
        refine wpL_sk ?_
        refine bn (gn ?_)
        refine wpL_rg ?_
        refine pM (.int _ _) ?_
        refine pBi ?_
        refine pA (.int _ _) ?_
        refine pE ?_
        refine gn ?_
        cases hk; exact ⟨_, rfl, _, _, hO, St.hav _ ⟨rfl, rfl, rfl, trivial⟩⟩
    · replace hk := cf hb hk
      refine wpL_ex ?_
      refine ge (ge (be (gn ?_)))
      replace hk := lx hx1 hk
      refine wpL_sq ?_
      refine wpL_rg ?_
      refine pA (.bool _) ?_
      refine pE ?_
      refine gn ?_
      refine wpL_rt ?_
      replace hk := Option.some.inj hk; subst hk; exact fin0 hO
/-- laws.eqBoolS -/
def f133_L1 (aA0 : List Bool) (aB1 : List Bool) : Int → Option (Int ⊕ Bool) := fun s =>
  (bif decide (s < (aA0.length : Int)) then ((getI aA0 s).bind fun c2 => ((getI aB1 s).bind fun c3 => (bif !(c2 == c3) then ((some false).map Sum.inr) else some (.inl (w64 (s + (1:Int))))))) else ((some true).map Sum.inr))
def f133 (aA0 : List Bool) (aB1 : List Bool) : Option Bool :=
  (bif ((aA0.length : Int) != (aB1.length : Int)) then some false else (loopO (f133_L1 aA0 aB1) ((0:Int))))
theorem f133_run {aA0 : List Bool} {aB1 : List Bool} {r : Bool} {l1 l2 : Nat} {H : Heap} {lk : Lk} (hk : f133 aA0 aB1 = some r) (hlk : 0 < lk.length := by simp) : runL Try.prog hh 133 [.lit l1 aA0.length (flat aA0), .lit l2 aB1.length (flat aB1)] H lk = some (.bool r, H) := by
  refine run_start Try.func133 rfl Try.ntmps133 Try.results133 rfl rfl fun hO => ?_
  unfold f133 at hk
  refine wpL_sq ?_
  refine wpL_rg ?_
  refine pA (.bool _) ?_
  refine pE ?_
  refine gn ?_
  refine wpL_sq ?_
  refine wpL_sq ?_
  refine wpL_rg ?_
  refine pM (.lit _ _ _) ?_
  refine pLen tS38 ?_
  refine pM (.lit _ _ _) ?_
  refine pLen tS38 ?_
  refine pBi ?_
  refine pE ?_
  refine gn ?_
  refine wpL_cd (b := ((aA0.length : Int) != (aB1.length : Int))) (fun hb => ?_) (fun hb => ?_)
  · replace hk := ct hb hk
    refine wpL_sq ?_
    refine wpL_rg ?_
    refine pA (.bool _) ?_
    refine pE ?_
    refine gn ?_
    refine wpL_rt ?_
    refine gr ?_
    replace hk := Option.some.inj hk; subst hk; exact fin0 hO
  · replace hk := cf hb hk
    refine wpL_sk ?_
    refine gn ?_
    refine wpL_sq ?_
    refine wpL_sq ?_
    refine wpL_rg ?_
    refine pA (.int _ _) ?_
    refine pE ?_
    refine gn ?_
    refine wpL_bl ?_
    refine wpL_loopO (F := f133_L1 aA0 aB1) (fun s S' => ∃ (J : Nat → V) (G : Heap), Owns H G [] ∧ S' = ⟨hav [(0, .lit l1 aA0.length (flat aA0)), (1, .lit l2 aB1.length (flat aB1)), (5, .int .i64 s)] J, G⟩) hk ⟨_, _, hO, St.hav _ ⟨rfl, rfl, rfl, trivial⟩⟩ ?_
    rintro x1 _ y1 ⟨J, G, hO, rfl⟩ hk hx1
    refine wpL_sq ?_
    refine wpL_sq ?_
    refine wpL_rg ?_
    refine pM (.int _ _) ?_
    refine pM (.lit _ _ _) ?_
    refine pLen tS38 ?_
    refine pBi ?_
    refine pE ?_
    refine gn ?_
    refine wpL_cd (b := decide (x1 < (aA0.length : Int))) (fun hb => ?_) (fun hb => ?_)
    · replace hk := ct hb hk
      refine wpL_sk ?_
      refine gn ?_
      refine wpL_sq ?_
      refine wpL_bl ?_
      refine wpL_sq ?_
      refine wpL_drw [(0, true), (1, true), (2, true), (3, true), (4, true), (5, true), (6, true), (7, true), (8, false)] [_, _, _, _, _, _, _, _, _] (by decide +kernel) (by rfl) ?_
      refine pM (.lit _ _ _) ?_
      refine pM (.int _ _) ?_
      obtain ⟨c2, hc2, hk⟩ := bs hk
      refine pX hc2 tE38 tZ4 ?_
      refine pLp (.bool _) (rd1 (off := 0) hc2 tA4) ?_
      refine pM (.lit _ _ _) ?_
      refine pM (.int _ _) ?_
      obtain ⟨c3, hc3, hk⟩ := bs hk
      refine pX hc3 tE38 tZ4 ?_
      refine pLp (.bool _) (rd1 (off := 0) hc3 tA4) ?_
      refine pBn Try.underlying4 ?_
      refine pE ?_
      refine gn ?_
      refine wpL_cd (b := !(c2 == c3)) (fun hb => ?_) (fun hb => ?_)
      · replace hk := ct hb hk
        refine wpL_sq ?_
        refine wpL_rg ?_
        refine pA (.bool _) ?_
        refine pE ?_
        refine gn ?_
        refine wpL_rt ?_
        refine br (gr (gr (br (gr ?_))))
        replace hk := lx hx1 hk
        replace hk := Option.some.inj hk; subst hk; exact fin0 hO
      · replace hk := cf hb hk
        refine wpL_sk ?_
        refine bn (gn ?_)
        refine wpL_rg ?_
        refine pM (.int _ _) ?_
        refine pBi ?_
        refine pA (.int _ _) ?_
        refine pE ?_
        refine gn ?_
        cases hk; exact ⟨_, rfl, _, _, hO, St.hav _ ⟨rfl, rfl, rfl, trivial⟩⟩
    · replace hk := cf hb hk
      refine wpL_ex ?_
      refine ge (ge (be (gn ?_)))
      replace hk := lx hx1 hk
      refine wpL_sq ?_
      refine wpL_rg ?_
      refine pA (.bool _) ?_
      refine pE ?_
      refine gn ?_
      refine wpL_rt ?_
      replace hk := Option.some.inj hk; subst hk; exact fin0 hO
/-- laws.eqBoolSS -/
def f148_L1 (aA0 : List (List Bool)) (aB1 : List (List Bool)) : Int → Option (Int ⊕ Bool) := fun s =>
  (bif decide (s < (aA0.length : Int)) then ((getI aA0 s).bind fun c2 => ((getI aB1 s).bind fun c3 => ((f133 c2 c3).bind fun v4 => (bif !v4 then ((some false).map Sum.inr) else some (.inl (w64 (s + (1:Int)))))))) else ((some true).map Sum.inr))
def f148 (aA0 : List (List Bool)) (aB1 : List (List Bool)) : Option Bool :=
  (bif ((aA0.length : Int) != (aB1.length : Int)) then some false else (loopO (f148_L1 aA0 aB1) ((0:Int))))
theorem f148_run {aA0 : List (List Bool)} {aB1 : List (List Bool)} {r : Bool} {l1 l2 : Nat} {H : Heap} {lk : Lk} (hk : f148 aA0 aB1 = some r) (hlk : 0 < lk.length := by simp) : runL Try.prog hh 148 [.lit l1 aA0.length (flat aA0), .lit l2 aB1.length (flat aB1)] H lk = some (.bool r, H) := by
  refine run_start Try.func148 rfl Try.ntmps148 Try.results148 rfl rfl fun hO => ?_
  unfold f148 at hk
  refine wpL_sq ?_
  refine wpL_rg ?_
  refine pA (.bool _) ?_
  refine pE ?_
  refine gn ?_
  refine wpL_sq ?_
  refine wpL_sq ?_
  refine wpL_rg ?_
  refine pM (.lit _ _ _) ?_
  refine pLen tS45 ?_
  refine pM (.lit _ _ _) ?_
  refine pLen tS45 ?_
  refine pBi ?_
  refine pE ?_
  refine gn ?_
  refine wpL_cd (b := ((aA0.length : Int) != (aB1.length : Int))) (fun hb => ?_) (fun hb => ?_)
  · replace hk := ct hb hk
    refine wpL_sq ?_
    refine wpL_rg ?_
    refine pA (.bool _) ?_
    refine pE ?_
    refine gn ?_
    refine wpL_rt ?_
    refine gr ?_
    replace hk := Option.some.inj hk; subst hk; exact fin0 hO
  · replace hk := cf hb hk
    refine wpL_sk ?_
    refine gn ?_
    refine wpL_sq ?_
    refine wpL_sq ?_
    refine wpL_rg ?_
    refine pA (.int _ _) ?_
    refine pE ?_
    refine gn ?_
    refine wpL_bl ?_
    refine wpL_loopO (F := f148_L1 aA0 aB1) (fun s S' => ∃ (J : Nat → V) (G : Heap), Owns H G [] ∧ S' = ⟨hav [(0, .lit l1 aA0.length (flat aA0)), (1, .lit l2 aB1.length (flat aB1)), (5, .int .i64 s)] J, G⟩) hk ⟨_, _, hO, St.hav _ ⟨rfl, rfl, rfl, trivial⟩⟩ ?_
    rintro x1 _ y1 ⟨J, G, hO, rfl⟩ hk hx1
    refine wpL_sq ?_
    refine wpL_sq ?_
    refine wpL_rg ?_
    refine pM (.int _ _) ?_
    refine pM (.lit _ _ _) ?_
    refine pLen tS45 ?_
    refine pBi ?_
    refine pE ?_
    refine gn ?_
    refine wpL_cd (b := decide (x1 < (aA0.length : Int))) (fun hb => ?_) (fun hb => ?_)
    · replace hk := ct hb hk
      refine wpL_sk ?_
      refine gn ?_
      refine wpL_sq ?_
      refine wpL_bl ?_
      refine wpL_sq ?_
      refine wpL_drw [(0, true), (1, true), (2, true), (3, true), (4, true), (5, true), (6, true), (7, true), (8, false), (9, false)] [_, _, _, _, _, _, _, _, _, _] (by decide +kernel) (by rfl) ?_
      refine pM (.lit _ _ _) ?_
      refine pM (.int _ _) ?_
      obtain ⟨c2, hc2, hk⟩ := bs hk
      refine pX hc2 tE45 tZ38 ?_
      refine pLp (.lit _ _ _) (rd1 (off := 0) hc2 tA38) ?_
      refine pM (.lit _ _ _) ?_
      refine pM (.int _ _) ?_
      obtain ⟨c3, hc3, hk⟩ := bs hk
      refine pX hc3 tE45 tZ38 ?_
      refine pLp (.lit _ _ _) (rd1 (off := 0) hc3 tA38) ?_
      obtain ⟨v4, hv4, hk⟩ := bs hk
      refine pCall (fun _ => f133_run hv4) ?_
      refine pU ?_
      refine pE ?_
      refine gn ?_
      refine wpL_cd (b := !v4) (fun hb => ?_) (fun hb => ?_)
      · replace hk := ct hb hk
        refine wpL_sq ?_
        refine wpL_rg ?_
        refine pA (.bool _) ?_
        refine pE ?_
        refine gn ?_
        refine wpL_rt ?_
        refine br (gr (gr (br (gr ?_))))
        replace hk := lx hx1 hk
        replace hk := Option.some.inj hk; subst hk; exact fin0 hO
      · replace hk := cf hb hk
        refine wpL_sk ?_
        refine bn (gn ?_)
        refine wpL_rg ?_
        refine pM (.int _ _) ?_
        refine pBi ?_
        refine pA (.int _ _) ?_
        refine pE ?_
        refine gn ?_
        cases hk; exact ⟨_, rfl, _, _, hO, St.hav _ ⟨rfl, rfl, rfl, trivial⟩⟩
    · replace hk := cf hb hk
      refine wpL_ex ?_
      refine ge (ge (be (gn ?_)))
      replace hk := lx hx1 hk
      refine wpL_sq ?_
      refine wpL_rg ?_
      refine pA (.bool _) ?_
      refine pE ?_
      refine gn ?_
      refine wpL_rt ?_
      replace hk := Option.some.inj hk; subst hk; exact fin0 hO
/-- laws.eqPlan -/
def f56 (aA0 : Plan) (aB1 : Plan) : Option Bool :=
  (bif (aA0.Sections != aB1.Sections) then some false else ((f28 aA0.Switches aB1.Switches).bind fun v3 => (bif !v3 then some false else ((f174 aA0.Ways aB1.Ways).bind fun v4 => (bif !v4 then some false else ((f148 aA0.Bars aB1.Bars).bind fun v5 => (bif !v5 then some false else (bif (aA0.Hold != aB1.Hold) then some false else some true))))))))
theorem f56_run {aA0 : Plan} {aB1 : Plan} {r : Bool} {l1 l2 l3 l4 l5 l6 : Nat} {H : Heap} {lk : Lk} (hk : f56 aA0 aB1 = some r) (hlk : 0 < lk.length := by simp) : runL Try.prog hh 56 [.agg [.int .i64 aA0.Sections, .lit l1 aA0.Switches.length (flat aA0.Switches), .lit l2 aA0.Ways.length (flat aA0.Ways), .lit l3 aA0.Bars.length (flat aA0.Bars), .int .i64 aA0.Hold], .agg [.int .i64 aB1.Sections, .lit l4 aB1.Switches.length (flat aB1.Switches), .lit l5 aB1.Ways.length (flat aB1.Ways), .lit l6 aB1.Bars.length (flat aB1.Bars), .int .i64 aB1.Hold]] H lk = some (.bool r, H) := by
  refine run_start Try.func56 rfl Try.ntmps56 Try.results56 rfl rfl fun hO => ?_
  unfold f56 at hk
  refine wpL_sq ?_
  refine wpL_rg ?_
  refine pBox (cs := [_, _, _, _, _]) hO tZ81 (fun b1 G hO => ?_)
  refine pBox (cs := [_, _, _, _, _]) hO tZ81 (fun b2 G hO => ?_)
  refine pA (.bool _) ?_
  refine pE ?_
  refine gn ?_
  refine wpL_sq ?_
  refine wpL_sq ?_
  refine wpL_rg ?_
  refine pF tF81_0 ?_
  refine pLo hO 1 (.int _ _) tA3 ?_
  refine pF tF81_0 ?_
  refine pLo hO 0 (.int _ _) tA3 ?_
  refine pBi ?_
  refine pE ?_
  refine gn ?_
  refine wpL_cd (b := (aA0.Sections != aB1.Sections)) (fun hb => ?_) (fun hb => ?_)
  · replace hk := ct hb hk
    refine wpL_sq ?_
    refine wpL_rg ?_
    refine pA (.bool _) ?_
    refine pE ?_
    refine gn ?_
    refine wpL_rt ?_
    refine gr ?_
    replace hk := Option.some.inj hk; subst hk; exact fin0 hO
  · replace hk := cf hb hk
    refine wpL_sk ?_
    refine gn ?_
    refine wpL_sq ?_
    refine wpL_sq ?_
    refine wpL_rg ?_
    refine pF tF81_1 ?_
    refine pLo hO 1 (.lit _ _ _) tA26 ?_
    refine pF tF81_1 ?_
    refine pLo hO 0 (.lit _ _ _) tA26 ?_
    obtain ⟨v3, hv3, hk⟩ := bs hk
    refine pCall (fun _ => f28_run hv3) ?_
    refine pU ?_
    refine pE ?_
    refine gn ?_
    refine wpL_cd (b := !v3) (fun hb => ?_) (fun hb => ?_)
    · replace hk := ct hb hk
      refine wpL_sq ?_
      refine wpL_rg ?_
      refine pA (.bool _) ?_
      refine pE ?_
      refine gn ?_
      refine wpL_rt ?_
      refine gr ?_
      replace hk := Option.some.inj hk; subst hk; exact fin0 hO
    · replace hk := cf hb hk
      refine wpL_sk ?_
      refine gn ?_
      refine wpL_sq ?_
      refine wpL_sq ?_
      refine wpL_rg ?_
      refine pF tF81_2 ?_
      refine pLo hO 1 (.lit _ _ _) tA79 ?_
      refine pF tF81_2 ?_
      refine pLo hO 0 (.lit _ _ _) tA79 ?_
      obtain ⟨v4, hv4, hk⟩ := bs hk
      refine pCall (fun _ => f174_run hv4) ?_
      refine pU ?_
      refine pE ?_
      refine gn ?_
      refine wpL_cd (b := !v4) (fun hb => ?_) (fun hb => ?_)
      · replace hk := ct hb hk
        refine wpL_sq ?_
        refine wpL_rg ?_
        refine pA (.bool _) ?_
        refine pE ?_
        refine gn ?_
        refine wpL_rt ?_
        refine gr ?_
        replace hk := Option.some.inj hk; subst hk; exact fin0 hO
      · replace hk := cf hb hk
        refine wpL_sk ?_
        refine gn ?_
        refine wpL_sq ?_
        refine wpL_sq ?_
        refine wpL_rg ?_
        refine pF tF81_3 ?_
        refine pLo hO 1 (.lit _ _ _) tA45 ?_
        refine pF tF81_3 ?_
        refine pLo hO 0 (.lit _ _ _) tA45 ?_
        obtain ⟨v5, hv5, hk⟩ := bs hk
        refine pCall (fun _ => f148_run hv5) ?_
        refine pU ?_
        refine pE ?_
        refine gn ?_
        refine wpL_cd (b := !v5) (fun hb => ?_) (fun hb => ?_)
        · replace hk := ct hb hk
          refine wpL_sq ?_
          refine wpL_rg ?_
          refine pA (.bool _) ?_
          refine pE ?_
          refine gn ?_
          refine wpL_rt ?_
          refine gr ?_
          replace hk := Option.some.inj hk; subst hk; exact fin0 hO
        · replace hk := cf hb hk
          refine wpL_sk ?_
          refine gn ?_
          refine wpL_sq ?_
          refine wpL_sq ?_
          refine wpL_rg ?_
          refine pF tF81_4 ?_
          refine pLo hO 1 (.int _ _) tA3 ?_
          refine pF tF81_4 ?_
          refine pLo hO 0 (.int _ _) tA3 ?_
          refine pBi ?_
          refine pE ?_
          refine gn ?_
          refine wpL_cd (b := (aA0.Hold != aB1.Hold)) (fun hb => ?_) (fun hb => ?_)
          · replace hk := ct hb hk
            refine wpL_sq ?_
            refine wpL_rg ?_
            refine pA (.bool _) ?_
            refine pE ?_
            refine gn ?_
            refine wpL_rt ?_
            refine gr ?_
            replace hk := Option.some.inj hk; subst hk; exact fin0 hO
          · replace hk := cf hb hk
            refine wpL_sk ?_
            refine gn ?_
            refine wpL_sq ?_
            refine wpL_rg ?_
            refine pA (.bool _) ?_
            refine pE ?_
            refine gn ?_
            refine wpL_rt ?_
            replace hk := Option.some.inj hk; subst hk; exact fin0 hO
/-- laws.FnExactFrameEventOk -/
def f9 (aAP0 : Plan) (aAE1 : FrameEvent) : Option Bool :=
  ((f51 aAP0 (1048576:Int)).bind fun v3 => (bif decide (v3 < (0:Int)) then some true else ((f53 aAP0).bind fun v4 => ((f58 aAE1).bind fun v5 => ((f57 v4 v5).bind fun v6 => ((f53 aAP0).bind fun v7 => ((f58 aAE1).bind fun v9 => ((f59 v7 v9).bind fun v10 => (bif !(v10 == v6) then some false else ((f53 aAP0).bind fun v11 => ((f56 v7 v11).bind fun v12 => (bif !v12 then some false else some true))))))))))))
theorem f9_run {aAP0 : Plan} {aAE1 : FrameEvent} {r : Bool} {l1 l2 l3 : Nat} {H : Heap} {lk : Lk} (hk : f9 aAP0 aAE1 = some r) (hlk : 0 < lk.length := by simp) : runL Try.prog hh 9 [.agg [.int .i64 aAP0.Sections, .lit l1 aAP0.Switches.length (flat aAP0.Switches), .lit l2 aAP0.Ways.length (flat aAP0.Ways), .lit l3 aAP0.Bars.length (flat aAP0.Bars), .int .i64 aAP0.Hold], .agg [.int .i64 aAE1.Op, .int .i64 aAE1.Of, .int .i64 aAE1.Lie]] H lk = some (.bool r, H) := by
  refine run_start Try.func9 rfl Try.ntmps9 Try.results9 rfl rfl fun hO => ?_
  unfold f9 at hk
  refine wpL_sq ?_
  refine wpL_rg ?_
  refine pBox (cs := [_, _, _, _, _]) hO tZ74 (fun b1 G hO => ?_)
  refine pBox (cs := [_, _, _]) hO tZ87 (fun b2 G hO => ?_)
  refine pA (.bool _) ?_
  refine pE ?_
  refine gn ?_
  refine wpL_sq ?_
  refine wpL_rg ?_
  refine pA (.int _ _) ?_
  refine pE ?_
  refine gn ?_
  refine wpL_sq ?_
  refine wpL_rg ?_
  refine pLs hO 1 [_, _, _, _, _] tA74 tZ74 ?_
  refine pM (.int _ _) ?_
  obtain ⟨v3, hv3, hk⟩ := bs hk
  refine pCall (fun _ => f51_run hv3) ?_
  refine pA (.int _ _) ?_
  refine pE ?_
  refine gn ?_
  refine wpL_sq ?_
  refine wpL_sq ?_
  refine wpL_rg ?_
  refine pM (.int _ _) ?_
  refine pBi ?_
  refine pE ?_
  refine gn ?_
  refine wpL_cd (b := decide (v3 < (0:Int))) (fun hb => ?_) (fun hb => ?_)
  · replace hk := ct hb hk
    refine wpL_sq ?_
    refine wpL_rg ?_
    refine pA (.bool _) ?_
    refine pE ?_
    refine gn ?_
    refine wpL_rt ?_
    refine gr ?_
    replace hk := Option.some.inj hk; subst hk; exact fin0 hO
  · replace hk := cf hb hk
    refine wpL_sk ?_
    refine gn ?_
    refine wpL_sq ?_
    refine wpL_drw [(0, true), (2, true), (1, true), (3, false), (4, false), (5, false)] [_, _, _, _, _, _] (by decide +kernel) (by rfl) ?_
    refine pLs hO 1 [_, _, _, _, _] tA74 tZ74 ?_
    refine pLs hO 0 [_, _, _] tA87 tZ87 ?_
    obtain ⟨v4, hv4, hk⟩ := bs hk
    refine pCall (fun _ => f53_run hv4) ?_
    obtain ⟨v5, hv5, hk⟩ := bs hk
    refine pCall (fun _ => f58_run hv5) ?_
    obtain ⟨v6, hv6, hk⟩ := bs hk
    refine pCall (fun _ => f57_run hv6) ?_
    refine pA (.bool _) ?_
    refine pE ?_
    refine gn ?_
    refine wpL_sq ?_
    refine wpL_rg ?_
    refine pLs hO 1 [_, _, _, _, _] tA74 tZ74 ?_
    obtain ⟨v7, hv7, hk⟩ := bs hk
    refine pCall (fun _ => f53_run hv7) ?_
    refine pNew hO tZ81 t081 (fun b8 G hO => ?_)
    refine pSt (xs := [_, _, _, _, _]) hO 0 tZ81 rfl (fun G hO => ?_)
    refine pE ?_
    refine gn ?_
    refine wpL_sq ?_
    refine wpL_drw [(0, true), (1, true), (2, true), (3, false), (4, false)] [_, _, _, _, _] (by decide +kernel) (by rfl) ?_
    refine pLs hO 0 [_, _, _, _, _] tA81 tZ81 ?_
    refine pLs hO 1 [_, _, _] tA87 tZ87 ?_
    obtain ⟨v9, hv9, hk⟩ := bs hk
    refine pCall (fun _ => f58_run hv9) ?_
    obtain ⟨v10, hv10, hk⟩ := bs hk
    refine pCall (fun _ => f59_run hv10) ?_
    refine pA (.bool _) ?_
    refine pE ?_
    refine gn ?_
    refine wpL_sq ?_
    refine wpL_sq ?_
    refine wpL_rg ?_
    refine pM (.bool _) ?_
    refine pM (.bool _) ?_
    refine pBn Try.underlying4 ?_
    refine pE ?_
    refine gn ?_
    refine wpL_cd (b := !(v10 == v6)) (fun hb => ?_) (fun hb => ?_)
    · replace hk := ct hb hk
      refine wpL_sq ?_
      refine wpL_rg ?_
      refine pA (.bool _) ?_
      refine pE ?_
      refine gn ?_
      refine wpL_rt ?_
      refine gr ?_
      replace hk := Option.some.inj hk; subst hk; exact fin0 hO
    · replace hk := cf hb hk
      refine wpL_sk ?_
      refine gn ?_
      refine wpL_sq ?_
      refine wpL_sq ?_
      refine wpL_drw [(0, true), (1, true), (2, true), (3, false), (4, false)] [_, _, _, _, _] (by decide +kernel) (by rfl) ?_
      refine pLs hO 0 [_, _, _, _, _] tA81 tZ81 ?_
      refine pLs hO 2 [_, _, _, _, _] tA74 tZ74 ?_
      obtain ⟨v11, hv11, hk⟩ := bs hk
      refine pCall (fun _ => f53_run hv11) ?_
      obtain ⟨v12, hv12, hk⟩ := bs hk
      refine pCall (fun _ => f56_run hv12) ?_
      refine pU ?_
      refine pE ?_
      refine gn ?_
      refine wpL_cd (b := !v12) (fun hb => ?_) (fun hb => ?_)
      · replace hk := ct hb hk
        refine wpL_sq ?_
        refine wpL_rg ?_
        refine pA (.bool _) ?_
        refine pE ?_
        refine gn ?_
        refine wpL_rt ?_
        refine gr ?_
        replace hk := Option.some.inj hk; subst hk; exact fin0 hO
      · replace hk := cf hb hk
        refine wpL_sk ?_
        refine gn ?_
        refine wpL_sq ?_
        refine wpL_rg ?_
        refine pA (.bool _) ?_
        refine pE ?_
        refine gn ?_
        refine wpL_rt ?_
        replace hk := Option.some.inj hk; subst hk; exact fin0 hO
end
end Go.Proofs.Ytkfekjcahepfnaa.K
