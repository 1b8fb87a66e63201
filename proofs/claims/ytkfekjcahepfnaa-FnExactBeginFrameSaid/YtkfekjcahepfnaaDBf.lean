/-
  The functions that FnExactBeginFrame reaches, as typed Lean functions, and that the interpreter computes them. Part 2 of 2. No conditions.
-/
import Derived.Test.YtkfekjcahepfnaaDBfa
set_option linter.unusedVariables false
set_option linter.unusedSimpArgs false
set_option maxRecDepth 100000
namespace Go.Proofs.Ytkfekjcahepfnaa.K
noncomputable section
/-- laws.eqFrame -/
def f92 (aA0 : Frame) (aB1 : Frame) : Option Bool :=
  (bif !(aA0.Ok == aB1.Ok) then some false else ((f133 aA0.Occ aB1.Occ).bind fun v3 => (bif !v3 then some false else ((f209 aA0.Points aB1.Points).bind fun v4 => (bif !v4 then some false else ((f210 aA0.Ways aB1.Ways).bind fun v5 => (bif !v5 then some false else some true)))))))
theorem f92_run {aA0 : Frame} {aB1 : Frame} {r : Bool} {l1 l2 l3 m4 l5 l6 l7 m8 : Nat} {H : Heap} {lk : Lk} (hk : f92 aA0 aB1 = some r) (hlk : 0 < lk.length := by simp) : runL Try.prog hh 92 [.agg [.bool aA0.Ok, .lit l1 aA0.Occ.length ((flatL 0) aA0.Occ), .lit l2 aA0.Points.length ((flatL 0) aA0.Points), .lit l3 aA0.Ways.length (flatL m4 aA0.Ways)], .agg [.bool aB1.Ok, .lit l5 aB1.Occ.length ((flatL 0) aB1.Occ), .lit l6 aB1.Points.length ((flatL 0) aB1.Points), .lit l7 aB1.Ways.length (flatL m8 aB1.Ways)]] H lk = some (.bool r, H) := by
  refine run_start Try.func92 rfl Try.ntmps92 Try.results92 rfl rfl fun hO => ?_
  unfold f92 at hk
  refine wpL_sq (wpL_rg ?_)
  refine pBox (cs := [_, _, _, _]) hO tZ148 (fun b1 G hO => ?_)
  refine pBox (cs := [_, _, _, _]) hO tZ148 (fun b2 G hO => ?_)
  refine pA (.bool _) ?_
  refine pE (gn (wpL_sq (wpL_sq (wpL_rg ?_))))
  refine pF tF148_0 ?_
  refine pLo hO 1 (.bool _) tA4 ?_
  refine pF tF148_0 ?_
  refine pLo hO 0 (.bool _) tA4 ?_
  refine pBn Try.underlying4 ?_
  refine pE (gn ?_)
  refine wpL_cd (b := !(aA0.Ok == aB1.Ok)) (fun hb => ?_) (fun hb => ?_)
  · replace hk := ct hb hk
    refine wpL_sq (wpL_rg ?_)
    refine pA (.bool _) ?_
    refine pE (gn (wpL_rt (gr ?_)))
    replace hk := Option.some.inj hk; subst hk; exact fin0 hO
  · replace hk := cf hb hk
    refine wpL_sk (gn (wpL_sq (wpL_sq (wpL_rg ?_))))
    refine pF tF148_1 ?_
    refine pLo hO 1 (.lit _ _ _) tA38 ?_
    refine pF tF148_1 ?_
    refine pLo hO 0 (.lit _ _ _) tA38 ?_
    obtain ⟨v3, hv3, hk⟩ := bs hk
    refine pCall (fun _ => f133_run hv3) ?_
    refine pU ?_
    refine pE (gn ?_)
    refine wpL_cd (b := !v3) (fun hb => ?_) (fun hb => ?_)
    · replace hk := ct hb hk
      refine wpL_sq (wpL_rg ?_)
      refine pA (.bool _) ?_
      refine pE (gn (wpL_rt (gr ?_)))
      replace hk := Option.some.inj hk; subst hk; exact fin0 hO
    · replace hk := cf hb hk
      refine wpL_sk (gn (wpL_sq (wpL_sq (wpL_rg ?_))))
      refine pF tF148_2 ?_
      refine pLo hO 1 (.lit _ _ _) tA145 ?_
      refine pF tF148_2 ?_
      refine pLo hO 0 (.lit _ _ _) tA145 ?_
      obtain ⟨v4, hv4, hk⟩ := bs hk
      refine pCall (fun _ => f209_run hv4) ?_
      refine pU ?_
      refine pE (gn ?_)
      refine wpL_cd (b := !v4) (fun hb => ?_) (fun hb => ?_)
      · replace hk := ct hb hk
        refine wpL_sq (wpL_rg ?_)
        refine pA (.bool _) ?_
        refine pE (gn (wpL_rt (gr ?_)))
        replace hk := Option.some.inj hk; subst hk; exact fin0 hO
      · replace hk := cf hb hk
        refine wpL_sk (gn (wpL_sq (wpL_sq (wpL_rg ?_))))
        refine pF tF148_3 ?_
        refine pLo hO 1 (.lit _ _ _) tA146 ?_
        refine pF tF148_3 ?_
        refine pLo hO 0 (.lit _ _ _) tA146 ?_
        obtain ⟨v5, hv5, hk⟩ := bs hk
        refine pCall (fun _ => f210_run hv5) ?_
        refine pU ?_
        refine pE (gn ?_)
        refine wpL_cd (b := !v5) (fun hb => ?_) (fun hb => ?_)
        · replace hk := ct hb hk
          refine wpL_sq (wpL_rg ?_)
          refine pA (.bool _) ?_
          refine pE (gn (wpL_rt (gr ?_)))
          replace hk := Option.some.inj hk; subst hk; exact fin0 hO
        · replace hk := cf hb hk
          refine wpL_sk (gn (wpL_sq (wpL_rg ?_)))
          refine pA (.bool _) ?_
          refine pE (gn (wpL_rt ?_))
          replace hk := Option.some.inj hk; subst hk; exact fin0 hO
/-- laws.eqIntS -/
def f28_L1 (aA0 : List Int) (aB1 : List Int) : Int → Option (Int ⊕ Bool) := fun s =>
  (bif decide (s < (aA0.length : Int)) then ((getI aA0 s).bind fun c2 => ((getI aB1 s).bind fun c3 => (bif (c2 != c3) then ((some false).map Sum.inr) else some (.inl (w64 (s + (1:Int))))))) else ((some true).map Sum.inr))
def f28 (aA0 : List Int) (aB1 : List Int) : Option Bool :=
  (bif ((aA0.length : Int) != (aB1.length : Int)) then some false else (loopO (f28_L1 aA0 aB1) ((0:Int))))
theorem f28_run {aA0 : List Int} {aB1 : List Int} {r : Bool} {l1 l2 : Nat} {H : Heap} {lk : Lk} (hk : f28 aA0 aB1 = some r) (hlk : 0 < lk.length := by simp) : runL Try.prog hh 28 [.lit l1 aA0.length ((flatL 0) aA0), .lit l2 aB1.length ((flatL 0) aB1)] H lk = some (.bool r, H) := by
  refine run_start Try.func28 rfl Try.ntmps28 Try.results28 rfl rfl fun hO => ?_
  unfold f28 at hk
  refine wpL_sq (wpL_rg ?_)
  refine pA (.bool _) ?_
  refine pE (gn (wpL_sq (wpL_sq (wpL_rg ?_))))
  refine pM (.lit _ _ _) ?_
  refine pLen tS26 ?_
  refine pM (.lit _ _ _) ?_
  refine pLen tS26 ?_
  refine pBi ?_
  refine pE (gn ?_)
  refine wpL_cd (b := ((aA0.length : Int) != (aB1.length : Int))) (fun hb => ?_) (fun hb => ?_)
  · replace hk := ct hb hk
    refine wpL_sq (wpL_rg ?_)
    refine pA (.bool _) ?_
    refine pE (gn (wpL_rt (gr ?_)))
    replace hk := Option.some.inj hk; subst hk; exact fin0 hO
  · replace hk := cf hb hk
    refine wpL_sk (gn (wpL_sq (wpL_sq (wpL_rg ?_))))
    refine pA (.int _ _) ?_
    refine pE (gn (wpL_bl ?_))
    refine wpL_loopO (F := f28_L1 aA0 aB1) (fun s S' => ∃ (J : Nat → V) (G : Heap), Owns H G [] ∧ S' = ⟨hav [(0, .lit l1 aA0.length ((flatL 0) aA0)), (1, .lit l2 aB1.length ((flatL 0) aB1)), (5, .int .i64 s)] J, G⟩) hk ⟨_, _, hO, St.hav _ ⟨rfl, rfl, rfl, trivial⟩⟩ ?_
    rintro x1 _ y1 ⟨J, G, hO, rfl⟩ hk hx1
    refine wpL_sq (wpL_sq (wpL_rg ?_))
    refine pM (.int _ _) ?_
    refine pM (.lit _ _ _) ?_
    refine pLen tS26 ?_
    refine pBi ?_
    refine pE (gn ?_)
    refine wpL_cd (b := decide (x1 < (aA0.length : Int))) (fun hb => ?_) (fun hb => ?_)
    · replace hk := ct hb hk
      refine wpL_sk (gn (wpL_sq (wpL_bl (wpL_sq ?_))))
      refine wpL_drw [(0, true), (1, true), (2, true), (3, true), (4, true), (5, true), (6, true), (7, true), (8, false)] [_, _, _, _, _, _, _, _, _] (by decide +kernel) (by rfl) ?_
      refine pM (.lit _ _ _) ?_
      refine pM (.int _ _) ?_
      obtain ⟨c2, hc2, hk⟩ := bs hk
      refine pX hc2 tE26 tZ3 ?_
      refine pLp (.int _ _) (rd1 (lm := 0) (off := 0) hc2 tA3) ?_
      refine pM (.lit _ _ _) ?_
      refine pM (.int _ _) ?_
      obtain ⟨c3, hc3, hk⟩ := bs hk
      refine pX hc3 tE26 tZ3 ?_
      refine pLp (.int _ _) (rd1 (lm := 0) (off := 0) hc3 tA3) ?_
      refine pBi ?_
      refine pE (gn ?_)
      refine wpL_cd (b := (c2 != c3)) (fun hb => ?_) (fun hb => ?_)
      · replace hk := ct hb hk
        refine wpL_sq (wpL_rg ?_)
        refine pA (.bool _) ?_
        refine pE (gn (wpL_rt (br (gr (gr (br (gr ?_)))))))
        replace hk := lx hx1 hk
        replace hk := Option.some.inj hk; subst hk; exact fin0 hO
      · replace hk := cf hb hk
        refine wpL_sk (bn (gn (wpL_rg ?_)))
        refine pM (.int _ _) ?_
        refine pBi ?_
        refine pA (.int _ _) ?_
        refine pE (gn ?_)
        cases hk; exact ⟨_, rfl, _, _, hO, St.hav _ ⟨rfl, rfl, rfl, trivial⟩⟩
    · replace hk := cf hb hk
      refine wpL_ex (ge (ge (be (gn ?_))))
      replace hk := lx hx1 hk
      refine wpL_sq (wpL_rg ?_)
      refine pA (.bool _) ?_
      refine pE (gn (wpL_rt ?_))
      replace hk := Option.some.inj hk; subst hk; exact fin0 hO
/-- laws.eqTurn -/
def f351 (aA0 : Turn) (aB1 : Turn) : Option Bool :=
  (bif (aA0.Switch != aB1.Switch) then some false else (bif (aA0.Lie != aB1.Lie) then some false else some true))
theorem f351_run {aA0 : Turn} {aB1 : Turn} {r : Bool} {H : Heap} {lk : Lk} (hk : f351 aA0 aB1 = some r) (hlk : 0 < lk.length := by simp) : runL Try.prog hh 351 [.agg [.int .i64 aA0.Switch, .int .i64 aA0.Lie], .agg [.int .i64 aB1.Switch, .int .i64 aB1.Lie]] H lk = some (.bool r, H) := by
  refine run_start Try.func351 rfl Try.ntmps351 Try.results351 rfl rfl fun hO => ?_
  unfold f351 at hk
  refine wpL_sq (wpL_rg ?_)
  refine pBox (cs := [_, _]) hO tZ307 (fun b1 G hO => ?_)
  refine pBox (cs := [_, _]) hO tZ307 (fun b2 G hO => ?_)
  refine pA (.bool _) ?_
  refine pE (gn (wpL_sq (wpL_sq (wpL_rg ?_))))
  refine pF tF307_0 ?_
  refine pLo hO 1 (.int _ _) tA3 ?_
  refine pF tF307_0 ?_
  refine pLo hO 0 (.int _ _) tA3 ?_
  refine pBi ?_
  refine pE (gn ?_)
  refine wpL_cd (b := (aA0.Switch != aB1.Switch)) (fun hb => ?_) (fun hb => ?_)
  · replace hk := ct hb hk
    refine wpL_sq (wpL_rg ?_)
    refine pA (.bool _) ?_
    refine pE (gn (wpL_rt (gr ?_)))
    replace hk := Option.some.inj hk; subst hk; exact fin0 hO
  · replace hk := cf hb hk
    refine wpL_sk (gn (wpL_sq (wpL_sq (wpL_rg ?_))))
    refine pF tF307_1 ?_
    refine pLo hO 1 (.int _ _) tA3 ?_
    refine pF tF307_1 ?_
    refine pLo hO 0 (.int _ _) tA3 ?_
    refine pBi ?_
    refine pE (gn ?_)
    refine wpL_cd (b := (aA0.Lie != aB1.Lie)) (fun hb => ?_) (fun hb => ?_)
    · replace hk := ct hb hk
      refine wpL_sq (wpL_rg ?_)
      refine pA (.bool _) ?_
      refine pE (gn (wpL_rt (gr ?_)))
      replace hk := Option.some.inj hk; subst hk; exact fin0 hO
    · replace hk := cf hb hk
      refine wpL_sk (gn (wpL_sq (wpL_rg ?_)))
      refine pA (.bool _) ?_
      refine pE (gn (wpL_rt ?_))
      replace hk := Option.some.inj hk; subst hk; exact fin0 hO
/-- laws.eqTurnS -/
def f327_L1 (aA0 : List Turn) (aB1 : List Turn) : Int → Option (Int ⊕ Bool) := fun s =>
  (bif decide (s < (aA0.length : Int)) then ((getI aA0 s).bind fun c2 => ((getI aB1 s).bind fun c3 => ((f351 c2 c3).bind fun v4 => (bif !v4 then ((some false).map Sum.inr) else some (.inl (w64 (s + (1:Int)))))))) else ((some true).map Sum.inr))
def f327 (aA0 : List Turn) (aB1 : List Turn) : Option Bool :=
  (bif ((aA0.length : Int) != (aB1.length : Int)) then some false else (loopO (f327_L1 aA0 aB1) ((0:Int))))
theorem f327_run {aA0 : List Turn} {aB1 : List Turn} {r : Bool} {l1 l2 : Nat} {H : Heap} {lk : Lk} (hk : f327 aA0 aB1 = some r) (hlk : 0 < lk.length := by simp) : runL Try.prog hh 327 [.lit l1 aA0.length ((flatL 0) aA0), .lit l2 aB1.length ((flatL 0) aB1)] H lk = some (.bool r, H) := by
  refine run_start Try.func327 rfl Try.ntmps327 Try.results327 rfl rfl fun hO => ?_
  unfold f327 at hk
  refine wpL_sq (wpL_rg ?_)
  refine pA (.bool _) ?_
  refine pE (gn (wpL_sq (wpL_sq (wpL_rg ?_))))
  refine pM (.lit _ _ _) ?_
  refine pLen tS216 ?_
  refine pM (.lit _ _ _) ?_
  refine pLen tS216 ?_
  refine pBi ?_
  refine pE (gn ?_)
  refine wpL_cd (b := ((aA0.length : Int) != (aB1.length : Int))) (fun hb => ?_) (fun hb => ?_)
  · replace hk := ct hb hk
    refine wpL_sq (wpL_rg ?_)
    refine pA (.bool _) ?_
    refine pE (gn (wpL_rt (gr ?_)))
    replace hk := Option.some.inj hk; subst hk; exact fin0 hO
  · replace hk := cf hb hk
    refine wpL_sk (gn (wpL_sq (wpL_sq (wpL_rg ?_))))
    refine pA (.int _ _) ?_
    refine pE (gn (wpL_bl ?_))
    refine wpL_loopO (F := f327_L1 aA0 aB1) (fun s S' => ∃ (J : Nat → V) (G : Heap), Owns H G [] ∧ S' = ⟨hav [(0, .lit l1 aA0.length ((flatL 0) aA0)), (1, .lit l2 aB1.length ((flatL 0) aB1)), (5, .int .i64 s)] J, G⟩) hk ⟨_, _, hO, St.hav _ ⟨rfl, rfl, rfl, trivial⟩⟩ ?_
    rintro x1 _ y1 ⟨J, G, hO, rfl⟩ hk hx1
    refine wpL_sq (wpL_sq (wpL_rg ?_))
    refine pM (.int _ _) ?_
    refine pM (.lit _ _ _) ?_
    refine pLen tS216 ?_
    refine pBi ?_
    refine pE (gn ?_)
    refine wpL_cd (b := decide (x1 < (aA0.length : Int))) (fun hb => ?_) (fun hb => ?_)
    · replace hk := ct hb hk
      refine wpL_sk (gn (wpL_sq (wpL_bl (wpL_sq ?_))))
      refine wpL_drw [(0, true), (1, true), (2, true), (3, true), (4, true), (5, true), (6, true), (7, true), (8, false), (9, false)] [_, _, _, _, _, _, _, _, _, _] (by decide +kernel) (by rfl) ?_
      refine pM (.lit _ _ _) ?_
      refine pM (.int _ _) ?_
      obtain ⟨c2, hc2, hk⟩ := bs hk
      refine pX hc2 tE216 tZ307 ?_
      refine pLp (.agg [_, _]) (rd2 (lm := 0) (off := 0) hc2 tA307 tZ307) ?_
      refine pM (.lit _ _ _) ?_
      refine pM (.int _ _) ?_
      obtain ⟨c3, hc3, hk⟩ := bs hk
      refine pX hc3 tE216 tZ307 ?_
      refine pLp (.agg [_, _]) (rd2 (lm := 0) (off := 0) hc3 tA307 tZ307) ?_
      obtain ⟨v4, hv4, hk⟩ := bs hk
      refine pCall (fun _ => f351_run hv4) ?_
      refine pU ?_
      refine pE (gn ?_)
      refine wpL_cd (b := !v4) (fun hb => ?_) (fun hb => ?_)
      · replace hk := ct hb hk
        refine wpL_sq (wpL_rg ?_)
        refine pA (.bool _) ?_
        refine pE (gn (wpL_rt (br (gr (gr (br (gr ?_)))))))
        replace hk := lx hx1 hk
        replace hk := Option.some.inj hk; subst hk; exact fin0 hO
      · replace hk := cf hb hk
        refine wpL_sk (bn (gn (wpL_rg ?_)))
        refine pM (.int _ _) ?_
        refine pBi ?_
        refine pA (.int _ _) ?_
        refine pE (gn ?_)
        cases hk; exact ⟨_, rfl, _, _, hO, St.hav _ ⟨rfl, rfl, rfl, trivial⟩⟩
    · replace hk := cf hb hk
      refine wpL_ex (ge (ge (be (gn ?_))))
      replace hk := lx hx1 hk
      refine wpL_sq (wpL_rg ?_)
      refine pA (.bool _) ?_
      refine pE (gn (wpL_rt ?_))
      replace hk := Option.some.inj hk; subst hk; exact fin0 hO
/-- laws.eqWay -/
def f274 (aA0 : Way) (aB1 : Way) : Option Bool :=
  ((f28 aA0.Sections aB1.Sections).bind fun v3 => (bif !v3 then some false else ((f327 aA0.Lies aB1.Lies).bind fun v4 => (bif !v4 then some false else ((f327 aA0.Flanks aB1.Flanks).bind fun v5 => (bif !v5 then some false else ((f28 aA0.Over aB1.Over).bind fun v6 => (bif !v6 then some false else ((f28 aA0.Near aB1.Near).bind fun v7 => (bif !v7 then some false else some true))))))))))
theorem f274_run {aA0 : Way} {aB1 : Way} {r : Bool} {l1 l2 l3 l4 l5 l6 l7 l8 l9 l10 : Nat} {H : Heap} {lk : Lk} (hk : f274 aA0 aB1 = some r) (hlk : 0 < lk.length := by simp) : runL Try.prog hh 274 [.agg [.lit l1 aA0.Sections.length ((flatL 0) aA0.Sections), .lit l2 aA0.Lies.length ((flatL 0) aA0.Lies), .lit l3 aA0.Flanks.length ((flatL 0) aA0.Flanks), .lit l4 aA0.Over.length ((flatL 0) aA0.Over), .lit l5 aA0.Near.length ((flatL 0) aA0.Near)], .agg [.lit l6 aB1.Sections.length ((flatL 0) aB1.Sections), .lit l7 aB1.Lies.length ((flatL 0) aB1.Lies), .lit l8 aB1.Flanks.length ((flatL 0) aB1.Flanks), .lit l9 aB1.Over.length ((flatL 0) aB1.Over), .lit l10 aB1.Near.length ((flatL 0) aB1.Near)]] H lk = some (.bool r, H) := by
  refine run_start Try.func274 rfl Try.ntmps274 Try.results274 rfl rfl fun hO => ?_
  unfold f274 at hk
  refine wpL_sq (wpL_rg ?_)
  refine pBox (cs := [_, _, _, _, _]) hO tZ218 (fun b1 G hO => ?_)
  refine pBox (cs := [_, _, _, _, _]) hO tZ218 (fun b2 G hO => ?_)
  refine pA (.bool _) ?_
  refine pE (gn (wpL_sq (wpL_sq (wpL_rg ?_))))
  refine pF tF218_0 ?_
  refine pLo hO 1 (.lit _ _ _) tA26 ?_
  refine pF tF218_0 ?_
  refine pLo hO 0 (.lit _ _ _) tA26 ?_
  obtain ⟨v3, hv3, hk⟩ := bs hk
  refine pCall (fun _ => f28_run hv3) ?_
  refine pU ?_
  refine pE (gn ?_)
  refine wpL_cd (b := !v3) (fun hb => ?_) (fun hb => ?_)
  · replace hk := ct hb hk
    refine wpL_sq (wpL_rg ?_)
    refine pA (.bool _) ?_
    refine pE (gn (wpL_rt (gr ?_)))
    replace hk := Option.some.inj hk; subst hk; exact fin0 hO
  · replace hk := cf hb hk
    refine wpL_sk (gn (wpL_sq (wpL_sq (wpL_rg ?_))))
    refine pF tF218_1 ?_
    refine pLo hO 1 (.lit _ _ _) tA216 ?_
    refine pF tF218_1 ?_
    refine pLo hO 0 (.lit _ _ _) tA216 ?_
    obtain ⟨v4, hv4, hk⟩ := bs hk
    refine pCall (fun _ => f327_run hv4) ?_
    refine pU ?_
    refine pE (gn ?_)
    refine wpL_cd (b := !v4) (fun hb => ?_) (fun hb => ?_)
    · replace hk := ct hb hk
      refine wpL_sq (wpL_rg ?_)
      refine pA (.bool _) ?_
      refine pE (gn (wpL_rt (gr ?_)))
      replace hk := Option.some.inj hk; subst hk; exact fin0 hO
    · replace hk := cf hb hk
      refine wpL_sk (gn (wpL_sq (wpL_sq (wpL_rg ?_))))
      refine pF tF218_2 ?_
      refine pLo hO 1 (.lit _ _ _) tA216 ?_
      refine pF tF218_2 ?_
      refine pLo hO 0 (.lit _ _ _) tA216 ?_
      obtain ⟨v5, hv5, hk⟩ := bs hk
      refine pCall (fun _ => f327_run hv5) ?_
      refine pU ?_
      refine pE (gn ?_)
      refine wpL_cd (b := !v5) (fun hb => ?_) (fun hb => ?_)
      · replace hk := ct hb hk
        refine wpL_sq (wpL_rg ?_)
        refine pA (.bool _) ?_
        refine pE (gn (wpL_rt (gr ?_)))
        replace hk := Option.some.inj hk; subst hk; exact fin0 hO
      · replace hk := cf hb hk
        refine wpL_sk (gn (wpL_sq (wpL_sq (wpL_rg ?_))))
        refine pF tF218_3 ?_
        refine pLo hO 1 (.lit _ _ _) tA26 ?_
        refine pF tF218_3 ?_
        refine pLo hO 0 (.lit _ _ _) tA26 ?_
        obtain ⟨v6, hv6, hk⟩ := bs hk
        refine pCall (fun _ => f28_run hv6) ?_
        refine pU ?_
        refine pE (gn ?_)
        refine wpL_cd (b := !v6) (fun hb => ?_) (fun hb => ?_)
        · replace hk := ct hb hk
          refine wpL_sq (wpL_rg ?_)
          refine pA (.bool _) ?_
          refine pE (gn (wpL_rt (gr ?_)))
          replace hk := Option.some.inj hk; subst hk; exact fin0 hO
        · replace hk := cf hb hk
          refine wpL_sk (gn (wpL_sq (wpL_sq (wpL_rg ?_))))
          refine pF tF218_4 ?_
          refine pLo hO 1 (.lit _ _ _) tA26 ?_
          refine pF tF218_4 ?_
          refine pLo hO 0 (.lit _ _ _) tA26 ?_
          obtain ⟨v7, hv7, hk⟩ := bs hk
          refine pCall (fun _ => f28_run hv7) ?_
          refine pU ?_
          refine pE (gn ?_)
          refine wpL_cd (b := !v7) (fun hb => ?_) (fun hb => ?_)
          · replace hk := ct hb hk
            refine wpL_sq (wpL_rg ?_)
            refine pA (.bool _) ?_
            refine pE (gn (wpL_rt (gr ?_)))
            replace hk := Option.some.inj hk; subst hk; exact fin0 hO
          · replace hk := cf hb hk
            refine wpL_sk (gn (wpL_sq (wpL_rg ?_)))
            refine pA (.bool _) ?_
            refine pE (gn (wpL_rt ?_))
            replace hk := Option.some.inj hk; subst hk; exact fin0 hO
/-- laws.eqWayS -/
def f174_L1 (aA0 : List Way) (aB1 : List Way) : Int → Option (Int ⊕ Bool) := fun s =>
  (bif decide (s < (aA0.length : Int)) then ((getI aA0 s).bind fun c2 => ((getI aB1 s).bind fun c3 => ((f274 c2 c3).bind fun v4 => (bif !v4 then ((some false).map Sum.inr) else some (.inl (w64 (s + (1:Int)))))))) else ((some true).map Sum.inr))
def f174 (aA0 : List Way) (aB1 : List Way) : Option Bool :=
  (bif ((aA0.length : Int) != (aB1.length : Int)) then some false else (loopO (f174_L1 aA0 aB1) ((0:Int))))
theorem f174_run {aA0 : List Way} {aB1 : List Way} {r : Bool} {l1 m2 l3 m4 : Nat} {H : Heap} {lk : Lk} (hk : f174 aA0 aB1 = some r) (hlk : 0 < lk.length := by simp) : runL Try.prog hh 174 [.lit l1 aA0.length (flatL m2 aA0), .lit l3 aB1.length (flatL m4 aB1)] H lk = some (.bool r, H) := by
  refine run_start Try.func174 rfl Try.ntmps174 Try.results174 rfl rfl fun hO => ?_
  unfold f174 at hk
  refine wpL_sq (wpL_rg ?_)
  refine pA (.bool _) ?_
  refine pE (gn (wpL_sq (wpL_sq (wpL_rg ?_))))
  refine pM (.lit _ _ _) ?_
  refine pLen tS79 ?_
  refine pM (.lit _ _ _) ?_
  refine pLen tS79 ?_
  refine pBi ?_
  refine pE (gn ?_)
  refine wpL_cd (b := ((aA0.length : Int) != (aB1.length : Int))) (fun hb => ?_) (fun hb => ?_)
  · replace hk := ct hb hk
    refine wpL_sq (wpL_rg ?_)
    refine pA (.bool _) ?_
    refine pE (gn (wpL_rt (gr ?_)))
    replace hk := Option.some.inj hk; subst hk; exact fin0 hO
  · replace hk := cf hb hk
    refine wpL_sk (gn (wpL_sq (wpL_sq (wpL_rg ?_))))
    refine pA (.int _ _) ?_
    refine pE (gn (wpL_bl ?_))
    refine wpL_loopO (F := f174_L1 aA0 aB1) (fun s S' => ∃ (J : Nat → V) (G : Heap), Owns H G [] ∧ S' = ⟨hav [(0, .lit l1 aA0.length (flatL m2 aA0)), (1, .lit l3 aB1.length (flatL m4 aB1)), (5, .int .i64 s)] J, G⟩) hk ⟨_, _, hO, St.hav _ ⟨rfl, rfl, rfl, trivial⟩⟩ ?_
    rintro x1 _ y1 ⟨J, G, hO, rfl⟩ hk hx1
    refine wpL_sq (wpL_sq (wpL_rg ?_))
    refine pM (.int _ _) ?_
    refine pM (.lit _ _ _) ?_
    refine pLen tS79 ?_
    refine pBi ?_
    refine pE (gn ?_)
    refine wpL_cd (b := decide (x1 < (aA0.length : Int))) (fun hb => ?_) (fun hb => ?_)
    · replace hk := ct hb hk
      refine wpL_sk (gn (wpL_sq (wpL_bl (wpL_sq ?_))))
      refine wpL_drw [(0, true), (1, true), (2, true), (3, true), (4, true), (5, true), (6, true), (7, true), (8, false), (9, false)] [_, _, _, _, _, _, _, _, _, _] (by decide +kernel) (by rfl) ?_
      refine pM (.lit _ _ _) ?_
      refine pM (.int _ _) ?_
      obtain ⟨c2, hc2, hk⟩ := bs hk
      refine pX hc2 tE79 tZ218 ?_
      refine pLp (.agg [_, _, _, _, _]) (rd2 (lm := m2) (off := 0) hc2 tA218 tZ218) ?_
      refine pM (.lit _ _ _) ?_
      refine pM (.int _ _) ?_
      obtain ⟨c3, hc3, hk⟩ := bs hk
      refine pX hc3 tE79 tZ218 ?_
      refine pLp (.agg [_, _, _, _, _]) (rd2 (lm := m4) (off := 0) hc3 tA218 tZ218) ?_
      obtain ⟨v4, hv4, hk⟩ := bs hk
      refine pCall (fun _ => f274_run hv4) ?_
      refine pU ?_
      refine pE (gn ?_)
      refine wpL_cd (b := !v4) (fun hb => ?_) (fun hb => ?_)
      · replace hk := ct hb hk
        refine wpL_sq (wpL_rg ?_)
        refine pA (.bool _) ?_
        refine pE (gn (wpL_rt (br (gr (gr (br (gr ?_)))))))
        replace hk := lx hx1 hk
        replace hk := Option.some.inj hk; subst hk; exact fin0 hO
      · replace hk := cf hb hk
        refine wpL_sk (bn (gn (wpL_rg ?_)))
        refine pM (.int _ _) ?_
        refine pBi ?_
        refine pA (.int _ _) ?_
        refine pE (gn ?_)
        cases hk; exact ⟨_, rfl, _, _, hO, St.hav _ ⟨rfl, rfl, rfl, trivial⟩⟩
    · replace hk := cf hb hk
      refine wpL_ex (ge (ge (be (gn ?_))))
      replace hk := lx hx1 hk
      refine wpL_sq (wpL_rg ?_)
      refine pA (.bool _) ?_
      refine pE (gn (wpL_rt ?_))
      replace hk := Option.some.inj hk; subst hk; exact fin0 hO
/-- laws.eqBoolSS -/
def f148_L1 (aA0 : List (List Bool)) (aB1 : List (List Bool)) : Int → Option (Int ⊕ Bool) := fun s =>
  (bif decide (s < (aA0.length : Int)) then ((getI aA0 s).bind fun c2 => ((getI aB1 s).bind fun c3 => ((f133 c2 c3).bind fun v4 => (bif !v4 then ((some false).map Sum.inr) else some (.inl (w64 (s + (1:Int)))))))) else ((some true).map Sum.inr))
def f148 (aA0 : List (List Bool)) (aB1 : List (List Bool)) : Option Bool :=
  (bif ((aA0.length : Int) != (aB1.length : Int)) then some false else (loopO (f148_L1 aA0 aB1) ((0:Int))))
theorem f148_run {aA0 : List (List Bool)} {aB1 : List (List Bool)} {r : Bool} {l1 m2 l3 m4 : Nat} {H : Heap} {lk : Lk} (hk : f148 aA0 aB1 = some r) (hlk : 0 < lk.length := by simp) : runL Try.prog hh 148 [.lit l1 aA0.length (flatL m2 aA0), .lit l3 aB1.length (flatL m4 aB1)] H lk = some (.bool r, H) := by
  refine run_start Try.func148 rfl Try.ntmps148 Try.results148 rfl rfl fun hO => ?_
  unfold f148 at hk
  refine wpL_sq (wpL_rg ?_)
  refine pA (.bool _) ?_
  refine pE (gn (wpL_sq (wpL_sq (wpL_rg ?_))))
  refine pM (.lit _ _ _) ?_
  refine pLen tS45 ?_
  refine pM (.lit _ _ _) ?_
  refine pLen tS45 ?_
  refine pBi ?_
  refine pE (gn ?_)
  refine wpL_cd (b := ((aA0.length : Int) != (aB1.length : Int))) (fun hb => ?_) (fun hb => ?_)
  · replace hk := ct hb hk
    refine wpL_sq (wpL_rg ?_)
    refine pA (.bool _) ?_
    refine pE (gn (wpL_rt (gr ?_)))
    replace hk := Option.some.inj hk; subst hk; exact fin0 hO
  · replace hk := cf hb hk
    refine wpL_sk (gn (wpL_sq (wpL_sq (wpL_rg ?_))))
    refine pA (.int _ _) ?_
    refine pE (gn (wpL_bl ?_))
    refine wpL_loopO (F := f148_L1 aA0 aB1) (fun s S' => ∃ (J : Nat → V) (G : Heap), Owns H G [] ∧ S' = ⟨hav [(0, .lit l1 aA0.length (flatL m2 aA0)), (1, .lit l3 aB1.length (flatL m4 aB1)), (5, .int .i64 s)] J, G⟩) hk ⟨_, _, hO, St.hav _ ⟨rfl, rfl, rfl, trivial⟩⟩ ?_
    rintro x1 _ y1 ⟨J, G, hO, rfl⟩ hk hx1
    refine wpL_sq (wpL_sq (wpL_rg ?_))
    refine pM (.int _ _) ?_
    refine pM (.lit _ _ _) ?_
    refine pLen tS45 ?_
    refine pBi ?_
    refine pE (gn ?_)
    refine wpL_cd (b := decide (x1 < (aA0.length : Int))) (fun hb => ?_) (fun hb => ?_)
    · replace hk := ct hb hk
      refine wpL_sk (gn (wpL_sq (wpL_bl (wpL_sq ?_))))
      refine wpL_drw [(0, true), (1, true), (2, true), (3, true), (4, true), (5, true), (6, true), (7, true), (8, false), (9, false)] [_, _, _, _, _, _, _, _, _, _] (by decide +kernel) (by rfl) ?_
      refine pM (.lit _ _ _) ?_
      refine pM (.int _ _) ?_
      obtain ⟨c2, hc2, hk⟩ := bs hk
      refine pX hc2 tE45 tZ38 ?_
      refine pLp (.lit _ _ _) (rd1 (lm := m2) (off := 0) hc2 tA38) ?_
      refine pM (.lit _ _ _) ?_
      refine pM (.int _ _) ?_
      obtain ⟨c3, hc3, hk⟩ := bs hk
      refine pX hc3 tE45 tZ38 ?_
      refine pLp (.lit _ _ _) (rd1 (lm := m4) (off := 0) hc3 tA38) ?_
      obtain ⟨v4, hv4, hk⟩ := bs hk
      refine pCall (fun _ => f133_run hv4) ?_
      refine pU ?_
      refine pE (gn ?_)
      refine wpL_cd (b := !v4) (fun hb => ?_) (fun hb => ?_)
      · replace hk := ct hb hk
        refine wpL_sq (wpL_rg ?_)
        refine pA (.bool _) ?_
        refine pE (gn (wpL_rt (br (gr (gr (br (gr ?_)))))))
        replace hk := lx hx1 hk
        replace hk := Option.some.inj hk; subst hk; exact fin0 hO
      · replace hk := cf hb hk
        refine wpL_sk (bn (gn (wpL_rg ?_)))
        refine pM (.int _ _) ?_
        refine pBi ?_
        refine pA (.int _ _) ?_
        refine pE (gn ?_)
        cases hk; exact ⟨_, rfl, _, _, hO, St.hav _ ⟨rfl, rfl, rfl, trivial⟩⟩
    · replace hk := cf hb hk
      refine wpL_ex (ge (ge (be (gn ?_))))
      replace hk := lx hx1 hk
      refine wpL_sq (wpL_rg ?_)
      refine pA (.bool _) ?_
      refine pE (gn (wpL_rt ?_))
      replace hk := Option.some.inj hk; subst hk; exact fin0 hO
/-- laws.eqPlan -/
def f56 (aA0 : Plan) (aB1 : Plan) : Option Bool :=
  (bif (aA0.Sections != aB1.Sections) then some false else ((f28 aA0.Switches aB1.Switches).bind fun v3 => (bif !v3 then some false else ((f174 aA0.Ways aB1.Ways).bind fun v4 => (bif !v4 then some false else ((f148 aA0.Bars aB1.Bars).bind fun v5 => (bif !v5 then some false else (bif (aA0.Hold != aB1.Hold) then some false else some true))))))))
theorem f56_run {aA0 : Plan} {aB1 : Plan} {r : Bool} {l1 l2 m3 l4 m5 l6 l7 m8 l9 m10 : Nat} {H : Heap} {lk : Lk} (hk : f56 aA0 aB1 = some r) (hlk : 0 < lk.length := by simp) : runL Try.prog hh 56 [.agg [.int .i64 aA0.Sections, .lit l1 aA0.Switches.length ((flatL 0) aA0.Switches), .lit l2 aA0.Ways.length (flatL m3 aA0.Ways), .lit l4 aA0.Bars.length (flatL m5 aA0.Bars), .int .i64 aA0.Hold], .agg [.int .i64 aB1.Sections, .lit l6 aB1.Switches.length ((flatL 0) aB1.Switches), .lit l7 aB1.Ways.length (flatL m8 aB1.Ways), .lit l9 aB1.Bars.length (flatL m10 aB1.Bars), .int .i64 aB1.Hold]] H lk = some (.bool r, H) := by
  refine run_start Try.func56 rfl Try.ntmps56 Try.results56 rfl rfl fun hO => ?_
  unfold f56 at hk
  refine wpL_sq (wpL_rg ?_)
  refine pBox (cs := [_, _, _, _, _]) hO tZ81 (fun b1 G hO => ?_)
  refine pBox (cs := [_, _, _, _, _]) hO tZ81 (fun b2 G hO => ?_)
  refine pA (.bool _) ?_
  refine pE (gn (wpL_sq (wpL_sq (wpL_rg ?_))))
  refine pF tF81_0 ?_
  refine pLo hO 1 (.int _ _) tA3 ?_
  refine pF tF81_0 ?_
  refine pLo hO 0 (.int _ _) tA3 ?_
  refine pBi ?_
  refine pE (gn ?_)
  refine wpL_cd (b := (aA0.Sections != aB1.Sections)) (fun hb => ?_) (fun hb => ?_)
  · replace hk := ct hb hk
    refine wpL_sq (wpL_rg ?_)
    refine pA (.bool _) ?_
    refine pE (gn (wpL_rt (gr ?_)))
    replace hk := Option.some.inj hk; subst hk; exact fin0 hO
  · replace hk := cf hb hk
    refine wpL_sk (gn (wpL_sq (wpL_sq (wpL_rg ?_))))
    refine pF tF81_1 ?_
    refine pLo hO 1 (.lit _ _ _) tA26 ?_
    refine pF tF81_1 ?_
    refine pLo hO 0 (.lit _ _ _) tA26 ?_
    obtain ⟨v3, hv3, hk⟩ := bs hk
    refine pCall (fun _ => f28_run hv3) ?_
    refine pU ?_
    refine pE (gn ?_)
    refine wpL_cd (b := !v3) (fun hb => ?_) (fun hb => ?_)
    · replace hk := ct hb hk
      refine wpL_sq (wpL_rg ?_)
      refine pA (.bool _) ?_
      refine pE (gn (wpL_rt (gr ?_)))
      replace hk := Option.some.inj hk; subst hk; exact fin0 hO
    · replace hk := cf hb hk
      refine wpL_sk (gn (wpL_sq (wpL_sq (wpL_rg ?_))))
      refine pF tF81_2 ?_
      refine pLo hO 1 (.lit _ _ _) tA79 ?_
      refine pF tF81_2 ?_
      refine pLo hO 0 (.lit _ _ _) tA79 ?_
      obtain ⟨v4, hv4, hk⟩ := bs hk
      refine pCall (fun _ => f174_run hv4) ?_
      refine pU ?_
      refine pE (gn ?_)
      refine wpL_cd (b := !v4) (fun hb => ?_) (fun hb => ?_)
      · replace hk := ct hb hk
        refine wpL_sq (wpL_rg ?_)
        refine pA (.bool _) ?_
        refine pE (gn (wpL_rt (gr ?_)))
        replace hk := Option.some.inj hk; subst hk; exact fin0 hO
      · replace hk := cf hb hk
        refine wpL_sk (gn (wpL_sq (wpL_sq (wpL_rg ?_))))
        refine pF tF81_3 ?_
        refine pLo hO 1 (.lit _ _ _) tA45 ?_
        refine pF tF81_3 ?_
        refine pLo hO 0 (.lit _ _ _) tA45 ?_
        obtain ⟨v5, hv5, hk⟩ := bs hk
        refine pCall (fun _ => f148_run hv5) ?_
        refine pU ?_
        refine pE (gn ?_)
        refine wpL_cd (b := !v5) (fun hb => ?_) (fun hb => ?_)
        · replace hk := ct hb hk
          refine wpL_sq (wpL_rg ?_)
          refine pA (.bool _) ?_
          refine pE (gn (wpL_rt (gr ?_)))
          replace hk := Option.some.inj hk; subst hk; exact fin0 hO
        · replace hk := cf hb hk
          refine wpL_sk (gn (wpL_sq (wpL_sq (wpL_rg ?_))))
          refine pF tF81_4 ?_
          refine pLo hO 1 (.int _ _) tA3 ?_
          refine pF tF81_4 ?_
          refine pLo hO 0 (.int _ _) tA3 ?_
          refine pBi ?_
          refine pE (gn ?_)
          refine wpL_cd (b := (aA0.Hold != aB1.Hold)) (fun hb => ?_) (fun hb => ?_)
          · replace hk := ct hb hk
            refine wpL_sq (wpL_rg ?_)
            refine pA (.bool _) ?_
            refine pE (gn (wpL_rt (gr ?_)))
            replace hk := Option.some.inj hk; subst hk; exact fin0 hO
          · replace hk := cf hb hk
            refine wpL_sk (gn (wpL_sq (wpL_rg ?_)))
            refine pA (.bool _) ?_
            refine pE (gn (wpL_rt ?_))
            replace hk := Option.some.inj hk; subst hk; exact fin0 hO
/-- laws.markIntS -/
def f31_L1 : ((List Int) × Int × Int) → Option (((List Int) × Int × Int) ⊕ (List Int × Int)) := fun s =>
  (bif decide (s.2.2 < (s.1.length : Int)) then ((getI s.1 s.2.2).bind fun c4 => some (.inl (s.1.set s.2.2.toNat s.2.1, w64 (s.2.1 + (1:Int)), w64 (s.2.2 + (1:Int))))) else ((some (s.1, s.2.1)).map Sum.inr))
def f31 (aA0 : List Int) (aK1 : Int) : Option (List Int × Int) :=
  (loopO (f31_L1) (aA0, aK1, (0:Int)))
theorem f31_run {aA0 : List Int} {aK1 : Int} {r : (List Int × Int)} {v0 : V} {F0 : List Nat} {H : Heap} {lk : Lk} (hk : f31 aA0 aK1 = some r) (ha : TrIn H aA0 [v0] F0) (hF : ∀ b ∈ F0, b < H.length) (hS : ∀ b ∈ F0, unlocked lk b = true) (hlk : 0 < lk.length := by simp) : ∃ v H1, runL Try.prog hh 31 [v0, .int .i64 aK1] H lk = some (v, H1) ∧ v = .int .i64 r.2 ∧ TrIn H1 r.1 [v0] F0 ∧ H1.length = H.length ∧ ∀ b, b ∉ F0 → H1[b]? = H[b]? := by
  refine run_startR Try.func31 rfl Try.ntmps31 Try.results31 rfl rfl ?_
  have hO := tree_start ha hF
  have hFr := Sees.refl H F0
  unfold f31 at hk
  refine wpL_sq (wpL_rg ?_)
  refine pA (.int _ _) ?_
  refine pE (gn (wpL_sq (wpL_sq (wpL_rg ?_))))
  refine pA (.int _ _) ?_
  refine pE (gn (wpL_bl ?_))
  refine wpL_loopO (F := f31_L1) (fun s S' => ∃ (J : Nat → V) (G : Heap) (H1 : Heap), Sees H H1 F0 ∧ Owns H1 G [Tree F0 F0 s.1 [v0]] ∧ S' = ⟨hav [(0, v0), (1, .int .i64 s.2.1), (5, .int .i64 s.2.2)] J, G⟩) hk ⟨_, _, _, hFr, hO, St.hav _ ⟨rfl, rfl, rfl, trivial⟩⟩ ?_
  rintro ⟨x1, x2, x3⟩ _ y1 ⟨J, G, H1, hFr, hO, rfl⟩ hk hx1
  refine wpL_sq (wpL_sq (wpL_rg ?_))
  refine pM (.int _ _) ?_
  refine pM v0 ?_
  refine pLenT hO 0 tS26 ?_
  refine pBi ?_
  refine pE (gn ?_)
  refine wpL_cd (b := decide (x3 < (x1.length : Int))) (fun hb => ?_) (fun hb => ?_)
  · replace hk := ct hb hk
    refine wpL_sk (gn (wpL_sq (wpL_bl (wpL_sq (wpL_rg ?_)))))
    refine pM v0 ?_
    refine pM (.int _ _) ?_
    refine pM (.int _ _) ?_
    obtain ⟨c4, hc4, hk⟩ := bs hk
    refine pXT hO 0 hc4 tE26 tZ3 (fun b5 hb5 => ?_)
    refine pST (Foc.all (α := Int)) (y' := x2) hO 0 hb5 hc4 tZ3 (fun _ => ⟨rfl, rfl⟩) hFr hS rfl (fun H1 G hFr hO => ?_)
    refine pE (gn (wpL_rg ?_))
    refine pM (.int _ _) ?_
    refine pBi ?_
    refine pA (.int _ _) ?_
    refine pE (bn (gn (wpL_rg ?_)))
    refine pM (.int _ _) ?_
    refine pBi ?_
    refine pA (.int _ _) ?_
    refine pE (gn ?_)
    cases hk; exact ⟨_, rfl, _, _, _, hFr, hO, St.hav _ ⟨rfl, rfl, rfl, trivial⟩⟩
  · replace hk := cf hb hk
    refine wpL_ex (ge (ge (be (gn ?_))))
    replace hk := lx hx1 hk
    refine wpL_sq (wpL_rg ?_)
    refine pM (.int _ _) ?_
    refine pA (.int _ _) ?_
    refine pE (gn (wpL_rt ?_))
    replace hk := Option.some.inj hk; subst hk; exact finT hO 0 hFr hF
/-- laws.markTurnS -/
def f301_L1 : ((List Turn) × Int × Int) → Option (((List Turn) × Int × Int) ⊕ (List Turn × Int)) := fun s =>
  (bif decide (s.2.2 < (s.1.length : Int)) then ((getI s.1 s.2.2).bind fun c4 => ((getI (s.1.set s.2.2.toNat ({ c4 with Switch := s.2.1 })) s.2.2).bind fun c6 => some (.inl ((s.1.set s.2.2.toNat ({ c4 with Switch := s.2.1 })).set s.2.2.toNat ({ c6 with Lie := w64 (s.2.1 + (1:Int)) }), w64 ((w64 (s.2.1 + (1:Int))) + (1:Int)), w64 (s.2.2 + (1:Int)))))) else ((some (s.1, s.2.1)).map Sum.inr))
def f301 (aA0 : List Turn) (aK1 : Int) : Option (List Turn × Int) :=
  (loopO (f301_L1) (aA0, aK1, (0:Int)))
theorem f301_run {aA0 : List Turn} {aK1 : Int} {r : (List Turn × Int)} {v0 : V} {F0 : List Nat} {H : Heap} {lk : Lk} (hk : f301 aA0 aK1 = some r) (ha : TrIn H aA0 [v0] F0) (hF : ∀ b ∈ F0, b < H.length) (hS : ∀ b ∈ F0, unlocked lk b = true) (hlk : 0 < lk.length := by simp) : ∃ v H1, runL Try.prog hh 301 [v0, .int .i64 aK1] H lk = some (v, H1) ∧ v = .int .i64 r.2 ∧ TrIn H1 r.1 [v0] F0 ∧ H1.length = H.length ∧ ∀ b, b ∉ F0 → H1[b]? = H[b]? := by
  refine run_startR Try.func301 rfl Try.ntmps301 Try.results301 rfl rfl ?_
  have hO := tree_start ha hF
  have hFr := Sees.refl H F0
  unfold f301 at hk
  refine wpL_sq (wpL_rg ?_)
  refine pA (.int _ _) ?_
  refine pE (gn (wpL_sq (wpL_sq (wpL_rg ?_))))
  refine pA (.int _ _) ?_
  refine pE (gn (wpL_bl ?_))
  refine wpL_loopO (F := f301_L1) (fun s S' => ∃ (J : Nat → V) (G : Heap) (H1 : Heap), Sees H H1 F0 ∧ Owns H1 G [Tree F0 F0 s.1 [v0]] ∧ S' = ⟨hav [(0, v0), (1, .int .i64 s.2.1), (5, .int .i64 s.2.2)] J, G⟩) hk ⟨_, _, _, hFr, hO, St.hav _ ⟨rfl, rfl, rfl, trivial⟩⟩ ?_
  rintro ⟨x1, x2, x3⟩ _ y1 ⟨J, G, H1, hFr, hO, rfl⟩ hk hx1
  refine wpL_sq (wpL_sq (wpL_rg ?_))
  refine pM (.int _ _) ?_
  refine pM v0 ?_
  refine pLenT hO 0 tS216 ?_
  refine pBi ?_
  refine pE (gn ?_)
  refine wpL_cd (b := decide (x3 < (x1.length : Int))) (fun hb => ?_) (fun hb => ?_)
  · replace hk := ct hb hk
    refine wpL_sk (gn (wpL_sq (wpL_bl (wpL_sq (wpL_rg ?_)))))
    refine pM v0 ?_
    refine pM (.int _ _) ?_
    refine pM (.int _ _) ?_
    obtain ⟨c4, hc4, hk⟩ := bs hk
    refine pXT hO 0 hc4 tE216 tZ307 (fun b5 hb5 => ?_)
    refine pF tF307_0 ?_
    refine pST foc_Turn_Switch (y' := x2) hO 0 hb5 hc4 tZ3 (fun _ => ⟨rfl, rfl⟩) hFr hS rfl (fun H1 G hFr hO => ?_)
    refine pE (gn (wpL_sq (wpL_rg ?_)))
    refine pM (.int _ _) ?_
    refine pBi ?_
    refine pA (.int _ _) ?_
    refine pE (gn (wpL_sq (wpL_rg ?_)))
    refine pM v0 ?_
    refine pM (.int _ _) ?_
    refine pM (.int _ _) ?_
    obtain ⟨c6, hc6, hk⟩ := bs hk
    refine pXT hO 0 hc6 tE216 tZ307 (fun b7 hb7 => ?_)
    refine pF tF307_1 ?_
    refine pST foc_Turn_Lie (y' := (w64 (x2 + (1:Int)))) hO 0 hb7 hc6 tZ3 (fun _ => ⟨rfl, rfl⟩) hFr hS rfl (fun H1 G hFr hO => ?_)
    refine pE (gn (wpL_rg ?_))
    refine pM (.int _ _) ?_
    refine pBi ?_
    refine pA (.int _ _) ?_
    refine pE (bn (gn (wpL_rg ?_)))
    refine pM (.int _ _) ?_
    refine pBi ?_
    refine pA (.int _ _) ?_
    refine pE (gn ?_)
    cases hk; exact ⟨_, rfl, _, _, _, hFr, hO, St.hav _ ⟨rfl, rfl, rfl, trivial⟩⟩
  · replace hk := cf hb hk
    refine wpL_ex (ge (ge (be (gn ?_))))
    replace hk := lx hx1 hk
    refine wpL_sq (wpL_rg ?_)
    refine pM (.int _ _) ?_
    refine pA (.int _ _) ?_
    refine pE (gn (wpL_rt ?_))
    replace hk := Option.some.inj hk; subst hk; exact finT hO 0 hFr hF
/-- laws.markWayS -/
def f211_L1 : ((List Way) × Int × Int) → Option (((List Way) × Int × Int) ⊕ (List Way × Int)) := fun s =>
  (bif decide (s.2.2 < (s.1.length : Int)) then ((getI s.1 s.2.2).bind fun c4 => ((f31 c4.Sections s.2.1).bind fun z7 => ((getI (s.1.set s.2.2.toNat ({ c4 with Sections := z7.1 })) s.2.2).bind fun c8 => ((f301 c8.Lies z7.2).bind fun z11 => ((getI ((s.1.set s.2.2.toNat ({ c4 with Sections := z7.1 })).set s.2.2.toNat ({ c8 with Lies := z11.1 })) s.2.2).bind fun c12 => ((f301 c12.Flanks z11.2).bind fun z15 => ((getI (((s.1.set s.2.2.toNat ({ c4 with Sections := z7.1 })).set s.2.2.toNat ({ c8 with Lies := z11.1 })).set s.2.2.toNat ({ c12 with Flanks := z15.1 })) s.2.2).bind fun c16 => ((f31 c16.Over z15.2).bind fun z19 => ((getI ((((s.1.set s.2.2.toNat ({ c4 with Sections := z7.1 })).set s.2.2.toNat ({ c8 with Lies := z11.1 })).set s.2.2.toNat ({ c12 with Flanks := z15.1 })).set s.2.2.toNat ({ c16 with Over := z19.1 })) s.2.2).bind fun c20 => ((f31 c20.Near z19.2).bind fun z23 => some (.inl (((((s.1.set s.2.2.toNat ({ c4 with Sections := z7.1 })).set s.2.2.toNat ({ c8 with Lies := z11.1 })).set s.2.2.toNat ({ c12 with Flanks := z15.1 })).set s.2.2.toNat ({ c16 with Over := z19.1 })).set s.2.2.toNat ({ c20 with Near := z23.1 }), z23.2, w64 (s.2.2 + (1:Int)))))))))))))) else ((some (s.1, s.2.1)).map Sum.inr))
def f211 (aA0 : List Way) (aK1 : Int) : Option (List Way × Int) :=
  (loopO (f211_L1) (aA0, aK1, (0:Int)))
theorem f211_run {aA0 : List Way} {aK1 : Int} {r : (List Way × Int)} {v0 : V} {F0 : List Nat} {H : Heap} {lk : Lk} (hk : f211 aA0 aK1 = some r) (ha : TrIn H aA0 [v0] F0) (hF : ∀ b ∈ F0, b < H.length) (hS : ∀ b ∈ F0, unlocked lk b = true) (hlk : 0 < lk.length := by simp) : ∃ v H1, runL Try.prog hh 211 [v0, .int .i64 aK1] H lk = some (v, H1) ∧ v = .int .i64 r.2 ∧ TrIn H1 r.1 [v0] F0 ∧ H1.length = H.length ∧ ∀ b, b ∉ F0 → H1[b]? = H[b]? := by
  refine run_startR Try.func211 rfl Try.ntmps211 Try.results211 rfl rfl ?_
  have hO := tree_start ha hF
  have hFr := Sees.refl H F0
  unfold f211 at hk
  refine wpL_sq (wpL_rg ?_)
  refine pA (.int _ _) ?_
  refine pE (gn (wpL_sq (wpL_sq (wpL_rg ?_))))
  refine pA (.int _ _) ?_
  refine pE (gn (wpL_bl ?_))
  refine wpL_loopO (F := f211_L1) (fun s S' => ∃ (J : Nat → V) (G : Heap) (H1 : Heap), Sees H H1 F0 ∧ Owns H1 G [Tree F0 F0 s.1 [v0]] ∧ S' = ⟨hav [(0, v0), (1, .int .i64 s.2.1), (5, .int .i64 s.2.2)] J, G⟩) hk ⟨_, _, _, hFr, hO, St.hav _ ⟨rfl, rfl, rfl, trivial⟩⟩ ?_
  rintro ⟨x1, x2, x3⟩ _ y1 ⟨J, G, H1, hFr, hO, rfl⟩ hk hx1
  refine wpL_sq (wpL_sq (wpL_rg ?_))
  refine pM (.int _ _) ?_
  refine pM v0 ?_
  refine pLenT hO 0 tS79 ?_
  refine pBi ?_
  refine pE (gn ?_)
  refine wpL_cd (b := decide (x3 < (x1.length : Int))) (fun hb => ?_) (fun hb => ?_)
  · replace hk := ct hb hk
    refine wpL_sk (gn (wpL_sq (wpL_bl (wpL_sq (wpL_rg ?_)))))
    refine pM v0 ?_
    refine pM (.int _ _) ?_
    obtain ⟨c4, hc4, hk⟩ := bs hk
    refine pXT hO 0 hc4 tE79 tZ218 (fun b5 hb5 => ?_)
    refine pF tF218_0 ?_
    refine pLT foc_Way_Sections hO 0 hb5 hc4 tA26 (fun u6 fs6 hs6 => ?_)
    refine pM (.int _ _) ?_
    obtain ⟨z7, hz7, hk⟩ := bs hk
    refine pCT (y' := z7.1) (r := .int .i64 z7.2) hO 0 hs6 (fun _ h => h) hFr hS (fun hF1 hS1 ht1 => f31_run hz7 ht1 hF1 hS1) (fun H1 G hFr hO => ?_)
    refine pA (.int _ _) ?_
    refine pE (gn (wpL_sq (wpL_rg ?_)))
    refine pM v0 ?_
    refine pM (.int _ _) ?_
    obtain ⟨c8, hc8, hk⟩ := bs hk
    refine pXT hO 0 hc8 tE79 tZ218 (fun b9 hb9 => ?_)
    refine pF tF218_1 ?_
    refine pLT foc_Way_Lies hO 0 hb9 hc8 tA216 (fun u10 fs10 hs10 => ?_)
    refine pM (.int _ _) ?_
    obtain ⟨z11, hz11, hk⟩ := bs hk
    refine pCT (y' := z11.1) (r := .int .i64 z11.2) hO 0 hs10 (fun _ h => h) hFr hS (fun hF1 hS1 ht1 => f301_run hz11 ht1 hF1 hS1) (fun H1 G hFr hO => ?_)
    refine pA (.int _ _) ?_
    refine pE (gn (wpL_sq (wpL_rg ?_)))
    refine pM v0 ?_
    refine pM (.int _ _) ?_
    obtain ⟨c12, hc12, hk⟩ := bs hk
    refine pXT hO 0 hc12 tE79 tZ218 (fun b13 hb13 => ?_)
    refine pF tF218_2 ?_
    refine pLT foc_Way_Flanks hO 0 hb13 hc12 tA216 (fun u14 fs14 hs14 => ?_)
    refine pM (.int _ _) ?_
    obtain ⟨z15, hz15, hk⟩ := bs hk
    refine pCT (y' := z15.1) (r := .int .i64 z15.2) hO 0 hs14 (fun _ h => h) hFr hS (fun hF1 hS1 ht1 => f301_run hz15 ht1 hF1 hS1) (fun H1 G hFr hO => ?_)
    refine pA (.int _ _) ?_
    refine pE (gn (wpL_sq (wpL_rg ?_)))
    refine pM v0 ?_
    refine pM (.int _ _) ?_
    obtain ⟨c16, hc16, hk⟩ := bs hk
    refine pXT hO 0 hc16 tE79 tZ218 (fun b17 hb17 => ?_)
    refine pF tF218_3 ?_
    refine pLT foc_Way_Over hO 0 hb17 hc16 tA26 (fun u18 fs18 hs18 => ?_)
    refine pM (.int _ _) ?_
    obtain ⟨z19, hz19, hk⟩ := bs hk
    refine pCT (y' := z19.1) (r := .int .i64 z19.2) hO 0 hs18 (fun _ h => h) hFr hS (fun hF1 hS1 ht1 => f31_run hz19 ht1 hF1 hS1) (fun H1 G hFr hO => ?_)
    refine pA (.int _ _) ?_
    refine pE (gn (wpL_rg ?_))
    refine pM v0 ?_
    refine pM (.int _ _) ?_
    obtain ⟨c20, hc20, hk⟩ := bs hk
    refine pXT hO 0 hc20 tE79 tZ218 (fun b21 hb21 => ?_)
    refine pF tF218_4 ?_
    refine pLT foc_Way_Near hO 0 hb21 hc20 tA26 (fun u22 fs22 hs22 => ?_)
    refine pM (.int _ _) ?_
    obtain ⟨z23, hz23, hk⟩ := bs hk
    refine pCT (y' := z23.1) (r := .int .i64 z23.2) hO 0 hs22 (fun _ h => h) hFr hS (fun hF1 hS1 ht1 => f31_run hz23 ht1 hF1 hS1) (fun H1 G hFr hO => ?_)
    refine pA (.int _ _) ?_
    refine pE (bn (gn (wpL_rg ?_)))
    refine pM (.int _ _) ?_
    refine pBi ?_
    refine pA (.int _ _) ?_
    refine pE (gn ?_)
    cases hk; exact ⟨_, rfl, _, _, _, hFr, hO, St.hav _ ⟨rfl, rfl, rfl, trivial⟩⟩
  · replace hk := cf hb hk
    refine wpL_ex (ge (ge (be (gn ?_))))
    replace hk := lx hx1 hk
    refine wpL_sq (wpL_rg ?_)
    refine pM (.int _ _) ?_
    refine pA (.int _ _) ?_
    refine pE (gn (wpL_rt ?_))
    replace hk := Option.some.inj hk; subst hk; exact finT hO 0 hFr hF
/-- laws.markBoolS -/
def f135_L1 : ((List Bool) × Int × Int) → Option (((List Bool) × Int × Int) ⊕ (List Bool × Int)) := fun s =>
  (bif decide (s.2.2 < (s.1.length : Int)) then ((getI s.1 s.2.2).bind fun c4 => some (.inl (s.1.set s.2.2.toNat ((Int.tmod s.2.1 (3:Int)) == (0:Int)), w64 (s.2.1 + (1:Int)), w64 (s.2.2 + (1:Int))))) else ((some (s.1, s.2.1)).map Sum.inr))
def f135 (aA0 : List Bool) (aK1 : Int) : Option (List Bool × Int) :=
  (loopO (f135_L1) (aA0, aK1, (0:Int)))
theorem f135_run {aA0 : List Bool} {aK1 : Int} {r : (List Bool × Int)} {v0 : V} {F0 : List Nat} {H : Heap} {lk : Lk} (hk : f135 aA0 aK1 = some r) (ha : TrIn H aA0 [v0] F0) (hF : ∀ b ∈ F0, b < H.length) (hS : ∀ b ∈ F0, unlocked lk b = true) (hlk : 0 < lk.length := by simp) : ∃ v H1, runL Try.prog hh 135 [v0, .int .i64 aK1] H lk = some (v, H1) ∧ v = .int .i64 r.2 ∧ TrIn H1 r.1 [v0] F0 ∧ H1.length = H.length ∧ ∀ b, b ∉ F0 → H1[b]? = H[b]? := by
  refine run_startR Try.func135 rfl Try.ntmps135 Try.results135 rfl rfl ?_
  have hO := tree_start ha hF
  have hFr := Sees.refl H F0
  unfold f135 at hk
  refine wpL_sq (wpL_rg ?_)
  refine pA (.int _ _) ?_
  refine pE (gn (wpL_sq (wpL_sq (wpL_rg ?_))))
  refine pA (.int _ _) ?_
  refine pE (gn (wpL_bl ?_))
  refine wpL_loopO (F := f135_L1) (fun s S' => ∃ (J : Nat → V) (G : Heap) (H1 : Heap), Sees H H1 F0 ∧ Owns H1 G [Tree F0 F0 s.1 [v0]] ∧ S' = ⟨hav [(0, v0), (1, .int .i64 s.2.1), (5, .int .i64 s.2.2)] J, G⟩) hk ⟨_, _, _, hFr, hO, St.hav _ ⟨rfl, rfl, rfl, trivial⟩⟩ ?_
  rintro ⟨x1, x2, x3⟩ _ y1 ⟨J, G, H1, hFr, hO, rfl⟩ hk hx1
  refine wpL_sq (wpL_sq (wpL_rg ?_))
  refine pM (.int _ _) ?_
  refine pM v0 ?_
  refine pLenT hO 0 tS38 ?_
  refine pBi ?_
  refine pE (gn ?_)
  refine wpL_cd (b := decide (x3 < (x1.length : Int))) (fun hb => ?_) (fun hb => ?_)
  · replace hk := ct hb hk
    refine wpL_sk (gn (wpL_sq (wpL_bl (wpL_sq (wpL_rg ?_)))))
    refine pM v0 ?_
    refine pM (.int _ _) ?_
    refine pM (.int _ _) ?_
    refine pBi ?_
    refine pBi ?_
    obtain ⟨c4, hc4, hk⟩ := bs hk
    refine pXT hO 0 hc4 tE38 tZ4 (fun b5 hb5 => ?_)
    refine pST (Foc.all (α := Bool)) (y' := ((Int.tmod x2 (3:Int)) == (0:Int))) hO 0 hb5 hc4 tZ4 (fun _ => ⟨rfl, rfl⟩) hFr hS rfl (fun H1 G hFr hO => ?_)
    refine pE (gn (wpL_rg ?_))
    refine pM (.int _ _) ?_
    refine pBi ?_
    refine pA (.int _ _) ?_
    refine pE (bn (gn (wpL_rg ?_)))
    refine pM (.int _ _) ?_
    refine pBi ?_
    refine pA (.int _ _) ?_
    refine pE (gn ?_)
    cases hk; exact ⟨_, rfl, _, _, _, hFr, hO, St.hav _ ⟨rfl, rfl, rfl, trivial⟩⟩
  · replace hk := cf hb hk
    refine wpL_ex (ge (ge (be (gn ?_))))
    replace hk := lx hx1 hk
    refine wpL_sq (wpL_rg ?_)
    refine pM (.int _ _) ?_
    refine pA (.int _ _) ?_
    refine pE (gn (wpL_rt ?_))
    replace hk := Option.some.inj hk; subst hk; exact finT hO 0 hFr hF
/-- laws.markBoolSS -/
def f149_L1 : ((List (List Bool)) × Int × Int) → Option (((List (List Bool)) × Int × Int) ⊕ (List (List Bool) × Int)) := fun s =>
  (bif decide (s.2.2 < (s.1.length : Int)) then ((getI s.1 s.2.2).bind fun c4 => ((f135 c4 s.2.1).bind fun z7 => some (.inl (s.1.set s.2.2.toNat z7.1, z7.2, w64 (s.2.2 + (1:Int)))))) else ((some (s.1, s.2.1)).map Sum.inr))
def f149 (aA0 : List (List Bool)) (aK1 : Int) : Option (List (List Bool) × Int) :=
  (loopO (f149_L1) (aA0, aK1, (0:Int)))
theorem f149_run {aA0 : List (List Bool)} {aK1 : Int} {r : (List (List Bool) × Int)} {v0 : V} {F0 : List Nat} {H : Heap} {lk : Lk} (hk : f149 aA0 aK1 = some r) (ha : TrIn H aA0 [v0] F0) (hF : ∀ b ∈ F0, b < H.length) (hS : ∀ b ∈ F0, unlocked lk b = true) (hlk : 0 < lk.length := by simp) : ∃ v H1, runL Try.prog hh 149 [v0, .int .i64 aK1] H lk = some (v, H1) ∧ v = .int .i64 r.2 ∧ TrIn H1 r.1 [v0] F0 ∧ H1.length = H.length ∧ ∀ b, b ∉ F0 → H1[b]? = H[b]? := by
  refine run_startR Try.func149 rfl Try.ntmps149 Try.results149 rfl rfl ?_
  have hO := tree_start ha hF
  have hFr := Sees.refl H F0
  unfold f149 at hk
  refine wpL_sq (wpL_rg ?_)
  refine pA (.int _ _) ?_
  refine pE (gn (wpL_sq (wpL_sq (wpL_rg ?_))))
  refine pA (.int _ _) ?_
  refine pE (gn (wpL_bl ?_))
  refine wpL_loopO (F := f149_L1) (fun s S' => ∃ (J : Nat → V) (G : Heap) (H1 : Heap), Sees H H1 F0 ∧ Owns H1 G [Tree F0 F0 s.1 [v0]] ∧ S' = ⟨hav [(0, v0), (1, .int .i64 s.2.1), (5, .int .i64 s.2.2)] J, G⟩) hk ⟨_, _, _, hFr, hO, St.hav _ ⟨rfl, rfl, rfl, trivial⟩⟩ ?_
  rintro ⟨x1, x2, x3⟩ _ y1 ⟨J, G, H1, hFr, hO, rfl⟩ hk hx1
  refine wpL_sq (wpL_sq (wpL_rg ?_))
  refine pM (.int _ _) ?_
  refine pM v0 ?_
  refine pLenT hO 0 tS45 ?_
  refine pBi ?_
  refine pE (gn ?_)
  refine wpL_cd (b := decide (x3 < (x1.length : Int))) (fun hb => ?_) (fun hb => ?_)
  · replace hk := ct hb hk
    refine wpL_sk (gn (wpL_sq (wpL_bl (wpL_rg ?_))))
    refine pM v0 ?_
    refine pM (.int _ _) ?_
    obtain ⟨c4, hc4, hk⟩ := bs hk
    refine pXT hO 0 hc4 tE45 tZ38 (fun b5 hb5 => ?_)
    refine pLT (Foc.all (α := List Bool)) hO 0 hb5 hc4 tA38 (fun u6 fs6 hs6 => ?_)
    refine pM (.int _ _) ?_
    obtain ⟨z7, hz7, hk⟩ := bs hk
    refine pCT (y' := z7.1) (r := .int .i64 z7.2) hO 0 hs6 (fun _ h => h) hFr hS (fun hF1 hS1 ht1 => f135_run hz7 ht1 hF1 hS1) (fun H1 G hFr hO => ?_)
    refine pA (.int _ _) ?_
    refine pE (bn (gn (wpL_rg ?_)))
    refine pM (.int _ _) ?_
    refine pBi ?_
    refine pA (.int _ _) ?_
    refine pE (gn ?_)
    cases hk; exact ⟨_, rfl, _, _, _, hFr, hO, St.hav _ ⟨rfl, rfl, rfl, trivial⟩⟩
  · replace hk := cf hb hk
    refine wpL_ex (ge (ge (be (gn ?_))))
    replace hk := lx hx1 hk
    refine wpL_sq (wpL_rg ?_)
    refine pM (.int _ _) ?_
    refine pA (.int _ _) ?_
    refine pE (gn (wpL_rt ?_))
    replace hk := Option.some.inj hk; subst hk; exact finT hO 0 hFr hF
/-- laws.markPlan -/
def f93 (aA0 : Plan) (aK1 : Int) : Option (Plan × Int) :=
  ((f31 aA0.Switches aK1).bind fun z3 => ((f211 (({ aA0 with Switches := z3.1 }).Ways) z3.2).bind fun z5 => ((f149 (({ { aA0 with Switches := z3.1 } with Ways := z5.1 }).Bars) z5.2).bind fun z7 => some ({ { { aA0 with Switches := z3.1 } with Ways := z5.1 } with Bars := z7.1 }, z7.2))))
theorem f93_run {aA0 : Plan} {aK1 : Int} {r : (Plan × Int)} {v0 : List V} {F0 : List Nat} {H : Heap} {lk : Lk} (hk : f93 aA0 aK1 = some r) (ha : TrIn H aA0 v0 F0) (hF : ∀ b ∈ F0, b < H.length) (hS : ∀ b ∈ F0, unlocked lk b = true) (hlk : 0 < lk.length := by simp) : ∃ v H1, runL Try.prog hh 93 [.agg v0, .int .i64 aK1] H lk = some (v, H1) ∧ v = .int .i64 r.2 ∧ TrIn H1 r.1 v0 F0 ∧ H1.length = H.length ∧ ∀ b, b ∉ F0 → H1[b]? = H[b]? := by
  refine run_startR Try.func93 rfl Try.ntmps93 Try.results93 rfl rfl ?_
  have hO := tree_start ha hF
  have hFr := Sees.refl H F0
  unfold f93 at hk
  refine wpL_sq (wpL_rg ?_)
  refine pBoxT hO 0 tZ81 (fun b1 G hO => ?_)
  refine pA (.int _ _) ?_
  refine pE (gn (wpL_sq (wpL_rg ?_)))
  refine pF tF81_1 ?_
  refine pLTs foc_Plan_Switches hO 0 1 tA26 (fun u2 fs2 hs2 => ?_)
  refine pM (.int _ _) ?_
  obtain ⟨z3, hz3, hk⟩ := bs hk
  refine pCT (y' := z3.1) (r := .int .i64 z3.2) hO 1 hs2 (fun _ h => h) hFr hS (fun hF1 hS1 ht1 => f31_run hz3 ht1 hF1 hS1) (fun H1 G hFr hO => ?_)
  refine pA (.int _ _) ?_
  refine pE (gn (wpL_sq (wpL_rg ?_)))
  refine pF tF81_2 ?_
  refine pLTs foc_Plan_Ways hO 0 1 tA79 (fun u4 fs4 hs4 => ?_)
  refine pM (.int _ _) ?_
  obtain ⟨z5, hz5, hk⟩ := bs hk
  refine pCT (y' := z5.1) (r := .int .i64 z5.2) hO 1 hs4 (fun _ h => h) hFr hS (fun hF1 hS1 ht1 => f211_run hz5 ht1 hF1 hS1) (fun H1 G hFr hO => ?_)
  refine pA (.int _ _) ?_
  refine pE (gn (wpL_sq (wpL_rg ?_)))
  refine pF tF81_3 ?_
  refine pLTs foc_Plan_Bars hO 0 1 tA45 (fun u6 fs6 hs6 => ?_)
  refine pM (.int _ _) ?_
  obtain ⟨z7, hz7, hk⟩ := bs hk
  refine pCT (y' := z7.1) (r := .int .i64 z7.2) hO 1 hs6 (fun _ h => h) hFr hS (fun hF1 hS1 ht1 => f149_run hz7 ht1 hF1 hS1) (fun H1 G hFr hO => ?_)
  refine pA (.int _ _) ?_
  refine pE (gn (wpL_sq (wpL_rg ?_)))
  refine pM (.int _ _) ?_
  refine pA (.int _ _) ?_
  refine pE (gn (wpL_rt ?_))
  replace hk := Option.some.inj hk; subst hk; exact finT hO 1 hFr hF
/-- laws.markPointS -/
def f212_L1 : ((List Point) × Int × Int) → Option (((List Point) × Int × Int) ⊕ (List Point × Int)) := fun s =>
  (bif decide (s.2.2 < (s.1.length : Int)) then ((getI s.1 s.2.2).bind fun c4 => ((getI (s.1.set s.2.2.toNat ({ c4 with Want := s.2.1 })) s.2.2).bind fun c6 => some (.inl ((s.1.set s.2.2.toNat ({ c4 with Want := s.2.1 })).set s.2.2.toNat ({ c6 with Lies := w64 (s.2.1 + (1:Int)) }), w64 ((w64 (s.2.1 + (1:Int))) + (1:Int)), w64 (s.2.2 + (1:Int)))))) else ((some (s.1, s.2.1)).map Sum.inr))
def f212 (aA0 : List Point) (aK1 : Int) : Option (List Point × Int) :=
  (loopO (f212_L1) (aA0, aK1, (0:Int)))
theorem f212_run {aA0 : List Point} {aK1 : Int} {r : (List Point × Int)} {v0 : V} {F0 : List Nat} {H : Heap} {lk : Lk} (hk : f212 aA0 aK1 = some r) (ha : TrIn H aA0 [v0] F0) (hF : ∀ b ∈ F0, b < H.length) (hS : ∀ b ∈ F0, unlocked lk b = true) (hlk : 0 < lk.length := by simp) : ∃ v H1, runL Try.prog hh 212 [v0, .int .i64 aK1] H lk = some (v, H1) ∧ v = .int .i64 r.2 ∧ TrIn H1 r.1 [v0] F0 ∧ H1.length = H.length ∧ ∀ b, b ∉ F0 → H1[b]? = H[b]? := by
  refine run_startR Try.func212 rfl Try.ntmps212 Try.results212 rfl rfl ?_
  have hO := tree_start ha hF
  have hFr := Sees.refl H F0
  unfold f212 at hk
  refine wpL_sq (wpL_rg ?_)
  refine pA (.int _ _) ?_
  refine pE (gn (wpL_sq (wpL_sq (wpL_rg ?_))))
  refine pA (.int _ _) ?_
  refine pE (gn (wpL_bl ?_))
  refine wpL_loopO (F := f212_L1) (fun s S' => ∃ (J : Nat → V) (G : Heap) (H1 : Heap), Sees H H1 F0 ∧ Owns H1 G [Tree F0 F0 s.1 [v0]] ∧ S' = ⟨hav [(0, v0), (1, .int .i64 s.2.1), (5, .int .i64 s.2.2)] J, G⟩) hk ⟨_, _, _, hFr, hO, St.hav _ ⟨rfl, rfl, rfl, trivial⟩⟩ ?_
  rintro ⟨x1, x2, x3⟩ _ y1 ⟨J, G, H1, hFr, hO, rfl⟩ hk hx1
  refine wpL_sq (wpL_sq (wpL_rg ?_))
  refine pM (.int _ _) ?_
  refine pM v0 ?_
  refine pLenT hO 0 tS145 ?_
  refine pBi ?_
  refine pE (gn ?_)
  refine wpL_cd (b := decide (x3 < (x1.length : Int))) (fun hb => ?_) (fun hb => ?_)
  · replace hk := ct hb hk
    refine wpL_sk (gn (wpL_sq (wpL_bl (wpL_sq (wpL_rg ?_)))))
    refine pM v0 ?_
    refine pM (.int _ _) ?_
    refine pM (.int _ _) ?_
    obtain ⟨c4, hc4, hk⟩ := bs hk
    refine pXT hO 0 hc4 tE145 tZ245 (fun b5 hb5 => ?_)
    refine pF tF245_0 ?_
    refine pST foc_Point_Want (y' := x2) hO 0 hb5 hc4 tZ3 (fun _ => ⟨rfl, rfl⟩) hFr hS rfl (fun H1 G hFr hO => ?_)
    refine pE (gn (wpL_sq (wpL_rg ?_)))
    refine pM (.int _ _) ?_
    refine pBi ?_
    refine pA (.int _ _) ?_
    refine pE (gn (wpL_sq (wpL_rg ?_)))
    refine pM v0 ?_
    refine pM (.int _ _) ?_
    refine pM (.int _ _) ?_
    obtain ⟨c6, hc6, hk⟩ := bs hk
    refine pXT hO 0 hc6 tE145 tZ245 (fun b7 hb7 => ?_)
    refine pF tF245_1 ?_
    refine pST foc_Point_Lies (y' := (w64 (x2 + (1:Int)))) hO 0 hb7 hc6 tZ3 (fun _ => ⟨rfl, rfl⟩) hFr hS rfl (fun H1 G hFr hO => ?_)
    refine pE (gn (wpL_rg ?_))
    refine pM (.int _ _) ?_
    refine pBi ?_
    refine pA (.int _ _) ?_
    refine pE (bn (gn (wpL_rg ?_)))
    refine pM (.int _ _) ?_
    refine pBi ?_
    refine pA (.int _ _) ?_
    refine pE (gn ?_)
    cases hk; exact ⟨_, rfl, _, _, _, hFr, hO, St.hav _ ⟨rfl, rfl, rfl, trivial⟩⟩
  · replace hk := cf hb hk
    refine wpL_ex (ge (ge (be (gn ?_))))
    replace hk := lx hx1 hk
    refine wpL_sq (wpL_rg ?_)
    refine pM (.int _ _) ?_
    refine pA (.int _ _) ?_
    refine pE (gn (wpL_rt ?_))
    replace hk := Option.some.inj hk; subst hk; exact finT hO 0 hFr hF
/-- laws.markHeldS -/
def f213_L1 : ((List Held) × Int × Int) → Option (((List Held) × Int × Int) ⊕ (List Held × Int)) := fun s =>
  (bif decide (s.2.2 < (s.1.length : Int)) then ((getI s.1 s.2.2).bind fun c4 => ((getI (s.1.set s.2.2.toNat ({ c4 with State := s.2.1 })) s.2.2).bind fun c6 => ((getI ((s.1.set s.2.2.toNat ({ c4 with State := s.2.1 })).set s.2.2.toNat ({ c6 with Gone := w64 (s.2.1 + (1:Int)) })) s.2.2).bind fun c8 => ((f135 c8.Been (w64 ((w64 (s.2.1 + (1:Int))) + (1:Int)))).bind fun z11 => ((getI (((s.1.set s.2.2.toNat ({ c4 with State := s.2.1 })).set s.2.2.toNat ({ c6 with Gone := w64 (s.2.1 + (1:Int)) })).set s.2.2.toNat ({ c8 with Been := z11.1 })) s.2.2).bind fun c12 => ((getI ((((s.1.set s.2.2.toNat ({ c4 with State := s.2.1 })).set s.2.2.toNat ({ c6 with Gone := w64 (s.2.1 + (1:Int)) })).set s.2.2.toNat ({ c8 with Been := z11.1 })).set s.2.2.toNat ({ c12 with Shown := ((Int.tmod z11.2 (3:Int)) == (0:Int)) })) s.2.2).bind fun c14 => some (.inl (((((s.1.set s.2.2.toNat ({ c4 with State := s.2.1 })).set s.2.2.toNat ({ c6 with Gone := w64 (s.2.1 + (1:Int)) })).set s.2.2.toNat ({ c8 with Been := z11.1 })).set s.2.2.toNat ({ c12 with Shown := ((Int.tmod z11.2 (3:Int)) == (0:Int)) })).set s.2.2.toNat ({ c14 with Timer := w64 (z11.2 + (1:Int)) }), w64 ((w64 (z11.2 + (1:Int))) + (1:Int)), w64 (s.2.2 + (1:Int)))))))))) else ((some (s.1, s.2.1)).map Sum.inr))
def f213 (aA0 : List Held) (aK1 : Int) : Option (List Held × Int) :=
  (loopO (f213_L1) (aA0, aK1, (0:Int)))
theorem f213_run {aA0 : List Held} {aK1 : Int} {r : (List Held × Int)} {v0 : V} {F0 : List Nat} {H : Heap} {lk : Lk} (hk : f213 aA0 aK1 = some r) (ha : TrIn H aA0 [v0] F0) (hF : ∀ b ∈ F0, b < H.length) (hS : ∀ b ∈ F0, unlocked lk b = true) (hlk : 0 < lk.length := by simp) : ∃ v H1, runL Try.prog hh 213 [v0, .int .i64 aK1] H lk = some (v, H1) ∧ v = .int .i64 r.2 ∧ TrIn H1 r.1 [v0] F0 ∧ H1.length = H.length ∧ ∀ b, b ∉ F0 → H1[b]? = H[b]? := by
  refine run_startR Try.func213 rfl Try.ntmps213 Try.results213 rfl rfl ?_
  have hO := tree_start ha hF
  have hFr := Sees.refl H F0
  unfold f213 at hk
  refine wpL_sq (wpL_rg ?_)
  refine pA (.int _ _) ?_
  refine pE (gn (wpL_sq (wpL_sq (wpL_rg ?_))))
  refine pA (.int _ _) ?_
  refine pE (gn (wpL_bl ?_))
  refine wpL_loopO (F := f213_L1) (fun s S' => ∃ (J : Nat → V) (G : Heap) (H1 : Heap), Sees H H1 F0 ∧ Owns H1 G [Tree F0 F0 s.1 [v0]] ∧ S' = ⟨hav [(0, v0), (1, .int .i64 s.2.1), (5, .int .i64 s.2.2)] J, G⟩) hk ⟨_, _, _, hFr, hO, St.hav _ ⟨rfl, rfl, rfl, trivial⟩⟩ ?_
  rintro ⟨x1, x2, x3⟩ _ y1 ⟨J, G, H1, hFr, hO, rfl⟩ hk hx1
  refine wpL_sq (wpL_sq (wpL_rg ?_))
  refine pM (.int _ _) ?_
  refine pM v0 ?_
  refine pLenT hO 0 tS146 ?_
  refine pBi ?_
  refine pE (gn ?_)
  refine wpL_cd (b := decide (x3 < (x1.length : Int))) (fun hb => ?_) (fun hb => ?_)
  · replace hk := ct hb hk
    refine wpL_sk (gn (wpL_sq (wpL_bl (wpL_sq (wpL_rg ?_)))))
    refine pM v0 ?_
    refine pM (.int _ _) ?_
    refine pM (.int _ _) ?_
    obtain ⟨c4, hc4, hk⟩ := bs hk
    refine pXT hO 0 hc4 tE146 tZ247 (fun b5 hb5 => ?_)
    refine pF tF247_0 ?_
    refine pST foc_Held_State (y' := x2) hO 0 hb5 hc4 tZ3 (fun _ => ⟨rfl, rfl⟩) hFr hS rfl (fun H1 G hFr hO => ?_)
    refine pE (gn (wpL_sq (wpL_rg ?_)))
    refine pM (.int _ _) ?_
    refine pBi ?_
    refine pA (.int _ _) ?_
    refine pE (gn (wpL_sq (wpL_rg ?_)))
    refine pM v0 ?_
    refine pM (.int _ _) ?_
    refine pM (.int _ _) ?_
    obtain ⟨c6, hc6, hk⟩ := bs hk
    refine pXT hO 0 hc6 tE146 tZ247 (fun b7 hb7 => ?_)
    refine pF tF247_1 ?_
    refine pST foc_Held_Gone (y' := (w64 (x2 + (1:Int)))) hO 0 hb7 hc6 tZ3 (fun _ => ⟨rfl, rfl⟩) hFr hS rfl (fun H1 G hFr hO => ?_)
    refine pE (gn (wpL_sq (wpL_rg ?_)))
    refine pM (.int _ _) ?_
    refine pBi ?_
    refine pA (.int _ _) ?_
    refine pE (gn (wpL_sq (wpL_rg ?_)))
    refine pM v0 ?_
    refine pM (.int _ _) ?_
    obtain ⟨c8, hc8, hk⟩ := bs hk
    refine pXT hO 0 hc8 tE146 tZ247 (fun b9 hb9 => ?_)
    refine pF tF247_2 ?_
    refine pLT foc_Held_Been hO 0 hb9 hc8 tA38 (fun u10 fs10 hs10 => ?_)
    refine pM (.int _ _) ?_
    obtain ⟨z11, hz11, hk⟩ := bs hk
    refine pCT (y' := z11.1) (r := .int .i64 z11.2) hO 0 hs10 (fun _ h => h) hFr hS (fun hF1 hS1 ht1 => f135_run hz11 ht1 hF1 hS1) (fun H1 G hFr hO => ?_)
    refine pA (.int _ _) ?_
    refine pE (gn (wpL_sq (wpL_rg ?_)))
    refine pM v0 ?_
    refine pM (.int _ _) ?_
    refine pM (.int _ _) ?_
    refine pBi ?_
    refine pBi ?_
    obtain ⟨c12, hc12, hk⟩ := bs hk
    refine pXT hO 0 hc12 tE146 tZ247 (fun b13 hb13 => ?_)
    refine pF tF247_3 ?_
    refine pST foc_Held_Shown (y' := ((Int.tmod z11.2 (3:Int)) == (0:Int))) hO 0 hb13 hc12 tZ4 (fun _ => ⟨rfl, rfl⟩) hFr hS rfl (fun H1 G hFr hO => ?_)
    refine pE (gn (wpL_sq (wpL_rg ?_)))
    refine pM (.int _ _) ?_
    refine pBi ?_
    refine pA (.int _ _) ?_
    refine pE (gn (wpL_sq (wpL_rg ?_)))
    refine pM v0 ?_
    refine pM (.int _ _) ?_
    refine pM (.int _ _) ?_
    obtain ⟨c14, hc14, hk⟩ := bs hk
    refine pXT hO 0 hc14 tE146 tZ247 (fun b15 hb15 => ?_)
    refine pF tF247_4 ?_
    refine pST foc_Held_Timer (y' := (w64 (z11.2 + (1:Int)))) hO 0 hb15 hc14 tZ3 (fun _ => ⟨rfl, rfl⟩) hFr hS rfl (fun H1 G hFr hO => ?_)
    refine pE (gn (wpL_rg ?_))
    refine pM (.int _ _) ?_
    refine pBi ?_
    refine pA (.int _ _) ?_
    refine pE (bn (gn (wpL_rg ?_)))
    refine pM (.int _ _) ?_
    refine pBi ?_
    refine pA (.int _ _) ?_
    refine pE (gn ?_)
    cases hk; exact ⟨_, rfl, _, _, _, hFr, hO, St.hav _ ⟨rfl, rfl, rfl, trivial⟩⟩
  · replace hk := cf hb hk
    refine wpL_ex (ge (ge (be (gn ?_))))
    replace hk := lx hx1 hk
    refine wpL_sq (wpL_rg ?_)
    refine pM (.int _ _) ?_
    refine pA (.int _ _) ?_
    refine pE (gn (wpL_rt ?_))
    replace hk := Option.some.inj hk; subst hk; exact finT hO 0 hFr hF
/-- laws.markFrame -/
def f94 (aA0 : Frame) (aK1 : Int) : Option (Frame × Int) :=
  ((f135 aA0.Occ aK1).bind fun z3 => ((f212 (({ aA0 with Occ := z3.1 }).Points) z3.2).bind fun z5 => ((f213 (({ { aA0 with Occ := z3.1 } with Points := z5.1 }).Ways) z5.2).bind fun z7 => some ({ { { aA0 with Occ := z3.1 } with Points := z5.1 } with Ways := z7.1 }, z7.2))))
theorem f94_run {aA0 : Frame} {aK1 : Int} {r : (Frame × Int)} {v0 : List V} {F0 : List Nat} {H : Heap} {lk : Lk} (hk : f94 aA0 aK1 = some r) (ha : TrIn H aA0 v0 F0) (hF : ∀ b ∈ F0, b < H.length) (hS : ∀ b ∈ F0, unlocked lk b = true) (hlk : 0 < lk.length := by simp) : ∃ v H1, runL Try.prog hh 94 [.agg v0, .int .i64 aK1] H lk = some (v, H1) ∧ v = .int .i64 r.2 ∧ TrIn H1 r.1 v0 F0 ∧ H1.length = H.length ∧ ∀ b, b ∉ F0 → H1[b]? = H[b]? := by
  refine run_startR Try.func94 rfl Try.ntmps94 Try.results94 rfl rfl ?_
  have hO := tree_start ha hF
  have hFr := Sees.refl H F0
  unfold f94 at hk
  refine wpL_sq (wpL_rg ?_)
  refine pBoxT hO 0 tZ148 (fun b1 G hO => ?_)
  refine pA (.int _ _) ?_
  refine pE (gn (wpL_sq (wpL_rg ?_)))
  refine pF tF148_1 ?_
  refine pLTs foc_Frame_Occ hO 0 1 tA38 (fun u2 fs2 hs2 => ?_)
  refine pM (.int _ _) ?_
  obtain ⟨z3, hz3, hk⟩ := bs hk
  refine pCT (y' := z3.1) (r := .int .i64 z3.2) hO 1 hs2 (fun _ h => h) hFr hS (fun hF1 hS1 ht1 => f135_run hz3 ht1 hF1 hS1) (fun H1 G hFr hO => ?_)
  refine pA (.int _ _) ?_
  refine pE (gn (wpL_sq (wpL_rg ?_)))
  refine pF tF148_2 ?_
  refine pLTs foc_Frame_Points hO 0 1 tA145 (fun u4 fs4 hs4 => ?_)
  refine pM (.int _ _) ?_
  obtain ⟨z5, hz5, hk⟩ := bs hk
  refine pCT (y' := z5.1) (r := .int .i64 z5.2) hO 1 hs4 (fun _ h => h) hFr hS (fun hF1 hS1 ht1 => f212_run hz5 ht1 hF1 hS1) (fun H1 G hFr hO => ?_)
  refine pA (.int _ _) ?_
  refine pE (gn (wpL_sq (wpL_rg ?_)))
  refine pF tF148_3 ?_
  refine pLTs foc_Frame_Ways hO 0 1 tA146 (fun u6 fs6 hs6 => ?_)
  refine pM (.int _ _) ?_
  obtain ⟨z7, hz7, hk⟩ := bs hk
  refine pCT (y' := z7.1) (r := .int .i64 z7.2) hO 1 hs6 (fun _ h => h) hFr hS (fun hF1 hS1 ht1 => f213_run hz7 ht1 hF1 hS1) (fun H1 G hFr hO => ?_)
  refine pA (.int _ _) ?_
  refine pE (gn (wpL_sq (wpL_rg ?_)))
  refine pM (.int _ _) ?_
  refine pA (.int _ _) ?_
  refine pE (gn (wpL_rt ?_))
  replace hk := Option.some.inj hk; subst hk; exact finT hO 1 hFr hF
/-- laws.heldBoolS -/
def f137_L1 (aA0 : List Bool) : (Int × Int) → Option ((Int × Int) ⊕ Int) := fun s =>
  (bif decide (s.2 < (aA0.length : Int)) then ((getI aA0 s.2).bind fun c3 => (bif !(c3 == ((Int.tmod s.1 (3:Int)) == (0:Int))) then ((some (-1:Int)).map Sum.inr) else some (.inl (w64 (s.1 + (1:Int)), w64 (s.2 + (1:Int)))))) else ((some s.1).map Sum.inr))
def f137 (aA0 : List Bool) (aK1 : Int) : Option Int :=
  (loopO (f137_L1 aA0) (aK1, (0:Int)))
theorem f137_run {aA0 : List Bool} {aK1 : Int} {r : Int} {l1 : Nat} {H : Heap} {lk : Lk} (hk : f137 aA0 aK1 = some r) (hlk : 0 < lk.length := by simp) : runL Try.prog hh 137 [.lit l1 aA0.length ((flatL 0) aA0), .int .i64 aK1] H lk = some (.int .i64 r, H) := by
  refine run_start Try.func137 rfl Try.ntmps137 Try.results137 rfl rfl fun hO => ?_
  unfold f137 at hk
  refine wpL_sq (wpL_rg ?_)
  refine pA (.int _ _) ?_
  refine pE (gn (wpL_sq (wpL_sq (wpL_rg ?_))))
  refine pA (.int _ _) ?_
  refine pE (gn (wpL_bl ?_))
  refine wpL_loopO (F := f137_L1 aA0) (fun s S' => ∃ (J : Nat → V) (G : Heap), Owns H G [] ∧ S' = ⟨hav [(0, .lit l1 aA0.length ((flatL 0) aA0)), (1, .int .i64 s.1), (5, .int .i64 s.2)] J, G⟩) hk ⟨_, _, hO, St.hav _ ⟨rfl, rfl, rfl, trivial⟩⟩ ?_
  rintro ⟨x1, x2⟩ _ y1 ⟨J, G, hO, rfl⟩ hk hx1
  refine wpL_sq (wpL_sq (wpL_rg ?_))
  refine pM (.int _ _) ?_
  refine pM (.lit _ _ _) ?_
  refine pLen tS38 ?_
  refine pBi ?_
  refine pE (gn ?_)
  refine wpL_cd (b := decide (x2 < (aA0.length : Int))) (fun hb => ?_) (fun hb => ?_)
  · replace hk := ct hb hk
    refine wpL_sk (gn (wpL_sq (wpL_bl (wpL_sq (wpL_sq (wpL_rg ?_))))))
    refine pM (.lit _ _ _) ?_
    refine pM (.int _ _) ?_
    obtain ⟨c3, hc3, hk⟩ := bs hk
    refine pX hc3 tE38 tZ4 ?_
    refine pLp (.bool _) (rd1 (lm := 0) (off := 0) hc3 tA4) ?_
    refine pM (.int _ _) ?_
    refine pBi ?_
    refine pBi ?_
    refine pBn Try.underlying4 ?_
    refine pE (gn ?_)
    refine wpL_cd (b := !(c3 == ((Int.tmod x1 (3:Int)) == (0:Int)))) (fun hb => ?_) (fun hb => ?_)
    · replace hk := ct hb hk
      refine wpL_sq (wpL_rg ?_)
      refine pA (.int _ _) ?_
      refine pE (gn (wpL_rt (gr (br (gr (gr (br (gr ?_))))))))
      replace hk := lx hx1 hk
      replace hk := Option.some.inj hk; subst hk; exact fin0 hO
    · replace hk := cf hb hk
      refine wpL_sk (gn (wpL_rg ?_))
      refine pM (.int _ _) ?_
      refine pBi ?_
      refine pA (.int _ _) ?_
      refine pE (bn (gn (wpL_rg ?_)))
      refine pM (.int _ _) ?_
      refine pBi ?_
      refine pA (.int _ _) ?_
      refine pE (gn ?_)
      cases hk; exact ⟨_, rfl, _, _, hO, St.hav _ ⟨rfl, rfl, rfl, trivial⟩⟩
  · replace hk := cf hb hk
    refine wpL_ex (ge (ge (be (gn ?_))))
    replace hk := lx hx1 hk
    refine wpL_sq (wpL_rg ?_)
    refine pM (.int _ _) ?_
    refine pA (.int _ _) ?_
    refine pE (gn (wpL_rt ?_))
    replace hk := Option.some.inj hk; subst hk; exact fin0 hO
/-- laws.heldPointS -/
def f214_L1 (aA0 : List Point) : (Int × Int) → Option ((Int × Int) ⊕ Int) := fun s =>
  (bif decide (s.2 < (aA0.length : Int)) then ((getI aA0 s.2).bind fun c3 => (bif (c3.Want != s.1) then ((some (-1:Int)).map Sum.inr) else ((getI aA0 s.2).bind fun c4 => (bif (c4.Lies != (w64 (s.1 + (1:Int)))) then ((some (-1:Int)).map Sum.inr) else some (.inl (w64 ((w64 (s.1 + (1:Int))) + (1:Int)), w64 (s.2 + (1:Int)))))))) else ((some s.1).map Sum.inr))
def f214 (aA0 : List Point) (aK1 : Int) : Option Int :=
  (loopO (f214_L1 aA0) (aK1, (0:Int)))
theorem f214_run {aA0 : List Point} {aK1 : Int} {r : Int} {l1 : Nat} {H : Heap} {lk : Lk} (hk : f214 aA0 aK1 = some r) (hlk : 0 < lk.length := by simp) : runL Try.prog hh 214 [.lit l1 aA0.length ((flatL 0) aA0), .int .i64 aK1] H lk = some (.int .i64 r, H) := by
  refine run_start Try.func214 rfl Try.ntmps214 Try.results214 rfl rfl fun hO => ?_
  unfold f214 at hk
  refine wpL_sq (wpL_rg ?_)
  refine pA (.int _ _) ?_
  refine pE (gn (wpL_sq (wpL_sq (wpL_rg ?_))))
  refine pA (.int _ _) ?_
  refine pE (gn (wpL_bl ?_))
  refine wpL_loopO (F := f214_L1 aA0) (fun s S' => ∃ (J : Nat → V) (G : Heap), Owns H G [] ∧ S' = ⟨hav [(0, .lit l1 aA0.length ((flatL 0) aA0)), (1, .int .i64 s.1), (5, .int .i64 s.2)] J, G⟩) hk ⟨_, _, hO, St.hav _ ⟨rfl, rfl, rfl, trivial⟩⟩ ?_
  rintro ⟨x1, x2⟩ _ y1 ⟨J, G, hO, rfl⟩ hk hx1
  refine wpL_sq (wpL_sq (wpL_rg ?_))
  refine pM (.int _ _) ?_
  refine pM (.lit _ _ _) ?_
  refine pLen tS145 ?_
  refine pBi ?_
  refine pE (gn ?_)
  refine wpL_cd (b := decide (x2 < (aA0.length : Int))) (fun hb => ?_) (fun hb => ?_)
  · replace hk := ct hb hk
    refine wpL_sk (gn (wpL_sq (wpL_bl (wpL_sq (wpL_sq (wpL_rg ?_))))))
    refine pM (.lit _ _ _) ?_
    refine pM (.int _ _) ?_
    obtain ⟨c3, hc3, hk⟩ := bs hk
    refine pX hc3 tE145 tZ245 ?_
    refine pF tF245_0 ?_
    refine pLp (.int _ _) (rd1 (lm := 0) (off := 0) hc3 tA3) ?_
    refine pM (.int _ _) ?_
    refine pBi ?_
    refine pE (gn ?_)
    refine wpL_cd (b := (c3.Want != x1)) (fun hb => ?_) (fun hb => ?_)
    · replace hk := ct hb hk
      refine wpL_sq (wpL_rg ?_)
      refine pA (.int _ _) ?_
      refine pE (gn (wpL_rt (gr (br (gr (gr (br (gr ?_))))))))
      replace hk := lx hx1 hk
      replace hk := Option.some.inj hk; subst hk; exact fin0 hO
    · replace hk := cf hb hk
      refine wpL_sk (gn (wpL_sq (wpL_rg ?_)))
      refine pM (.int _ _) ?_
      refine pBi ?_
      refine pA (.int _ _) ?_
      refine pE (gn (wpL_sq (wpL_sq (wpL_rg ?_))))
      refine pM (.lit _ _ _) ?_
      refine pM (.int _ _) ?_
      obtain ⟨c4, hc4, hk⟩ := bs hk
      refine pX hc4 tE145 tZ245 ?_
      refine pF tF245_1 ?_
      refine pLp (.int _ _) (rd1 (lm := 0) (off := 1) hc4 tA3) ?_
      refine pM (.int _ _) ?_
      refine pBi ?_
      refine pE (gn ?_)
      refine wpL_cd (b := (c4.Lies != (w64 (x1 + (1:Int))))) (fun hb => ?_) (fun hb => ?_)
      · replace hk := ct hb hk
        refine wpL_sq (wpL_rg ?_)
        refine pA (.int _ _) ?_
        refine pE (gn (wpL_rt (gr (br (gr (gr (br (gr ?_))))))))
        replace hk := lx hx1 hk
        replace hk := Option.some.inj hk; subst hk; exact fin0 hO
      · replace hk := cf hb hk
        refine wpL_sk (gn (wpL_rg ?_))
        refine pM (.int _ _) ?_
        refine pBi ?_
        refine pA (.int _ _) ?_
        refine pE (bn (gn (wpL_rg ?_)))
        refine pM (.int _ _) ?_
        refine pBi ?_
        refine pA (.int _ _) ?_
        refine pE (gn ?_)
        cases hk; exact ⟨_, rfl, _, _, hO, St.hav _ ⟨rfl, rfl, rfl, trivial⟩⟩
  · replace hk := cf hb hk
    refine wpL_ex (ge (ge (be (gn ?_))))
    replace hk := lx hx1 hk
    refine wpL_sq (wpL_rg ?_)
    refine pM (.int _ _) ?_
    refine pA (.int _ _) ?_
    refine pE (gn (wpL_rt ?_))
    replace hk := Option.some.inj hk; subst hk; exact fin0 hO
/-- laws.heldHeldS -/
def f215_L1 (aA0 : List Held) : (Int × Int) → Option ((Int × Int) ⊕ Int) := fun s =>
  (bif decide (s.2 < (aA0.length : Int)) then ((getI aA0 s.2).bind fun c3 => (bif (c3.State != s.1) then ((some (-1:Int)).map Sum.inr) else ((getI aA0 s.2).bind fun c4 => (bif (c4.Gone != (w64 (s.1 + (1:Int)))) then ((some (-1:Int)).map Sum.inr) else ((getI aA0 s.2).bind fun c5 => ((f137 c5.Been (w64 ((w64 (s.1 + (1:Int))) + (1:Int)))).bind fun v6 => (bif decide (v6 < (0:Int)) then ((some (-1:Int)).map Sum.inr) else ((getI aA0 s.2).bind fun c7 => (bif !(c7.Shown == ((Int.tmod v6 (3:Int)) == (0:Int))) then ((some (-1:Int)).map Sum.inr) else ((getI aA0 s.2).bind fun c8 => (bif (c8.Timer != (w64 (v6 + (1:Int)))) then ((some (-1:Int)).map Sum.inr) else some (.inl (w64 ((w64 (v6 + (1:Int))) + (1:Int)), w64 (s.2 + (1:Int))))))))))))))) else ((some s.1).map Sum.inr))
def f215 (aA0 : List Held) (aK1 : Int) : Option Int :=
  (loopO (f215_L1 aA0) (aK1, (0:Int)))
theorem f215_run {aA0 : List Held} {aK1 : Int} {r : Int} {l1 m2 : Nat} {H : Heap} {lk : Lk} (hk : f215 aA0 aK1 = some r) (hlk : 0 < lk.length := by simp) : runL Try.prog hh 215 [.lit l1 aA0.length (flatL m2 aA0), .int .i64 aK1] H lk = some (.int .i64 r, H) := by
  refine run_start Try.func215 rfl Try.ntmps215 Try.results215 rfl rfl fun hO => ?_
  unfold f215 at hk
  refine wpL_sq (wpL_rg ?_)
  refine pA (.int _ _) ?_
  refine pE (gn (wpL_sq (wpL_sq (wpL_rg ?_))))
  refine pA (.int _ _) ?_
  refine pE (gn (wpL_bl ?_))
  refine wpL_loopO (F := f215_L1 aA0) (fun s S' => ∃ (J : Nat → V) (G : Heap), Owns H G [] ∧ S' = ⟨hav [(0, .lit l1 aA0.length (flatL m2 aA0)), (1, .int .i64 s.1), (5, .int .i64 s.2)] J, G⟩) hk ⟨_, _, hO, St.hav _ ⟨rfl, rfl, rfl, trivial⟩⟩ ?_
  rintro ⟨x1, x2⟩ _ y1 ⟨J, G, hO, rfl⟩ hk hx1
  refine wpL_sq (wpL_sq (wpL_rg ?_))
  refine pM (.int _ _) ?_
  refine pM (.lit _ _ _) ?_
  refine pLen tS146 ?_
  refine pBi ?_
  refine pE (gn ?_)
  refine wpL_cd (b := decide (x2 < (aA0.length : Int))) (fun hb => ?_) (fun hb => ?_)
  · replace hk := ct hb hk
    refine wpL_sk (gn (wpL_sq (wpL_bl (wpL_sq (wpL_sq (wpL_rg ?_))))))
    refine pM (.lit _ _ _) ?_
    refine pM (.int _ _) ?_
    obtain ⟨c3, hc3, hk⟩ := bs hk
    refine pX hc3 tE146 tZ247 ?_
    refine pF tF247_0 ?_
    refine pLp (.int _ _) (rd1 (lm := m2) (off := 0) hc3 tA3) ?_
    refine pM (.int _ _) ?_
    refine pBi ?_
    refine pE (gn ?_)
    refine wpL_cd (b := (c3.State != x1)) (fun hb => ?_) (fun hb => ?_)
    · replace hk := ct hb hk
      refine wpL_sq (wpL_rg ?_)
      refine pA (.int _ _) ?_
      refine pE (gn (wpL_rt (gr (br (gr (gr (br (gr ?_))))))))
      replace hk := lx hx1 hk
      replace hk := Option.some.inj hk; subst hk; exact fin0 hO
    · replace hk := cf hb hk
      refine wpL_sk (gn (wpL_sq (wpL_rg ?_)))
      refine pM (.int _ _) ?_
      refine pBi ?_
      refine pA (.int _ _) ?_
      refine pE (gn (wpL_sq (wpL_sq (wpL_rg ?_))))
      refine pM (.lit _ _ _) ?_
      refine pM (.int _ _) ?_
      obtain ⟨c4, hc4, hk⟩ := bs hk
      refine pX hc4 tE146 tZ247 ?_
      refine pF tF247_1 ?_
      refine pLp (.int _ _) (rd1 (lm := m2) (off := 1) hc4 tA3) ?_
      refine pM (.int _ _) ?_
      refine pBi ?_
      refine pE (gn ?_)
      refine wpL_cd (b := (c4.Gone != (w64 (x1 + (1:Int))))) (fun hb => ?_) (fun hb => ?_)
      · replace hk := ct hb hk
        refine wpL_sq (wpL_rg ?_)
        refine pA (.int _ _) ?_
        refine pE (gn (wpL_rt (gr (br (gr (gr (br (gr ?_))))))))
        replace hk := lx hx1 hk
        replace hk := Option.some.inj hk; subst hk; exact fin0 hO
      · replace hk := cf hb hk
        refine wpL_sk (gn (wpL_sq (wpL_rg ?_)))
        refine pM (.int _ _) ?_
        refine pBi ?_
        refine pA (.int _ _) ?_
        refine pE (gn (wpL_sq (wpL_rg ?_)))
        refine pM (.lit _ _ _) ?_
        refine pM (.int _ _) ?_
        obtain ⟨c5, hc5, hk⟩ := bs hk
        refine pX hc5 tE146 tZ247 ?_
        refine pF tF247_2 ?_
        refine pLp (.lit _ _ _) (rd1 (lm := m2) (off := 2) hc5 tA38) ?_
        refine pM (.int _ _) ?_
        obtain ⟨v6, hv6, hk⟩ := bs hk
        refine pCall (fun _ => f137_run hv6) ?_
        refine pA (.int _ _) ?_
        refine pE (gn (wpL_sq (wpL_sq (wpL_rg ?_))))
        refine pM (.int _ _) ?_
        refine pBi ?_
        refine pE (gn ?_)
        refine wpL_cd (b := decide (v6 < (0:Int))) (fun hb => ?_) (fun hb => ?_)
        · replace hk := ct hb hk
          refine wpL_sq (wpL_rg ?_)
          refine pA (.int _ _) ?_
          refine pE (gn (wpL_rt (gr (br (gr (gr (br (gr ?_))))))))
          replace hk := lx hx1 hk
          replace hk := Option.some.inj hk; subst hk; exact fin0 hO
        · replace hk := cf hb hk
          refine wpL_sk (gn (wpL_sq (wpL_sq (wpL_rg ?_))))
          refine pM (.lit _ _ _) ?_
          refine pM (.int _ _) ?_
          obtain ⟨c7, hc7, hk⟩ := bs hk
          refine pX hc7 tE146 tZ247 ?_
          refine pF tF247_3 ?_
          refine pLp (.bool _) (rd1 (lm := m2) (off := 3) hc7 tA4) ?_
          refine pM (.int _ _) ?_
          refine pBi ?_
          refine pBi ?_
          refine pBn Try.underlying4 ?_
          refine pE (gn ?_)
          refine wpL_cd (b := !(c7.Shown == ((Int.tmod v6 (3:Int)) == (0:Int)))) (fun hb => ?_) (fun hb => ?_)
          · replace hk := ct hb hk
            refine wpL_sq (wpL_rg ?_)
            refine pA (.int _ _) ?_
            refine pE (gn (wpL_rt (gr (br (gr (gr (br (gr ?_))))))))
            replace hk := lx hx1 hk
            replace hk := Option.some.inj hk; subst hk; exact fin0 hO
          · replace hk := cf hb hk
            refine wpL_sk (gn (wpL_sq (wpL_rg ?_)))
            refine pM (.int _ _) ?_
            refine pBi ?_
            refine pA (.int _ _) ?_
            refine pE (gn (wpL_sq (wpL_sq (wpL_rg ?_))))
            refine pM (.lit _ _ _) ?_
            refine pM (.int _ _) ?_
            obtain ⟨c8, hc8, hk⟩ := bs hk
            refine pX hc8 tE146 tZ247 ?_
            refine pF tF247_4 ?_
            refine pLp (.int _ _) (rd1 (lm := m2) (off := 4) hc8 tA3) ?_
            refine pM (.int _ _) ?_
            refine pBi ?_
            refine pE (gn ?_)
            refine wpL_cd (b := (c8.Timer != (w64 (v6 + (1:Int))))) (fun hb => ?_) (fun hb => ?_)
            · replace hk := ct hb hk
              refine wpL_sq (wpL_rg ?_)
              refine pA (.int _ _) ?_
              refine pE (gn (wpL_rt (gr (br (gr (gr (br (gr ?_))))))))
              replace hk := lx hx1 hk
              replace hk := Option.some.inj hk; subst hk; exact fin0 hO
            · replace hk := cf hb hk
              refine wpL_sk (gn (wpL_rg ?_))
              refine pM (.int _ _) ?_
              refine pBi ?_
              refine pA (.int _ _) ?_
              refine pE (bn (gn (wpL_rg ?_)))
              refine pM (.int _ _) ?_
              refine pBi ?_
              refine pA (.int _ _) ?_
              refine pE (gn ?_)
              cases hk; exact ⟨_, rfl, _, _, hO, St.hav _ ⟨rfl, rfl, rfl, trivial⟩⟩
  · replace hk := cf hb hk
    refine wpL_ex (ge (ge (be (gn ?_))))
    replace hk := lx hx1 hk
    refine wpL_sq (wpL_rg ?_)
    refine pM (.int _ _) ?_
    refine pA (.int _ _) ?_
    refine pE (gn (wpL_rt ?_))
    replace hk := Option.some.inj hk; subst hk; exact fin0 hO
/-- laws.heldFrame -/
def f95 (aA0 : Frame) (aK1 : Int) : Option Int :=
  ((f137 aA0.Occ aK1).bind fun v2 => (bif decide (v2 < (0:Int)) then some (-1:Int) else ((f214 aA0.Points v2).bind fun v3 => (bif decide (v3 < (0:Int)) then some (-1:Int) else ((f215 aA0.Ways v3).bind fun v4 => (bif decide (v4 < (0:Int)) then some (-1:Int) else some v4))))))
theorem f95_run {aA0 : Frame} {aK1 : Int} {r : Int} {l1 l2 l3 m4 : Nat} {H : Heap} {lk : Lk} (hk : f95 aA0 aK1 = some r) (hlk : 0 < lk.length := by simp) : runL Try.prog hh 95 [.agg [.bool aA0.Ok, .lit l1 aA0.Occ.length ((flatL 0) aA0.Occ), .lit l2 aA0.Points.length ((flatL 0) aA0.Points), .lit l3 aA0.Ways.length (flatL m4 aA0.Ways)], .int .i64 aK1] H lk = some (.int .i64 r, H) := by
  refine run_start Try.func95 rfl Try.ntmps95 Try.results95 rfl rfl fun hO => ?_
  unfold f95 at hk
  refine wpL_sq (wpL_rg ?_)
  refine pBox (cs := [_, _, _, _]) hO tZ148 (fun b1 G hO => ?_)
  refine pA (.int _ _) ?_
  refine pE (gn (wpL_sq (wpL_rg ?_)))
  refine pF tF148_1 ?_
  refine pLo hO 0 (.lit _ _ _) tA38 ?_
  refine pM (.int _ _) ?_
  obtain ⟨v2, hv2, hk⟩ := bs hk
  refine pCall (fun _ => f137_run hv2) ?_
  refine pA (.int _ _) ?_
  refine pE (gn (wpL_sq (wpL_sq (wpL_rg ?_))))
  refine pM (.int _ _) ?_
  refine pBi ?_
  refine pE (gn ?_)
  refine wpL_cd (b := decide (v2 < (0:Int))) (fun hb => ?_) (fun hb => ?_)
  · replace hk := ct hb hk
    refine wpL_sq (wpL_rg ?_)
    refine pA (.int _ _) ?_
    refine pE (gn (wpL_rt (gr ?_)))
    replace hk := Option.some.inj hk; subst hk; exact fin0 hO
  · replace hk := cf hb hk
    refine wpL_sk (gn (wpL_sq (wpL_rg ?_)))
    refine pF tF148_2 ?_
    refine pLo hO 0 (.lit _ _ _) tA145 ?_
    refine pM (.int _ _) ?_
    obtain ⟨v3, hv3, hk⟩ := bs hk
    refine pCall (fun _ => f214_run hv3) ?_
    refine pA (.int _ _) ?_
    refine pE (gn (wpL_sq (wpL_sq (wpL_rg ?_))))
    refine pM (.int _ _) ?_
    refine pBi ?_
    refine pE (gn ?_)
    refine wpL_cd (b := decide (v3 < (0:Int))) (fun hb => ?_) (fun hb => ?_)
    · replace hk := ct hb hk
      refine wpL_sq (wpL_rg ?_)
      refine pA (.int _ _) ?_
      refine pE (gn (wpL_rt (gr ?_)))
      replace hk := Option.some.inj hk; subst hk; exact fin0 hO
    · replace hk := cf hb hk
      refine wpL_sk (gn (wpL_sq (wpL_rg ?_)))
      refine pF tF148_3 ?_
      refine pLo hO 0 (.lit _ _ _) tA146 ?_
      refine pM (.int _ _) ?_
      obtain ⟨v4, hv4, hk⟩ := bs hk
      refine pCall (fun _ => f215_run hv4) ?_
      refine pA (.int _ _) ?_
      refine pE (gn (wpL_sq (wpL_sq (wpL_rg ?_))))
      refine pM (.int _ _) ?_
      refine pBi ?_
      refine pE (gn ?_)
      refine wpL_cd (b := decide (v4 < (0:Int))) (fun hb => ?_) (fun hb => ?_)
      · replace hk := ct hb hk
        refine wpL_sq (wpL_rg ?_)
        refine pA (.int _ _) ?_
        refine pE (gn (wpL_rt (gr ?_)))
        replace hk := Option.some.inj hk; subst hk; exact fin0 hO
      · replace hk := cf hb hk
        refine wpL_sk (gn (wpL_sq (wpL_rg ?_)))
        refine pM (.int _ _) ?_
        refine pA (.int _ _) ?_
        refine pE (gn (wpL_rt ?_))
        replace hk := Option.some.inj hk; subst hk; exact fin0 hO
/-- laws.FnExactBeginFrame -/
def f15 (aAP0 : Plan) : Option Bool :=
  ((f51 aAP0 (1048576:Int)).bind fun v2 => (bif decide (v2 < (0:Int)) then some true else ((f53 aAP0).bind fun v3 => ((f90 v3).bind fun v5 => ((f53 aAP0).bind fun v9 => ((f91 v9).bind fun v12 => ((f92 v12 v5).bind fun v16 => (bif !v16 then some false else ((f53 aAP0).bind fun v19 => ((f56 v9 v19).bind fun v21 => (bif !v21 then some false else ((f93 v9 (1:Int)).bind fun z24 => ((bif decide (z24.2 < (0:Int)) then some true else ((f92 v12 v5).bind fun v26 => some (!v26))).bind fun t25 => (bif t25 then some false else ((f94 v12 (1:Int)).bind fun z29 => ((f95 z29.1 (1:Int)).bind fun v30 => (bif decide (v30 < (0:Int)) then some false else (bif (v30 != z29.2) then some false else ((f53 aAP0).bind fun v32 => ((f91 v32).bind fun v34 => ((f92 v34 v5).bind fun v38 => (bif !v38 then some false else ((f95 z29.1 (1:Int)).bind fun v41 => (bif decide (v41 < (0:Int)) then some false else (bif (v41 != z29.2) then some false else some true)))))))))))))))))))))))))
theorem f15_run {aAP0 : Plan} {r : Bool} {l1 l2 m3 l4 m5 : Nat} {H : Heap} {lk : Lk} (hk : f15 aAP0 = some r) (hlk : 0 < lk.length := by simp) (hlo : LkOk lk H.length := by simp [LkOk]) : runL Try.prog hh 15 [.agg [.int .i64 aAP0.Sections, .lit l1 aAP0.Switches.length ((flatL 0) aAP0.Switches), .lit l2 aAP0.Ways.length (flatL m3 aAP0.Ways), .lit l4 aAP0.Bars.length (flatL m5 aAP0.Bars), .int .i64 aAP0.Hold]] H lk = some (.bool r, H) := by
  refine run_start Try.func15 rfl Try.ntmps15 Try.results15 rfl rfl fun hO => ?_
  unfold f15 at hk
  refine wpL_sq (wpL_rg ?_)
  refine pBox (cs := [_, _, _, _, _]) hO tZ74 (fun b1 G hO => ?_)
  refine pA (.bool _) ?_
  refine pE (gn (wpL_sq (wpL_rg ?_)))
  refine pA (.int _ _) ?_
  refine pE (gn (wpL_sq (wpL_rg ?_)))
  refine pLs hO 0 [_, _, _, _, _] tA74 tZ74 ?_
  refine pM (.int _ _) ?_
  obtain ⟨v2, hv2, hk⟩ := bs hk
  refine pCall (fun _ => f51_run hv2) ?_
  refine pA (.int _ _) ?_
  refine pE (gn (wpL_sq (wpL_sq (wpL_rg ?_))))
  refine pM (.int _ _) ?_
  refine pBi ?_
  refine pE (gn ?_)
  refine wpL_cd (b := decide (v2 < (0:Int))) (fun hb => ?_) (fun hb => ?_)
  · replace hk := ct hb hk
    refine wpL_sq (wpL_rg ?_)
    refine pA (.bool _) ?_
    refine pE (gn (wpL_rt (gr ?_)))
    replace hk := Option.some.inj hk; subst hk; exact fin0 hO
  · replace hk := cf hb hk
    refine wpL_sk (gn (wpL_sq (wpL_rg ?_)))
    refine pLs hO 0 [_, _, _, _, _] tA74 tZ74 ?_
    obtain ⟨v3, hv3, hk⟩ := bs hk
    refine pCNs hO (fun _ => f53_run hv3) (fun u4 F4 G hO => ?_)
    obtain ⟨v5, hv5, hk⟩ := bs hk
    obtain ⟨_, hm6⟩ := ls_Plan hO (j := 0) rfl (lk.length + 1) 7
    refine pCNs (vs := [(.agg u4)]) (caps := []) hO (fun _ => f90_run hv5) (fun u7 F7 G hO => ?_) (h3 := (la_cons hm6 la_nil))
    refine pNew hO tZ148 t0148 (fun b8 G hO => ?_)
    refine pStS hO 0 1 tZ148 rfl (fun G hO => ?_)
    refine pE (gn (wpL_sq (wpL_rg ?_)))
    refine pLs hO 3 [_, _, _, _, _] tA74 tZ74 ?_
    obtain ⟨v9, hv9, hk⟩ := bs hk
    refine pCNs hO (fun _ => f53_run hv9) (fun u10 F10 G hO => ?_)
    refine pNew hO tZ81 t081 (fun b11 G hO => ?_)
    refine pStS hO 0 1 tZ81 rfl (fun G hO => ?_)
    refine pE (gn (wpL_sq (wpL_rg ?_)))
    refine pLdS hO 0 1 tA81 tZ81 ?_
    obtain ⟨v12, hv12, hk⟩ := bs hk
    obtain ⟨_, hm13⟩ := ls_Plan hO (j := 1) rfl (lk.length + 1) 7
    refine pCNs (vs := [(.agg u10)]) (caps := []) hO (fun _ => f91_run hv12) (fun u14 F14 G hO => ?_) (h3 := (la_cons hm13 la_nil))
    refine pNew hO tZ148 t0148 (fun b15 G hO => ?_)
    refine pStS hO 0 1 tZ148 rfl (fun G hO => ?_)
    refine pE (gn (wpL_sq (wpL_sq (wpL_rg ?_))))
    refine pLdS hO 0 1 tA148 tZ148 ?_
    refine pLdS hO 4 5 tA148 tZ148 ?_
    obtain ⟨v16, hv16, hk⟩ := bs hk
    obtain ⟨_, hm17⟩ := ls_Frame hO (j := 1) rfl (lk.length + 1) 7
    obtain ⟨_, hm18⟩ := ls_Frame hO (j := 5) rfl (lk.length + 1) 7
    refine pCall (vs := [(.agg u14), (.agg u7)]) (caps := []) (fun _ => f92_run hv16) ?_ (h3 := (la_cons hm17 (la_cons hm18 la_nil)))
    refine pU ?_
    refine pE (gn ?_)
    refine wpL_cd (b := !v16) (fun hb => ?_) (fun hb => ?_)
    · replace hk := ct hb hk
      refine wpL_sq (wpL_rg ?_)
      refine pA (.bool _) ?_
      refine pE (gn (wpL_rt (gr ?_)))
      replace hk := Option.some.inj hk; subst hk; exact fin0 hO
    · replace hk := cf hb hk
      refine wpL_sk (gn (wpL_sq (wpL_sq ?_)))
      refine wpL_drw [(0, true), (1, true), (2, true), (3, false), (4, false)] [_, _, _, _, _] (by decide +kernel) (by rfl) ?_
      refine pLdS hO 2 3 tA81 tZ81 ?_
      refine pLs hO 7 [_, _, _, _, _] tA74 tZ74 ?_
      obtain ⟨v19, hv19, hk⟩ := bs hk
      refine pCNs hO (fun _ => f53_run hv19) (fun u20 F20 G hO => ?_)
      obtain ⟨v21, hv21, hk⟩ := bs hk
      obtain ⟨_, hm22⟩ := ls_Plan hO (j := 4) rfl (lk.length + 1) 7
      obtain ⟨_, hm23⟩ := ls_Plan hO (j := 0) rfl (lk.length + 1) 7
      refine pCall (vs := [(.agg u10), (.agg u20)]) (caps := []) (fun _ => f56_run hv21) ?_ (h3 := (la_cons hm22 (la_cons hm23 la_nil)))
      refine pU ?_
      refine pE (gn ?_)
      refine wpL_cd (b := !v21) (fun hb => ?_) (fun hb => ?_)
      · replace hk := ct hb hk
        refine wpL_sq (wpL_rg ?_)
        refine pA (.bool _) ?_
        refine pE (gn (wpL_rt (gr ?_)))
        replace hk := Option.some.inj hk; subst hk; exact fin0 hO
      · replace hk := cf hb hk
        refine wpL_sk (gn (wpL_sq (wpL_rg ?_)))
        refine pA (.int _ _) ?_
        refine pE (gn (wpL_sq (wpL_rg ?_)))
        refine pLdS hO 3 4 tA81 tZ81 ?_
        refine pM (.int _ _) ?_
        obtain ⟨z24, hz24, hk⟩ := bs hk
        refine pCTo (y' := z24.1) (r := .int .i64 z24.2) hO 4 (Sub.all hO (j := 4) rfl) hlo (fun hF1 hS1 ht1 => f93_run hz24 ht1 hF1 hS1) (fun G hO => ?_)
        refine pA (.int _ _) ?_
        refine pE (gn (wpL_sq (wpL_sq (wpL_rg ?_))))
        refine pM (.int _ _) ?_
        refine pBi ?_
        refine pM (.bool _) ?_
        obtain ⟨t25, ht, hk⟩ := bs hk
        refine wpR_mid (l1 := [_, _, _, _, _]) (fun S' => ∃ J, S' = ⟨hav [(1, .ptr b1 0), (4, .ptr b8 0), (6, .ptr b15 0), (42, .bool t25)] J, G⟩) ?_ ?_
        · refine bc (b := decide (z24.2 < (0:Int))) (fun hg1 => ?_) (fun hg1 => ?_)
          · replace hk := ct hg1 ht
            refine pGn hg1 ?_
            refine pGn hg1 ?_
            refine pGn hg1 ?_
            refine pGn hg1 ?_
            refine pPt hg1 (.bool _) ?_
            cases hk; exact pE ⟨_, St.hav _ ⟨rfl, rfl, rfl, rfl, trivial⟩⟩
          · replace hk := cf hg1 ht
            refine pGy hg1 ?_
            refine pLdS hO 1 2 tA148 tZ148 ?_
            refine pGy hg1 ?_
            refine pLdS hO 5 6 tA148 tZ148 ?_
            refine pGy hg1 ?_
            obtain ⟨v26, hv26, hk⟩ := bs hk
            obtain ⟨_, hm27⟩ := ls_Frame hO (j := 2) rfl (lk.length + 1) 7
            obtain ⟨_, hm28⟩ := ls_Frame hO (j := 6) rfl (lk.length + 1) 7
            refine pCall (vs := [(.agg u14), (.agg u7)]) (caps := []) (fun _ => f92_run hv26) ?_ (h3 := (la_cons hm27 (la_cons hm28 la_nil)))
            refine pGy hg1 ?_
            refine pU ?_
            refine pPf hg1 (.bool _) ?_
            cases hk; exact pE ⟨_, St.hav _ ⟨rfl, rfl, rfl, rfl, trivial⟩⟩
        · rintro _ ⟨J, rfl⟩
          refine pE (gn ?_)
          refine wpL_cd (b := t25) (fun hb => ?_) (fun hb => ?_)
          · replace hk := ct hb hk
            refine wpL_sq (wpL_rg ?_)
            refine pA (.bool _) ?_
            refine pE (gn (wpL_rt (gr ?_)))
            replace hk := Option.some.inj hk; subst hk; exact fin0 hO
          · replace hk := cf hb hk
            refine wpL_sk (gn (wpL_sq (wpL_rg ?_)))
            refine pA (.int _ _) ?_
            refine pE (gn (wpL_sq (wpL_rg ?_)))
            refine pLdS hO 1 2 tA148 tZ148 ?_
            refine pM (.int _ _) ?_
            obtain ⟨z29, hz29, hk⟩ := bs hk
            refine pCTo (y' := z29.1) (r := .int .i64 z29.2) hO 2 (Sub.all hO (j := 2) rfl) hlo (fun hF1 hS1 ht1 => f94_run hz29 ht1 hF1 hS1) (fun G hO => ?_)
            refine pA (.int _ _) ?_
            refine pE (gn (wpL_sq (wpL_rg ?_)))
            refine pA (.int _ _) ?_
            refine pE (gn (wpL_sq (wpL_rg ?_)))
            refine pLdS hO 1 2 tA148 tZ148 ?_
            refine pM (.int _ _) ?_
            obtain ⟨v30, hv30, hk⟩ := bs hk
            obtain ⟨_, hm31⟩ := ls_Frame hO (j := 2) rfl (lk.length + 1) 7
            refine pCall (vs := [(.agg u14), (.int _ _)]) (caps := []) (fun _ => f95_run hv30) ?_ (h3 := (la_cons hm31 (la_cons rfl la_nil)))
            refine pA (.int _ _) ?_
            refine pE (gn (wpL_sq (wpL_sq (wpL_rg ?_))))
            refine pM (.int _ _) ?_
            refine pBi ?_
            refine pE (gn ?_)
            refine wpL_cd (b := decide (v30 < (0:Int))) (fun hb => ?_) (fun hb => ?_)
            · replace hk := ct hb hk
              refine wpL_sq (wpL_rg ?_)
              refine pA (.bool _) ?_
              refine pE (gn (wpL_rt (gr ?_)))
              replace hk := Option.some.inj hk; subst hk; exact fin0 hO
            · replace hk := cf hb hk
              refine wpL_sk (gn (wpL_sq (wpL_sq (wpL_rg ?_))))
              refine pM (.int _ _) ?_
              refine pM (.int _ _) ?_
              refine pBi ?_
              refine pE (gn ?_)
              refine wpL_cd (b := (v30 != z29.2)) (fun hb => ?_) (fun hb => ?_)
              · replace hk := ct hb hk
                refine wpL_sq (wpL_rg ?_)
                refine pA (.bool _) ?_
                refine pE (gn (wpL_rt (gr ?_)))
                replace hk := Option.some.inj hk; subst hk; exact fin0 hO
              · replace hk := cf hb hk
                refine wpL_sk (gn (wpL_sq (wpL_rg ?_)))
                refine pLs hO 8 [_, _, _, _, _] tA74 tZ74 ?_
                obtain ⟨v32, hv32, hk⟩ := bs hk
                refine pCNs hO (fun _ => f53_run hv32) (fun u33 F33 G hO => ?_)
                obtain ⟨v34, hv34, hk⟩ := bs hk
                obtain ⟨_, hm35⟩ := ls_Plan hO (j := 0) rfl (lk.length + 1) 7
                refine pCNs (vs := [(.agg u33)]) (caps := []) hO (fun _ => f91_run hv34) (fun u36 F36 G hO => ?_) (h3 := (la_cons hm35 la_nil))
                refine pNew hO tZ148 t0148 (fun b37 G hO => ?_)
                refine pStS hO 0 1 tZ148 rfl (fun G hO => ?_)
                refine pE (gn (wpL_sq (wpL_sq (wpL_rg ?_))))
                refine pLdS hO 0 1 tA148 tZ148 ?_
                refine pLdS hO 8 9 tA148 tZ148 ?_
                obtain ⟨v38, hv38, hk⟩ := bs hk
                obtain ⟨_, hm39⟩ := ls_Frame hO (j := 1) rfl (lk.length + 1) 7
                obtain ⟨_, hm40⟩ := ls_Frame hO (j := 9) rfl (lk.length + 1) 7
                refine pCall (vs := [(.agg u36), (.agg u7)]) (caps := []) (fun _ => f92_run hv38) ?_ (h3 := (la_cons hm39 (la_cons hm40 la_nil)))
                refine pU ?_
                refine pE (gn ?_)
                refine wpL_cd (b := !v38) (fun hb => ?_) (fun hb => ?_)
                · replace hk := ct hb hk
                  refine wpL_sq (wpL_rg ?_)
                  refine pA (.bool _) ?_
                  refine pE (gn (wpL_rt (gr ?_)))
                  replace hk := Option.some.inj hk; subst hk; exact fin0 hO
                · replace hk := cf hb hk
                  refine wpL_sk (gn (wpL_sq (wpL_rg ?_)))
                  refine pA (.int _ _) ?_
                  refine pE (gn (wpL_sq (wpL_rg ?_)))
                  refine pLdS hO 4 5 tA148 tZ148 ?_
                  refine pM (.int _ _) ?_
                  obtain ⟨v41, hv41, hk⟩ := bs hk
                  obtain ⟨_, hm42⟩ := ls_Frame hO (j := 5) rfl (lk.length + 1) 7
                  refine pCall (vs := [(.agg u14), (.int _ _)]) (caps := []) (fun _ => f95_run hv41) ?_ (h3 := (la_cons hm42 (la_cons rfl la_nil)))
                  refine pA (.int _ _) ?_
                  refine pE (gn (wpL_sq (wpL_sq (wpL_rg ?_))))
                  refine pM (.int _ _) ?_
                  refine pBi ?_
                  refine pE (gn ?_)
                  refine wpL_cd (b := decide (v41 < (0:Int))) (fun hb => ?_) (fun hb => ?_)
                  · replace hk := ct hb hk
                    refine wpL_sq (wpL_rg ?_)
                    refine pA (.bool _) ?_
                    refine pE (gn (wpL_rt (gr ?_)))
                    replace hk := Option.some.inj hk; subst hk; exact fin0 hO
                  · replace hk := cf hb hk
                    refine wpL_sk (gn (wpL_sq (wpL_sq (wpL_rg ?_))))
                    refine pM (.int _ _) ?_
                    refine pM (.int _ _) ?_
                    refine pBi ?_
                    refine pE (gn ?_)
                    refine wpL_cd (b := (v41 != z29.2)) (fun hb => ?_) (fun hb => ?_)
                    · replace hk := ct hb hk
                      refine wpL_sq (wpL_rg ?_)
                      refine pA (.bool _) ?_
                      refine pE (gn (wpL_rt (gr ?_)))
                      replace hk := Option.some.inj hk; subst hk; exact fin0 hO
                    · replace hk := cf hb hk
                      refine wpL_sk (gn (wpL_sq (wpL_rg ?_)))
                      refine pA (.bool _) ?_
                      refine pE (gn (wpL_rt ?_))
                      replace hk := Option.some.inj hk; subst hk; exact fin0 hO
end
end Go.Proofs.Ytkfekjcahepfnaa.K
