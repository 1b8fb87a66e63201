/-
  The functions that FnExactTrainOk reaches, as typed Lean functions, and that the interpreter computes them. Part 2 of 2. No conditions.
-/
import Derived.Test.YtkfekjcahepfnaaDTra
set_option linter.unusedVariables false
set_option linter.unusedSimpArgs false
set_option maxRecDepth 100000
namespace Go.Proofs.Ytkfekjcahepfnaa.K
noncomputable section
/-- impl.over -/
def f290 (aN0 : Net) (aE1 : End) : Option ((List End) × (List Int)) :=
  ((f336 aN0 aE1).bind fun v3 => (bif decide (v3.1 < (0:Int)) then some (([] : List End), ([] : List Int)) else ((getI aN0.Joints v3.1).bind fun c4 => ((getI aN0.Joints v3.1).bind fun c5 => (bif (c5.Kind == (2:Int)) then ((getI c4.Ends (w64 ((1:Int) - v3.2))).bind fun c6 => some (([c6] : List End), ([(0:Int)] : List Int))) else (bif (c5.Kind == (3:Int)) then (bif (v3.2 == (0:Int)) then ((getI c4.Ends (1:Int)).bind fun c9 => ((getI c4.Ends (2:Int)).bind fun c10 => some (([c9, c10] : List End), ([(1:Int), (2:Int)] : List Int)))) else ((getI c4.Ends (0:Int)).bind fun c13 => some (([c13] : List End), ([v3.2] : List Int)))) else (bif (c5.Kind == (4:Int)) then ((getI c4.Ends (xor64 v3.2 (1:Int))).bind fun c16 => some (([c16] : List End), ([(0:Int)] : List Int))) else some (([] : List End), ([] : List Int)))))))))
theorem f290_run {aN0 : Net} {aE1 : End} {r : ((List End) × (List Int))} {l1 l2 : Nat} {H : Heap} {lk : Lk} (hk : f290 aN0 aE1 = some r) (hlk : 0 < lk.length := by simp) : runL Try.prog hh 290 [.agg [.lit l1 aN0.Pieces.length (flat aN0.Pieces), .lit l2 aN0.Joints.length (flat aN0.Joints)], .agg [.int .i64 aE1.Piece, .int .i64 aE1.Side]] H lk = some (.tup [.lit 0 r.1.length (flat r.1), .lit 0 r.2.length (flat r.2)], H) := by
  refine run_start Try.func290 rfl Try.ntmps290 Try.results290 rfl rfl fun hO => ?_
  unfold f290 at hk
  refine wpL_sq ?_
  refine wpL_rg ?_
  refine pBox (cs := [_, _]) hO tZ132 (fun b1 G hO => ?_)
  refine pBox (cs := [_, _]) hO tZ260 (fun b2 G hO => ?_)
  refine pA (.tl 0 []) ?_
  refine pA (.tl 0 []) ?_
  refine pE ?_
  refine gn ?_
  refine wpL_sq ?_
  refine wpL_rg ?_
  refine pLs hO 1 [_, _] tA132 tZ132 ?_
  refine pLs hO 0 [_, _] tA260 tZ260 ?_
  obtain ⟨v3, hv3, hk⟩ := bs hk
  refine pCall (fun _ => f336_run hv3) ?_
  refine pM (.tup [_, _]) ?_
  refine pEx (.int _ _) ?_
  refine pEx (.int _ _) ?_
  refine pA (.int _ _) ?_
  refine pA (.int _ _) ?_
  refine pE ?_
  refine gn ?_
  refine wpL_sq ?_
  refine wpL_sq ?_
  refine wpL_rg ?_
  refine pM (.int _ _) ?_
  refine pBi ?_
  refine pE ?_
  refine gn ?_
  refine wpL_cd (b := decide (v3.1 < (0:Int))) (fun hb => ?_) (fun hb => ?_)
  · replace hk := ct hb hk
    refine wpL_sq ?_
    refine wpL_rg ?_
    refine pA (.tl 0 []) ?_
    refine pA (.tl 0 []) ?_
    refine pE ?_
    refine gn ?_
    refine wpL_rt ?_
    refine gr ?_
    replace hk := Option.some.inj hk; subst hk; exact finZ hO (fz_tup (n := 3) (fz_c (fz_nil (k := 0) End) (fz_c (fz_nil (k := 0) Int) (fz_n)))) (resT (.tl 0 []) (resT (.tl 0 []) resN))
  · replace hk := cf hb hk
    refine wpL_sk ?_
    refine gn ?_
    refine wpL_sq ?_
    refine wpL_rg ?_
    refine pF tF132_1 ?_
    refine pLo hO 1 (.lit _ _ _) tA130 ?_
    refine pM (.int _ _) ?_
    obtain ⟨c4, hc4, hk⟩ := bs hk
    refine pX hc4 tE130 tZ332 ?_
    refine pF tF332_2 ?_
    refine pLp (.lit _ _ _) (rd1 (off := 2) hc4 tA330) ?_
    refine pA (.lit _ _ _) ?_
    refine pE ?_
    refine gn ?_
    refine wpL_sq ?_
    refine wpL_sq ?_
    refine wpL_rg ?_
    refine pF tF132_1 ?_
    refine pLo hO 1 (.lit _ _ _) tA130 ?_
    refine pM (.int _ _) ?_
    obtain ⟨c5, hc5, hk⟩ := bs hk
    refine pX hc5 tE130 tZ332 ?_
    refine pF tF332_0 ?_
    refine pLp (.int _ _) (rd1 (off := 0) hc5 tA3) ?_
    refine pE ?_
    refine gn ?_
    refine wpL_bl ?_
    refine wpL_sq ?_
    refine wpL_rg ?_
    refine pBi ?_
    refine pA (.bool _) ?_
    refine pE ?_
    refine gn ?_
    refine wpL_cd (b := (c5.Kind == (2:Int))) (fun hb => ?_) (fun hb => ?_)
    · replace hk := ct hb hk
      refine wpL_sq ?_
      refine wpL_rg ?_
      refine pM (.lit _ _ _) ?_
      refine pM (.int _ _) ?_
      refine pBi ?_
      obtain ⟨c6, hc6, hk⟩ := bs hk
      refine pX hc6 tE330 tZ260 ?_
      refine pLp (.agg [_, _]) (rd2 (off := 0) hc6 tA260 tZ260) ?_
      refine pBs (ps := [(0, (.agg [_, _]))]) ([c6] : List End) tE330 tZ260 t0260 (emb_cons (emb_agg (α := End) rfl c6) (emb_nil)) ?_
      refine pBs (ps := [(0, (.int _ _))]) ([(0:Int)] : List Int) tE26 tZ3 t03 (emb_cons (emb_int rfl _ _) (emb_nil)) ?_
      refine pA (.tl 1 (flat ([c6] : List End))) ?_
      refine pA (.tl 1 (flat ([(0:Int)] : List Int))) ?_
      refine pE ?_
      refine gn ?_
      refine wpL_rt ?_
      refine br (gr ?_)
      replace hO := Owns.addTl hO lk.length ([c6] : List End)
      replace hO := Owns.addTl hO lk.length ([(0:Int)] : List Int)
      replace hk := Option.some.inj hk; subst hk; exact finZ hO (fz_tup (n := 3) (fz_c (fz_own (xs := ([c6] : List End)) hlk 1) (fz_c (fz_own (xs := ([(0:Int)] : List Int)) hlk 0) (fz_n)))) (resT (.tl 1 (flat ([c6] : List End))) (resT (.tl 1 (flat ([(0:Int)] : List Int))) resN))
    · replace hk := cf hb hk
      refine wpL_sq ?_
      refine wpL_rg ?_
      refine pBi ?_
      refine pA (.bool _) ?_
      refine pE ?_
      refine gn ?_
      refine wpL_cd (b := (c5.Kind == (3:Int))) (fun hb => ?_) (fun hb => ?_)
      · replace hk := ct hb hk
        refine wpL_sq ?_
        refine wpL_sq ?_
        refine wpL_rg ?_
        refine pM (.int _ _) ?_
        refine pBi ?_
        refine pE ?_
        refine gn ?_
        refine wpL_cd (b := (v3.2 == (0:Int))) (fun hb => ?_) (fun hb => ?_)
        · replace hk := ct hb hk
          refine wpL_sq ?_
          refine wpL_drw [(0, true), (1, true), (2, true), (3, true), (4, true), (5, true), (6, false), (7, true), (8, false), (9, false)] [_, _, _, _, _, _, _, _, _, _] (by decide +kernel) (by rfl) ?_
          refine pM (.lit _ _ _) ?_
          obtain ⟨c9, hc9, hk⟩ := bs hk
          refine pX hc9 tE330 tZ260 ?_
          refine pLp (.agg [_, _]) (rd2 (off := 0) hc9 tA260 tZ260) ?_
          refine pM (.lit _ _ _) ?_
          obtain ⟨c10, hc10, hk⟩ := bs hk
          refine pX hc10 tE330 tZ260 ?_
          refine pLp (.agg [_, _]) (rd2 (off := 0) hc10 tA260 tZ260) ?_
          refine pBs (ps := [(0, (.agg [_, _])), (1, (.agg [_, _]))]) ([c9, c10] : List End) tE330 tZ260 t0260 (emb_cons (emb_agg (α := End) rfl c9) (emb_cons (emb_agg (α := End) rfl c10) (emb_nil))) ?_
          refine pBs (ps := [(0, (.int _ _)), (1, (.int _ _))]) ([(1:Int), (2:Int)] : List Int) tE26 tZ3 t03 (emb_cons (emb_int rfl _ _) (emb_cons (emb_int rfl _ _) (emb_nil))) ?_
          refine pA (.tl 2 (flat ([c9, c10] : List End))) ?_
          refine pA (.tl 2 (flat ([(1:Int), (2:Int)] : List Int))) ?_
          refine pE ?_
          refine gn ?_
          refine wpL_rt ?_
          refine gr (br (gr ?_))
          replace hO := Owns.addTl hO lk.length ([c9, c10] : List End)
          replace hO := Owns.addTl hO lk.length ([(1:Int), (2:Int)] : List Int)
          replace hk := Option.some.inj hk; subst hk; exact finZ hO (fz_tup (n := 3) (fz_c (fz_own (xs := ([c9, c10] : List End)) hlk 1) (fz_c (fz_own (xs := ([(1:Int), (2:Int)] : List Int)) hlk 0) (fz_n)))) (resT (.tl 2 (flat ([c9, c10] : List End))) (resT (.tl 2 (flat ([(1:Int), (2:Int)] : List Int))) resN))
        · replace hk := cf hb hk
          refine wpL_sk ?_
          refine gn ?_
          refine wpL_sq ?_
          refine wpL_rg ?_
          refine pM (.lit _ _ _) ?_
          obtain ⟨c13, hc13, hk⟩ := bs hk
          refine pX hc13 tE330 tZ260 ?_
          refine pLp (.agg [_, _]) (rd2 (off := 0) hc13 tA260 tZ260) ?_
          refine pBs (ps := [(0, (.agg [_, _]))]) ([c13] : List End) tE330 tZ260 t0260 (emb_cons (emb_agg (α := End) rfl c13) (emb_nil)) ?_
          refine pM (.int _ _) ?_
          refine pBs (ps := [(0, (.int _ _))]) ([v3.2] : List Int) tE26 tZ3 t03 (emb_cons (emb_int rfl _ _) (emb_nil)) ?_
          refine pA (.tl 1 (flat ([c13] : List End))) ?_
          refine pA (.tl 1 (flat ([v3.2] : List Int))) ?_
          refine pE ?_
          refine gn ?_
          refine wpL_rt ?_
          refine br (gr ?_)
          replace hO := Owns.addTl hO lk.length ([c13] : List End)
          replace hO := Owns.addTl hO lk.length ([v3.2] : List Int)
          replace hk := Option.some.inj hk; subst hk; exact finZ hO (fz_tup (n := 3) (fz_c (fz_own (xs := ([c13] : List End)) hlk 1) (fz_c (fz_own (xs := ([v3.2] : List Int)) hlk 0) (fz_n)))) (resT (.tl 1 (flat ([c13] : List End))) (resT (.tl 1 (flat ([v3.2] : List Int))) resN))
      · replace hk := cf hb hk
        refine wpL_sq ?_
        refine wpL_rg ?_
        refine pBi ?_
        refine pA (.bool _) ?_
        refine pE ?_
        refine gn ?_
        refine wpL_cd (b := (c5.Kind == (4:Int))) (fun hb => ?_) (fun hb => ?_)
        · replace hk := ct hb hk
          refine wpL_sq ?_
          refine wpL_rg ?_
          refine pM (.lit _ _ _) ?_
          refine pM (.int _ _) ?_
          refine pBi ?_
          obtain ⟨c16, hc16, hk⟩ := bs hk
          refine pX hc16 tE330 tZ260 ?_
          refine pLp (.agg [_, _]) (rd2 (off := 0) hc16 tA260 tZ260) ?_
          refine pBs (ps := [(0, (.agg [_, _]))]) ([c16] : List End) tE330 tZ260 t0260 (emb_cons (emb_agg (α := End) rfl c16) (emb_nil)) ?_
          refine pBs (ps := [(0, (.int _ _))]) ([(0:Int)] : List Int) tE26 tZ3 t03 (emb_cons (emb_int rfl _ _) (emb_nil)) ?_
          refine pA (.tl 1 (flat ([c16] : List End))) ?_
          refine pA (.tl 1 (flat ([(0:Int)] : List Int))) ?_
          refine pE ?_
          refine gn ?_
          refine wpL_rt ?_
          refine br (gr ?_)
          replace hO := Owns.addTl hO lk.length ([c16] : List End)
          replace hO := Owns.addTl hO lk.length ([(0:Int)] : List Int)
          replace hk := Option.some.inj hk; subst hk; exact finZ hO (fz_tup (n := 3) (fz_c (fz_own (xs := ([c16] : List End)) hlk 1) (fz_c (fz_own (xs := ([(0:Int)] : List Int)) hlk 0) (fz_n)))) (resT (.tl 1 (flat ([c16] : List End))) (resT (.tl 1 (flat ([(0:Int)] : List Int))) resN))
        · replace hk := cf hb hk
          refine wpL_sk ?_
          refine bn (gn ?_)
          refine wpL_sq ?_
          refine wpL_rg ?_
          refine pA (.tl 0 []) ?_
          refine pA (.tl 0 []) ?_
          refine pE ?_
          refine gn ?_
          refine wpL_rt ?_
          replace hk := Option.some.inj hk; subst hk; exact finZ hO (fz_tup (n := 3) (fz_c (fz_nil (k := 0) End) (fz_c (fz_nil (k := 0) Int) (fz_n)))) (resT (.tl 0 []) (resT (.tl 0 []) resN))
/-- impl.rear -/
def f293 (aS0 : Step) : Option End :=
  ((f337 aS0.Piece (w64 (0 - aS0.Way))).bind fun v3 => some v3)
theorem f293_run {aS0 : Step} {r : End} {H : Heap} {lk : Lk} (hk : f293 aS0 = some r) (hlk : 0 < lk.length := by simp) : runL Try.prog hh 293 [.agg [.int .i64 aS0.Piece, .int .i64 aS0.Way]] H lk = some (.agg [.int .i64 r.Piece, .int .i64 r.Side], H) := by
  refine run_start Try.func293 rfl Try.ntmps293 Try.results293 rfl rfl fun hO => ?_
  unfold f293 at hk
  refine wpL_sq ?_
  refine wpL_rg ?_
  refine pBox (cs := [_, _]) hO tZ258 (fun b1 G hO => ?_)
  refine pNew hO tZ260 t0260 (fun b2 G hO => ?_)
  refine pE ?_
  refine gn ?_
  refine wpL_sq ?_
  refine wpL_rg ?_
  refine pF tF258_0 ?_
  refine pLo hO 1 (.int _ _) tA3 ?_
  refine pF tF258_1 ?_
  refine pLo hO 1 (.int _ _) tA3 ?_
  refine pU ?_
  obtain ⟨v3, hv3, hk⟩ := bs hk
  refine pCall (fun _ => f337_run hv3) ?_
  refine pSt (xs := [_, _]) hO 0 tZ260 rfl (fun G hO => ?_)
  refine pE ?_
  refine gn ?_
  refine wpL_rt ?_
  replace hk := Option.some.inj hk; subst hk; exact finZ hO (fz_agg (n := 2) (fz_c (fz_int _ _) (fz_c (fz_int _ _) (fz_n)))) (resS hO 0 [_, _] tA260 tZ260 resN)
/-- impl.End] -/
def f338_L1 (aS0 : List End) (aV1 : End) : Int → Option (Int ⊕ Int) := fun s =>
  (bif decide (s < (aS0.length : Int)) then ((getI aS0 s).bind fun c3 => (bif ((aV1.Piece == c3.Piece) && ((aV1.Side == c3.Side) && true)) then ((some s).map Sum.inr) else some (.inl (w64 (s + (1:Int)))))) else ((some (-1:Int)).map Sum.inr))
def f338 (aS0 : List End) (aV1 : End) : Option Int :=
  (loopO (f338_L1 aS0 aV1) ((0:Int)))
theorem f338_run {aS0 : List End} {aV1 : End} {r : Int} {l1 : Nat} {H : Heap} {lk : Lk} (hk : f338 aS0 aV1 = some r) (hlk : 0 < lk.length := by simp) : runL Try.prog hh 338 [.lit l1 aS0.length (flat aS0), .agg [.int .i64 aV1.Piece, .int .i64 aV1.Side]] H lk = some (.int .i64 r, H) := by
  refine run_start Try.func338 rfl Try.ntmps338 Try.results338 rfl rfl fun hO => ?_
  unfold f338 at hk
  refine wpL_sq ?_
  refine wpL_rg ?_
  refine pBox (cs := [_, _]) hO tZ260 (fun b1 G hO => ?_)
  refine pA (.int _ _) ?_
  refine pE ?_
  refine gn ?_
  refine wpL_sq ?_
  refine wpL_sq ?_
  refine wpL_rg ?_
  refine pM (.lit _ _ _) ?_
  refine pLen tS330 ?_
  refine pM (.int _ _) ?_
  refine pE ?_
  refine gn ?_
  refine wpL_bl ?_
  refine wpL_loopO (F := f338_L1 aS0 aV1) (fun s S' => ∃ (J : Nat → V) (G : Heap), Owns H G [.blk b1 (.cells 2 [.int .i64 aV1.Piece, .int .i64 aV1.Side])] ∧ S' = ⟨hav [(0, .lit l1 aS0.length (flat aS0)), (3, .ptr b1 0), (7, .int .i64 (aS0.length : Int)), (8, .int .i64 s)] J, G⟩) hk ⟨_, _, hO, St.hav _ ⟨rfl, rfl, rfl, rfl, trivial⟩⟩ ?_
  rintro x2 _ y1 ⟨J, G, hO, rfl⟩ hk hx1
  refine wpL_sq ?_
  refine wpL_rg ?_
  refine pBi ?_
  refine pE ?_
  refine gn ?_
  refine wpL_sq ?_
  refine wpL_cd (b := decide (x2 < (aS0.length : Int))) (fun hb => ?_) (fun hb => ?_)
  · replace hk := ct hb hk
    refine wpL_sk ?_
    refine gn ?_
    refine wpL_sq ?_
    refine wpL_bl ?_
    refine wpL_sq ?_
    refine wpL_rg ?_
    refine pM (.int _ _) ?_
    refine pA (.int _ _) ?_
    refine pE ?_
    refine gn ?_
    refine wpL_sq ?_
    refine wpL_drw [(0, true), (1, true), (2, true), (3, true), (4, true), (5, false)] [_, _, _, _, _, _] (by decide +kernel) (by rfl) ?_
    refine pLs hO 0 [_, _] tA260 tZ260 ?_
    refine pM (.lit _ _ _) ?_
    refine pM (.int _ _) ?_
    obtain ⟨c3, hc3, hk⟩ := bs hk
    refine pX hc3 tE330 tZ260 ?_
    refine pLp (.agg [_, _]) (rd2 (off := 0) hc3 tA260 tZ260) ?_
    refine pGq tG260 (eqc (eqi _ _ _) (eqc (eqi _ _ _) (rfl))) ?_
    refine pE ?_
    refine gn ?_
    refine wpL_cd (b := ((aV1.Piece == c3.Piece) && ((aV1.Side == c3.Side) && true))) (fun hb => ?_) (fun hb => ?_)
    · replace hk := ct hb hk
      refine wpL_sq ?_
      refine wpL_rg ?_
      refine pM (.int _ _) ?_
      refine pA (.int _ _) ?_
      refine pE ?_
      refine gn ?_
      refine wpL_rt ?_
      refine br (gr (gr (br (gr ?_))))
      replace hk := lx hx1 hk
      replace hk := Option.some.inj hk; subst hk; exact fin0 hO
    · replace hk := cf hb hk
      refine wpL_sk ?_
      refine bn (gn ?_)
      refine wpL_rg ?_
      refine pBi ?_
      refine pM (.int _ _) ?_
      refine pE ?_
      refine gn ?_
      cases hk; exact ⟨_, rfl, _, _, hO, St.hav _ ⟨rfl, rfl, rfl, rfl, trivial⟩⟩
  · replace hk := cf hb hk
    refine wpL_ex ?_
    refine ge (ge (be (gn ?_)))
    replace hk := lx hx1 hk
    refine wpL_sq ?_
    refine wpL_rg ?_
    refine pA (.int _ _) ?_
    refine pE ?_
    refine gn ?_
    refine wpL_rt ?_
    replace hk := Option.some.inj hk; subst hk; exact fin0 hO
/-- impl.End] -/
def f292 (aS0 : List End) (aV1 : End) : Option Bool :=
  ((f338 aS0 aV1).bind fun v2 => some (decide (v2 ≥ (0:Int))))
theorem f292_run {aS0 : List End} {aV1 : End} {r : Bool} {l1 : Nat} {H : Heap} {lk : Lk} (hk : f292 aS0 aV1 = some r) (hlk : 0 < lk.length := by simp) : runL Try.prog hh 292 [.lit l1 aS0.length (flat aS0), .agg [.int .i64 aV1.Piece, .int .i64 aV1.Side]] H lk = some (.bool r, H) := by
  refine run_start Try.func292 rfl Try.ntmps292 Try.results292 rfl rfl fun hO => ?_
  unfold f292 at hk
  refine wpL_sq ?_
  refine wpL_rg ?_
  refine pBox (cs := [_, _]) hO tZ260 (fun b1 G hO => ?_)
  refine pA (.bool _) ?_
  refine pE ?_
  refine gn ?_
  refine wpL_sq ?_
  refine wpL_rg ?_
  refine pM (.lit _ _ _) ?_
  refine pLs hO 0 [_, _] tA260 tZ260 ?_
  obtain ⟨v2, hv2, hk⟩ := bs hk
  refine pCall (fun _ => f338_run hv2) ?_
  refine pBi ?_
  refine pA (.bool _) ?_
  refine pE ?_
  refine gn ?_
  refine wpL_rt ?_
  replace hk := Option.some.inj hk; subst hk; exact fin0 hO
/-- impl.length -/
def f294 (aN0 : Net) (aS1 : Step) : Option Int :=
  ((getI aN0.Pieces aS1.Piece).bind fun c3 => some c3.Len)
theorem f294_run {aN0 : Net} {aS1 : Step} {r : Int} {l1 l2 : Nat} {H : Heap} {lk : Lk} (hk : f294 aN0 aS1 = some r) (hlk : 0 < lk.length := by simp) : runL Try.prog hh 294 [.agg [.lit l1 aN0.Pieces.length (flat aN0.Pieces), .lit l2 aN0.Joints.length (flat aN0.Joints)], .agg [.int .i64 aS1.Piece, .int .i64 aS1.Way]] H lk = some (.int .i64 r, H) := by
  refine run_start Try.func294 rfl Try.ntmps294 Try.results294 rfl rfl fun hO => ?_
  unfold f294 at hk
  refine wpL_sq ?_
  refine wpL_rg ?_
  refine pBox (cs := [_, _]) hO tZ132 (fun b1 G hO => ?_)
  refine pBox (cs := [_, _]) hO tZ258 (fun b2 G hO => ?_)
  refine pA (.int _ _) ?_
  refine pE ?_
  refine gn ?_
  refine wpL_sq ?_
  refine wpL_rg ?_
  refine pF tF132_0 ?_
  refine pLo hO 1 (.lit _ _ _) tA129 ?_
  refine pF tF258_0 ?_
  refine pLo hO 0 (.int _ _) tA3 ?_
  obtain ⟨c3, hc3, hk⟩ := bs hk
  refine pX hc3 tE129 tZ266 ?_
  refine pF tF266_1 ?_
  refine pLp (.int _ _) (rd1 (off := 1) hc3 tA3) ?_
  refine pA (.int _ _) ?_
  refine pE ?_
  refine gn ?_
  refine wpL_rt ?_
  replace hk := Option.some.inj hk; subst hk; exact fin0 hO
/-- impl.trainOk -/
def f200_L1 (aN0 : Net) (aT1 : Train) : (Int × Int × Int × Int) → Option ((Int × Int × Int × Int) ⊕ Bool) := fun s =>
  (bif decide (s.2.2.2 < (aT1.Back.length : Int)) then ((getI aT1.Back s.2.2.2).bind fun c12 => ((f171 c12.Piece (0:Int) (w64 ((aN0.Pieces.length : Int) - (1:Int)))).bind fun v14 => (bif ((!v14 || ((c12.Way != (1:Int)) && (c12.Way != (-1:Int)))) || decide (s.2.2.1 ≥ aT1.Long)) then ((some false).map Sum.inr) else ((f291 c12).bind fun v15 => ((f290 aN0 v15).bind fun v16 => ((f293 ({ Piece := s.1, Way := s.2.1 } : Step)).bind fun v17 => ((f292 v16.1 v17).bind fun v18 => (bif !v18 then ((some false).map Sum.inr) else ((f294 aN0 c12).bind fun v19 => some (.inl (c12.Piece, c12.Way, w64 (s.2.2.1 + v19), w64 (s.2.2.2 + (1:Int))))))))))))) else ((some (decide (s.2.2.1 ≥ aT1.Long))).map Sum.inr))
def f200 (aN0 : Net) (aT1 : Train) : Option Bool :=
  ((f226 aN0 aT1.Front).bind fun v3 => ((bif !v3 then some true else ((f171 aT1.Long (1:Int) (100000:Int)).bind fun v5 => some (!v5))).bind fun t4 => (bif (t4 || decide ((aT1.Back.length : Int) > (200:Int))) then some false else ((f289 aN0 aT1.Front).bind fun v7 => (loopO (f200_L1 aN0 aT1) (aT1.Front.Piece, aT1.Front.Way, v7, (0:Int)))))))
theorem f200_run {aN0 : Net} {aT1 : Train} {r : Bool} {l1 l2 l3 : Nat} {H : Heap} {lk : Lk} (hk : f200 aN0 aT1 = some r) (hlk : 0 < lk.length := by simp) : runL Try.prog hh 200 [.agg [.lit l1 aN0.Pieces.length (flat aN0.Pieces), .lit l2 aN0.Joints.length (flat aN0.Joints)], .agg [.int .i64 aT1.Front.Piece, .int .i64 aT1.Front.At, .int .i64 aT1.Front.Way, .int .i64 aT1.Long, .lit l3 aT1.Back.length (flat aT1.Back)]] H lk = some (.bool r, H) := by
  refine run_start Try.func200 rfl Try.ntmps200 Try.results200 rfl rfl fun hO => ?_
  unfold f200 at hk
  refine wpL_sq ?_
  refine wpL_rg ?_
  refine pBox (cs := [_, _]) hO tZ132 (fun b1 G hO => ?_)
  refine pBox (cs := [_, _, _, _, _]) hO tZ136 (fun b2 G hO => ?_)
  refine pA (.bool _) ?_
  refine pE ?_
  refine gn ?_
  refine wpL_sq ?_
  refine wpL_sq ?_
  refine wpL_rg ?_
  refine pLs hO 1 [_, _] tA132 tZ132 ?_
  refine pF tF136_0 ?_
  refine pLs hO 0 [_, _, _] tA134 tZ134 ?_
  obtain ⟨v3, hv3, hk⟩ := bs hk
  refine pCall (fun _ => f226_run hv3) ?_
  refine pU ?_
  refine pM (.bool _) ?_
  obtain ⟨t4, ht, hk⟩ := bs hk
  refine wpR_mid (l1 := [_, _, _, _, _]) (fun S' => ∃ J, S' = ⟨hav [(2, .ptr b1 0), (3, .ptr b2 0), (21, .bool t4)] J, G⟩) ?_ ?_
  · refine bc (b := !v3) (fun hg1 => ?_) (fun hg1 => ?_)
    · replace hk := ct hg1 ht
      refine pGn hg1 ?_
      refine pGn hg1 ?_
      refine pGn hg1 ?_
      refine pGn hg1 ?_
      refine pPt hg1 (.bool _) ?_
      cases hk; exact pE ⟨_, St.hav _ ⟨rfl, rfl, rfl, trivial⟩⟩
    · replace hk := cf hg1 ht
      refine pGy hg1 ?_
      refine pF tF136_1 ?_
      refine pGy hg1 ?_
      refine pLo hO 0 (.int _ _) tA3 ?_
      refine pGy hg1 ?_
      obtain ⟨v5, hv5, hk⟩ := bs hk
      refine pCall (fun _ => f171_run hv5) ?_
      refine pGy hg1 ?_
      refine pU ?_
      refine pPf hg1 (.bool _) ?_
      cases hk; exact pE ⟨_, St.hav _ ⟨rfl, rfl, rfl, trivial⟩⟩
  · rintro _ ⟨J, rfl⟩
    refine pM (.bool _) ?_
    refine wpR_mid (l1 := [_, _, _, _, _]) (fun S' => ∃ J, S' = ⟨hav [(2, .ptr b1 0), (3, .ptr b2 0), (27, .bool (t4 || decide ((aT1.Back.length : Int) > (200:Int))))] J, G⟩) ?_ ?_
    · refine bc (b := t4) (fun hg1 => ?_) (fun hg1 => ?_)
      · refine pGn hg1 ?_
        refine pGn hg1 ?_
        refine pGn hg1 ?_
        refine pGn hg1 ?_
        refine pPt hg1 (.bool _) ?_
        exact pE ⟨_, St.hav _ ⟨rfl, rfl, by rw [hg1]; rfl, trivial⟩⟩
      · refine pGy hg1 ?_
        refine pF tF136_2 ?_
        refine pGy hg1 ?_
        refine pLo hO 0 (.lit _ _ _) tA63 ?_
        refine pGy hg1 ?_
        refine pLen tS63 ?_
        refine pGy hg1 ?_
        refine pBi ?_
        refine pPf hg1 (.bool _) ?_
        exact pE ⟨_, St.hav _ ⟨rfl, rfl, by rw [hg1]; rfl, trivial⟩⟩
    · rintro _ ⟨J, rfl⟩
      refine pE ?_
      refine gn ?_
      refine wpL_cd (b := (t4 || decide ((aT1.Back.length : Int) > (200:Int)))) (fun hb => ?_) (fun hb => ?_)
      · replace hk := ct hb hk
        refine wpL_sq ?_
        refine wpL_rg ?_
        refine pA (.bool _) ?_
        refine pE ?_
        refine gn ?_
        refine wpL_rt ?_
        refine gr ?_
        replace hk := Option.some.inj hk; subst hk; exact fin0 hO
      · replace hk := cf hb hk
        refine wpL_sk ?_
        refine gn ?_
        refine wpL_sq ?_
        refine wpL_rg ?_
        refine pF tF136_0 ?_
        refine pF tF134_0 ?_
        refine pLo hO 0 (.int _ _) tA3 ?_
        refine pF tF136_0 ?_
        refine pF tF134_2 ?_
        refine pLo hO 0 (.int _ _) tA3 ?_
        refine pBd [_, _] t0258 tP258 ?_
        refine pNew hO tZ258 t0258 (fun b6 G hO => ?_)
        refine pSt (xs := [_, _]) hO 0 tZ258 rfl (fun G hO => ?_)
        refine pE ?_
        refine gn ?_
        refine wpL_sq ?_
        refine wpL_rg ?_
        refine pLs hO 2 [_, _] tA132 tZ132 ?_
        refine pF tF136_0 ?_
        refine pLs hO 1 [_, _, _] tA134 tZ134 ?_
        obtain ⟨v7, hv7, hk⟩ := bs hk
        refine pCall (fun _ => f289_run hv7) ?_
        refine pA (.int _ _) ?_
        refine pE ?_
        refine gn ?_
        refine wpL_sq ?_
        refine wpL_sq ?_
        refine wpL_rg ?_
        refine pF tF136_2 ?_
        refine pLo hO 1 (.lit _ _ _) tA63 ?_
        refine pLen tS63 ?_
        refine pM (.int _ _) ?_
        refine pE ?_
        refine gn ?_
        refine wpL_bl ?_
        refine wpL_loopO (F := f200_L1 aN0 aT1) (fun s S' => ∃ (J : Nat → V) (G : Heap), Owns H G [.blk b6 (.cells 2 [.int .i64 s.1, .int .i64 s.2.1]), .blk b2 (.cells 5 [.int .i64 aT1.Front.Piece, .int .i64 aT1.Front.At, .int .i64 aT1.Front.Way, .int .i64 aT1.Long, .lit l3 aT1.Back.length (flat aT1.Back)]), .blk b1 (.cells 2 [.lit l1 aN0.Pieces.length (flat aN0.Pieces), .lit l2 aN0.Joints.length (flat aN0.Joints)])] ∧ S' = ⟨hav [(2, .ptr b1 0), (3, .ptr b2 0), (5, .ptr b6 0), (6, .int .i64 s.2.2.1), (40, .lit l3 aT1.Back.length (flat aT1.Back)), (41, .int .i64 (aT1.Back.length : Int)), (42, .int .i64 s.2.2.2)] J, G⟩) hk ⟨_, _, hO, St.hav _ ⟨rfl, rfl, rfl, rfl, rfl, rfl, rfl, trivial⟩⟩ ?_
        rintro ⟨x8, x9, x10, x11⟩ _ y1 ⟨J, G, hO, rfl⟩ hk hx1
        refine wpL_sq ?_
        refine wpL_rg ?_
        refine pBi ?_
        refine pE ?_
        refine gn ?_
        refine wpL_sq ?_
        refine wpL_cd (b := decide (x11 < (aT1.Back.length : Int))) (fun hb => ?_) (fun hb => ?_)
        · replace hk := ct hb hk
          refine wpL_sk ?_
          refine gn ?_
          refine wpL_sq ?_
          refine wpL_bl ?_
          refine wpL_sq ?_
          refine wpL_rg ?_
          obtain ⟨c12, hc12, hk⟩ := bs hk
          refine pX hc12 tE63 tZ258 ?_
          refine pLp (.agg [_, _]) (rd2 (off := 0) hc12 tA258 tZ258) ?_
          refine pNew hO tZ258 t0258 (fun b13 G hO => ?_)
          refine pSt (xs := [_, _]) hO 0 tZ258 rfl (fun G hO => ?_)
          refine pE ?_
          refine gn ?_
          refine wpL_sq ?_
          refine wpL_sq ?_
          refine wpL_rg ?_
          refine pF tF258_0 ?_
          refine pLo hO 0 (.int _ _) tA3 ?_
          refine pF tF132_0 ?_
          refine pLo hO 3 (.lit _ _ _) tA129 ?_
          refine pLen tS129 ?_
          refine pBi ?_
          obtain ⟨v14, hv14, hk⟩ := bs hk
          refine pCall (fun _ => f171_run hv14) ?_
          refine pU ?_
          refine pM (.bool _) ?_
          refine wpR_mid (l1 := [_, _, _, _, _, _, _, _, _]) (fun S' => ∃ J, S' = ⟨hav [(2, .ptr b1 0), (3, .ptr b2 0), (5, .ptr b6 0), (6, .int .i64 x10), (8, .ptr b13 0), (40, .lit l3 aT1.Back.length (flat aT1.Back)), (41, .int .i64 (aT1.Back.length : Int)), (42, .int .i64 x11), (63, .bool (!v14 || ((c12.Way != (1:Int)) && (c12.Way != (-1:Int)))))] J, G⟩) ?_ ?_
          · refine bc (b := !v14) (fun hg1 => ?_) (fun hg1 => ?_)
            · refine pGn hg1 ?_
              refine pGn hg1 ?_
              refine pGn hg1 ?_
              refine pGn hg1 ?_
              refine pGu ?_
              refine pGu ?_
              refine pGu ?_
              refine pGn hg1 ?_
              refine pPt hg1 (.bool _) ?_
              exact pE ⟨_, St.hav _ ⟨rfl, rfl, rfl, rfl, rfl, rfl, rfl, rfl, by rw [hg1]; rfl, trivial⟩⟩
            · refine pGy hg1 ?_
              refine pF tF258_1 ?_
              refine pGy hg1 ?_
              refine pLo hO 0 (.int _ _) tA3 ?_
              refine pGy hg1 ?_
              refine pBi ?_
              refine pGy hg1 ?_
              refine pM (.bool _) ?_
              refine wpR_mid (l1 := [_, _, _, _]) (fun S' => ∃ J, S' = ⟨hav [(2, .ptr b1 0), (3, .ptr b2 0), (5, .ptr b6 0), (6, .int .i64 x10), (8, .ptr b13 0), (40, .lit l3 aT1.Back.length (flat aT1.Back)), (41, .int .i64 (aT1.Back.length : Int)), (42, .int .i64 x11), (54, .bool (!v14)), (62, .bool ((c12.Way != (1:Int)) && (c12.Way != (-1:Int))))] J, G⟩) ?_ ?_
              · refine bc (b := (c12.Way != (1:Int))) (fun hg2 => ?_) (fun hg2 => ?_)
                · refine pGy hg2 ?_
                  refine pF tF258_1 ?_
                  refine pGy hg2 ?_
                  refine pLo hO 0 (.int _ _) tA3 ?_
                  refine pGy hg2 ?_
                  refine pBi ?_
                  refine pGy hg1 ?_
                  refine pPt hg2 (.bool _) ?_
                  exact pE ⟨_, St.hav _ ⟨rfl, rfl, rfl, rfl, rfl, rfl, rfl, rfl, rfl, by rw [hg2]; rfl, trivial⟩⟩
                · refine pGn hg2 ?_
                  refine pGn hg2 ?_
                  refine pGn hg2 ?_
                  refine pGy hg1 ?_
                  refine pPf hg2 (.bool _) ?_
                  exact pE ⟨_, St.hav _ ⟨rfl, rfl, rfl, rfl, rfl, rfl, rfl, rfl, rfl, by rw [hg2]; rfl, trivial⟩⟩
              · rintro _ ⟨J, rfl⟩
                refine pPf hg1 (.bool _) ?_
                exact pE ⟨_, St.hav _ ⟨rfl, rfl, rfl, rfl, rfl, rfl, rfl, rfl, by rw [hg1]; rfl, trivial⟩⟩
          · rintro _ ⟨J, rfl⟩
            refine pM (.bool _) ?_
            refine wpR_mid (l1 := [_, _, _, _, _]) (fun S' => ∃ J, S' = ⟨hav [(2, .ptr b1 0), (3, .ptr b2 0), (5, .ptr b6 0), (6, .int .i64 x10), (8, .ptr b13 0), (40, .lit l3 aT1.Back.length (flat aT1.Back)), (41, .int .i64 (aT1.Back.length : Int)), (42, .int .i64 x11), (69, .bool ((!v14 || ((c12.Way != (1:Int)) && (c12.Way != (-1:Int)))) || decide (x10 ≥ aT1.Long)))] J, G⟩) ?_ ?_
            · refine bc (b := (!v14 || ((c12.Way != (1:Int)) && (c12.Way != (-1:Int))))) (fun hg1 => ?_) (fun hg1 => ?_)
              · refine pGn hg1 ?_
                refine pGn hg1 ?_
                refine pGn hg1 ?_
                refine pGn hg1 ?_
                refine pPt hg1 (.bool _) ?_
                exact pE ⟨_, St.hav _ ⟨rfl, rfl, rfl, rfl, rfl, rfl, rfl, rfl, by rw [hg1]; rfl, trivial⟩⟩
              · refine pGy hg1 ?_
                refine pM (.int _ _) ?_
                refine pGy hg1 ?_
                refine pF tF136_1 ?_
                refine pGy hg1 ?_
                refine pLo hO 2 (.int _ _) tA3 ?_
                refine pGy hg1 ?_
                refine pBi ?_
                refine pPf hg1 (.bool _) ?_
                exact pE ⟨_, St.hav _ ⟨rfl, rfl, rfl, rfl, rfl, rfl, rfl, rfl, by rw [hg1]; rfl, trivial⟩⟩
            · rintro _ ⟨J, rfl⟩
              refine pE ?_
              refine gn ?_
              refine wpL_cd (b := ((!v14 || ((c12.Way != (1:Int)) && (c12.Way != (-1:Int)))) || decide (x10 ≥ aT1.Long))) (fun hb => ?_) (fun hb => ?_)
              · replace hk := ct hb hk
                refine wpL_sq ?_
                refine wpL_rg ?_
                refine pA (.bool _) ?_
                refine pE ?_
                refine gn ?_
                refine wpL_rt ?_
                refine gr (br (gr (gr (br (gr ?_)))))
                replace hk := lx hx1 hk
                replace hk := Option.some.inj hk; subst hk; exact fin0 hO
              · replace hk := cf hb hk
                refine wpL_sk ?_
                refine gn ?_
                refine wpL_sq ?_
                refine wpL_sq ?_
                refine wpL_drw [(0, true), (1, true), (2, true), (3, false), (4, false), (5, false), (6, false), (7, false), (8, false)] [_, _, _, _, _, _, _, _, _] (by decide +kernel) (by rfl) ?_
                refine pLs hO 3 [_, _] tA132 tZ132 ?_
                refine pLs hO 0 [_, _] tA258 tZ258 ?_
                obtain ⟨v15, hv15, hk⟩ := bs hk
                refine pCall (fun _ => f291_run hv15) ?_
                obtain ⟨v16, hv16, hk⟩ := bs hk
                refine pCall (fun _ => f290_run hv16) ?_
                refine pM (.tup [_, _]) ?_
                refine pEx (.lit _ _ _) ?_
                refine pEx (.lit _ _ _) ?_
                refine pA (.lit _ _ _) ?_
                refine pA (.lit _ _ _) ?_
                refine pE ?_
                refine gn ?_
                refine wpL_sq ?_
                refine wpL_rg ?_
                refine pM (.lit _ _ _) ?_
                refine pLs hO 1 [_, _] tA258 tZ258 ?_
                obtain ⟨v17, hv17, hk⟩ := bs hk
                refine pCall (fun _ => f293_run hv17) ?_
                obtain ⟨v18, hv18, hk⟩ := bs hk
                refine pCall (fun _ => f292_run hv18) ?_
                refine pU ?_
                refine pE ?_
                refine gn ?_
                refine wpL_cd (b := !v18) (fun hb => ?_) (fun hb => ?_)
                · replace hk := ct hb hk
                  refine wpL_sq ?_
                  refine wpL_rg ?_
                  refine pA (.bool _) ?_
                  refine pE ?_
                  refine gn ?_
                  refine wpL_rt ?_
                  refine gr (br (gr (gr (br (gr ?_)))))
                  replace hk := lx hx1 hk
                  replace hk := Option.some.inj hk; subst hk; exact fin0 hO
                · replace hk := cf hb hk
                  refine wpL_sk ?_
                  refine gn ?_
                  refine wpL_sq ?_
                  refine wpL_rg ?_
                  refine pLs hO 0 [_, _] tA258 tZ258 ?_
                  refine pSt (xs := [_, _]) hO 1 tZ258 rfl (fun G hO => ?_)
                  refine pE ?_
                  refine gn ?_
                  refine wpL_rg ?_
                  refine pM (.int _ _) ?_
                  refine pLs hO 3 [_, _] tA132 tZ132 ?_
                  refine pLs hO 0 [_, _] tA258 tZ258 ?_
                  obtain ⟨v19, hv19, hk⟩ := bs hk
                  refine pCall (fun _ => f294_run hv19) ?_
                  refine pBi ?_
                  refine pA (.int _ _) ?_
                  refine pE ?_
                  refine bn (gn ?_)
                  refine wpL_rg ?_
                  refine pBi ?_
                  refine pM (.int _ _) ?_
                  refine pE ?_
                  refine gn ?_
                  cases hk; exact ⟨_, rfl, _, _, (Owns.pick hO [1, 2, 3] (by decide) rfl), St.hav _ ⟨rfl, rfl, rfl, rfl, rfl, rfl, rfl, trivial⟩⟩
        · replace hk := cf hb hk
          refine wpL_ex ?_
          refine ge (ge (be (gn ?_)))
          replace hk := lx hx1 hk
          refine wpL_sq ?_
          refine wpL_rg ?_
          refine pM (.int _ _) ?_
          refine pF tF136_1 ?_
          refine pLo hO 1 (.int _ _) tA3 ?_
          refine pBi ?_
          refine pA (.bool _) ?_
          refine pE ?_
          refine gn ?_
          refine wpL_rt ?_
          replace hk := Option.some.inj hk; subst hk; exact fin0 hO
/-- impl.TrainOk -/
def f82 (aN0 : Net) (aT1 : Train) : Option Bool :=
  ((f199 aN0).bind fun v3 => ((bif v3 then ((f200 aN0 aT1).bind fun v5 => some v5) else some false).bind fun t4 => some t4))
theorem f82_run {aN0 : Net} {aT1 : Train} {r : Bool} {l1 l2 l3 : Nat} {H : Heap} {lk : Lk} (hk : f82 aN0 aT1 = some r) (hlk : 0 < lk.length := by simp) : runL Try.prog hh 82 [.agg [.lit l1 aN0.Pieces.length (flat aN0.Pieces), .lit l2 aN0.Joints.length (flat aN0.Joints)], .agg [.int .i64 aT1.Front.Piece, .int .i64 aT1.Front.At, .int .i64 aT1.Front.Way, .int .i64 aT1.Long, .lit l3 aT1.Back.length (flat aT1.Back)]] H lk = some (.bool r, H) := by
  refine run_start Try.func82 rfl Try.ntmps82 Try.results82 rfl rfl fun hO => ?_
  unfold f82 at hk
  refine wpL_sq ?_
  refine wpL_rg ?_
  refine pBox (cs := [_, _]) hO tZ132 (fun b1 G hO => ?_)
  refine pBox (cs := [_, _, _, _, _]) hO tZ136 (fun b2 G hO => ?_)
  refine pA (.bool _) ?_
  refine pE ?_
  refine gn ?_
  refine wpL_sq ?_
  refine wpL_rg ?_
  refine pLs hO 1 [_, _] tA132 tZ132 ?_
  obtain ⟨v3, hv3, hk⟩ := bs hk
  refine pCall (fun _ => f199_run hv3) ?_
  refine pM (.bool _) ?_
  obtain ⟨t4, ht, hk⟩ := bs hk
  refine wpR_mid (l1 := [_, _, _, _]) (fun S' => ∃ J, S' = ⟨hav [(11, .bool t4)] J, G⟩) ?_ ?_
  · refine bc (b := v3) (fun hg1 => ?_) (fun hg1 => ?_)
    · replace hk := ct hg1 ht
      refine pGy hg1 ?_
      refine pLs hO 1 [_, _] tA132 tZ132 ?_
      refine pGy hg1 ?_
      refine pLs hO 0 [_, _, _, _, _] tA136 tZ136 ?_
      refine pGy hg1 ?_
      obtain ⟨v5, hv5, hk⟩ := bs hk
      refine pCall (fun _ => f200_run hv5) ?_
      refine pPt hg1 (.bool _) ?_
      cases hk; exact pE ⟨_, St.hav _ ⟨rfl, trivial⟩⟩
    · replace hk := cf hg1 ht
      refine pGn hg1 ?_
      refine pGn hg1 ?_
      refine pGn hg1 ?_
      refine pPf hg1 (.bool _) ?_
      cases hk; exact pE ⟨_, St.hav _ ⟨rfl, trivial⟩⟩
  · rintro _ ⟨J, rfl⟩
    refine pA (.bool _) ?_
    refine pE ?_
    refine gn ?_
    refine wpL_rt ?_
    replace hk := Option.some.inj hk; subst hk; exact fin0 hO
/-- laws.eqPiece -/
def f295 (aA0 : Piece) (aB1 : Piece) : Option Bool :=
  (bif !(aA0.Name.toList == aB1.Name.toList) then some false else (bif (aA0.Len != aB1.Len) then some false else (bif (aA0.Speed != aB1.Speed) then some false else (bif (aA0.Brake != aB1.Brake) then some false else some true))))
theorem f295_run {aA0 : Piece} {aB1 : Piece} {r : Bool} {H : Heap} {lk : Lk} (hk : f295 aA0 aB1 = some r) (hlk : 0 < lk.length := by simp) : runL Try.prog hh 295 [.agg [.str aA0.Name, .int .i64 aA0.Len, .int .i64 aA0.Speed, .int .i64 aA0.Brake], .agg [.str aB1.Name, .int .i64 aB1.Len, .int .i64 aB1.Speed, .int .i64 aB1.Brake]] H lk = some (.bool r, H) := by
  refine run_start Try.func295 rfl Try.ntmps295 Try.results295 rfl rfl fun hO => ?_
  unfold f295 at hk
  refine wpL_sq ?_
  refine wpL_rg ?_
  refine pBox (cs := [_, _, _, _]) hO tZ266 (fun b1 G hO => ?_)
  refine pBox (cs := [_, _, _, _]) hO tZ266 (fun b2 G hO => ?_)
  refine pA (.bool _) ?_
  refine pE ?_
  refine gn ?_
  refine wpL_sq ?_
  refine wpL_sq ?_
  refine wpL_rg ?_
  refine pF tF266_0 ?_
  refine pLo hO 1 (.str _) tA9 ?_
  refine pF tF266_0 ?_
  refine pLo hO 0 (.str _) tA9 ?_
  refine pB (a := .str _) (b := .str _) ?_
  refine pE ?_
  refine gn ?_
  refine wpL_cd (b := !(aA0.Name.toList == aB1.Name.toList)) (fun hb => ?_) (fun hb => ?_)
  · replace hk := ct hb hk
    refine wpL_sq ?_
    refine wpL_rg ?_
    refine pA (.bool _) ?_
    refine pE ?_
    refine gn ?_
    refine wpL_rt ?_
    refine gr ?_
    replace hk := Option.some.inj hk; subst hk; exact fin0 hO
  · replace hk := cf hb hk
    refine wpL_sk ?_
    refine gn ?_
    refine wpL_sq ?_
    refine wpL_sq ?_
    refine wpL_rg ?_
    refine pF tF266_1 ?_
    refine pLo hO 1 (.int _ _) tA3 ?_
    refine pF tF266_1 ?_
    refine pLo hO 0 (.int _ _) tA3 ?_
    refine pBi ?_
    refine pE ?_
    refine gn ?_
    refine wpL_cd (b := (aA0.Len != aB1.Len)) (fun hb => ?_) (fun hb => ?_)
    · replace hk := ct hb hk
      refine wpL_sq ?_
      refine wpL_rg ?_
      refine pA (.bool _) ?_
      refine pE ?_
      refine gn ?_
      refine wpL_rt ?_
      refine gr ?_
      replace hk := Option.some.inj hk; subst hk; exact fin0 hO
    · replace hk := cf hb hk
      refine wpL_sk ?_
      refine gn ?_
      refine wpL_sq ?_
      refine wpL_sq ?_
      refine wpL_rg ?_
      refine pF tF266_2 ?_
      refine pLo hO 1 (.int _ _) tA3 ?_
      refine pF tF266_2 ?_
      refine pLo hO 0 (.int _ _) tA3 ?_
      refine pBi ?_
      refine pE ?_
      refine gn ?_
      refine wpL_cd (b := (aA0.Speed != aB1.Speed)) (fun hb => ?_) (fun hb => ?_)
      · replace hk := ct hb hk
        refine wpL_sq ?_
        refine wpL_rg ?_
        refine pA (.bool _) ?_
        refine pE ?_
        refine gn ?_
        refine wpL_rt ?_
        refine gr ?_
        replace hk := Option.some.inj hk; subst hk; exact fin0 hO
      · replace hk := cf hb hk
        refine wpL_sk ?_
        refine gn ?_
        refine wpL_sq ?_
        refine wpL_sq ?_
        refine wpL_rg ?_
        refine pF tF266_3 ?_
        refine pLo hO 1 (.int _ _) tA3 ?_
        refine pF tF266_3 ?_
        refine pLo hO 0 (.int _ _) tA3 ?_
        refine pBi ?_
        refine pE ?_
        refine gn ?_
        refine wpL_cd (b := (aA0.Brake != aB1.Brake)) (fun hb => ?_) (fun hb => ?_)
        · replace hk := ct hb hk
          refine wpL_sq ?_
          refine wpL_rg ?_
          refine pA (.bool _) ?_
          refine pE ?_
          refine gn ?_
          refine wpL_rt ?_
          refine gr ?_
          replace hk := Option.some.inj hk; subst hk; exact fin0 hO
        · replace hk := cf hb hk
          refine wpL_sk ?_
          refine gn ?_
          refine wpL_sq ?_
          refine wpL_rg ?_
          refine pA (.bool _) ?_
          refine pE ?_
          refine gn ?_
          refine wpL_rt ?_
          replace hk := Option.some.inj hk; subst hk; exact fin0 hO
/-- laws.eqPieceS -/
def f201_L1 (aA0 : List Piece) (aB1 : List Piece) : Int → Option (Int ⊕ Bool) := fun s =>
  (bif decide (s < (aA0.length : Int)) then ((getI aA0 s).bind fun c2 => ((getI aB1 s).bind fun c3 => ((f295 c2 c3).bind fun v4 => (bif !v4 then ((some false).map Sum.inr) else some (.inl (w64 (s + (1:Int)))))))) else ((some true).map Sum.inr))
def f201 (aA0 : List Piece) (aB1 : List Piece) : Option Bool :=
  (bif ((aA0.length : Int) != (aB1.length : Int)) then some false else (loopO (f201_L1 aA0 aB1) ((0:Int))))
theorem f201_run {aA0 : List Piece} {aB1 : List Piece} {r : Bool} {l1 l2 : Nat} {H : Heap} {lk : Lk} (hk : f201 aA0 aB1 = some r) (hlk : 0 < lk.length := by simp) : runL Try.prog hh 201 [.lit l1 aA0.length (flat aA0), .lit l2 aB1.length (flat aB1)] H lk = some (.bool r, H) := by
  refine run_start Try.func201 rfl Try.ntmps201 Try.results201 rfl rfl fun hO => ?_
  unfold f201 at hk
  refine wpL_sq ?_
  refine wpL_rg ?_
  refine pA (.bool _) ?_
  refine pE ?_
  refine gn ?_
  refine wpL_sq ?_
  refine wpL_sq ?_
  refine wpL_rg ?_
  refine pM (.lit _ _ _) ?_
  refine pLen tS129 ?_
  refine pM (.lit _ _ _) ?_
  refine pLen tS129 ?_
  refine pBi ?_
  refine pE ?_
  refine gn ?_
  refine wpL_cd (b := ((aA0.length : Int) != (aB1.length : Int))) (fun hb => ?_) (fun hb => ?_)
  · replace hk := ct hb hk
    refine wpL_sq ?_
    refine wpL_rg ?_
    refine pA (.bool _) ?_
    refine pE ?_
    refine gn ?_
    refine wpL_rt ?_
    refine gr ?_
    replace hk := Option.some.inj hk; subst hk; exact fin0 hO
  · replace hk := cf hb hk
    refine wpL_sk ?_
    refine gn ?_
    refine wpL_sq ?_
    refine wpL_sq ?_
    refine wpL_rg ?_
    refine pA (.int _ _) ?_
    refine pE ?_
    refine gn ?_
    refine wpL_bl ?_
    refine wpL_loopO (F := f201_L1 aA0 aB1) (fun s S' => ∃ (J : Nat → V) (G : Heap), Owns H G [] ∧ S' = ⟨hav [(0, .lit l1 aA0.length (flat aA0)), (1, .lit l2 aB1.length (flat aB1)), (5, .int .i64 s)] J, G⟩) hk ⟨_, _, hO, St.hav _ ⟨rfl, rfl, rfl, trivial⟩⟩ ?_
    rintro x1 _ y1 ⟨J, G, hO, rfl⟩ hk hx1
    refine wpL_sq ?_
    refine wpL_sq ?_
    refine wpL_rg ?_
    refine pM (.int _ _) ?_
    refine pM (.lit _ _ _) ?_
    refine pLen tS129 ?_
    refine pBi ?_
    refine pE ?_
    refine gn ?_
    refine wpL_cd (b := decide (x1 < (aA0.length : Int))) (fun hb => ?_) (fun hb => ?_)
    · replace hk := ct hb hk
      refine wpL_sk ?_
      refine gn ?_
      refine wpL_sq ?_
      refine wpL_bl ?_
      refine wpL_sq ?_
      refine wpL_drw [(0, true), (1, true), (2, true), (3, true), (4, true), (5, true), (6, true), (7, true), (8, false), (9, false)] [_, _, _, _, _, _, _, _, _, _] (by decide +kernel) (by rfl) ?_
      refine pM (.lit _ _ _) ?_
      refine pM (.int _ _) ?_
      obtain ⟨c2, hc2, hk⟩ := bs hk
      refine pX hc2 tE129 tZ266 ?_
      refine pLp (.agg [_, _, _, _]) (rd2 (off := 0) hc2 tA266 tZ266) ?_
      refine pM (.lit _ _ _) ?_
      refine pM (.int _ _) ?_
      obtain ⟨c3, hc3, hk⟩ := bs hk
      refine pX hc3 tE129 tZ266 ?_
      refine pLp (.agg [_, _, _, _]) (rd2 (off := 0) hc3 tA266 tZ266) ?_
      obtain ⟨v4, hv4, hk⟩ := bs hk
      refine pCall (fun _ => f295_run hv4) ?_
      refine pU ?_
      refine pE ?_
      refine gn ?_
      refine wpL_cd (b := !v4) (fun hb => ?_) (fun hb => ?_)
      · replace hk := ct hb hk
        refine wpL_sq ?_
        refine wpL_rg ?_
        refine pA (.bool _) ?_
        refine pE ?_
        refine gn ?_
        refine wpL_rt ?_
        refine br (gr (gr (br (gr ?_))))
        replace hk := lx hx1 hk
        replace hk := Option.some.inj hk; subst hk; exact fin0 hO
      · replace hk := cf hb hk
        refine wpL_sk ?_
        refine bn (gn ?_)
        refine wpL_rg ?_
        refine pM (.int _ _) ?_
        refine pBi ?_
        refine pA (.int _ _) ?_
        refine pE ?_
        refine gn ?_
        cases hk; exact ⟨_, rfl, _, _, hO, St.hav _ ⟨rfl, rfl, rfl, trivial⟩⟩
    · replace hk := cf hb hk
      refine wpL_ex ?_
      refine ge (ge (be (gn ?_)))
      replace hk := lx hx1 hk
      refine wpL_sq ?_
      refine wpL_rg ?_
      refine pA (.bool _) ?_
      refine pE ?_
      refine gn ?_
      refine wpL_rt ?_
      replace hk := Option.some.inj hk; subst hk; exact fin0 hO
/-- laws.eqEnd -/
def f354 (aA0 : End) (aB1 : End) : Option Bool :=
  (bif (aA0.Piece != aB1.Piece) then some false else (bif (aA0.Side != aB1.Side) then some false else some true))
theorem f354_run {aA0 : End} {aB1 : End} {r : Bool} {H : Heap} {lk : Lk} (hk : f354 aA0 aB1 = some r) (hlk : 0 < lk.length := by simp) : runL Try.prog hh 354 [.agg [.int .i64 aA0.Piece, .int .i64 aA0.Side], .agg [.int .i64 aB1.Piece, .int .i64 aB1.Side]] H lk = some (.bool r, H) := by
  refine run_start Try.func354 rfl Try.ntmps354 Try.results354 rfl rfl fun hO => ?_
  unfold f354 at hk
  refine wpL_sq ?_
  refine wpL_rg ?_
  refine pBox (cs := [_, _]) hO tZ260 (fun b1 G hO => ?_)
  refine pBox (cs := [_, _]) hO tZ260 (fun b2 G hO => ?_)
  refine pA (.bool _) ?_
  refine pE ?_
  refine gn ?_
  refine wpL_sq ?_
  refine wpL_sq ?_
  refine wpL_rg ?_
  refine pF tF260_0 ?_
  refine pLo hO 1 (.int _ _) tA3 ?_
  refine pF tF260_0 ?_
  refine pLo hO 0 (.int _ _) tA3 ?_
  refine pBi ?_
  refine pE ?_
  refine gn ?_
  refine wpL_cd (b := (aA0.Piece != aB1.Piece)) (fun hb => ?_) (fun hb => ?_)
  · replace hk := ct hb hk
    refine wpL_sq ?_
    refine wpL_rg ?_
    refine pA (.bool _) ?_
    refine pE ?_
    refine gn ?_
    refine wpL_rt ?_
    refine gr ?_
    replace hk := Option.some.inj hk; subst hk; exact fin0 hO
  · replace hk := cf hb hk
    refine wpL_sk ?_
    refine gn ?_
    refine wpL_sq ?_
    refine wpL_sq ?_
    refine wpL_rg ?_
    refine pF tF260_1 ?_
    refine pLo hO 1 (.int _ _) tA3 ?_
    refine pF tF260_1 ?_
    refine pLo hO 0 (.int _ _) tA3 ?_
    refine pBi ?_
    refine pE ?_
    refine gn ?_
    refine wpL_cd (b := (aA0.Side != aB1.Side)) (fun hb => ?_) (fun hb => ?_)
    · replace hk := ct hb hk
      refine wpL_sq ?_
      refine wpL_rg ?_
      refine pA (.bool _) ?_
      refine pE ?_
      refine gn ?_
      refine wpL_rt ?_
      refine gr ?_
      replace hk := Option.some.inj hk; subst hk; exact fin0 hO
    · replace hk := cf hb hk
      refine wpL_sk ?_
      refine gn ?_
      refine wpL_sq ?_
      refine wpL_rg ?_
      refine pA (.bool _) ?_
      refine pE ?_
      refine gn ?_
      refine wpL_rt ?_
      replace hk := Option.some.inj hk; subst hk; exact fin0 hO
/-- laws.eqEndS -/
def f339_L1 (aA0 : List End) (aB1 : List End) : Int → Option (Int ⊕ Bool) := fun s =>
  (bif decide (s < (aA0.length : Int)) then ((getI aA0 s).bind fun c2 => ((getI aB1 s).bind fun c3 => ((f354 c2 c3).bind fun v4 => (bif !v4 then ((some false).map Sum.inr) else some (.inl (w64 (s + (1:Int)))))))) else ((some true).map Sum.inr))
def f339 (aA0 : List End) (aB1 : List End) : Option Bool :=
  (bif ((aA0.length : Int) != (aB1.length : Int)) then some false else (loopO (f339_L1 aA0 aB1) ((0:Int))))
theorem f339_run {aA0 : List End} {aB1 : List End} {r : Bool} {l1 l2 : Nat} {H : Heap} {lk : Lk} (hk : f339 aA0 aB1 = some r) (hlk : 0 < lk.length := by simp) : runL Try.prog hh 339 [.lit l1 aA0.length (flat aA0), .lit l2 aB1.length (flat aB1)] H lk = some (.bool r, H) := by
  refine run_start Try.func339 rfl Try.ntmps339 Try.results339 rfl rfl fun hO => ?_
  unfold f339 at hk
  refine wpL_sq ?_
  refine wpL_rg ?_
  refine pA (.bool _) ?_
  refine pE ?_
  refine gn ?_
  refine wpL_sq ?_
  refine wpL_sq ?_
  refine wpL_rg ?_
  refine pM (.lit _ _ _) ?_
  refine pLen tS330 ?_
  refine pM (.lit _ _ _) ?_
  refine pLen tS330 ?_
  refine pBi ?_
  refine pE ?_
  refine gn ?_
  refine wpL_cd (b := ((aA0.length : Int) != (aB1.length : Int))) (fun hb => ?_) (fun hb => ?_)
  · replace hk := ct hb hk
    refine wpL_sq ?_
    refine wpL_rg ?_
    refine pA (.bool _) ?_
    refine pE ?_
    refine gn ?_
    refine wpL_rt ?_
    refine gr ?_
    replace hk := Option.some.inj hk; subst hk; exact fin0 hO
  · replace hk := cf hb hk
    refine wpL_sk ?_
    refine gn ?_
    refine wpL_sq ?_
    refine wpL_sq ?_
    refine wpL_rg ?_
    refine pA (.int _ _) ?_
    refine pE ?_
    refine gn ?_
    refine wpL_bl ?_
    refine wpL_loopO (F := f339_L1 aA0 aB1) (fun s S' => ∃ (J : Nat → V) (G : Heap), Owns H G [] ∧ S' = ⟨hav [(0, .lit l1 aA0.length (flat aA0)), (1, .lit l2 aB1.length (flat aB1)), (5, .int .i64 s)] J, G⟩) hk ⟨_, _, hO, St.hav _ ⟨rfl, rfl, rfl, trivial⟩⟩ ?_
    rintro x1 _ y1 ⟨J, G, hO, rfl⟩ hk hx1
    refine wpL_sq ?_
    refine wpL_sq ?_
    refine wpL_rg ?_
    refine pM (.int _ _) ?_
    refine pM (.lit _ _ _) ?_
    refine pLen tS330 ?_
    refine pBi ?_
    refine pE ?_
    refine gn ?_
    refine wpL_cd (b := decide (x1 < (aA0.length : Int))) (fun hb => ?_) (fun hb => ?_)
    · replace hk := ct hb hk
      refine wpL_sk ?_
      refine gn ?_
      refine wpL_sq ?_
      refine wpL_bl ?_
      refine wpL_sq ?_
      refine wpL_drw [(0, true), (1, true), (2, true), (3, true), (4, true), (5, true), (6, true), (7, true), (8, false), (9, false)] [_, _, _, _, _, _, _, _, _, _] (by decide +kernel) (by rfl) ?_
      refine pM (.lit _ _ _) ?_
      refine pM (.int _ _) ?_
      obtain ⟨c2, hc2, hk⟩ := bs hk
      refine pX hc2 tE330 tZ260 ?_
      refine pLp (.agg [_, _]) (rd2 (off := 0) hc2 tA260 tZ260) ?_
      refine pM (.lit _ _ _) ?_
      refine pM (.int _ _) ?_
      obtain ⟨c3, hc3, hk⟩ := bs hk
      refine pX hc3 tE330 tZ260 ?_
      refine pLp (.agg [_, _]) (rd2 (off := 0) hc3 tA260 tZ260) ?_
      obtain ⟨v4, hv4, hk⟩ := bs hk
      refine pCall (fun _ => f354_run hv4) ?_
      refine pU ?_
      refine pE ?_
      refine gn ?_
      refine wpL_cd (b := !v4) (fun hb => ?_) (fun hb => ?_)
      · replace hk := ct hb hk
        refine wpL_sq ?_
        refine wpL_rg ?_
        refine pA (.bool _) ?_
        refine pE ?_
        refine gn ?_
        refine wpL_rt ?_
        refine br (gr (gr (br (gr ?_))))
        replace hk := lx hx1 hk
        replace hk := Option.some.inj hk; subst hk; exact fin0 hO
      · replace hk := cf hb hk
        refine wpL_sk ?_
        refine bn (gn ?_)
        refine wpL_rg ?_
        refine pM (.int _ _) ?_
        refine pBi ?_
        refine pA (.int _ _) ?_
        refine pE ?_
        refine gn ?_
        cases hk; exact ⟨_, rfl, _, _, hO, St.hav _ ⟨rfl, rfl, rfl, trivial⟩⟩
    · replace hk := cf hb hk
      refine wpL_ex ?_
      refine ge (ge (be (gn ?_)))
      replace hk := lx hx1 hk
      refine wpL_sq ?_
      refine wpL_rg ?_
      refine pA (.bool _) ?_
      refine pE ?_
      refine gn ?_
      refine wpL_rt ?_
      replace hk := Option.some.inj hk; subst hk; exact fin0 hO
/-- laws.eqJoint -/
def f296 (aA0 : Joint) (aB1 : Joint) : Option Bool :=
  (bif (aA0.Kind != aB1.Kind) then some false else (bif !(aA0.Name.toList == aB1.Name.toList) then some false else ((f339 aA0.Ends aB1.Ends).bind fun v3 => (bif !v3 then some false else some true))))
theorem f296_run {aA0 : Joint} {aB1 : Joint} {r : Bool} {l1 l2 : Nat} {H : Heap} {lk : Lk} (hk : f296 aA0 aB1 = some r) (hlk : 0 < lk.length := by simp) : runL Try.prog hh 296 [.agg [.int .i64 aA0.Kind, .str aA0.Name, .lit l1 aA0.Ends.length (flat aA0.Ends)], .agg [.int .i64 aB1.Kind, .str aB1.Name, .lit l2 aB1.Ends.length (flat aB1.Ends)]] H lk = some (.bool r, H) := by
  refine run_start Try.func296 rfl Try.ntmps296 Try.results296 rfl rfl fun hO => ?_
  unfold f296 at hk
  refine wpL_sq ?_
  refine wpL_rg ?_
  refine pBox (cs := [_, _, _]) hO tZ332 (fun b1 G hO => ?_)
  refine pBox (cs := [_, _, _]) hO tZ332 (fun b2 G hO => ?_)
  refine pA (.bool _) ?_
  refine pE ?_
  refine gn ?_
  refine wpL_sq ?_
  refine wpL_sq ?_
  refine wpL_rg ?_
  refine pF tF332_0 ?_
  refine pLo hO 1 (.int _ _) tA3 ?_
  refine pF tF332_0 ?_
  refine pLo hO 0 (.int _ _) tA3 ?_
  refine pBi ?_
  refine pE ?_
  refine gn ?_
  refine wpL_cd (b := (aA0.Kind != aB1.Kind)) (fun hb => ?_) (fun hb => ?_)
  · replace hk := ct hb hk
    refine wpL_sq ?_
    refine wpL_rg ?_
    refine pA (.bool _) ?_
    refine pE ?_
    refine gn ?_
    refine wpL_rt ?_
    refine gr ?_
    replace hk := Option.some.inj hk; subst hk; exact fin0 hO
  · replace hk := cf hb hk
    refine wpL_sk ?_
    refine gn ?_
    refine wpL_sq ?_
    refine wpL_sq ?_
    refine wpL_rg ?_
    refine pF tF332_1 ?_
    refine pLo hO 1 (.str _) tA9 ?_
    refine pF tF332_1 ?_
    refine pLo hO 0 (.str _) tA9 ?_
    refine pB (a := .str _) (b := .str _) ?_
    refine pE ?_
    refine gn ?_
    refine wpL_cd (b := !(aA0.Name.toList == aB1.Name.toList)) (fun hb => ?_) (fun hb => ?_)
    · replace hk := ct hb hk
      refine wpL_sq ?_
      refine wpL_rg ?_
      refine pA (.bool _) ?_
      refine pE ?_
      refine gn ?_
      refine wpL_rt ?_
      refine gr ?_
      replace hk := Option.some.inj hk; subst hk; exact fin0 hO
    · replace hk := cf hb hk
      refine wpL_sk ?_
      refine gn ?_
      refine wpL_sq ?_
      refine wpL_sq ?_
      refine wpL_rg ?_
      refine pF tF332_2 ?_
      refine pLo hO 1 (.lit _ _ _) tA330 ?_
      refine pF tF332_2 ?_
      refine pLo hO 0 (.lit _ _ _) tA330 ?_
      obtain ⟨v3, hv3, hk⟩ := bs hk
      refine pCall (fun _ => f339_run hv3) ?_
      refine pU ?_
      refine pE ?_
      refine gn ?_
      refine wpL_cd (b := !v3) (fun hb => ?_) (fun hb => ?_)
      · replace hk := ct hb hk
        refine wpL_sq ?_
        refine wpL_rg ?_
        refine pA (.bool _) ?_
        refine pE ?_
        refine gn ?_
        refine wpL_rt ?_
        refine gr ?_
        replace hk := Option.some.inj hk; subst hk; exact fin0 hO
      · replace hk := cf hb hk
        refine wpL_sk ?_
        refine gn ?_
        refine wpL_sq ?_
        refine wpL_rg ?_
        refine pA (.bool _) ?_
        refine pE ?_
        refine gn ?_
        refine wpL_rt ?_
        replace hk := Option.some.inj hk; subst hk; exact fin0 hO
/-- laws.eqJointS -/
def f202_L1 (aA0 : List Joint) (aB1 : List Joint) : Int → Option (Int ⊕ Bool) := fun s =>
  (bif decide (s < (aA0.length : Int)) then ((getI aA0 s).bind fun c2 => ((getI aB1 s).bind fun c3 => ((f296 c2 c3).bind fun v4 => (bif !v4 then ((some false).map Sum.inr) else some (.inl (w64 (s + (1:Int)))))))) else ((some true).map Sum.inr))
def f202 (aA0 : List Joint) (aB1 : List Joint) : Option Bool :=
  (bif ((aA0.length : Int) != (aB1.length : Int)) then some false else (loopO (f202_L1 aA0 aB1) ((0:Int))))
theorem f202_run {aA0 : List Joint} {aB1 : List Joint} {r : Bool} {l1 l2 : Nat} {H : Heap} {lk : Lk} (hk : f202 aA0 aB1 = some r) (hlk : 0 < lk.length := by simp) : runL Try.prog hh 202 [.lit l1 aA0.length (flat aA0), .lit l2 aB1.length (flat aB1)] H lk = some (.bool r, H) := by
  refine run_start Try.func202 rfl Try.ntmps202 Try.results202 rfl rfl fun hO => ?_
  unfold f202 at hk
  refine wpL_sq ?_
  refine wpL_rg ?_
  refine pA (.bool _) ?_
  refine pE ?_
  refine gn ?_
  refine wpL_sq ?_
  refine wpL_sq ?_
  refine wpL_rg ?_
  refine pM (.lit _ _ _) ?_
  refine pLen tS130 ?_
  refine pM (.lit _ _ _) ?_
  refine pLen tS130 ?_
  refine pBi ?_
  refine pE ?_
  refine gn ?_
  refine wpL_cd (b := ((aA0.length : Int) != (aB1.length : Int))) (fun hb => ?_) (fun hb => ?_)
  · replace hk := ct hb hk
    refine wpL_sq ?_
    refine wpL_rg ?_
    refine pA (.bool _) ?_
    refine pE ?_
    refine gn ?_
    refine wpL_rt ?_
    refine gr ?_
    replace hk := Option.some.inj hk; subst hk; exact fin0 hO
  · replace hk := cf hb hk
    refine wpL_sk ?_
    refine gn ?_
    refine wpL_sq ?_
    refine wpL_sq ?_
    refine wpL_rg ?_
    refine pA (.int _ _) ?_
    refine pE ?_
    refine gn ?_
    refine wpL_bl ?_
    refine wpL_loopO (F := f202_L1 aA0 aB1) (fun s S' => ∃ (J : Nat → V) (G : Heap), Owns H G [] ∧ S' = ⟨hav [(0, .lit l1 aA0.length (flat aA0)), (1, .lit l2 aB1.length (flat aB1)), (5, .int .i64 s)] J, G⟩) hk ⟨_, _, hO, St.hav _ ⟨rfl, rfl, rfl, trivial⟩⟩ ?_
    rintro x1 _ y1 ⟨J, G, hO, rfl⟩ hk hx1
    refine wpL_sq ?_
    refine wpL_sq ?_
    refine wpL_rg ?_
    refine pM (.int _ _) ?_
    refine pM (.lit _ _ _) ?_
    refine pLen tS130 ?_
    refine pBi ?_
    refine pE ?_
    refine gn ?_
    refine wpL_cd (b := decide (x1 < (aA0.length : Int))) (fun hb => ?_) (fun hb => ?_)
    · replace hk := ct hb hk
      refine wpL_sk ?_
      refine gn ?_
      refine wpL_sq ?_
      refine wpL_bl ?_
      refine wpL_sq ?_
      refine wpL_drw [(0, true), (1, true), (2, true), (3, true), (4, true), (5, true), (6, true), (7, true), (8, false), (9, false)] [_, _, _, _, _, _, _, _, _, _] (by decide +kernel) (by rfl) ?_
      refine pM (.lit _ _ _) ?_
      refine pM (.int _ _) ?_
      obtain ⟨c2, hc2, hk⟩ := bs hk
      refine pX hc2 tE130 tZ332 ?_
      refine pLp (.agg [_, _, _]) (rd2 (off := 0) hc2 tA332 tZ332) ?_
      refine pM (.lit _ _ _) ?_
      refine pM (.int _ _) ?_
      obtain ⟨c3, hc3, hk⟩ := bs hk
      refine pX hc3 tE130 tZ332 ?_
      refine pLp (.agg [_, _, _]) (rd2 (off := 0) hc3 tA332 tZ332) ?_
      obtain ⟨v4, hv4, hk⟩ := bs hk
      refine pCall (fun _ => f296_run hv4) ?_
      refine pU ?_
      refine pE ?_
      refine gn ?_
      refine wpL_cd (b := !v4) (fun hb => ?_) (fun hb => ?_)
      · replace hk := ct hb hk
        refine wpL_sq ?_
        refine wpL_rg ?_
        refine pA (.bool _) ?_
        refine pE ?_
        refine gn ?_
        refine wpL_rt ?_
        refine br (gr (gr (br (gr ?_))))
        replace hk := lx hx1 hk
        replace hk := Option.some.inj hk; subst hk; exact fin0 hO
      · replace hk := cf hb hk
        refine wpL_sk ?_
        refine bn (gn ?_)
        refine wpL_rg ?_
        refine pM (.int _ _) ?_
        refine pBi ?_
        refine pA (.int _ _) ?_
        refine pE ?_
        refine gn ?_
        cases hk; exact ⟨_, rfl, _, _, hO, St.hav _ ⟨rfl, rfl, rfl, trivial⟩⟩
    · replace hk := cf hb hk
      refine wpL_ex ?_
      refine ge (ge (be (gn ?_)))
      replace hk := lx hx1 hk
      refine wpL_sq ?_
      refine wpL_rg ?_
      refine pA (.bool _) ?_
      refine pE ?_
      refine gn ?_
      refine wpL_rt ?_
      replace hk := Option.some.inj hk; subst hk; exact fin0 hO
/-- laws.eqNet -/
def f83 (aA0 : Net) (aB1 : Net) : Option Bool :=
  ((f201 aA0.Pieces aB1.Pieces).bind fun v3 => (bif !v3 then some false else ((f202 aA0.Joints aB1.Joints).bind fun v4 => (bif !v4 then some false else some true))))
theorem f83_run {aA0 : Net} {aB1 : Net} {r : Bool} {l1 l2 l3 l4 : Nat} {H : Heap} {lk : Lk} (hk : f83 aA0 aB1 = some r) (hlk : 0 < lk.length := by simp) : runL Try.prog hh 83 [.agg [.lit l1 aA0.Pieces.length (flat aA0.Pieces), .lit l2 aA0.Joints.length (flat aA0.Joints)], .agg [.lit l3 aB1.Pieces.length (flat aB1.Pieces), .lit l4 aB1.Joints.length (flat aB1.Joints)]] H lk = some (.bool r, H) := by
  refine run_start Try.func83 rfl Try.ntmps83 Try.results83 rfl rfl fun hO => ?_
  unfold f83 at hk
  refine wpL_sq ?_
  refine wpL_rg ?_
  refine pBox (cs := [_, _]) hO tZ132 (fun b1 G hO => ?_)
  refine pBox (cs := [_, _]) hO tZ132 (fun b2 G hO => ?_)
  refine pA (.bool _) ?_
  refine pE ?_
  refine gn ?_
  refine wpL_sq ?_
  refine wpL_sq ?_
  refine wpL_rg ?_
  refine pF tF132_0 ?_
  refine pLo hO 1 (.lit _ _ _) tA129 ?_
  refine pF tF132_0 ?_
  refine pLo hO 0 (.lit _ _ _) tA129 ?_
  obtain ⟨v3, hv3, hk⟩ := bs hk
  refine pCall (fun _ => f201_run hv3) ?_
  refine pU ?_
  refine pE ?_
  refine gn ?_
  refine wpL_cd (b := !v3) (fun hb => ?_) (fun hb => ?_)
  · replace hk := ct hb hk
    refine wpL_sq ?_
    refine wpL_rg ?_
    refine pA (.bool _) ?_
    refine pE ?_
    refine gn ?_
    refine wpL_rt ?_
    refine gr ?_
    replace hk := Option.some.inj hk; subst hk; exact fin0 hO
  · replace hk := cf hb hk
    refine wpL_sk ?_
    refine gn ?_
    refine wpL_sq ?_
    refine wpL_sq ?_
    refine wpL_rg ?_
    refine pF tF132_1 ?_
    refine pLo hO 1 (.lit _ _ _) tA130 ?_
    refine pF tF132_1 ?_
    refine pLo hO 0 (.lit _ _ _) tA130 ?_
    obtain ⟨v4, hv4, hk⟩ := bs hk
    refine pCall (fun _ => f202_run hv4) ?_
    refine pU ?_
    refine pE ?_
    refine gn ?_
    refine wpL_cd (b := !v4) (fun hb => ?_) (fun hb => ?_)
    · replace hk := ct hb hk
      refine wpL_sq ?_
      refine wpL_rg ?_
      refine pA (.bool _) ?_
      refine pE ?_
      refine gn ?_
      refine wpL_rt ?_
      refine gr ?_
      replace hk := Option.some.inj hk; subst hk; exact fin0 hO
    · replace hk := cf hb hk
      refine wpL_sk ?_
      refine gn ?_
      refine wpL_sq ?_
      refine wpL_rg ?_
      refine pA (.bool _) ?_
      refine pE ?_
      refine gn ?_
      refine wpL_rt ?_
      replace hk := Option.some.inj hk; subst hk; exact fin0 hO
/-- laws.eqSpot -/
def f87 (aA0 : Spot) (aB1 : Spot) : Option Bool :=
  (bif (aA0.Piece != aB1.Piece) then some false else (bif (aA0.At != aB1.At) then some false else (bif (aA0.Way != aB1.Way) then some false else some true)))
theorem f87_run {aA0 : Spot} {aB1 : Spot} {r : Bool} {H : Heap} {lk : Lk} (hk : f87 aA0 aB1 = some r) (hlk : 0 < lk.length := by simp) : runL Try.prog hh 87 [.agg [.int .i64 aA0.Piece, .int .i64 aA0.At, .int .i64 aA0.Way], .agg [.int .i64 aB1.Piece, .int .i64 aB1.At, .int .i64 aB1.Way]] H lk = some (.bool r, H) := by
  refine run_start Try.func87 rfl Try.ntmps87 Try.results87 rfl rfl fun hO => ?_
  unfold f87 at hk
  refine wpL_sq ?_
  refine wpL_rg ?_
  refine pBox (cs := [_, _, _]) hO tZ134 (fun b1 G hO => ?_)
  refine pBox (cs := [_, _, _]) hO tZ134 (fun b2 G hO => ?_)
  refine pA (.bool _) ?_
  refine pE ?_
  refine gn ?_
  refine wpL_sq ?_
  refine wpL_sq ?_
  refine wpL_rg ?_
  refine pF tF134_0 ?_
  refine pLo hO 1 (.int _ _) tA3 ?_
  refine pF tF134_0 ?_
  refine pLo hO 0 (.int _ _) tA3 ?_
  refine pBi ?_
  refine pE ?_
  refine gn ?_
  refine wpL_cd (b := (aA0.Piece != aB1.Piece)) (fun hb => ?_) (fun hb => ?_)
  · replace hk := ct hb hk
    refine wpL_sq ?_
    refine wpL_rg ?_
    refine pA (.bool _) ?_
    refine pE ?_
    refine gn ?_
    refine wpL_rt ?_
    refine gr ?_
    replace hk := Option.some.inj hk; subst hk; exact fin0 hO
  · replace hk := cf hb hk
    refine wpL_sk ?_
    refine gn ?_
    refine wpL_sq ?_
    refine wpL_sq ?_
    refine wpL_rg ?_
    refine pF tF134_1 ?_
    refine pLo hO 1 (.int _ _) tA3 ?_
    refine pF tF134_1 ?_
    refine pLo hO 0 (.int _ _) tA3 ?_
    refine pBi ?_
    refine pE ?_
    refine gn ?_
    refine wpL_cd (b := (aA0.At != aB1.At)) (fun hb => ?_) (fun hb => ?_)
    · replace hk := ct hb hk
      refine wpL_sq ?_
      refine wpL_rg ?_
      refine pA (.bool _) ?_
      refine pE ?_
      refine gn ?_
      refine wpL_rt ?_
      refine gr ?_
      replace hk := Option.some.inj hk; subst hk; exact fin0 hO
    · replace hk := cf hb hk
      refine wpL_sk ?_
      refine gn ?_
      refine wpL_sq ?_
      refine wpL_sq ?_
      refine wpL_rg ?_
      refine pF tF134_2 ?_
      refine pLo hO 1 (.int _ _) tA3 ?_
      refine pF tF134_2 ?_
      refine pLo hO 0 (.int _ _) tA3 ?_
      refine pBi ?_
      refine pE ?_
      refine gn ?_
      refine wpL_cd (b := (aA0.Way != aB1.Way)) (fun hb => ?_) (fun hb => ?_)
      · replace hk := ct hb hk
        refine wpL_sq ?_
        refine wpL_rg ?_
        refine pA (.bool _) ?_
        refine pE ?_
        refine gn ?_
        refine wpL_rt ?_
        refine gr ?_
        replace hk := Option.some.inj hk; subst hk; exact fin0 hO
      · replace hk := cf hb hk
        refine wpL_sk ?_
        refine gn ?_
        refine wpL_sq ?_
        refine wpL_rg ?_
        refine pA (.bool _) ?_
        refine pE ?_
        refine gn ?_
        refine wpL_rt ?_
        replace hk := Option.some.inj hk; subst hk; exact fin0 hO
/-- laws.eqStep -/
def f263 (aA0 : Step) (aB1 : Step) : Option Bool :=
  (bif (aA0.Piece != aB1.Piece) then some false else (bif (aA0.Way != aB1.Way) then some false else some true))
theorem f263_run {aA0 : Step} {aB1 : Step} {r : Bool} {H : Heap} {lk : Lk} (hk : f263 aA0 aB1 = some r) (hlk : 0 < lk.length := by simp) : runL Try.prog hh 263 [.agg [.int .i64 aA0.Piece, .int .i64 aA0.Way], .agg [.int .i64 aB1.Piece, .int .i64 aB1.Way]] H lk = some (.bool r, H) := by
  refine run_start Try.func263 rfl Try.ntmps263 Try.results263 rfl rfl fun hO => ?_
  unfold f263 at hk
  refine wpL_sq ?_
  refine wpL_rg ?_
  refine pBox (cs := [_, _]) hO tZ258 (fun b1 G hO => ?_)
  refine pBox (cs := [_, _]) hO tZ258 (fun b2 G hO => ?_)
  refine pA (.bool _) ?_
  refine pE ?_
  refine gn ?_
  refine wpL_sq ?_
  refine wpL_sq ?_
  refine wpL_rg ?_
  refine pF tF258_0 ?_
  refine pLo hO 1 (.int _ _) tA3 ?_
  refine pF tF258_0 ?_
  refine pLo hO 0 (.int _ _) tA3 ?_
  refine pBi ?_
  refine pE ?_
  refine gn ?_
  refine wpL_cd (b := (aA0.Piece != aB1.Piece)) (fun hb => ?_) (fun hb => ?_)
  · replace hk := ct hb hk
    refine wpL_sq ?_
    refine wpL_rg ?_
    refine pA (.bool _) ?_
    refine pE ?_
    refine gn ?_
    refine wpL_rt ?_
    refine gr ?_
    replace hk := Option.some.inj hk; subst hk; exact fin0 hO
  · replace hk := cf hb hk
    refine wpL_sk ?_
    refine gn ?_
    refine wpL_sq ?_
    refine wpL_sq ?_
    refine wpL_rg ?_
    refine pF tF258_1 ?_
    refine pLo hO 1 (.int _ _) tA3 ?_
    refine pF tF258_1 ?_
    refine pLo hO 0 (.int _ _) tA3 ?_
    refine pBi ?_
    refine pE ?_
    refine gn ?_
    refine wpL_cd (b := (aA0.Way != aB1.Way)) (fun hb => ?_) (fun hb => ?_)
    · replace hk := ct hb hk
      refine wpL_sq ?_
      refine wpL_rg ?_
      refine pA (.bool _) ?_
      refine pE ?_
      refine gn ?_
      refine wpL_rt ?_
      refine gr ?_
      replace hk := Option.some.inj hk; subst hk; exact fin0 hO
    · replace hk := cf hb hk
      refine wpL_sk ?_
      refine gn ?_
      refine wpL_sq ?_
      refine wpL_rg ?_
      refine pA (.bool _) ?_
      refine pE ?_
      refine gn ?_
      refine wpL_rt ?_
      replace hk := Option.some.inj hk; subst hk; exact fin0 hO
/-- laws.eqStepS -/
def f163_L1 (aA0 : List Step) (aB1 : List Step) : Int → Option (Int ⊕ Bool) := fun s =>
  (bif decide (s < (aA0.length : Int)) then ((getI aA0 s).bind fun c2 => ((getI aB1 s).bind fun c3 => ((f263 c2 c3).bind fun v4 => (bif !v4 then ((some false).map Sum.inr) else some (.inl (w64 (s + (1:Int)))))))) else ((some true).map Sum.inr))
def f163 (aA0 : List Step) (aB1 : List Step) : Option Bool :=
  (bif ((aA0.length : Int) != (aB1.length : Int)) then some false else (loopO (f163_L1 aA0 aB1) ((0:Int))))
theorem f163_run {aA0 : List Step} {aB1 : List Step} {r : Bool} {l1 l2 : Nat} {H : Heap} {lk : Lk} (hk : f163 aA0 aB1 = some r) (hlk : 0 < lk.length := by simp) : runL Try.prog hh 163 [.lit l1 aA0.length (flat aA0), .lit l2 aB1.length (flat aB1)] H lk = some (.bool r, H) := by
  refine run_start Try.func163 rfl Try.ntmps163 Try.results163 rfl rfl fun hO => ?_
  unfold f163 at hk
  refine wpL_sq ?_
  refine wpL_rg ?_
  refine pA (.bool _) ?_
  refine pE ?_
  refine gn ?_
  refine wpL_sq ?_
  refine wpL_sq ?_
  refine wpL_rg ?_
  refine pM (.lit _ _ _) ?_
  refine pLen tS63 ?_
  refine pM (.lit _ _ _) ?_
  refine pLen tS63 ?_
  refine pBi ?_
  refine pE ?_
  refine gn ?_
  refine wpL_cd (b := ((aA0.length : Int) != (aB1.length : Int))) (fun hb => ?_) (fun hb => ?_)
  · replace hk := ct hb hk
    refine wpL_sq ?_
    refine wpL_rg ?_
    refine pA (.bool _) ?_
    refine pE ?_
    refine gn ?_
    refine wpL_rt ?_
    refine gr ?_
    replace hk := Option.some.inj hk; subst hk; exact fin0 hO
  · replace hk := cf hb hk
    refine wpL_sk ?_
    refine gn ?_
    refine wpL_sq ?_
    refine wpL_sq ?_
    refine wpL_rg ?_
    refine pA (.int _ _) ?_
    refine pE ?_
    refine gn ?_
    refine wpL_bl ?_
    refine wpL_loopO (F := f163_L1 aA0 aB1) (fun s S' => ∃ (J : Nat → V) (G : Heap), Owns H G [] ∧ S' = ⟨hav [(0, .lit l1 aA0.length (flat aA0)), (1, .lit l2 aB1.length (flat aB1)), (5, .int .i64 s)] J, G⟩) hk ⟨_, _, hO, St.hav _ ⟨rfl, rfl, rfl, trivial⟩⟩ ?_
    rintro x1 _ y1 ⟨J, G, hO, rfl⟩ hk hx1
    refine wpL_sq ?_
    refine wpL_sq ?_
    refine wpL_rg ?_
    refine pM (.int _ _) ?_
    refine pM (.lit _ _ _) ?_
    refine pLen tS63 ?_
    refine pBi ?_
    refine pE ?_
    refine gn ?_
    refine wpL_cd (b := decide (x1 < (aA0.length : Int))) (fun hb => ?_) (fun hb => ?_)
    · replace hk := ct hb hk
      refine wpL_sk ?_
      refine gn ?_
      refine wpL_sq ?_
      refine wpL_bl ?_
      refine wpL_sq ?_
      refine wpL_drw [(0, true), (1, true), (2, true), (3, true), (4, true), (5, true), (6, true), (7, true), (8, false), (9, false)] [_, _, _, _, _, _, _, _, _, _] (by decide +kernel) (by rfl) ?_
      refine pM (.lit _ _ _) ?_
      refine pM (.int _ _) ?_
      obtain ⟨c2, hc2, hk⟩ := bs hk
      refine pX hc2 tE63 tZ258 ?_
      refine pLp (.agg [_, _]) (rd2 (off := 0) hc2 tA258 tZ258) ?_
      refine pM (.lit _ _ _) ?_
      refine pM (.int _ _) ?_
      obtain ⟨c3, hc3, hk⟩ := bs hk
      refine pX hc3 tE63 tZ258 ?_
      refine pLp (.agg [_, _]) (rd2 (off := 0) hc3 tA258 tZ258) ?_
      obtain ⟨v4, hv4, hk⟩ := bs hk
      refine pCall (fun _ => f263_run hv4) ?_
      refine pU ?_
      refine pE ?_
      refine gn ?_
      refine wpL_cd (b := !v4) (fun hb => ?_) (fun hb => ?_)
      · replace hk := ct hb hk
        refine wpL_sq ?_
        refine wpL_rg ?_
        refine pA (.bool _) ?_
        refine pE ?_
        refine gn ?_
        refine wpL_rt ?_
        refine br (gr (gr (br (gr ?_))))
        replace hk := lx hx1 hk
        replace hk := Option.some.inj hk; subst hk; exact fin0 hO
      · replace hk := cf hb hk
        refine wpL_sk ?_
        refine bn (gn ?_)
        refine wpL_rg ?_
        refine pM (.int _ _) ?_
        refine pBi ?_
        refine pA (.int _ _) ?_
        refine pE ?_
        refine gn ?_
        cases hk; exact ⟨_, rfl, _, _, hO, St.hav _ ⟨rfl, rfl, rfl, trivial⟩⟩
    · replace hk := cf hb hk
      refine wpL_ex ?_
      refine ge (ge (be (gn ?_)))
      replace hk := lx hx1 hk
      refine wpL_sq ?_
      refine wpL_rg ?_
      refine pA (.bool _) ?_
      refine pE ?_
      refine gn ?_
      refine wpL_rt ?_
      replace hk := Option.some.inj hk; subst hk; exact fin0 hO
/-- laws.eqTrain -/
def f84 (aA0 : Train) (aB1 : Train) : Option Bool :=
  ((f87 aA0.Front aB1.Front).bind fun v3 => (bif !v3 then some false else (bif (aA0.Long != aB1.Long) then some false else ((f163 aA0.Back aB1.Back).bind fun v4 => (bif !v4 then some false else some true)))))
theorem f84_run {aA0 : Train} {aB1 : Train} {r : Bool} {l1 l2 : Nat} {H : Heap} {lk : Lk} (hk : f84 aA0 aB1 = some r) (hlk : 0 < lk.length := by simp) : runL Try.prog hh 84 [.agg [.int .i64 aA0.Front.Piece, .int .i64 aA0.Front.At, .int .i64 aA0.Front.Way, .int .i64 aA0.Long, .lit l1 aA0.Back.length (flat aA0.Back)], .agg [.int .i64 aB1.Front.Piece, .int .i64 aB1.Front.At, .int .i64 aB1.Front.Way, .int .i64 aB1.Long, .lit l2 aB1.Back.length (flat aB1.Back)]] H lk = some (.bool r, H) := by
  refine run_start Try.func84 rfl Try.ntmps84 Try.results84 rfl rfl fun hO => ?_
  unfold f84 at hk
  refine wpL_sq ?_
  refine wpL_rg ?_
  refine pBox (cs := [_, _, _, _, _]) hO tZ136 (fun b1 G hO => ?_)
  refine pBox (cs := [_, _, _, _, _]) hO tZ136 (fun b2 G hO => ?_)
  refine pA (.bool _) ?_
  refine pE ?_
  refine gn ?_
  refine wpL_sq ?_
  refine wpL_sq ?_
  refine wpL_rg ?_
  refine pF tF136_0 ?_
  refine pLs hO 1 [_, _, _] tA134 tZ134 ?_
  refine pF tF136_0 ?_
  refine pLs hO 0 [_, _, _] tA134 tZ134 ?_
  obtain ⟨v3, hv3, hk⟩ := bs hk
  refine pCall (fun _ => f87_run hv3) ?_
  refine pU ?_
  refine pE ?_
  refine gn ?_
  refine wpL_cd (b := !v3) (fun hb => ?_) (fun hb => ?_)
  · replace hk := ct hb hk
    refine wpL_sq ?_
    refine wpL_rg ?_
    refine pA (.bool _) ?_
    refine pE ?_
    refine gn ?_
    refine wpL_rt ?_
    refine gr ?_
    replace hk := Option.some.inj hk; subst hk; exact fin0 hO
  · replace hk := cf hb hk
    refine wpL_sk ?_
    refine gn ?_
    refine wpL_sq ?_
    refine wpL_sq ?_
    refine wpL_rg ?_
    refine pF tF136_1 ?_
    refine pLo hO 1 (.int _ _) tA3 ?_
    refine pF tF136_1 ?_
    refine pLo hO 0 (.int _ _) tA3 ?_
    refine pBi ?_
    refine pE ?_
    refine gn ?_
    refine wpL_cd (b := (aA0.Long != aB1.Long)) (fun hb => ?_) (fun hb => ?_)
    · replace hk := ct hb hk
      refine wpL_sq ?_
      refine wpL_rg ?_
      refine pA (.bool _) ?_
      refine pE ?_
      refine gn ?_
      refine wpL_rt ?_
      refine gr ?_
      replace hk := Option.some.inj hk; subst hk; exact fin0 hO
    · replace hk := cf hb hk
      refine wpL_sk ?_
      refine gn ?_
      refine wpL_sq ?_
      refine wpL_sq ?_
      refine wpL_rg ?_
      refine pF tF136_2 ?_
      refine pLo hO 1 (.lit _ _ _) tA63 ?_
      refine pF tF136_2 ?_
      refine pLo hO 0 (.lit _ _ _) tA63 ?_
      obtain ⟨v4, hv4, hk⟩ := bs hk
      refine pCall (fun _ => f163_run hv4) ?_
      refine pU ?_
      refine pE ?_
      refine gn ?_
      refine wpL_cd (b := !v4) (fun hb => ?_) (fun hb => ?_)
      · replace hk := ct hb hk
        refine wpL_sq ?_
        refine wpL_rg ?_
        refine pA (.bool _) ?_
        refine pE ?_
        refine gn ?_
        refine wpL_rt ?_
        refine gr ?_
        replace hk := Option.some.inj hk; subst hk; exact fin0 hO
      · replace hk := cf hb hk
        refine wpL_sk ?_
        refine gn ?_
        refine wpL_sq ?_
        refine wpL_rg ?_
        refine pA (.bool _) ?_
        refine pE ?_
        refine gn ?_
        refine wpL_rt ?_
        replace hk := Option.some.inj hk; subst hk; exact fin0 hO
/-- laws.FnExactTrainOk -/
def f12 (aAN0 : Net) (aAT1 : Train) : Option Bool :=
  ((f77 aAN0 (1048576:Int)).bind fun v3 => (bif decide (v3 < (0:Int)) then some true else ((f78 aAT1 v3).bind fun v4 => (bif decide (v4 < (0:Int)) then some true else ((f80 aAN0).bind fun v5 => ((f81 aAT1).bind fun v6 => ((f79 v5 v6).bind fun v7 => ((f80 aAN0).bind fun v8 => ((f81 aAT1).bind fun v10 => ((f82 v8 v10).bind fun v12 => (bif !(v12 == v7) then some false else ((f80 aAN0).bind fun v13 => ((f83 v8 v13).bind fun v14 => (bif !v14 then some false else ((f81 aAT1).bind fun v15 => ((f84 v10 v15).bind fun v16 => (bif !v16 then some false else some true)))))))))))))))))
theorem f12_run {aAN0 : Net} {aAT1 : Train} {r : Bool} {l1 l2 l3 : Nat} {H : Heap} {lk : Lk} (hk : f12 aAN0 aAT1 = some r) (hlk : 0 < lk.length := by simp) : runL Try.prog hh 12 [.agg [.lit l1 aAN0.Pieces.length (flat aAN0.Pieces), .lit l2 aAN0.Joints.length (flat aAN0.Joints)], .agg [.int .i64 aAT1.Front.Piece, .int .i64 aAT1.Front.At, .int .i64 aAT1.Front.Way, .int .i64 aAT1.Long, .lit l3 aAT1.Back.length (flat aAT1.Back)]] H lk = some (.bool r, H) := by
  refine run_start Try.func12 rfl Try.ntmps12 Try.results12 rfl rfl fun hO => ?_
  unfold f12 at hk
  refine wpL_sq ?_
  refine wpL_rg ?_
  refine pBox (cs := [_, _]) hO tZ121 (fun b1 G hO => ?_)
  refine pBox (cs := [_, _, _, _, _]) hO tZ125 (fun b2 G hO => ?_)
  refine pA (.bool _) ?_
  refine pE ?_
  refine gn ?_
  refine wpL_sq ?_
  refine wpL_rg ?_
  refine pA (.int _ _) ?_
  refine pE ?_
  refine gn ?_
  refine wpL_sq ?_
  refine wpL_rg ?_
  refine pLs hO 1 [_, _] tA121 tZ121 ?_
  refine pM (.int _ _) ?_
  obtain ⟨v3, hv3, hk⟩ := bs hk
  refine pCall (fun _ => f77_run hv3) ?_
  refine pA (.int _ _) ?_
  refine pE ?_
  refine gn ?_
  refine wpL_sq ?_
  refine wpL_sq ?_
  refine wpL_rg ?_
  refine pM (.int _ _) ?_
  refine pBi ?_
  refine pE ?_
  refine gn ?_
  refine wpL_cd (b := decide (v3 < (0:Int))) (fun hb => ?_) (fun hb => ?_)
  · replace hk := ct hb hk
    refine wpL_sq ?_
    refine wpL_rg ?_
    refine pA (.bool _) ?_
    refine pE ?_
    refine gn ?_
    refine wpL_rt ?_
    refine gr ?_
    replace hk := Option.some.inj hk; subst hk; exact fin0 hO
  · replace hk := cf hb hk
    refine wpL_sk ?_
    refine gn ?_
    refine wpL_sq ?_
    refine wpL_rg ?_
    refine pLs hO 0 [_, _, _, _, _] tA125 tZ125 ?_
    refine pM (.int _ _) ?_
    obtain ⟨v4, hv4, hk⟩ := bs hk
    refine pCall (fun _ => f78_run hv4) ?_
    refine pA (.int _ _) ?_
    refine pE ?_
    refine gn ?_
    refine wpL_sq ?_
    refine wpL_sq ?_
    refine wpL_rg ?_
    refine pM (.int _ _) ?_
    refine pBi ?_
    refine pE ?_
    refine gn ?_
    refine wpL_cd (b := decide (v4 < (0:Int))) (fun hb => ?_) (fun hb => ?_)
    · replace hk := ct hb hk
      refine wpL_sq ?_
      refine wpL_rg ?_
      refine pA (.bool _) ?_
      refine pE ?_
      refine gn ?_
      refine wpL_rt ?_
      refine gr ?_
      replace hk := Option.some.inj hk; subst hk; exact fin0 hO
    · replace hk := cf hb hk
      refine wpL_sk ?_
      refine gn ?_
      refine wpL_sq ?_
      refine wpL_drw [(0, true), (2, true), (1, true), (3, false), (4, false), (5, false)] [_, _, _, _, _, _] (by decide +kernel) (by rfl) ?_
      refine pLs hO 1 [_, _] tA121 tZ121 ?_
      refine pLs hO 0 [_, _, _, _, _] tA125 tZ125 ?_
      obtain ⟨v5, hv5, hk⟩ := bs hk
      refine pCall (fun _ => f80_run hv5) ?_
      obtain ⟨v6, hv6, hk⟩ := bs hk
      refine pCall (fun _ => f81_run hv6) ?_
      obtain ⟨v7, hv7, hk⟩ := bs hk
      refine pCall (fun _ => f79_run hv7) ?_
      refine pA (.bool _) ?_
      refine pE ?_
      refine gn ?_
      refine wpL_sq ?_
      refine wpL_rg ?_
      refine pLs hO 1 [_, _] tA121 tZ121 ?_
      obtain ⟨v8, hv8, hk⟩ := bs hk
      refine pCall (fun _ => f80_run hv8) ?_
      refine pNew hO tZ132 t0132 (fun b9 G hO => ?_)
      refine pSt (xs := [_, _]) hO 0 tZ132 rfl (fun G hO => ?_)
      refine pE ?_
      refine gn ?_
      refine wpL_sq ?_
      refine wpL_rg ?_
      refine pLs hO 1 [_, _, _, _, _] tA125 tZ125 ?_
      obtain ⟨v10, hv10, hk⟩ := bs hk
      refine pCall (fun _ => f81_run hv10) ?_
      refine pNew hO tZ136 t0136 (fun b11 G hO => ?_)
      refine pSt (xs := [_, _, _, _, _]) hO 0 tZ136 rfl (fun G hO => ?_)
      refine pE ?_
      refine gn ?_
      refine wpL_sq ?_
      refine wpL_rg ?_
      refine pLs hO 1 [_, _] tA132 tZ132 ?_
      refine pLs hO 0 [_, _, _, _, _] tA136 tZ136 ?_
      obtain ⟨v12, hv12, hk⟩ := bs hk
      refine pCall (fun _ => f82_run hv12) ?_
      refine pA (.bool _) ?_
      refine pE ?_
      refine gn ?_
      refine wpL_sq ?_
      refine wpL_sq ?_
      refine wpL_rg ?_
      refine pM (.bool _) ?_
      refine pM (.bool _) ?_
      refine pBn Try.underlying4 ?_
      refine pE ?_
      refine gn ?_
      refine wpL_cd (b := !(v12 == v7)) (fun hb => ?_) (fun hb => ?_)
      · replace hk := ct hb hk
        refine wpL_sq ?_
        refine wpL_rg ?_
        refine pA (.bool _) ?_
        refine pE ?_
        refine gn ?_
        refine wpL_rt ?_
        refine gr ?_
        replace hk := Option.some.inj hk; subst hk; exact fin0 hO
      · replace hk := cf hb hk
        refine wpL_sk ?_
        refine gn ?_
        refine wpL_sq ?_
        refine wpL_sq ?_
        refine wpL_drw [(0, true), (1, true), (2, true), (3, false), (4, false)] [_, _, _, _, _] (by decide +kernel) (by rfl) ?_
        refine pLs hO 1 [_, _] tA132 tZ132 ?_
        refine pLs hO 3 [_, _] tA121 tZ121 ?_
        obtain ⟨v13, hv13, hk⟩ := bs hk
        refine pCall (fun _ => f80_run hv13) ?_
        obtain ⟨v14, hv14, hk⟩ := bs hk
        refine pCall (fun _ => f83_run hv14) ?_
        refine pU ?_
        refine pE ?_
        refine gn ?_
        refine wpL_cd (b := !v14) (fun hb => ?_) (fun hb => ?_)
        · replace hk := ct hb hk
          refine wpL_sq ?_
          refine wpL_rg ?_
          refine pA (.bool _) ?_
          refine pE ?_
          refine gn ?_
          refine wpL_rt ?_
          refine gr ?_
          replace hk := Option.some.inj hk; subst hk; exact fin0 hO
        · replace hk := cf hb hk
          refine wpL_sk ?_
          refine gn ?_
          refine wpL_sq ?_
          refine wpL_sq ?_
          refine wpL_drw [(0, true), (1, true), (2, true), (3, false), (4, false)] [_, _, _, _, _] (by decide +kernel) (by rfl) ?_
          refine pLs hO 0 [_, _, _, _, _] tA136 tZ136 ?_
          refine pLs hO 2 [_, _, _, _, _] tA125 tZ125 ?_
          obtain ⟨v15, hv15, hk⟩ := bs hk
          refine pCall (fun _ => f81_run hv15) ?_
          obtain ⟨v16, hv16, hk⟩ := bs hk
          refine pCall (fun _ => f84_run hv16) ?_
          refine pU ?_
          refine pE ?_
          refine gn ?_
          refine wpL_cd (b := !v16) (fun hb => ?_) (fun hb => ?_)
          · replace hk := ct hb hk
            refine wpL_sq ?_
            refine wpL_rg ?_
            refine pA (.bool _) ?_
            refine pE ?_
            refine gn ?_
            refine wpL_rt ?_
            refine gr ?_
            replace hk := Option.some.inj hk; subst hk; exact fin0 hO
          · replace hk := cf hb hk
            refine wpL_sk ?_
            refine gn ?_
            refine wpL_sq ?_
            refine wpL_rg ?_
            refine pA (.bool _) ?_
            refine pE ?_
            refine gn ?_
            refine wpL_rt ?_
            replace hk := Option.some.inj hk; subst hk; exact fin0 hO
end
end Go.Proofs.Ytkfekjcahepfnaa.K
