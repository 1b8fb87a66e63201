/-
  The functions that FnExactRowOk reaches, as typed Lean functions, and that the interpreter computes them. No conditions.
-/
import Derived.Test.YtibdgkckacmfaaaKt
import Derived.Test.YtibdgkckacmfaaaProg
set_option linter.unusedVariables false
set_option linter.unusedSimpArgs false
set_option maxRecDepth 100000
namespace Go.Proofs.Ytibdgkckacmfaaa.K
noncomputable section
def hh : Hints := { modes := fun _ => [], thaw := fun _ => false, grow := fun _ => false, keep := fun _ => false }
structure Row where
  Next : List Int
  Far : List Int
  Open : List Bool
  Works : List (List Bool)
instance : GoT Row := ⟨4, by decide, fun x => GoT.enc x.Next ++ (GoT.enc x.Far ++ (GoT.enc x.Open ++ (GoT.enc x.Works))), fun x => by simp only [List.length_append, GoT.len]; rfl, fun x => by simp only [cleanL_append, GoT.clean]; rfl, fun x => by simp only [List.all_append, GoT.cell]; rfl⟩
theorem tZ49 : szOf Try.prog 49 = some 4 := by rfl
theorem tA49 : aggT Try.prog 49 = some true := by rfl
theorem tF49_0 : fieldOff Try.prog 49 0 = some 0 := by rfl
theorem tA40 : aggT Try.prog 40 = some false := by rfl
theorem tS40 : strT Try.prog 40 = some false := by rfl
theorem tF49_1 : fieldOff Try.prog 49 1 = some 1 := by rfl
theorem tF49_2 : fieldOff Try.prog 49 2 = some 2 := by rfl
theorem tA46 : aggT Try.prog 46 = some false := by rfl
theorem tS46 : strT Try.prog 46 = some false := by rfl
theorem tF49_3 : fieldOff Try.prog 49 3 = some 3 := by rfl
theorem tA47 : aggT Try.prog 47 = some false := by rfl
theorem tS47 : strT Try.prog 47 = some false := by rfl
theorem tE47 : elemT Try.prog 47 = some 46 := by rfl
theorem tZ46 : szOf Try.prog 46 = some 1 := by rfl
theorem tZ52 : szOf Try.prog 52 = some 4 := by rfl
theorem t052 : zeroOf Try.prog 52 = some [(.tl 0 []), (.tl 0 []), (.tl 0 []), (.tl 0 [])] := by rfl
theorem tE40 : elemT Try.prog 40 = some 3 := by rfl
theorem tZ3 : szOf Try.prog 3 = some 1 := by rfl
theorem tB3 : bytesOf Try.prog 3 = some 8 := by rfl
theorem t03 : zeroOf Try.prog 3 = some [.int .i64 0] := by rfl
theorem tA3 : aggT Try.prog 3 = some false := by rfl
theorem tF52_0 : fieldOff Try.prog 52 0 = some 0 := by rfl
theorem tZ40 : szOf Try.prog 40 = some 1 := by rfl
theorem tF52_1 : fieldOff Try.prog 52 1 = some 1 := by rfl
theorem tE46 : elemT Try.prog 46 = some 4 := by rfl
theorem tZ4 : szOf Try.prog 4 = some 1 := by rfl
theorem tB4 : bytesOf Try.prog 4 = some 1 := by rfl
theorem t04 : zeroOf Try.prog 4 = some [.bool false] := by rfl
theorem tA4 : aggT Try.prog 4 = some false := by rfl
theorem tF52_2 : fieldOff Try.prog 52 2 = some 2 := by rfl
theorem tB46 : bytesOf Try.prog 46 = some 24 := by rfl
theorem t046 : zeroOf Try.prog 46 = some [(.tl 0 [])] := by rfl
theorem tF52_3 : fieldOff Try.prog 52 3 = some 3 := by rfl
theorem tZ47 : szOf Try.prog 47 = some 1 := by rfl
theorem tA52 : aggT Try.prog 52 = some true := by rfl
/-- laws.szIntS -/
def f39 (aA0 : List Int) (aLeft1 : Int) : Option Int :=
  (bif decide ((w64 (aLeft1 - (aA0.length : Int))) < (0:Int)) then some (-1:Int) else some (w64 (aLeft1 - (aA0.length : Int))))
theorem f39_run {aA0 : List Int} {aLeft1 : Int} {r : Int} {l1 : Nat} {H : Heap} {lk : Lk} (hk : f39 aA0 aLeft1 = some r) (hlk : 0 < lk.length := by simp) : runL Try.prog hh 39 [.lit l1 aA0.length (flat aA0), .int .i64 aLeft1] H lk = some (.int .i64 r, H) := by
  refine run_start Try.func39 rfl Try.ntmps39 Try.results39 rfl rfl fun hO => ?_
  unfold f39 at hk
  refine wpL_sq ?_
  refine wpL_rg ?_
  refine pA (.int _ _) ?_
  refine pE ?_
  refine gn ?_
  refine wpL_sq ?_
  refine wpL_rg ?_
  refine pM (.int _ _) ?_
  refine pM (.lit _ _ _) ?_
  refine pLen tS40 ?_
  refine pBi ?_
  refine pA (.int _ _) ?_
  refine pE ?_
  refine gn ?_
  refine wpL_sq ?_
  refine wpL_sq ?_
  refine wpL_rg ?_
  refine pM (.int _ _) ?_
  refine pBi ?_
  refine pE ?_
  refine gn ?_
  refine wpL_cd (b := decide ((w64 (aLeft1 - (aA0.length : Int))) < (0:Int))) (fun hb => ?_) (fun hb => ?_)
  · replace hk := ct hb hk
    refine wpL_sq ?_
    refine wpL_rg ?_
    refine pA (.int _ _) ?_
    refine pE ?_
    refine gn ?_
    refine wpL_rt ?_
    refine gr ?_
    cases hk; exact fin0 hO
  · replace hk := cf hb hk
    refine wpL_sk ?_
    refine gn ?_
    refine wpL_sq ?_
    refine wpL_rg ?_
    refine pM (.int _ _) ?_
    refine pA (.int _ _) ?_
    refine pE ?_
    refine gn ?_
    refine wpL_rt ?_
    cases hk; exact fin0 hO
/-- laws.szBoolS -/
def f40 (aA0 : List Bool) (aLeft1 : Int) : Option Int :=
  (bif decide ((w64 (aLeft1 - (aA0.length : Int))) < (0:Int)) then some (-1:Int) else some (w64 (aLeft1 - (aA0.length : Int))))
theorem f40_run {aA0 : List Bool} {aLeft1 : Int} {r : Int} {l1 : Nat} {H : Heap} {lk : Lk} (hk : f40 aA0 aLeft1 = some r) (hlk : 0 < lk.length := by simp) : runL Try.prog hh 40 [.lit l1 aA0.length (flat aA0), .int .i64 aLeft1] H lk = some (.int .i64 r, H) := by
  refine run_start Try.func40 rfl Try.ntmps40 Try.results40 rfl rfl fun hO => ?_
  unfold f40 at hk
  refine wpL_sq ?_
  refine wpL_rg ?_
  refine pA (.int _ _) ?_
  refine pE ?_
  refine gn ?_
  refine wpL_sq ?_
  refine wpL_rg ?_
  refine pM (.int _ _) ?_
  refine pM (.lit _ _ _) ?_
  refine pLen tS46 ?_
  refine pBi ?_
  refine pA (.int _ _) ?_
  refine pE ?_
  refine gn ?_
  refine wpL_sq ?_
  refine wpL_sq ?_
  refine wpL_rg ?_
  refine pM (.int _ _) ?_
  refine pBi ?_
  refine pE ?_
  refine gn ?_
  refine wpL_cd (b := decide ((w64 (aLeft1 - (aA0.length : Int))) < (0:Int))) (fun hb => ?_) (fun hb => ?_)
  · replace hk := ct hb hk
    refine wpL_sq ?_
    refine wpL_rg ?_
    refine pA (.int _ _) ?_
    refine pE ?_
    refine gn ?_
    refine wpL_rt ?_
    refine gr ?_
    cases hk; exact fin0 hO
  · replace hk := cf hb hk
    refine wpL_sk ?_
    refine gn ?_
    refine wpL_sq ?_
    refine wpL_rg ?_
    refine pM (.int _ _) ?_
    refine pA (.int _ _) ?_
    refine pE ?_
    refine gn ?_
    refine wpL_rt ?_
    cases hk; exact fin0 hO
/-- laws.szBoolSS -/
def f41_L1 (aA0 : List (List Bool)) : (Int × Int) → Option ((Int × Int) ⊕ Int) := fun s =>
  (bif decide (s.2 < (aA0.length : Int)) then ((getI aA0 s.2).bind fun c3 => ((f40 c3 s.1).bind fun v4 => (bif decide (v4 < (0:Int)) then ((some (-1:Int)).map Sum.inr) else some (.inl (v4, w64 (s.2 + (1:Int))))))) else ((some s.1).map Sum.inr))
def f41 (aA0 : List (List Bool)) (aLeft1 : Int) : Option Int :=
  (bif decide ((w64 (aLeft1 - (aA0.length : Int))) < (0:Int)) then some (-1:Int) else (loopO (f41_L1 aA0) (w64 (aLeft1 - (aA0.length : Int)), (0:Int))))
theorem f41_run {aA0 : List (List Bool)} {aLeft1 : Int} {r : Int} {l1 : Nat} {H : Heap} {lk : Lk} (hk : f41 aA0 aLeft1 = some r) (hlk : 0 < lk.length := by simp) : runL Try.prog hh 41 [.lit l1 aA0.length (flat aA0), .int .i64 aLeft1] H lk = some (.int .i64 r, H) := by
  refine run_start Try.func41 rfl Try.ntmps41 Try.results41 rfl rfl fun hO => ?_
  unfold f41 at hk
  refine wpL_sq ?_
  refine wpL_rg ?_
  refine pA (.int _ _) ?_
  refine pE ?_
  refine gn ?_
  refine wpL_sq ?_
  refine wpL_rg ?_
  refine pM (.int _ _) ?_
  refine pM (.lit _ _ _) ?_
  refine pLen tS47 ?_
  refine pBi ?_
  refine pA (.int _ _) ?_
  refine pE ?_
  refine gn ?_
  refine wpL_sq ?_
  refine wpL_sq ?_
  refine wpL_rg ?_
  refine pM (.int _ _) ?_
  refine pBi ?_
  refine pE ?_
  refine gn ?_
  refine wpL_cd (b := decide ((w64 (aLeft1 - (aA0.length : Int))) < (0:Int))) (fun hb => ?_) (fun hb => ?_)
  · replace hk := ct hb hk
    refine wpL_sq ?_
    refine wpL_rg ?_
    refine pA (.int _ _) ?_
    refine pE ?_
    refine gn ?_
    refine wpL_rt ?_
    refine gr ?_
    cases hk; exact fin0 hO
  · replace hk := cf hb hk
    refine wpL_sk ?_
    refine gn ?_
    refine wpL_sq ?_
    refine wpL_sq ?_
    refine wpL_rg ?_
    refine pA (.int _ _) ?_
    refine pE ?_
    refine gn ?_
    refine wpL_bl ?_
    refine wpL_loopO (F := f41_L1 aA0) (fun s S' => ∃ (J : Nat → V) (G : Heap), Owns H G [] ∧ S' = ⟨hav [(0, .lit l1 aA0.length (flat aA0)), (1, .int .i64 s.1), (5, .int .i64 s.2)] J, G⟩) hk ⟨_, _, hO, St.hav _ ⟨rfl, rfl, rfl, trivial⟩⟩ ?_
    rintro ⟨x1, x2⟩ _ y1 ⟨J, G, hO, rfl⟩ hk hx1
    refine wpL_sq ?_
    refine wpL_sq ?_
    refine wpL_rg ?_
    refine pM (.int _ _) ?_
    refine pM (.lit _ _ _) ?_
    refine pLen tS47 ?_
    refine pBi ?_
    refine pE ?_
    refine gn ?_
    refine wpL_cd (b := decide (x2 < (aA0.length : Int))) (fun hb => ?_) (fun hb => ?_)
    · replace hk := ct hb hk
      refine wpL_sk ?_
      refine gn ?_
      refine wpL_sq ?_
      refine wpL_bl ?_
      refine wpL_sq ?_
      refine wpL_rg ?_
      refine pM (.lit _ _ _) ?_
      refine pM (.int _ _) ?_
      obtain ⟨c3, hc3, hk⟩ := bs hk
      refine pX hc3 tE47 tZ46 ?_
      refine pLp (.lit _ _ _) (rd1 (off := 0) hc3 tA46) ?_
      refine pM (.int _ _) ?_
      obtain ⟨v4, hv4, hk⟩ := bs hk
      refine pCall (fun _ => f40_run hv4) ?_
      refine pA (.int _ _) ?_
      refine pE ?_
      refine gn ?_
      refine wpL_sq ?_
      refine wpL_rg ?_
      refine pM (.int _ _) ?_
      refine pBi ?_
      refine pE ?_
      refine gn ?_
      refine wpL_cd (b := decide (v4 < (0:Int))) (fun hb => ?_) (fun hb => ?_)
      · replace hk := ct hb hk
        refine wpL_sq ?_
        refine wpL_rg ?_
        refine pA (.int _ _) ?_
        refine pE ?_
        refine gn ?_
        refine wpL_rt ?_
        refine br (gr (gr (br (gr ?_))))
        replace hk := lx hx1 hk
        cases hk; exact fin0 hO
      · replace hk := cf hb hk
        refine wpL_sk ?_
        refine bn (gn ?_)
        refine wpL_rg ?_
        refine pM (.int _ _) ?_
        refine pBi ?_
        refine pA (.int _ _) ?_
        refine pE ?_
        refine gn ?_
        cases hk; exact ⟨_, rfl, _, _, hO, St.hav _ ⟨rfl, rfl, rfl, trivial⟩⟩
    · replace hk := cf hb hk
      refine wpL_ex ?_
      refine ge (ge (be (gn ?_)))
      replace hk := lx hx1 hk
      refine wpL_sq ?_
      refine wpL_rg ?_
      refine pM (.int _ _) ?_
      refine pA (.int _ _) ?_
      refine pE ?_
      refine gn ?_
      refine wpL_rt ?_
      cases hk; exact fin0 hO
/-- laws.szRow -/
def f23 (aA0 : Row) (aLeft1 : Int) : Option Int :=
  ((f39 aA0.Next aLeft1).bind fun v2 => (bif decide (v2 < (0:Int)) then some (-1:Int) else ((f39 aA0.Far v2).bind fun v3 => (bif decide (v3 < (0:Int)) then some (-1:Int) else ((f40 aA0.Open v3).bind fun v4 => (bif decide (v4 < (0:Int)) then some (-1:Int) else ((f41 aA0.Works v4).bind fun v5 => (bif decide (v5 < (0:Int)) then some (-1:Int) else some v5))))))))
theorem f23_run {aA0 : Row} {aLeft1 : Int} {r : Int} {l1 l2 l3 l4 : Nat} {H : Heap} {lk : Lk} (hk : f23 aA0 aLeft1 = some r) (hlk : 0 < lk.length := by simp) : runL Try.prog hh 23 [.agg [.lit l1 aA0.Next.length (flat aA0.Next), .lit l2 aA0.Far.length (flat aA0.Far), .lit l3 aA0.Open.length (flat aA0.Open), .lit l4 aA0.Works.length (flat aA0.Works)], .int .i64 aLeft1] H lk = some (.int .i64 r, H) := by
  refine run_start Try.func23 rfl Try.ntmps23 Try.results23 rfl rfl fun hO => ?_
  unfold f23 at hk
  refine wpL_sq ?_
  refine wpL_rg ?_
  refine pBox (cs := [_, _, _, _]) hO tZ49 (fun b1 G hO => ?_)
  refine pA (.int _ _) ?_
  refine pE ?_
  refine gn ?_
  refine wpL_sq ?_
  refine wpL_rg ?_
  refine pF tF49_0 ?_
  refine pLo hO 0 (.lit _ _ _) tA40 ?_
  refine pM (.int _ _) ?_
  obtain ⟨v2, hv2, hk⟩ := bs hk
  refine pCall (fun _ => f39_run hv2) ?_
  refine pA (.int _ _) ?_
  refine pE ?_
  refine gn ?_
  refine wpL_sq ?_
  refine wpL_sq ?_
  refine wpL_rg ?_
  refine pM (.int _ _) ?_
  refine pBi ?_
  refine pE ?_
  refine gn ?_
  refine wpL_cd (b := decide (v2 < (0:Int))) (fun hb => ?_) (fun hb => ?_)
  · replace hk := ct hb hk
    refine wpL_sq ?_
    refine wpL_rg ?_
    refine pA (.int _ _) ?_
    refine pE ?_
    refine gn ?_
    refine wpL_rt ?_
    refine gr ?_
    cases hk; exact fin0 hO
  · replace hk := cf hb hk
    refine wpL_sk ?_
    refine gn ?_
    refine wpL_sq ?_
    refine wpL_rg ?_
    refine pF tF49_1 ?_
    refine pLo hO 0 (.lit _ _ _) tA40 ?_
    refine pM (.int _ _) ?_
    obtain ⟨v3, hv3, hk⟩ := bs hk
    refine pCall (fun _ => f39_run hv3) ?_
    refine pA (.int _ _) ?_
    refine pE ?_
    refine gn ?_
    refine wpL_sq ?_
    refine wpL_sq ?_
    refine wpL_rg ?_
    refine pM (.int _ _) ?_
    refine pBi ?_
    refine pE ?_
    refine gn ?_
    refine wpL_cd (b := decide (v3 < (0:Int))) (fun hb => ?_) (fun hb => ?_)
    · replace hk := ct hb hk
      refine wpL_sq ?_
      refine wpL_rg ?_
      refine pA (.int _ _) ?_
      refine pE ?_
      refine gn ?_
      refine wpL_rt ?_
      refine gr ?_
      cases hk; exact fin0 hO
    · replace hk := cf hb hk
      refine wpL_sk ?_
      refine gn ?_
      refine wpL_sq ?_
      refine wpL_rg ?_
      refine pF tF49_2 ?_
      refine pLo hO 0 (.lit _ _ _) tA46 ?_
      refine pM (.int _ _) ?_
      obtain ⟨v4, hv4, hk⟩ := bs hk
      refine pCall (fun _ => f40_run hv4) ?_
      refine pA (.int _ _) ?_
      refine pE ?_
      refine gn ?_
      refine wpL_sq ?_
      refine wpL_sq ?_
      refine wpL_rg ?_
      refine pM (.int _ _) ?_
      refine pBi ?_
      refine pE ?_
      refine gn ?_
      refine wpL_cd (b := decide (v4 < (0:Int))) (fun hb => ?_) (fun hb => ?_)
      · replace hk := ct hb hk
        refine wpL_sq ?_
        refine wpL_rg ?_
        refine pA (.int _ _) ?_
        refine pE ?_
        refine gn ?_
        refine wpL_rt ?_
        refine gr ?_
        cases hk; exact fin0 hO
      · replace hk := cf hb hk
        refine wpL_sk ?_
        refine gn ?_
        refine wpL_sq ?_
        refine wpL_rg ?_
        refine pF tF49_3 ?_
        refine pLo hO 0 (.lit _ _ _) tA47 ?_
        refine pM (.int _ _) ?_
        obtain ⟨v5, hv5, hk⟩ := bs hk
        refine pCall (fun _ => f41_run hv5) ?_
        refine pA (.int _ _) ?_
        refine pE ?_
        refine gn ?_
        refine wpL_sq ?_
        refine wpL_sq ?_
        refine wpL_rg ?_
        refine pM (.int _ _) ?_
        refine pBi ?_
        refine pE ?_
        refine gn ?_
        refine wpL_cd (b := decide (v5 < (0:Int))) (fun hb => ?_) (fun hb => ?_)
        · replace hk := ct hb hk
          refine wpL_sq ?_
          refine wpL_rg ?_
          refine pA (.int _ _) ?_
          refine pE ?_
          refine gn ?_
          refine wpL_rt ?_
          refine gr ?_
          cases hk; exact fin0 hO
        · replace hk := cf hb hk
          refine wpL_sk ?_
          refine gn ?_
          refine wpL_sq ?_
          refine wpL_rg ?_
          refine pM (.int _ _) ?_
          refine pA (.int _ _) ?_
          refine pE ?_
          refine gn ?_
          refine wpL_rt ?_
          cases hk; exact fin0 hO
/-- laws.toIntS -/
def f43_L1 (aA0 : List Int) : ((List Int) × Int) → Option (((List Int) × Int) ⊕ (List Int)) := fun s =>
  (bif decide (s.2 < (aA0.length : Int)) then ((getI aA0 s.2).bind fun c5 => ((getI s.1 s.2).bind fun c6 => some (.inl (s.1.set s.2.toNat c5, w64 (s.2 + (1:Int)))))) else ((some s.1).map Sum.inr))
def f43 (aA0 : List Int) : Option (List Int) :=
  ((makeB 8 (aA0.length : Int)).bind fun m1 => (loopO (f43_L1 aA0) (List.replicate m1 (0 : Int), (0:Int))))
theorem f43_run {aA0 : List Int} {r : (List Int)} {l1 : Nat} {H : Heap} {lk : Lk} (hk : f43 aA0 = some r) (hlk : 0 < lk.length := by simp) : runL Try.prog hh 43 [.lit l1 aA0.length (flat aA0)] H lk = some (.lit 0 r.length (flat r), H) := by
  refine run_start Try.func43 rfl Try.ntmps43 Try.results43 rfl rfl fun hO => ?_
  unfold f43 at hk
  refine wpL_sq ?_
  refine wpL_rg ?_
  refine pA (.tl 0 []) ?_
  refine pE ?_
  refine gn ?_
  refine wpL_sq ?_
  refine wpL_rg ?_
  refine pM (.lit _ _ _) ?_
  refine pLen tS40 ?_
  obtain ⟨m1, hm1, hk⟩ := bs hk
  refine pMk hO hm1 (0 : Int) tE40 tZ3 tB3 t03 (fun b2 G hO => ?_)
  refine pA (.sl _ _ _) ?_
  refine pE ?_
  refine gn ?_
  refine wpL_sq ?_
  refine wpL_sq ?_
  refine wpL_rg ?_
  refine pA (.int _ _) ?_
  refine pE ?_
  refine gn ?_
  refine wpL_bl ?_
  refine wpL_loopO (F := f43_L1 aA0) (fun s S' => ∃ (J : Nat → V) (G : Heap), s.1.length = m1 ∧ Owns H G [.blk b2 (.cells 1 (flat s.1))] ∧ S' = ⟨hav [(0, .lit l1 aA0.length (flat aA0)), (3, .sl b2 0 m1), (4, .int .i64 s.2)] J, G⟩) hk ⟨_, _, List.length_replicate, hO, St.hav _ ⟨rfl, rfl, rfl, trivial⟩⟩ ?_
  rintro ⟨x3, x4⟩ _ y1 ⟨J, G, hl3, hO, rfl⟩ hk hx1
  refine wpL_sq ?_
  refine wpL_sq ?_
  refine wpL_rg ?_
  refine pM (.int _ _) ?_
  refine pM (.lit _ _ _) ?_
  refine pLen tS40 ?_
  refine pBi ?_
  refine pE ?_
  refine gn ?_
  refine wpL_cd (b := decide (x4 < (aA0.length : Int))) (fun hb => ?_) (fun hb => ?_)
  · replace hk := ct hb hk
    refine wpL_sk ?_
    refine gn ?_
    refine wpL_sq ?_
    refine wpL_bl ?_
    refine wpL_rg ?_
    refine pM (.sl _ _ _) ?_
    refine pM (.int _ _) ?_
    refine pM (.lit _ _ _) ?_
    refine pM (.int _ _) ?_
    obtain ⟨c5, hc5, hk⟩ := bs hk
    refine pX hc5 tE40 tZ3 ?_
    refine pLp (.int _ _) (rd1 (off := 0) hc5 tA3) ?_
    obtain ⟨c6, hc6, hk⟩ := bs hk
    refine pXm hl3 hc6 tE40 tZ3 ?_
    refine pSm hO 0 hc6 tZ3 rfl c5 (.int _ _) (fun G hO => ?_)
    refine pE ?_
    refine bn (gn ?_)
    refine wpL_rg ?_
    refine pM (.int _ _) ?_
    refine pBi ?_
    refine pA (.int _ _) ?_
    refine pE ?_
    refine gn ?_
    cases hk; exact ⟨_, rfl, _, _, (List.length_set.trans hl3), hO, St.hav _ ⟨rfl, rfl, rfl, trivial⟩⟩
  · replace hk := cf hb hk
    refine wpL_ex ?_
    refine ge (ge (be (gn ?_)))
    replace hk := lx hx1 hk
    refine wpL_sq ?_
    refine wpL_rg ?_
    refine pM (.sl _ _ _) ?_
    refine pA (.sl _ _ _) ?_
    refine pE ?_
    refine gn ?_
    refine wpL_rt ?_
    cases hk; exact finM hO 0 hl3 hlk
/-- laws.toBoolS -/
def f44_L1 (aA0 : List Bool) : ((List Bool) × Int) → Option (((List Bool) × Int) ⊕ (List Bool)) := fun s =>
  (bif decide (s.2 < (aA0.length : Int)) then ((getI aA0 s.2).bind fun c5 => ((getI s.1 s.2).bind fun c6 => some (.inl (s.1.set s.2.toNat c5, w64 (s.2 + (1:Int)))))) else ((some s.1).map Sum.inr))
def f44 (aA0 : List Bool) : Option (List Bool) :=
  ((makeB 1 (aA0.length : Int)).bind fun m1 => (loopO (f44_L1 aA0) (List.replicate m1 (false : Bool), (0:Int))))
theorem f44_run {aA0 : List Bool} {r : (List Bool)} {l1 : Nat} {H : Heap} {lk : Lk} (hk : f44 aA0 = some r) (hlk : 0 < lk.length := by simp) : runL Try.prog hh 44 [.lit l1 aA0.length (flat aA0)] H lk = some (.lit 0 r.length (flat r), H) := by
  refine run_start Try.func44 rfl Try.ntmps44 Try.results44 rfl rfl fun hO => ?_
  unfold f44 at hk
  refine wpL_sq ?_
  refine wpL_rg ?_
  refine pA (.tl 0 []) ?_
  refine pE ?_
  refine gn ?_
  refine wpL_sq ?_
  refine wpL_rg ?_
  refine pM (.lit _ _ _) ?_
  refine pLen tS46 ?_
  obtain ⟨m1, hm1, hk⟩ := bs hk
  refine pMk hO hm1 (false : Bool) tE46 tZ4 tB4 t04 (fun b2 G hO => ?_)
  refine pA (.sl _ _ _) ?_
  refine pE ?_
  refine gn ?_
  refine wpL_sq ?_
  refine wpL_sq ?_
  refine wpL_rg ?_
  refine pA (.int _ _) ?_
  refine pE ?_
  refine gn ?_
  refine wpL_bl ?_
  refine wpL_loopO (F := f44_L1 aA0) (fun s S' => ∃ (J : Nat → V) (G : Heap), s.1.length = m1 ∧ Owns H G [.blk b2 (.cells 1 (flat s.1))] ∧ S' = ⟨hav [(0, .lit l1 aA0.length (flat aA0)), (3, .sl b2 0 m1), (4, .int .i64 s.2)] J, G⟩) hk ⟨_, _, List.length_replicate, hO, St.hav _ ⟨rfl, rfl, rfl, trivial⟩⟩ ?_
  rintro ⟨x3, x4⟩ _ y1 ⟨J, G, hl3, hO, rfl⟩ hk hx1
  refine wpL_sq ?_
  refine wpL_sq ?_
  refine wpL_rg ?_
  refine pM (.int _ _) ?_
  refine pM (.lit _ _ _) ?_
  refine pLen tS46 ?_
  refine pBi ?_
  refine pE ?_
  refine gn ?_
  refine wpL_cd (b := decide (x4 < (aA0.length : Int))) (fun hb => ?_) (fun hb => ?_)
  · replace hk := ct hb hk
    refine wpL_sk ?_
    refine gn ?_
    refine wpL_sq ?_
    refine wpL_bl ?_
    refine wpL_rg ?_
    refine pM (.sl _ _ _) ?_
    refine pM (.int _ _) ?_
    refine pM (.lit _ _ _) ?_
    refine pM (.int _ _) ?_
    obtain ⟨c5, hc5, hk⟩ := bs hk
    refine pX hc5 tE46 tZ4 ?_
    refine pLp (.bool _) (rd1 (off := 0) hc5 tA4) ?_
    obtain ⟨c6, hc6, hk⟩ := bs hk
    refine pXm hl3 hc6 tE46 tZ4 ?_
    refine pSm hO 0 hc6 tZ4 rfl c5 (.bool _) (fun G hO => ?_)
    refine pE ?_
    refine bn (gn ?_)
    refine wpL_rg ?_
    refine pM (.int _ _) ?_
    refine pBi ?_
    refine pA (.int _ _) ?_
    refine pE ?_
    refine gn ?_
    cases hk; exact ⟨_, rfl, _, _, (List.length_set.trans hl3), hO, St.hav _ ⟨rfl, rfl, rfl, trivial⟩⟩
  · replace hk := cf hb hk
    refine wpL_ex ?_
    refine ge (ge (be (gn ?_)))
    replace hk := lx hx1 hk
    refine wpL_sq ?_
    refine wpL_rg ?_
    refine pM (.sl _ _ _) ?_
    refine pA (.sl _ _ _) ?_
    refine pE ?_
    refine gn ?_
    refine wpL_rt ?_
    cases hk; exact finM hO 0 hl3 hlk
/-- laws.toBoolSS -/
def f45_L1 (aA0 : List (List Bool)) : ((List (List Bool)) × Int) → Option (((List (List Bool)) × Int) ⊕ (List (List Bool))) := fun s =>
  (bif decide (s.2 < (aA0.length : Int)) then ((getI aA0 s.2).bind fun c5 => ((f44 c5).bind fun v6 => ((getI s.1 s.2).bind fun c7 => some (.inl (s.1.set s.2.toNat v6, w64 (s.2 + (1:Int))))))) else ((some s.1).map Sum.inr))
def f45 (aA0 : List (List Bool)) : Option (List (List Bool)) :=
  ((makeB 24 (aA0.length : Int)).bind fun m1 => (loopO (f45_L1 aA0) (List.replicate m1 ([] : List Bool), (0:Int))))
theorem f45_run {aA0 : List (List Bool)} {r : (List (List Bool))} {l1 : Nat} {H : Heap} {lk : Lk} (hk : f45 aA0 = some r) (hlk : 0 < lk.length := by simp) : runL Try.prog hh 45 [.lit l1 aA0.length (flat aA0)] H lk = some (.lit 0 r.length (flat r), H) := by
  refine run_start Try.func45 rfl Try.ntmps45 Try.results45 rfl rfl fun hO => ?_
  unfold f45 at hk
  refine wpL_sq ?_
  refine wpL_rg ?_
  refine pA (.tl 0 []) ?_
  refine pE ?_
  refine gn ?_
  refine wpL_sq ?_
  refine wpL_rg ?_
  refine pM (.lit _ _ _) ?_
  refine pLen tS47 ?_
  obtain ⟨m1, hm1, hk⟩ := bs hk
  refine pMk hO hm1 ([] : List Bool) tE47 tZ46 tB46 t046 (fun b2 G hO => ?_)
  refine pA (.sl _ _ _) ?_
  refine pE ?_
  refine gn ?_
  refine wpL_sq ?_
  refine wpL_sq ?_
  refine wpL_rg ?_
  refine pA (.int _ _) ?_
  refine pE ?_
  refine gn ?_
  refine wpL_bl ?_
  refine wpL_loopO (F := f45_L1 aA0) (fun s S' => ∃ (J : Nat → V) (G : Heap), s.1.length = m1 ∧ Owns H G [.blk b2 (.cells 1 (flat s.1))] ∧ S' = ⟨hav [(0, .lit l1 aA0.length (flat aA0)), (3, .sl b2 0 m1), (4, .int .i64 s.2)] J, G⟩) hk ⟨_, _, List.length_replicate, hO, St.hav _ ⟨rfl, rfl, rfl, trivial⟩⟩ ?_
  rintro ⟨x3, x4⟩ _ y1 ⟨J, G, hl3, hO, rfl⟩ hk hx1
  refine wpL_sq ?_
  refine wpL_sq ?_
  refine wpL_rg ?_
  refine pM (.int _ _) ?_
  refine pM (.lit _ _ _) ?_
  refine pLen tS47 ?_
  refine pBi ?_
  refine pE ?_
  refine gn ?_
  refine wpL_cd (b := decide (x4 < (aA0.length : Int))) (fun hb => ?_) (fun hb => ?_)
  · replace hk := ct hb hk
    refine wpL_sk ?_
    refine gn ?_
    refine wpL_sq ?_
    refine wpL_bl ?_
    refine wpL_rg ?_
    refine pM (.sl _ _ _) ?_
    refine pM (.int _ _) ?_
    refine pM (.lit _ _ _) ?_
    refine pM (.int _ _) ?_
    obtain ⟨c5, hc5, hk⟩ := bs hk
    refine pX hc5 tE47 tZ46 ?_
    refine pLp (.lit _ _ _) (rd1 (off := 0) hc5 tA46) ?_
    obtain ⟨v6, hv6, hk⟩ := bs hk
    refine pCall (fun _ => f44_run hv6) ?_
    obtain ⟨c7, hc7, hk⟩ := bs hk
    refine pXm hl3 hc7 tE47 tZ46 ?_
    refine pSm hO 0 hc7 tZ46 rfl v6 (.lit _ _ _) (fun G hO => ?_)
    refine pE ?_
    refine bn (gn ?_)
    refine wpL_rg ?_
    refine pM (.int _ _) ?_
    refine pBi ?_
    refine pA (.int _ _) ?_
    refine pE ?_
    refine gn ?_
    cases hk; exact ⟨_, rfl, _, _, (List.length_set.trans hl3), hO, St.hav _ ⟨rfl, rfl, rfl, trivial⟩⟩
  · replace hk := cf hb hk
    refine wpL_ex ?_
    refine ge (ge (be (gn ?_)))
    replace hk := lx hx1 hk
    refine wpL_sq ?_
    refine wpL_rg ?_
    refine pM (.sl _ _ _) ?_
    refine pA (.sl _ _ _) ?_
    refine pE ?_
    refine gn ?_
    refine wpL_rt ?_
    cases hk; exact finM hO 0 hl3 hlk
/-- laws.toRow -/
def f25 (aA0 : Row) : Option Row :=
  ((f43 aA0.Next).bind fun v4 => ((f43 aA0.Far).bind fun v5 => ((f44 aA0.Open).bind fun v6 => ((f45 aA0.Works).bind fun v7 => some ({ Next := v4, Far := v5, Open := v6, Works := v7 } : Row)))))
theorem f25_run {aA0 : Row} {r : Row} {l1 l2 l3 l4 : Nat} {H : Heap} {lk : Lk} (hk : f25 aA0 = some r) (hlk : 0 < lk.length := by simp) : runL Try.prog hh 25 [.agg [.lit l1 aA0.Next.length (flat aA0.Next), .lit l2 aA0.Far.length (flat aA0.Far), .lit l3 aA0.Open.length (flat aA0.Open), .lit l4 aA0.Works.length (flat aA0.Works)]] H lk = some (.agg [.lit 0 r.Next.length (flat r.Next), .lit 0 r.Far.length (flat r.Far), .lit 0 r.Open.length (flat r.Open), .lit 0 r.Works.length (flat r.Works)], H) := by
  refine run_start Try.func25 rfl Try.ntmps25 Try.results25 rfl rfl fun hO => ?_
  unfold f25 at hk
  refine wpL_sq ?_
  refine wpL_rg ?_
  refine pBox (cs := [_, _, _, _]) hO tZ49 (fun b1 G hO => ?_)
  refine pNew hO tZ52 t052 (fun b2 G hO => ?_)
  refine pE ?_
  refine gn ?_
  refine wpL_sq ?_
  refine wpL_rg ?_
  refine pNew hO tZ52 t052 (fun b3 G hO => ?_)
  refine pE ?_
  refine gn ?_
  refine wpL_sq ?_
  refine wpL_rg ?_
  refine pF tF49_0 ?_
  refine pLo hO 2 (.lit _ _ _) tA40 ?_
  obtain ⟨v4, hv4, hk⟩ := bs hk
  refine pCall (fun _ => f43_run hv4) ?_
  refine pF tF52_0 ?_
  refine pSt (xs := [_]) hO 0 tZ40 rfl (fun G hO => ?_)
  refine pE ?_
  refine gn ?_
  refine wpL_sq ?_
  refine wpL_rg ?_
  refine pF tF49_1 ?_
  refine pLo hO 2 (.lit _ _ _) tA40 ?_
  obtain ⟨v5, hv5, hk⟩ := bs hk
  refine pCall (fun _ => f43_run hv5) ?_
  refine pF tF52_1 ?_
  refine pSt (xs := [_]) hO 0 tZ40 rfl (fun G hO => ?_)
  refine pE ?_
  refine gn ?_
  refine wpL_sq ?_
  refine wpL_rg ?_
  refine pF tF49_2 ?_
  refine pLo hO 2 (.lit _ _ _) tA46 ?_
  obtain ⟨v6, hv6, hk⟩ := bs hk
  refine pCall (fun _ => f44_run hv6) ?_
  refine pF tF52_2 ?_
  refine pSt (xs := [_]) hO 0 tZ46 rfl (fun G hO => ?_)
  refine pE ?_
  refine gn ?_
  refine wpL_sq ?_
  refine wpL_rg ?_
  refine pF tF49_3 ?_
  refine pLo hO 2 (.lit _ _ _) tA47 ?_
  obtain ⟨v7, hv7, hk⟩ := bs hk
  refine pCall (fun _ => f45_run hv7) ?_
  refine pF tF52_3 ?_
  refine pSt (xs := [_]) hO 0 tZ47 rfl (fun G hO => ?_)
  refine pE ?_
  refine gn ?_
  refine wpL_sq ?_
  refine wpL_rg ?_
  refine pLs hO 0 [_, _, _, _] tA52 tZ52 ?_
  refine pSt (xs := [_, _, _, _]) hO 1 tZ52 rfl (fun G hO => ?_)
  refine pE ?_
  refine gn ?_
  refine wpL_rt ?_
  cases hk; exact finA (α := Row) ({ Next := v4, Far := v5, Open := v6, Works := v7 } : Row) hO hlk (resC hO 1 [_, _, _, _] tA52 tZ52)
/-- spec.l20in -/
def f42 (aX0 : Int) (aA1 : Int) (aB2 : Int) : Option Bool :=
  some (decide (aX0 ≥ aA1) && decide (aX0 ≤ aB2))
theorem f42_run {aX0 : Int} {aA1 : Int} {aB2 : Int} {r : Bool} {H : Heap} {lk : Lk} (hk : f42 aX0 aA1 aB2 = some r) (hlk : 0 < lk.length := by simp) : runL Try.prog hh 42 [.int .i64 aX0, .int .i64 aA1, .int .i64 aB2] H lk = some (.bool r, H) := by
  refine run_start Try.func42 rfl Try.ntmps42 Try.results42 rfl rfl fun hO => ?_
  unfold f42 at hk
  refine wpL_sq ?_
  refine wpL_rg ?_
  refine pA (.bool _) ?_
  refine pE ?_
  refine gn ?_
  refine wpL_sq ?_
  refine wpL_rg ?_
  refine pM (.int _ _) ?_
  refine pM (.int _ _) ?_
  refine pBi ?_
  refine pM (.bool _) ?_
  refine wpR_mid (l1 := [_, _, _, _]) (fun S' => ∃ J, S' = ⟨hav [(14, .bool (decide (aX0 ≥ aA1) && decide (aX0 ≤ aB2)))] J, H⟩) ?_ ?_
  · refine bc (b := decide (aX0 ≥ aA1)) (fun hg1 => ?_) (fun hg1 => ?_)
    · refine pGy hg1 ?_
      refine pM (.int _ _) ?_
      refine pGy hg1 ?_
      refine pM (.int _ _) ?_
      refine pGy hg1 ?_
      refine pBi ?_
      refine pPt hg1 (.bool _) ?_
      exact pE ⟨_, St.hav _ ⟨by rw [hg1]; rfl, trivial⟩⟩
    · refine pGn hg1 ?_
      refine pGn hg1 ?_
      refine pGn hg1 ?_
      refine pPf hg1 (.bool _) ?_
      exact pE ⟨_, St.hav _ ⟨by rw [hg1]; rfl, trivial⟩⟩
  · rintro _ ⟨J, rfl⟩
    refine pA (.bool _) ?_
    refine pE ?_
    refine gn ?_
    refine wpL_rt ?_
    cases hk; exact fin0 hO
/-- spec.RowOk -/
def f24_L2 (aR0 : Row) : Int → Option (Int ⊕ Int) := fun s =>
  (bif decide (s < (aR0.Works.length : Int)) then ((getI aR0.Works s).bind fun c9 => (bif ((c9.length : Int) != (4:Int)) then ((some (3:Int)).map Sum.inr) else some (.inl (w64 (s + (1:Int)))))) else ((some (0:Int)).map Sum.inr))
def f24_L1 (aR0 : Row) : Int → Option (Int ⊕ Int) := fun s =>
  (bif decide (s < (aR0.Next.length : Int)) then ((getI aR0.Next s).bind fun c3 => ((f42 c3 (-1:Int) (w64 ((aR0.Next.length : Int) - (1:Int)))).bind fun v4 => ((bif !v4 then some true else ((getI aR0.Far s).bind fun c6 => ((f42 c6 (0:Int) (1000000:Int)).bind fun v7 => some (!v7)))).bind fun t5 => (bif t5 then ((some (2:Int)).map Sum.inr) else some (.inl (w64 (s + (1:Int)))))))) else ((loopO (f24_L2 aR0) ((0:Int))).map Sum.inr))
def f24 (aR0 : Row) : Option Int :=
  (bif (((decide ((aR0.Next.length : Int) > (60:Int)) || ((aR0.Far.length : Int) != (aR0.Next.length : Int))) || ((aR0.Open.length : Int) != (aR0.Next.length : Int))) || ((aR0.Works.length : Int) != (aR0.Next.length : Int))) then some (1:Int) else (loopO (f24_L1 aR0) ((0:Int))))
theorem f24_run {aR0 : Row} {r : Int} {l1 l2 l3 l4 : Nat} {H : Heap} {lk : Lk} (hk : f24 aR0 = some r) (hlk : 0 < lk.length := by simp) : runL Try.prog hh 24 [.agg [.lit l1 aR0.Next.length (flat aR0.Next), .lit l2 aR0.Far.length (flat aR0.Far), .lit l3 aR0.Open.length (flat aR0.Open), .lit l4 aR0.Works.length (flat aR0.Works)]] H lk = some (.int .i64 r, H) := by
  refine run_start Try.func24 rfl Try.ntmps24 Try.results24 rfl rfl fun hO => ?_
  unfold f24 at hk
  refine wpL_sq ?_
  refine wpL_rg ?_
  refine pBox (cs := [_, _, _, _]) hO tZ52 (fun b1 G hO => ?_)
  refine pA (.int _ _) ?_
  refine pE ?_
  refine gn ?_
  refine wpL_sq ?_
  refine wpL_rg ?_
  refine pF tF52_0 ?_
  refine pLo hO 0 (.lit _ _ _) tA40 ?_
  refine pLen tS40 ?_
  refine pA (.int _ _) ?_
  refine pE ?_
  refine gn ?_
  refine wpL_sq ?_
  refine wpL_sq ?_
  refine wpL_rg ?_
  refine pM (.int _ _) ?_
  refine pBi ?_
  refine pM (.bool _) ?_
  refine wpR_mid (l1 := [_, _, _, _, _, _]) (fun S' => ∃ J, S' = ⟨hav [(1, .ptr b1 0), (3, .int .i64 (aR0.Next.length : Int)), (19, .bool (decide ((aR0.Next.length : Int) > (60:Int)) || ((aR0.Far.length : Int) != (aR0.Next.length : Int))))] J, G⟩) ?_ ?_
  · refine bc (b := decide ((aR0.Next.length : Int) > (60:Int))) (fun hg1 => ?_) (fun hg1 => ?_)
    · refine pGn hg1 ?_
      refine pGn hg1 ?_
      refine pGn hg1 ?_
      refine pGn hg1 ?_
      refine pGn hg1 ?_
      refine pPt hg1 (.bool _) ?_
      exact pE ⟨_, St.hav _ ⟨rfl, rfl, by rw [hg1]; rfl, trivial⟩⟩
    · refine pGy hg1 ?_
      refine pF tF52_1 ?_
      refine pGy hg1 ?_
      refine pLo hO 0 (.lit _ _ _) tA40 ?_
      refine pGy hg1 ?_
      refine pLen tS40 ?_
      refine pGy hg1 ?_
      refine pM (.int _ _) ?_
      refine pGy hg1 ?_
      refine pBi ?_
      refine pPf hg1 (.bool _) ?_
      exact pE ⟨_, St.hav _ ⟨rfl, rfl, by rw [hg1]; rfl, trivial⟩⟩
  · rintro _ ⟨J, rfl⟩
    refine pM (.bool _) ?_
    refine wpR_mid (l1 := [_, _, _, _, _, _]) (fun S' => ∃ J, S' = ⟨hav [(1, .ptr b1 0), (3, .int .i64 (aR0.Next.length : Int)), (26, .bool ((decide ((aR0.Next.length : Int) > (60:Int)) || ((aR0.Far.length : Int) != (aR0.Next.length : Int))) || ((aR0.Open.length : Int) != (aR0.Next.length : Int))))] J, G⟩) ?_ ?_
    · refine bc (b := (decide ((aR0.Next.length : Int) > (60:Int)) || ((aR0.Far.length : Int) != (aR0.Next.length : Int)))) (fun hg1 => ?_) (fun hg1 => ?_)
      · refine pGn hg1 ?_
        refine pGn hg1 ?_
        refine pGn hg1 ?_
        refine pGn hg1 ?_
        refine pGn hg1 ?_
        refine pPt hg1 (.bool _) ?_
        exact pE ⟨_, St.hav _ ⟨rfl, rfl, by rw [hg1]; rfl, trivial⟩⟩
      · refine pGy hg1 ?_
        refine pF tF52_2 ?_
        refine pGy hg1 ?_
        refine pLo hO 0 (.lit _ _ _) tA46 ?_
        refine pGy hg1 ?_
        refine pLen tS46 ?_
        refine pGy hg1 ?_
        refine pM (.int _ _) ?_
        refine pGy hg1 ?_
        refine pBi ?_
        refine pPf hg1 (.bool _) ?_
        exact pE ⟨_, St.hav _ ⟨rfl, rfl, by rw [hg1]; rfl, trivial⟩⟩
    · rintro _ ⟨J, rfl⟩
      refine pM (.bool _) ?_
      refine wpR_mid (l1 := [_, _, _, _, _, _]) (fun S' => ∃ J, S' = ⟨hav [(1, .ptr b1 0), (3, .int .i64 (aR0.Next.length : Int)), (33, .bool (((decide ((aR0.Next.length : Int) > (60:Int)) || ((aR0.Far.length : Int) != (aR0.Next.length : Int))) || ((aR0.Open.length : Int) != (aR0.Next.length : Int))) || ((aR0.Works.length : Int) != (aR0.Next.length : Int))))] J, G⟩) ?_ ?_
      · refine bc (b := ((decide ((aR0.Next.length : Int) > (60:Int)) || ((aR0.Far.length : Int) != (aR0.Next.length : Int))) || ((aR0.Open.length : Int) != (aR0.Next.length : Int)))) (fun hg1 => ?_) (fun hg1 => ?_)
        · refine pGn hg1 ?_
          refine pGn hg1 ?_
          refine pGn hg1 ?_
          refine pGn hg1 ?_
          refine pGn hg1 ?_
          refine pPt hg1 (.bool _) ?_
          exact pE ⟨_, St.hav _ ⟨rfl, rfl, by rw [hg1]; rfl, trivial⟩⟩
        · refine pGy hg1 ?_
          refine pF tF52_3 ?_
          refine pGy hg1 ?_
          refine pLo hO 0 (.lit _ _ _) tA47 ?_
          refine pGy hg1 ?_
          refine pLen tS47 ?_
          refine pGy hg1 ?_
          refine pM (.int _ _) ?_
          refine pGy hg1 ?_
          refine pBi ?_
          refine pPf hg1 (.bool _) ?_
          exact pE ⟨_, St.hav _ ⟨rfl, rfl, by rw [hg1]; rfl, trivial⟩⟩
      · rintro _ ⟨J, rfl⟩
        refine pE ?_
        refine gn ?_
        refine wpL_cd (b := (((decide ((aR0.Next.length : Int) > (60:Int)) || ((aR0.Far.length : Int) != (aR0.Next.length : Int))) || ((aR0.Open.length : Int) != (aR0.Next.length : Int))) || ((aR0.Works.length : Int) != (aR0.Next.length : Int)))) (fun hb => ?_) (fun hb => ?_)
        · replace hk := ct hb hk
          refine wpL_sq ?_
          refine wpL_rg ?_
          refine pA (.int _ _) ?_
          refine pE ?_
          refine gn ?_
          refine wpL_rt ?_
          refine gr ?_
          cases hk; exact fin0 hO
        · replace hk := cf hb hk
          refine wpL_sk ?_
          refine gn ?_
          refine wpL_sq ?_
          refine wpL_sq ?_
          refine wpL_rg ?_
          refine pF tF52_0 ?_
          refine pLo hO 0 (.lit _ _ _) tA40 ?_
          refine pLen tS40 ?_
          refine pM (.int _ _) ?_
          refine pE ?_
          refine gn ?_
          refine wpL_bl ?_
          refine wpL_loopO (F := f24_L1 aR0) (fun s S' => ∃ (J : Nat → V) (G : Heap), Owns H G [.blk b1 (.cells 4 [.lit l1 aR0.Next.length (flat aR0.Next), .lit l2 aR0.Far.length (flat aR0.Far), .lit l3 aR0.Open.length (flat aR0.Open), .lit l4 aR0.Works.length (flat aR0.Works)])] ∧ S' = ⟨hav [(1, .ptr b1 0), (3, .int .i64 (aR0.Next.length : Int)), (35, .lit l1 aR0.Next.length (flat aR0.Next)), (36, .int .i64 (aR0.Next.length : Int)), (37, .int .i64 s)] J, G⟩) hk ⟨_, _, hO, St.hav _ ⟨rfl, rfl, rfl, rfl, rfl, trivial⟩⟩ ?_
          rintro x2 _ y1 ⟨J, G, hO, rfl⟩ hk hx1
          refine wpL_sq ?_
          refine wpL_rg ?_
          refine pBi ?_
          refine pE ?_
          refine gn ?_
          refine wpL_sq ?_
          refine wpL_cd (b := decide (x2 < (aR0.Next.length : Int))) (fun hb => ?_) (fun hb => ?_)
          · replace hk := ct hb hk
            refine wpL_sk ?_
            refine gn ?_
            refine wpL_sq ?_
            refine wpL_bl ?_
            refine wpL_sq ?_
            refine wpL_rg ?_
            refine pM (.int _ _) ?_
            obtain ⟨c3, hc3, hk⟩ := bs hk
            refine pX hc3 tE40 tZ3 ?_
            refine pLp (.int _ _) (rd1 (off := 0) hc3 tA3) ?_
            refine pA (.int _ _) ?_
            refine pA (.int _ _) ?_
            refine pE ?_
            refine gn ?_
            refine wpL_sq ?_
            refine wpL_rg ?_
            refine pM (.int _ _) ?_
            refine pM (.int _ _) ?_
            refine pBi ?_
            obtain ⟨v4, hv4, hk⟩ := bs hk
            refine pCall (fun _ => f42_run hv4) ?_
            refine pU ?_
            refine pM (.bool _) ?_
            obtain ⟨t5, ht, hk⟩ := bs hk
            refine wpR_mid (l1 := [_, _, _, _, _, _, _, _]) (fun S' => ∃ J, S' = ⟨hav [(1, .ptr b1 0), (3, .int .i64 (aR0.Next.length : Int)), (35, .lit l1 aR0.Next.length (flat aR0.Next)), (36, .int .i64 (aR0.Next.length : Int)), (37, .int .i64 x2), (55, .bool t5)] J, G⟩) ?_ ?_
            · refine bc (b := !v4) (fun hg1 => ?_) (fun hg1 => ?_)
              · replace hk := ct hg1 ht
                refine pGn hg1 ?_
                refine pGn hg1 ?_
                refine pGn hg1 ?_
                refine pGn hg1 ?_
                refine pGn hg1 ?_
                refine pGn hg1 ?_
                refine pGn hg1 ?_
                refine pPt hg1 (.bool _) ?_
                cases hk; exact pE ⟨_, St.hav _ ⟨rfl, rfl, rfl, rfl, rfl, rfl, trivial⟩⟩
              · replace hk := cf hg1 ht
                refine pGy hg1 ?_
                refine pF tF52_1 ?_
                refine pGy hg1 ?_
                refine pLo hO 0 (.lit _ _ _) tA40 ?_
                refine pGy hg1 ?_
                refine pM (.int _ _) ?_
                refine pGy hg1 ?_
                obtain ⟨c6, hc6, hk⟩ := bs hk
                refine pX hc6 tE40 tZ3 ?_
                refine pGy hg1 ?_
                refine pLp (.int _ _) (rd1 (off := 0) hc6 tA3) ?_
                refine pGy hg1 ?_
                obtain ⟨v7, hv7, hk⟩ := bs hk
                refine pCall (fun _ => f42_run hv7) ?_
                refine pGy hg1 ?_
                refine pU ?_
                refine pPf hg1 (.bool _) ?_
                cases hk; exact pE ⟨_, St.hav _ ⟨rfl, rfl, rfl, rfl, rfl, rfl, trivial⟩⟩
            · rintro _ ⟨J, rfl⟩
              refine pE ?_
              refine gn ?_
              refine wpL_cd (b := t5) (fun hb => ?_) (fun hb => ?_)
              · replace hk := ct hb hk
                refine wpL_sq ?_
                refine wpL_rg ?_
                refine pA (.int _ _) ?_
                refine pE ?_
                refine gn ?_
                refine wpL_rt ?_
                refine br (gr (gr (br (gr ?_))))
                replace hk := lx hx1 hk
                cases hk; exact fin0 hO
              · replace hk := cf hb hk
                refine wpL_sk ?_
                refine bn (gn ?_)
                refine wpL_rg ?_
                refine pBi ?_
                refine pM (.int _ _) ?_
                refine pE ?_
                refine gn ?_
                cases hk; exact ⟨_, rfl, _, _, hO, St.hav _ ⟨rfl, rfl, rfl, rfl, rfl, trivial⟩⟩
          · replace hk := cf hb hk
            refine wpL_ex ?_
            refine ge (ge (be (gn ?_)))
            replace hk := lx hx1 hk
            refine wpL_sq ?_
            refine wpL_sq ?_
            refine wpL_rg ?_
            refine pF tF52_3 ?_
            refine pLo hO 0 (.lit _ _ _) tA47 ?_
            refine pLen tS47 ?_
            refine pM (.int _ _) ?_
            refine pE ?_
            refine gn ?_
            refine wpL_bl ?_
            refine wpL_loopO (F := f24_L2 aR0) (fun s S' => ∃ (J : Nat → V) (G : Heap), Owns H G [] ∧ S' = ⟨hav [(58, .lit l4 aR0.Works.length (flat aR0.Works)), (59, .int .i64 (aR0.Works.length : Int)), (60, .int .i64 s)] J, G⟩) hk ⟨_, _, (Owns.pick hO [] (by decide) rfl), St.hav _ ⟨rfl, rfl, rfl, trivial⟩⟩ ?_
            rintro x8 _ y1 ⟨J, G, hO, rfl⟩ hk hx1
            refine wpL_sq ?_
            refine wpL_rg ?_
            refine pBi ?_
            refine pE ?_
            refine gn ?_
            refine wpL_sq ?_
            refine wpL_cd (b := decide (x8 < (aR0.Works.length : Int))) (fun hb => ?_) (fun hb => ?_)
            · replace hk := ct hb hk
              refine wpL_sk ?_
              refine gn ?_
              refine wpL_sq ?_
              refine wpL_bl ?_
              refine wpL_sq ?_
              refine wpL_rg ?_
              obtain ⟨c9, hc9, hk⟩ := bs hk
              refine pX hc9 tE47 tZ46 ?_
              refine pLp (.lit _ _ _) (rd1 (off := 0) hc9 tA46) ?_
              refine pA (.lit _ _ _) ?_
              refine pE ?_
              refine gn ?_
              refine wpL_sq ?_
              refine wpL_rg ?_
              refine pM (.lit _ _ _) ?_
              refine pLen tS46 ?_
              refine pBi ?_
              refine pE ?_
              refine gn ?_
              refine wpL_cd (b := ((c9.length : Int) != (4:Int))) (fun hb => ?_) (fun hb => ?_)
              · replace hk := ct hb hk
                refine wpL_sq ?_
                refine wpL_rg ?_
                refine pA (.int _ _) ?_
                refine pE ?_
                refine gn ?_
                refine wpL_rt ?_
                refine br (gr (gr (br (gr ?_))))
                replace hk := lx hx1 hk
                cases hk; exact fin0 hO
              · replace hk := cf hb hk
                refine wpL_sk ?_
                refine bn (gn ?_)
                refine wpL_rg ?_
                refine pBi ?_
                refine pM (.int _ _) ?_
                refine pE ?_
                refine gn ?_
                cases hk; exact ⟨_, rfl, _, _, hO, St.hav _ ⟨rfl, rfl, rfl, trivial⟩⟩
            · replace hk := cf hb hk
              refine wpL_ex ?_
              refine ge (ge (be (gn ?_)))
              replace hk := lx hx1 hk
              refine wpL_sq ?_
              refine wpL_rg ?_
              refine pA (.int _ _) ?_
              refine pE ?_
              refine gn ?_
              refine wpL_rt ?_
              cases hk; exact fin0 hO
/-- impl.within -/
def f46 (aX0 : Int) (aLo1 : Int) (aHi2 : Int) : Option Bool :=
  some (decide (aX0 ≥ aLo1) && decide (aX0 ≤ aHi2))
theorem f46_run {aX0 : Int} {aLo1 : Int} {aHi2 : Int} {r : Bool} {H : Heap} {lk : Lk} (hk : f46 aX0 aLo1 aHi2 = some r) (hlk : 0 < lk.length := by simp) : runL Try.prog hh 46 [.int .i64 aX0, .int .i64 aLo1, .int .i64 aHi2] H lk = some (.bool r, H) := by
  refine run_start Try.func46 rfl Try.ntmps46 Try.results46 rfl rfl fun hO => ?_
  unfold f46 at hk
  refine wpL_sq ?_
  refine wpL_rg ?_
  refine pA (.bool _) ?_
  refine pE ?_
  refine gn ?_
  refine wpL_sq ?_
  refine wpL_rg ?_
  refine pM (.int _ _) ?_
  refine pM (.int _ _) ?_
  refine pBi ?_
  refine pM (.bool _) ?_
  refine wpR_mid (l1 := [_, _, _, _]) (fun S' => ∃ J, S' = ⟨hav [(14, .bool (decide (aX0 ≥ aLo1) && decide (aX0 ≤ aHi2)))] J, H⟩) ?_ ?_
  · refine bc (b := decide (aX0 ≥ aLo1)) (fun hg1 => ?_) (fun hg1 => ?_)
    · refine pGy hg1 ?_
      refine pM (.int _ _) ?_
      refine pGy hg1 ?_
      refine pM (.int _ _) ?_
      refine pGy hg1 ?_
      refine pBi ?_
      refine pPt hg1 (.bool _) ?_
      exact pE ⟨_, St.hav _ ⟨by rw [hg1]; rfl, trivial⟩⟩
    · refine pGn hg1 ?_
      refine pGn hg1 ?_
      refine pGn hg1 ?_
      refine pPf hg1 (.bool _) ?_
      exact pE ⟨_, St.hav _ ⟨by rw [hg1]; rfl, trivial⟩⟩
  · rintro _ ⟨J, rfl⟩
    refine pA (.bool _) ?_
    refine pE ?_
    refine gn ?_
    refine wpL_rt ?_
    cases hk; exact fin0 hO
/-- impl.RowOk -/
def f26_L2 (aR0 : Row) : Int → Option (Int ⊕ Int) := fun s =>
  (bif decide (s < (aR0.Works.length : Int)) then ((getI aR0.Works s).bind fun c9 => (bif ((c9.length : Int) != (4:Int)) then ((some (3:Int)).map Sum.inr) else some (.inl (w64 (s + (1:Int)))))) else ((some (0:Int)).map Sum.inr))
def f26_L1 (aR0 : Row) : Int → Option (Int ⊕ Int) := fun s =>
  (bif decide (s < (aR0.Next.length : Int)) then ((getI aR0.Next s).bind fun c3 => ((f46 c3 (-1:Int) (w64 ((aR0.Next.length : Int) - (1:Int)))).bind fun v4 => ((bif !v4 then some true else ((getI aR0.Far s).bind fun c6 => ((f46 c6 (0:Int) (1000000:Int)).bind fun v7 => some (!v7)))).bind fun t5 => (bif t5 then ((some (2:Int)).map Sum.inr) else some (.inl (w64 (s + (1:Int)))))))) else ((loopO (f26_L2 aR0) ((0:Int))).map Sum.inr))
def f26 (aR0 : Row) : Option Int :=
  (bif (((decide ((aR0.Next.length : Int) > (60:Int)) || ((aR0.Far.length : Int) != (aR0.Next.length : Int))) || ((aR0.Open.length : Int) != (aR0.Next.length : Int))) || ((aR0.Works.length : Int) != (aR0.Next.length : Int))) then some (1:Int) else (loopO (f26_L1 aR0) ((0:Int))))
theorem f26_run {aR0 : Row} {r : Int} {l1 l2 l3 l4 : Nat} {H : Heap} {lk : Lk} (hk : f26 aR0 = some r) (hlk : 0 < lk.length := by simp) : runL Try.prog hh 26 [.agg [.lit l1 aR0.Next.length (flat aR0.Next), .lit l2 aR0.Far.length (flat aR0.Far), .lit l3 aR0.Open.length (flat aR0.Open), .lit l4 aR0.Works.length (flat aR0.Works)]] H lk = some (.int .i64 r, H) := by
  refine run_start Try.func26 rfl Try.ntmps26 Try.results26 rfl rfl fun hO => ?_
  unfold f26 at hk
  refine wpL_sq ?_
  refine wpL_rg ?_
  refine pBox (cs := [_, _, _, _]) hO tZ52 (fun b1 G hO => ?_)
  refine pA (.int _ _) ?_
  refine pE ?_
  refine gn ?_
  refine wpL_sq ?_
  refine wpL_rg ?_
  refine pF tF52_0 ?_
  refine pLo hO 0 (.lit _ _ _) tA40 ?_
  refine pLen tS40 ?_
  refine pA (.int _ _) ?_
  refine pE ?_
  refine gn ?_
  refine wpL_sq ?_
  refine wpL_sq ?_
  refine wpL_rg ?_
  refine pM (.int _ _) ?_
  refine pBi ?_
  refine pM (.bool _) ?_
  refine wpR_mid (l1 := [_, _, _, _, _, _]) (fun S' => ∃ J, S' = ⟨hav [(1, .ptr b1 0), (3, .int .i64 (aR0.Next.length : Int)), (18, .bool (decide ((aR0.Next.length : Int) > (60:Int)) || ((aR0.Far.length : Int) != (aR0.Next.length : Int))))] J, G⟩) ?_ ?_
  · refine bc (b := decide ((aR0.Next.length : Int) > (60:Int))) (fun hg1 => ?_) (fun hg1 => ?_)
    · refine pGn hg1 ?_
      refine pGn hg1 ?_
      refine pGn hg1 ?_
      refine pGn hg1 ?_
      refine pGn hg1 ?_
      refine pPt hg1 (.bool _) ?_
      exact pE ⟨_, St.hav _ ⟨rfl, rfl, by rw [hg1]; rfl, trivial⟩⟩
    · refine pGy hg1 ?_
      refine pF tF52_1 ?_
      refine pGy hg1 ?_
      refine pLo hO 0 (.lit _ _ _) tA40 ?_
      refine pGy hg1 ?_
      refine pLen tS40 ?_
      refine pGy hg1 ?_
      refine pM (.int _ _) ?_
      refine pGy hg1 ?_
      refine pBi ?_
      refine pPf hg1 (.bool _) ?_
      exact pE ⟨_, St.hav _ ⟨rfl, rfl, by rw [hg1]; rfl, trivial⟩⟩
  · rintro _ ⟨J, rfl⟩
    refine pM (.bool _) ?_
    refine wpR_mid (l1 := [_, _, _, _, _, _]) (fun S' => ∃ J, S' = ⟨hav [(1, .ptr b1 0), (3, .int .i64 (aR0.Next.length : Int)), (25, .bool ((decide ((aR0.Next.length : Int) > (60:Int)) || ((aR0.Far.length : Int) != (aR0.Next.length : Int))) || ((aR0.Open.length : Int) != (aR0.Next.length : Int))))] J, G⟩) ?_ ?_
    · refine bc (b := (decide ((aR0.Next.length : Int) > (60:Int)) || ((aR0.Far.length : Int) != (aR0.Next.length : Int)))) (fun hg1 => ?_) (fun hg1 => ?_)
      · refine pGn hg1 ?_
        refine pGn hg1 ?_
        refine pGn hg1 ?_
        refine pGn hg1 ?_
        refine pGn hg1 ?_
        refine pPt hg1 (.bool _) ?_
        exact pE ⟨_, St.hav _ ⟨rfl, rfl, by rw [hg1]; rfl, trivial⟩⟩
      · refine pGy hg1 ?_
        refine pF tF52_2 ?_
        refine pGy hg1 ?_
        refine pLo hO 0 (.lit _ _ _) tA46 ?_
        refine pGy hg1 ?_
        refine pLen tS46 ?_
        refine pGy hg1 ?_
        refine pM (.int _ _) ?_
        refine pGy hg1 ?_
        refine pBi ?_
        refine pPf hg1 (.bool _) ?_
        exact pE ⟨_, St.hav _ ⟨rfl, rfl, by rw [hg1]; rfl, trivial⟩⟩
    · rintro _ ⟨J, rfl⟩
      refine pM (.bool _) ?_
      refine wpR_mid (l1 := [_, _, _, _, _, _]) (fun S' => ∃ J, S' = ⟨hav [(1, .ptr b1 0), (3, .int .i64 (aR0.Next.length : Int)), (32, .bool (((decide ((aR0.Next.length : Int) > (60:Int)) || ((aR0.Far.length : Int) != (aR0.Next.length : Int))) || ((aR0.Open.length : Int) != (aR0.Next.length : Int))) || ((aR0.Works.length : Int) != (aR0.Next.length : Int))))] J, G⟩) ?_ ?_
      · refine bc (b := ((decide ((aR0.Next.length : Int) > (60:Int)) || ((aR0.Far.length : Int) != (aR0.Next.length : Int))) || ((aR0.Open.length : Int) != (aR0.Next.length : Int)))) (fun hg1 => ?_) (fun hg1 => ?_)
        · refine pGn hg1 ?_
          refine pGn hg1 ?_
          refine pGn hg1 ?_
          refine pGn hg1 ?_
          refine pGn hg1 ?_
          refine pPt hg1 (.bool _) ?_
          exact pE ⟨_, St.hav _ ⟨rfl, rfl, by rw [hg1]; rfl, trivial⟩⟩
        · refine pGy hg1 ?_
          refine pF tF52_3 ?_
          refine pGy hg1 ?_
          refine pLo hO 0 (.lit _ _ _) tA47 ?_
          refine pGy hg1 ?_
          refine pLen tS47 ?_
          refine pGy hg1 ?_
          refine pM (.int _ _) ?_
          refine pGy hg1 ?_
          refine pBi ?_
          refine pPf hg1 (.bool _) ?_
          exact pE ⟨_, St.hav _ ⟨rfl, rfl, by rw [hg1]; rfl, trivial⟩⟩
      · rintro _ ⟨J, rfl⟩
        refine pE ?_
        refine gn ?_
        refine wpL_cd (b := (((decide ((aR0.Next.length : Int) > (60:Int)) || ((aR0.Far.length : Int) != (aR0.Next.length : Int))) || ((aR0.Open.length : Int) != (aR0.Next.length : Int))) || ((aR0.Works.length : Int) != (aR0.Next.length : Int)))) (fun hb => ?_) (fun hb => ?_)
        · replace hk := ct hb hk
          refine wpL_sq ?_
          refine wpL_rg ?_
          refine pA (.int _ _) ?_
          refine pE ?_
          refine gn ?_
          refine wpL_rt ?_
          refine gr ?_
          cases hk; exact fin0 hO
        · replace hk := cf hb hk
          refine wpL_sk ?_
          refine gn ?_
          refine wpL_sq ?_
          refine wpL_sq ?_
          refine wpL_rg ?_
          refine pM (.int _ _) ?_
          refine pM (.int _ _) ?_
          refine pE ?_
          refine gn ?_
          refine wpL_bl ?_
          refine wpL_loopO (F := f26_L1 aR0) (fun s S' => ∃ (J : Nat → V) (G : Heap), Owns H G [.blk b1 (.cells 4 [.lit l1 aR0.Next.length (flat aR0.Next), .lit l2 aR0.Far.length (flat aR0.Far), .lit l3 aR0.Open.length (flat aR0.Open), .lit l4 aR0.Works.length (flat aR0.Works)])] ∧ S' = ⟨hav [(1, .ptr b1 0), (3, .int .i64 (aR0.Next.length : Int)), (33, .int .i64 (aR0.Next.length : Int)), (34, .int .i64 s)] J, G⟩) hk ⟨_, _, hO, St.hav _ ⟨rfl, rfl, rfl, rfl, trivial⟩⟩ ?_
          rintro x2 _ y1 ⟨J, G, hO, rfl⟩ hk hx1
          refine wpL_sq ?_
          refine wpL_rg ?_
          refine pBi ?_
          refine pE ?_
          refine gn ?_
          refine wpL_sq ?_
          refine wpL_cd (b := decide (x2 < (aR0.Next.length : Int))) (fun hb => ?_) (fun hb => ?_)
          · replace hk := ct hb hk
            refine wpL_sk ?_
            refine gn ?_
            refine wpL_sq ?_
            refine wpL_bl ?_
            refine wpL_sq ?_
            refine wpL_rg ?_
            refine pM (.int _ _) ?_
            refine pA (.int _ _) ?_
            refine pE ?_
            refine gn ?_
            refine wpL_sq ?_
            refine wpL_rg ?_
            refine pF tF52_0 ?_
            refine pLo hO 0 (.lit _ _ _) tA40 ?_
            refine pM (.int _ _) ?_
            obtain ⟨c3, hc3, hk⟩ := bs hk
            refine pX hc3 tE40 tZ3 ?_
            refine pLp (.int _ _) (rd1 (off := 0) hc3 tA3) ?_
            refine pM (.int _ _) ?_
            refine pBi ?_
            obtain ⟨v4, hv4, hk⟩ := bs hk
            refine pCall (fun _ => f46_run hv4) ?_
            refine pU ?_
            refine pM (.bool _) ?_
            obtain ⟨t5, ht, hk⟩ := bs hk
            refine wpR_mid (l1 := [_, _, _, _, _, _, _, _]) (fun S' => ∃ J, S' = ⟨hav [(1, .ptr b1 0), (3, .int .i64 (aR0.Next.length : Int)), (33, .int .i64 (aR0.Next.length : Int)), (34, .int .i64 x2), (54, .bool t5)] J, G⟩) ?_ ?_
            · refine bc (b := !v4) (fun hg1 => ?_) (fun hg1 => ?_)
              · replace hk := ct hg1 ht
                refine pGn hg1 ?_
                refine pGn hg1 ?_
                refine pGn hg1 ?_
                refine pGn hg1 ?_
                refine pGn hg1 ?_
                refine pGn hg1 ?_
                refine pGn hg1 ?_
                refine pPt hg1 (.bool _) ?_
                cases hk; exact pE ⟨_, St.hav _ ⟨rfl, rfl, rfl, rfl, rfl, trivial⟩⟩
              · replace hk := cf hg1 ht
                refine pGy hg1 ?_
                refine pF tF52_1 ?_
                refine pGy hg1 ?_
                refine pLo hO 0 (.lit _ _ _) tA40 ?_
                refine pGy hg1 ?_
                refine pM (.int _ _) ?_
                refine pGy hg1 ?_
                obtain ⟨c6, hc6, hk⟩ := bs hk
                refine pX hc6 tE40 tZ3 ?_
                refine pGy hg1 ?_
                refine pLp (.int _ _) (rd1 (off := 0) hc6 tA3) ?_
                refine pGy hg1 ?_
                obtain ⟨v7, hv7, hk⟩ := bs hk
                refine pCall (fun _ => f46_run hv7) ?_
                refine pGy hg1 ?_
                refine pU ?_
                refine pPf hg1 (.bool _) ?_
                cases hk; exact pE ⟨_, St.hav _ ⟨rfl, rfl, rfl, rfl, rfl, trivial⟩⟩
            · rintro _ ⟨J, rfl⟩
              refine pE ?_
              refine gn ?_
              refine wpL_cd (b := t5) (fun hb => ?_) (fun hb => ?_)
              · replace hk := ct hb hk
                refine wpL_sq ?_
                refine wpL_rg ?_
                refine pA (.int _ _) ?_
                refine pE ?_
                refine gn ?_
                refine wpL_rt ?_
                refine br (gr (gr (br (gr ?_))))
                replace hk := lx hx1 hk
                cases hk; exact fin0 hO
              · replace hk := cf hb hk
                refine wpL_sk ?_
                refine bn (gn ?_)
                refine wpL_rg ?_
                refine pBi ?_
                refine pM (.int _ _) ?_
                refine pE ?_
                refine gn ?_
                cases hk; exact ⟨_, rfl, _, _, hO, St.hav _ ⟨rfl, rfl, rfl, rfl, trivial⟩⟩
          · replace hk := cf hb hk
            refine wpL_ex ?_
            refine ge (ge (be (gn ?_)))
            replace hk := lx hx1 hk
            refine wpL_sq ?_
            refine wpL_sq ?_
            refine wpL_rg ?_
            refine pF tF52_3 ?_
            refine pLo hO 0 (.lit _ _ _) tA47 ?_
            refine pLen tS47 ?_
            refine pM (.int _ _) ?_
            refine pE ?_
            refine gn ?_
            refine wpL_bl ?_
            refine wpL_loopO (F := f26_L2 aR0) (fun s S' => ∃ (J : Nat → V) (G : Heap), Owns H G [] ∧ S' = ⟨hav [(57, .lit l4 aR0.Works.length (flat aR0.Works)), (58, .int .i64 (aR0.Works.length : Int)), (59, .int .i64 s)] J, G⟩) hk ⟨_, _, (Owns.pick hO [] (by decide) rfl), St.hav _ ⟨rfl, rfl, rfl, trivial⟩⟩ ?_
            rintro x8 _ y1 ⟨J, G, hO, rfl⟩ hk hx1
            refine wpL_sq ?_
            refine wpL_rg ?_
            refine pBi ?_
            refine pE ?_
            refine gn ?_
            refine wpL_sq ?_
            refine wpL_cd (b := decide (x8 < (aR0.Works.length : Int))) (fun hb => ?_) (fun hb => ?_)
            · replace hk := ct hb hk
              refine wpL_sk ?_
              refine gn ?_
              refine wpL_sq ?_
              refine wpL_bl ?_
              refine wpL_sq ?_
              refine wpL_rg ?_
              obtain ⟨c9, hc9, hk⟩ := bs hk
              refine pX hc9 tE47 tZ46 ?_
              refine pLp (.lit _ _ _) (rd1 (off := 0) hc9 tA46) ?_
              refine pA (.lit _ _ _) ?_
              refine pE ?_
              refine gn ?_
              refine wpL_sq ?_
              refine wpL_rg ?_
              refine pM (.lit _ _ _) ?_
              refine pLen tS46 ?_
              refine pBi ?_
              refine pE ?_
              refine gn ?_
              refine wpL_cd (b := ((c9.length : Int) != (4:Int))) (fun hb => ?_) (fun hb => ?_)
              · replace hk := ct hb hk
                refine wpL_sq ?_
                refine wpL_rg ?_
                refine pA (.int _ _) ?_
                refine pE ?_
                refine gn ?_
                refine wpL_rt ?_
                refine br (gr (gr (br (gr ?_))))
                replace hk := lx hx1 hk
                cases hk; exact fin0 hO
              · replace hk := cf hb hk
                refine wpL_sk ?_
                refine bn (gn ?_)
                refine wpL_rg ?_
                refine pBi ?_
                refine pM (.int _ _) ?_
                refine pE ?_
                refine gn ?_
                cases hk; exact ⟨_, rfl, _, _, hO, St.hav _ ⟨rfl, rfl, rfl, trivial⟩⟩
            · replace hk := cf hb hk
              refine wpL_ex ?_
              refine ge (ge (be (gn ?_)))
              replace hk := lx hx1 hk
              refine wpL_sq ?_
              refine wpL_rg ?_
              refine pA (.int _ _) ?_
              refine pE ?_
              refine gn ?_
              refine wpL_rt ?_
              cases hk; exact fin0 hO
/-- laws.eqIntS -/
def f19_L1 (aA0 : List Int) (aB1 : List Int) : Int → Option (Int ⊕ Bool) := fun s =>
  (bif decide (s < (aA0.length : Int)) then ((getI aA0 s).bind fun c2 => ((getI aB1 s).bind fun c3 => (bif (c2 != c3) then ((some false).map Sum.inr) else some (.inl (w64 (s + (1:Int))))))) else ((some true).map Sum.inr))
def f19 (aA0 : List Int) (aB1 : List Int) : Option Bool :=
  (bif ((aA0.length : Int) != (aB1.length : Int)) then some false else (loopO (f19_L1 aA0 aB1) ((0:Int))))
theorem f19_run {aA0 : List Int} {aB1 : List Int} {r : Bool} {l1 l2 : Nat} {H : Heap} {lk : Lk} (hk : f19 aA0 aB1 = some r) (hlk : 0 < lk.length := by simp) : runL Try.prog hh 19 [.lit l1 aA0.length (flat aA0), .lit l2 aB1.length (flat aB1)] H lk = some (.bool r, H) := by
  refine run_start Try.func19 rfl Try.ntmps19 Try.results19 rfl rfl fun hO => ?_
  unfold f19 at hk
  refine wpL_sq ?_
  refine wpL_rg ?_
  refine pA (.bool _) ?_
  refine pE ?_
  refine gn ?_
  refine wpL_sq ?_
  refine wpL_sq ?_
  refine wpL_rg ?_
  refine pM (.lit _ _ _) ?_
  refine pLen tS40 ?_
  refine pM (.lit _ _ _) ?_
  refine pLen tS40 ?_
  refine pBi ?_
  refine pE ?_
  refine gn ?_
  refine wpL_cd (b := ((aA0.length : Int) != (aB1.length : Int))) (fun hb => ?_) (fun hb => ?_)
  · replace hk := ct hb hk
    refine wpL_sq ?_
    refine wpL_rg ?_
    refine pA (.bool _) ?_
    refine pE ?_
    refine gn ?_
    refine wpL_rt ?_
    refine gr ?_
    cases hk; exact fin0 hO
  · replace hk := cf hb hk
    refine wpL_sk ?_
    refine gn ?_
    refine wpL_sq ?_
    refine wpL_sq ?_
    refine wpL_rg ?_
    refine pA (.int _ _) ?_
    refine pE ?_
    refine gn ?_
    refine wpL_bl ?_
    refine wpL_loopO (F := f19_L1 aA0 aB1) (fun s S' => ∃ (J : Nat → V) (G : Heap), Owns H G [] ∧ S' = ⟨hav [(0, .lit l1 aA0.length (flat aA0)), (1, .lit l2 aB1.length (flat aB1)), (5, .int .i64 s)] J, G⟩) hk ⟨_, _, hO, St.hav _ ⟨rfl, rfl, rfl, trivial⟩⟩ ?_
    rintro x1 _ y1 ⟨J, G, hO, rfl⟩ hk hx1
    refine wpL_sq ?_
    refine wpL_sq ?_
    refine wpL_rg ?_
    refine pM (.int _ _) ?_
    refine pM (.lit _ _ _) ?_
    refine pLen tS40 ?_
    refine pBi ?_
    refine pE ?_
    refine gn ?_
    refine wpL_cd (b := decide (x1 < (aA0.length : Int))) (fun hb => ?_) (fun hb => ?_)
    · replace hk := ct hb hk
      refine wpL_sk ?_
      refine gn ?_
      refine wpL_sq ?_
      refine wpL_bl ?_
      refine wpL_sq ?_
      refine wpL_drw [(0, true), (1, true), (2, true), (3, true), (4, true), (5, true), (6, true), (7, true), (8, false)] [_, _, _, _, _, _, _, _, _] (by decide +kernel) (by rfl) ?_
      refine pM (.lit _ _ _) ?_
      refine pM (.int _ _) ?_
      obtain ⟨c2, hc2, hk⟩ := bs hk
      refine pX hc2 tE40 tZ3 ?_
      refine pLp (.int _ _) (rd1 (off := 0) hc2 tA3) ?_
      refine pM (.lit _ _ _) ?_
      refine pM (.int _ _) ?_
      obtain ⟨c3, hc3, hk⟩ := bs hk
      refine pX hc3 tE40 tZ3 ?_
      refine pLp (.int _ _) (rd1 (off := 0) hc3 tA3) ?_
      refine pBi ?_
      refine pE ?_
      refine gn ?_
      refine wpL_cd (b := (c2 != c3)) (fun hb => ?_) (fun hb => ?_)
      · replace hk := ct hb hk
        refine wpL_sq ?_
        refine wpL_rg ?_
        refine pA (.bool _) ?_
        refine pE ?_
        refine gn ?_
        refine wpL_rt ?_
        refine br (gr (gr (br (gr ?_))))
        replace hk := lx hx1 hk
        cases hk; exact fin0 hO
      · replace hk := cf hb hk
        refine wpL_sk ?_
        refine bn (gn ?_)
        refine wpL_rg ?_
        refine pM (.int _ _) ?_
        refine pBi ?_
        refine pA (.int _ _) ?_
        refine pE ?_
        refine gn ?_
        cases hk; exact ⟨_, rfl, _, _, hO, St.hav _ ⟨rfl, rfl, rfl, trivial⟩⟩
    · replace hk := cf hb hk
      refine wpL_ex ?_
      refine ge (ge (be (gn ?_)))
      replace hk := lx hx1 hk
      refine wpL_sq ?_
      refine wpL_rg ?_
      refine pA (.bool _) ?_
      refine pE ?_
      refine gn ?_
      refine wpL_rt ?_
      cases hk; exact fin0 hO
/-- laws.eqBoolS -/
def f47_L1 (aA0 : List Bool) (aB1 : List Bool) : Int → Option (Int ⊕ Bool) := fun s =>
  (bif decide (s < (aA0.length : Int)) then ((getI aA0 s).bind fun c2 => ((getI aB1 s).bind fun c3 => (bif !(c2 == c3) then ((some false).map Sum.inr) else some (.inl (w64 (s + (1:Int))))))) else ((some true).map Sum.inr))
def f47 (aA0 : List Bool) (aB1 : List Bool) : Option Bool :=
  (bif ((aA0.length : Int) != (aB1.length : Int)) then some false else (loopO (f47_L1 aA0 aB1) ((0:Int))))
theorem f47_run {aA0 : List Bool} {aB1 : List Bool} {r : Bool} {l1 l2 : Nat} {H : Heap} {lk : Lk} (hk : f47 aA0 aB1 = some r) (hlk : 0 < lk.length := by simp) : runL Try.prog hh 47 [.lit l1 aA0.length (flat aA0), .lit l2 aB1.length (flat aB1)] H lk = some (.bool r, H) := by
  refine run_start Try.func47 rfl Try.ntmps47 Try.results47 rfl rfl fun hO => ?_
  unfold f47 at hk
  refine wpL_sq ?_
  refine wpL_rg ?_
  refine pA (.bool _) ?_
  refine pE ?_
  refine gn ?_
  refine wpL_sq ?_
  refine wpL_sq ?_
  refine wpL_rg ?_
  refine pM (.lit _ _ _) ?_
  refine pLen tS46 ?_
  refine pM (.lit _ _ _) ?_
  refine pLen tS46 ?_
  refine pBi ?_
  refine pE ?_
  refine gn ?_
  refine wpL_cd (b := ((aA0.length : Int) != (aB1.length : Int))) (fun hb => ?_) (fun hb => ?_)
  · replace hk := ct hb hk
    refine wpL_sq ?_
    refine wpL_rg ?_
    refine pA (.bool _) ?_
    refine pE ?_
    refine gn ?_
    refine wpL_rt ?_
    refine gr ?_
    cases hk; exact fin0 hO
  · replace hk := cf hb hk
    refine wpL_sk ?_
    refine gn ?_
    refine wpL_sq ?_
    refine wpL_sq ?_
    refine wpL_rg ?_
    refine pA (.int _ _) ?_
    refine pE ?_
    refine gn ?_
    refine wpL_bl ?_
    refine wpL_loopO (F := f47_L1 aA0 aB1) (fun s S' => ∃ (J : Nat → V) (G : Heap), Owns H G [] ∧ S' = ⟨hav [(0, .lit l1 aA0.length (flat aA0)), (1, .lit l2 aB1.length (flat aB1)), (5, .int .i64 s)] J, G⟩) hk ⟨_, _, hO, St.hav _ ⟨rfl, rfl, rfl, trivial⟩⟩ ?_
    rintro x1 _ y1 ⟨J, G, hO, rfl⟩ hk hx1
    refine wpL_sq ?_
    refine wpL_sq ?_
    refine wpL_rg ?_
    refine pM (.int _ _) ?_
    refine pM (.lit _ _ _) ?_
    refine pLen tS46 ?_
    refine pBi ?_
    refine pE ?_
    refine gn ?_
    refine wpL_cd (b := decide (x1 < (aA0.length : Int))) (fun hb => ?_) (fun hb => ?_)
    · replace hk := ct hb hk
      refine wpL_sk ?_
      refine gn ?_
      refine wpL_sq ?_
      refine wpL_bl ?_
      refine wpL_sq ?_
      refine wpL_drw [(0, true), (1, true), (2, true), (3, true), (4, true), (5, true), (6, true), (7, true), (8, false)] [_, _, _, _, _, _, _, _, _] (by decide +kernel) (by rfl) ?_
      refine pM (.lit _ _ _) ?_
      refine pM (.int _ _) ?_
      obtain ⟨c2, hc2, hk⟩ := bs hk
      refine pX hc2 tE46 tZ4 ?_
      refine pLp (.bool _) (rd1 (off := 0) hc2 tA4) ?_
      refine pM (.lit _ _ _) ?_
      refine pM (.int _ _) ?_
      obtain ⟨c3, hc3, hk⟩ := bs hk
      refine pX hc3 tE46 tZ4 ?_
      refine pLp (.bool _) (rd1 (off := 0) hc3 tA4) ?_
      refine pBn Try.underlying4 ?_
      refine pE ?_
      refine gn ?_
      refine wpL_cd (b := !(c2 == c3)) (fun hb => ?_) (fun hb => ?_)
      · replace hk := ct hb hk
        refine wpL_sq ?_
        refine wpL_rg ?_
        refine pA (.bool _) ?_
        refine pE ?_
        refine gn ?_
        refine wpL_rt ?_
        refine br (gr (gr (br (gr ?_))))
        replace hk := lx hx1 hk
        cases hk; exact fin0 hO
      · replace hk := cf hb hk
        refine wpL_sk ?_
        refine bn (gn ?_)
        refine wpL_rg ?_
        refine pM (.int _ _) ?_
        refine pBi ?_
        refine pA (.int _ _) ?_
        refine pE ?_
        refine gn ?_
        cases hk; exact ⟨_, rfl, _, _, hO, St.hav _ ⟨rfl, rfl, rfl, trivial⟩⟩
    · replace hk := cf hb hk
      refine wpL_ex ?_
      refine ge (ge (be (gn ?_)))
      replace hk := lx hx1 hk
      refine wpL_sq ?_
      refine wpL_rg ?_
      refine pA (.bool _) ?_
      refine pE ?_
      refine gn ?_
      refine wpL_rt ?_
      cases hk; exact fin0 hO
/-- laws.eqBoolSS -/
def f48_L1 (aA0 : List (List Bool)) (aB1 : List (List Bool)) : Int → Option (Int ⊕ Bool) := fun s =>
  (bif decide (s < (aA0.length : Int)) then ((getI aA0 s).bind fun c2 => ((getI aB1 s).bind fun c3 => ((f47 c2 c3).bind fun v4 => (bif !v4 then ((some false).map Sum.inr) else some (.inl (w64 (s + (1:Int)))))))) else ((some true).map Sum.inr))
def f48 (aA0 : List (List Bool)) (aB1 : List (List Bool)) : Option Bool :=
  (bif ((aA0.length : Int) != (aB1.length : Int)) then some false else (loopO (f48_L1 aA0 aB1) ((0:Int))))
theorem f48_run {aA0 : List (List Bool)} {aB1 : List (List Bool)} {r : Bool} {l1 l2 : Nat} {H : Heap} {lk : Lk} (hk : f48 aA0 aB1 = some r) (hlk : 0 < lk.length := by simp) : runL Try.prog hh 48 [.lit l1 aA0.length (flat aA0), .lit l2 aB1.length (flat aB1)] H lk = some (.bool r, H) := by
  refine run_start Try.func48 rfl Try.ntmps48 Try.results48 rfl rfl fun hO => ?_
  unfold f48 at hk
  refine wpL_sq ?_
  refine wpL_rg ?_
  refine pA (.bool _) ?_
  refine pE ?_
  refine gn ?_
  refine wpL_sq ?_
  refine wpL_sq ?_
  refine wpL_rg ?_
  refine pM (.lit _ _ _) ?_
  refine pLen tS47 ?_
  refine pM (.lit _ _ _) ?_
  refine pLen tS47 ?_
  refine pBi ?_
  refine pE ?_
  refine gn ?_
  refine wpL_cd (b := ((aA0.length : Int) != (aB1.length : Int))) (fun hb => ?_) (fun hb => ?_)
  · replace hk := ct hb hk
    refine wpL_sq ?_
    refine wpL_rg ?_
    refine pA (.bool _) ?_
    refine pE ?_
    refine gn ?_
    refine wpL_rt ?_
    refine gr ?_
    cases hk; exact fin0 hO
  · replace hk := cf hb hk
    refine wpL_sk ?_
    refine gn ?_
    refine wpL_sq ?_
    refine wpL_sq ?_
    refine wpL_rg ?_
    refine pA (.int _ _) ?_
    refine pE ?_
    refine gn ?_
    refine wpL_bl ?_
    refine wpL_loopO (F := f48_L1 aA0 aB1) (fun s S' => ∃ (J : Nat → V) (G : Heap), Owns H G [] ∧ S' = ⟨hav [(0, .lit l1 aA0.length (flat aA0)), (1, .lit l2 aB1.length (flat aB1)), (5, .int .i64 s)] J, G⟩) hk ⟨_, _, hO, St.hav _ ⟨rfl, rfl, rfl, trivial⟩⟩ ?_
    rintro x1 _ y1 ⟨J, G, hO, rfl⟩ hk hx1
    refine wpL_sq ?_
    refine wpL_sq ?_
    refine wpL_rg ?_
    refine pM (.int _ _) ?_
    refine pM (.lit _ _ _) ?_
    refine pLen tS47 ?_
    refine pBi ?_
    refine pE ?_
    refine gn ?_
    refine wpL_cd (b := decide (x1 < (aA0.length : Int))) (fun hb => ?_) (fun hb => ?_)
    · replace hk := ct hb hk
      refine wpL_sk ?_
      refine gn ?_
      refine wpL_sq ?_
      refine wpL_bl ?_
      refine wpL_sq ?_
      refine wpL_drw [(0, true), (1, true), (2, true), (3, true), (4, true), (5, true), (6, true), (7, true), (8, false), (9, false)] [_, _, _, _, _, _, _, _, _, _] (by decide +kernel) (by rfl) ?_
      refine pM (.lit _ _ _) ?_
      refine pM (.int _ _) ?_
      obtain ⟨c2, hc2, hk⟩ := bs hk
      refine pX hc2 tE47 tZ46 ?_
      refine pLp (.lit _ _ _) (rd1 (off := 0) hc2 tA46) ?_
      refine pM (.lit _ _ _) ?_
      refine pM (.int _ _) ?_
      obtain ⟨c3, hc3, hk⟩ := bs hk
      refine pX hc3 tE47 tZ46 ?_
      refine pLp (.lit _ _ _) (rd1 (off := 0) hc3 tA46) ?_
      obtain ⟨v4, hv4, hk⟩ := bs hk
      refine pCall (fun _ => f47_run hv4) ?_
      refine pU ?_
      refine pE ?_
      refine gn ?_
      refine wpL_cd (b := !v4) (fun hb => ?_) (fun hb => ?_)
      · replace hk := ct hb hk
        refine wpL_sq ?_
        refine wpL_rg ?_
        refine pA (.bool _) ?_
        refine pE ?_
        refine gn ?_
        refine wpL_rt ?_
        refine br (gr (gr (br (gr ?_))))
        replace hk := lx hx1 hk
        cases hk; exact fin0 hO
      · replace hk := cf hb hk
        refine wpL_sk ?_
        refine bn (gn ?_)
        refine wpL_rg ?_
        refine pM (.int _ _) ?_
        refine pBi ?_
        refine pA (.int _ _) ?_
        refine pE ?_
        refine gn ?_
        cases hk; exact ⟨_, rfl, _, _, hO, St.hav _ ⟨rfl, rfl, rfl, trivial⟩⟩
    · replace hk := cf hb hk
      refine wpL_ex ?_
      refine ge (ge (be (gn ?_)))
      replace hk := lx hx1 hk
      refine wpL_sq ?_
      refine wpL_rg ?_
      refine pA (.bool _) ?_
      refine pE ?_
      refine gn ?_
      refine wpL_rt ?_
      cases hk; exact fin0 hO
/-- laws.eqRow -/
def f27 (aA0 : Row) (aB1 : Row) : Option Bool :=
  ((f19 aA0.Next aB1.Next).bind fun v3 => (bif !v3 then some false else ((f19 aA0.Far aB1.Far).bind fun v4 => (bif !v4 then some false else ((f47 aA0.Open aB1.Open).bind fun v5 => (bif !v5 then some false else ((f48 aA0.Works aB1.Works).bind fun v6 => (bif !v6 then some false else some true))))))))
theorem f27_run {aA0 : Row} {aB1 : Row} {r : Bool} {l1 l2 l3 l4 l5 l6 l7 l8 : Nat} {H : Heap} {lk : Lk} (hk : f27 aA0 aB1 = some r) (hlk : 0 < lk.length := by simp) : runL Try.prog hh 27 [.agg [.lit l1 aA0.Next.length (flat aA0.Next), .lit l2 aA0.Far.length (flat aA0.Far), .lit l3 aA0.Open.length (flat aA0.Open), .lit l4 aA0.Works.length (flat aA0.Works)], .agg [.lit l5 aB1.Next.length (flat aB1.Next), .lit l6 aB1.Far.length (flat aB1.Far), .lit l7 aB1.Open.length (flat aB1.Open), .lit l8 aB1.Works.length (flat aB1.Works)]] H lk = some (.bool r, H) := by
  refine run_start Try.func27 rfl Try.ntmps27 Try.results27 rfl rfl fun hO => ?_
  unfold f27 at hk
  refine wpL_sq ?_
  refine wpL_rg ?_
  refine pBox (cs := [_, _, _, _]) hO tZ52 (fun b1 G hO => ?_)
  refine pBox (cs := [_, _, _, _]) hO tZ52 (fun b2 G hO => ?_)
  refine pA (.bool _) ?_
  refine pE ?_
  refine gn ?_
  refine wpL_sq ?_
  refine wpL_sq ?_
  refine wpL_rg ?_
  refine pF tF52_0 ?_
  refine pLo hO 1 (.lit _ _ _) tA40 ?_
  refine pF tF52_0 ?_
  refine pLo hO 0 (.lit _ _ _) tA40 ?_
  obtain ⟨v3, hv3, hk⟩ := bs hk
  refine pCall (fun _ => f19_run hv3) ?_
  refine pU ?_
  refine pE ?_
  refine gn ?_
  refine wpL_cd (b := !v3) (fun hb => ?_) (fun hb => ?_)
  · replace hk := ct hb hk
    refine wpL_sq ?_
    refine wpL_rg ?_
    refine pA (.bool _) ?_
    refine pE ?_
    refine gn ?_
    refine wpL_rt ?_
    refine gr ?_
    cases hk; exact fin0 hO
  · replace hk := cf hb hk
    refine wpL_sk ?_
    refine gn ?_
    refine wpL_sq ?_
    refine wpL_sq ?_
    refine wpL_rg ?_
    refine pF tF52_1 ?_
    refine pLo hO 1 (.lit _ _ _) tA40 ?_
    refine pF tF52_1 ?_
    refine pLo hO 0 (.lit _ _ _) tA40 ?_
    obtain ⟨v4, hv4, hk⟩ := bs hk
    refine pCall (fun _ => f19_run hv4) ?_
    refine pU ?_
    refine pE ?_
    refine gn ?_
    refine wpL_cd (b := !v4) (fun hb => ?_) (fun hb => ?_)
    · replace hk := ct hb hk
      refine wpL_sq ?_
      refine wpL_rg ?_
      refine pA (.bool _) ?_
      refine pE ?_
      refine gn ?_
      refine wpL_rt ?_
      refine gr ?_
      cases hk; exact fin0 hO
    · replace hk := cf hb hk
      refine wpL_sk ?_
      refine gn ?_
      refine wpL_sq ?_
      refine wpL_sq ?_
      refine wpL_rg ?_
      refine pF tF52_2 ?_
      refine pLo hO 1 (.lit _ _ _) tA46 ?_
      refine pF tF52_2 ?_
      refine pLo hO 0 (.lit _ _ _) tA46 ?_
      obtain ⟨v5, hv5, hk⟩ := bs hk
      refine pCall (fun _ => f47_run hv5) ?_
      refine pU ?_
      refine pE ?_
      refine gn ?_
      refine wpL_cd (b := !v5) (fun hb => ?_) (fun hb => ?_)
      · replace hk := ct hb hk
        refine wpL_sq ?_
        refine wpL_rg ?_
        refine pA (.bool _) ?_
        refine pE ?_
        refine gn ?_
        refine wpL_rt ?_
        refine gr ?_
        cases hk; exact fin0 hO
      · replace hk := cf hb hk
        refine wpL_sk ?_
        refine gn ?_
        refine wpL_sq ?_
        refine wpL_sq ?_
        refine wpL_rg ?_
        refine pF tF52_3 ?_
        refine pLo hO 1 (.lit _ _ _) tA47 ?_
        refine pF tF52_3 ?_
        refine pLo hO 0 (.lit _ _ _) tA47 ?_
        obtain ⟨v6, hv6, hk⟩ := bs hk
        refine pCall (fun _ => f48_run hv6) ?_
        refine pU ?_
        refine pE ?_
        refine gn ?_
        refine wpL_cd (b := !v6) (fun hb => ?_) (fun hb => ?_)
        · replace hk := ct hb hk
          refine wpL_sq ?_
          refine wpL_rg ?_
          refine pA (.bool _) ?_
          refine pE ?_
          refine gn ?_
          refine wpL_rt ?_
          refine gr ?_
          cases hk; exact fin0 hO
        · replace hk := cf hb hk
          refine wpL_sk ?_
          refine gn ?_
          refine wpL_sq ?_
          refine wpL_rg ?_
          refine pA (.bool _) ?_
          refine pE ?_
          refine gn ?_
          refine wpL_rt ?_
          cases hk; exact fin0 hO
/-- laws.FnExactRowOk -/
def f7 (aAR0 : Row) : Option Bool :=
  ((f23 aAR0 (1048576:Int)).bind fun v2 => (bif decide (v2 < (0:Int)) then some true else ((f25 aAR0).bind fun v3 => ((f24 v3).bind fun v4 => ((f25 aAR0).bind fun v5 => ((f26 v5).bind fun v7 => (bif (v7 != v4) then some false else ((f25 aAR0).bind fun v8 => ((f27 v5 v8).bind fun v9 => (bif !v9 then some false else some true))))))))))
theorem f7_run {aAR0 : Row} {r : Bool} {l1 l2 l3 l4 : Nat} {H : Heap} {lk : Lk} (hk : f7 aAR0 = some r) (hlk : 0 < lk.length := by simp) : runL Try.prog hh 7 [.agg [.lit l1 aAR0.Next.length (flat aAR0.Next), .lit l2 aAR0.Far.length (flat aAR0.Far), .lit l3 aAR0.Open.length (flat aAR0.Open), .lit l4 aAR0.Works.length (flat aAR0.Works)]] H lk = some (.bool r, H) := by
  refine run_start Try.func7 rfl Try.ntmps7 Try.results7 rfl rfl fun hO => ?_
  unfold f7 at hk
  refine wpL_sq ?_
  refine wpL_rg ?_
  refine pBox (cs := [_, _, _, _]) hO tZ49 (fun b1 G hO => ?_)
  refine pA (.bool _) ?_
  refine pE ?_
  refine gn ?_
  refine wpL_sq ?_
  refine wpL_rg ?_
  refine pA (.int _ _) ?_
  refine pE ?_
  refine gn ?_
  refine wpL_sq ?_
  refine wpL_rg ?_
  refine pLs hO 0 [_, _, _, _] tA49 tZ49 ?_
  refine pM (.int _ _) ?_
  obtain ⟨v2, hv2, hk⟩ := bs hk
  refine pCall (fun _ => f23_run hv2) ?_
  refine pA (.int _ _) ?_
  refine pE ?_
  refine gn ?_
  refine wpL_sq ?_
  refine wpL_sq ?_
  refine wpL_rg ?_
  refine pM (.int _ _) ?_
  refine pBi ?_
  refine pE ?_
  refine gn ?_
  refine wpL_cd (b := decide (v2 < (0:Int))) (fun hb => ?_) (fun hb => ?_)
  · replace hk := ct hb hk
    refine wpL_sq ?_
    refine wpL_rg ?_
    refine pA (.bool _) ?_
    refine pE ?_
    refine gn ?_
    refine wpL_rt ?_
    refine gr ?_
    cases hk; exact fin0 hO
  · replace hk := cf hb hk
    refine wpL_sk ?_
    refine gn ?_
    refine wpL_sq ?_
    refine wpL_rg ?_
    refine pLs hO 0 [_, _, _, _] tA49 tZ49 ?_
    obtain ⟨v3, hv3, hk⟩ := bs hk
    refine pCall (fun _ => f25_run hv3) ?_
    obtain ⟨v4, hv4, hk⟩ := bs hk
    refine pCall (fun _ => f24_run hv4) ?_
    refine pA (.int _ _) ?_
    refine pE ?_
    refine gn ?_
    refine wpL_sq ?_
    refine wpL_rg ?_
    refine pLs hO 0 [_, _, _, _] tA49 tZ49 ?_
    obtain ⟨v5, hv5, hk⟩ := bs hk
    refine pCall (fun _ => f25_run hv5) ?_
    refine pNew hO tZ52 t052 (fun b6 G hO => ?_)
    refine pSt (xs := [_, _, _, _]) hO 0 tZ52 rfl (fun G hO => ?_)
    refine pE ?_
    refine gn ?_
    refine wpL_sq ?_
    refine wpL_rg ?_
    refine pLs hO 0 [_, _, _, _] tA52 tZ52 ?_
    obtain ⟨v7, hv7, hk⟩ := bs hk
    refine pCall (fun _ => f26_run hv7) ?_
    refine pA (.int _ _) ?_
    refine pE ?_
    refine gn ?_
    refine wpL_sq ?_
    refine wpL_sq ?_
    refine wpL_rg ?_
    refine pM (.int _ _) ?_
    refine pM (.int _ _) ?_
    refine pBi ?_
    refine pE ?_
    refine gn ?_
    refine wpL_cd (b := (v7 != v4)) (fun hb => ?_) (fun hb => ?_)
    · replace hk := ct hb hk
      refine wpL_sq ?_
      refine wpL_rg ?_
      refine pA (.bool _) ?_
      refine pE ?_
      refine gn ?_
      refine wpL_rt ?_
      refine gr ?_
      cases hk; exact fin0 hO
    · replace hk := cf hb hk
      refine wpL_sk ?_
      refine gn ?_
      refine wpL_sq ?_
      refine wpL_sq ?_
      refine wpL_drw [(0, true), (1, true), (2, true), (3, false), (4, false)] [_, _, _, _, _] (by decide +kernel) (by rfl) ?_
      refine pLs hO 0 [_, _, _, _] tA52 tZ52 ?_
      refine pLs hO 1 [_, _, _, _] tA49 tZ49 ?_
      obtain ⟨v8, hv8, hk⟩ := bs hk
      refine pCall (fun _ => f25_run hv8) ?_
      obtain ⟨v9, hv9, hk⟩ := bs hk
      refine pCall (fun _ => f27_run hv9) ?_
      refine pU ?_
      refine pE ?_
      refine gn ?_
      refine wpL_cd (b := !v9) (fun hb => ?_) (fun hb => ?_)
      · replace hk := ct hb hk
        refine wpL_sq ?_
        refine wpL_rg ?_
        refine pA (.bool _) ?_
        refine pE ?_
        refine gn ?_
        refine wpL_rt ?_
        refine gr ?_
        cases hk; exact fin0 hO
      · replace hk := cf hb hk
        refine wpL_sk ?_
        refine gn ?_
        refine wpL_sq ?_
        refine wpL_rg ?_
        refine pA (.bool _) ?_
        refine pE ?_
        refine gn ?_
        refine wpL_rt ?_
        cases hk; exact fin0 hO
end
end Go.Proofs.Ytibdgkckacmfaaa.K
