/-
  The functions that FnExactCountEventOk reaches, as typed Lean functions, and that the interpreter computes them. No conditions.
-/
import Derived.Test.YtibdgkckacmfaaaKt
import Derived.Test.YtibdgkckacmfaaaProg
set_option linter.unusedVariables false
set_option linter.unusedSimpArgs false
set_option maxRecDepth 100000
namespace Go.Proofs.Ytibdgkckacmfaaa.K
noncomputable section
def hh : Hints := { modes := fun _ => [], thaw := fun _ => false, grow := fun _ => false, keep := fun _ => false }
structure Counter where
  From : Int
  To : Int
instance : GoT Counter := ⟨2, by decide, fun x => GoT.enc x.From ++ (GoT.enc x.To), fun x => by simp only [List.length_append, GoT.len]; rfl, fun x => by simp only [cleanL_append, GoT.clean]; rfl, fun x => by simp only [List.all_append, GoT.cell]; rfl⟩
structure Layout where
  Sections : Int
  Counters : List Counter
instance : GoT Layout := ⟨2, by decide, fun x => GoT.enc x.Sections ++ (GoT.enc x.Counters), fun x => by simp only [List.length_append, GoT.len]; rfl, fun x => by simp only [cleanL_append, GoT.clean]; rfl, fun x => by simp only [List.all_append, GoT.cell]; rfl⟩
structure CountEvent where
  Op : Int
  Of : Int
  Dir : Int
instance : GoT CountEvent := ⟨3, by decide, fun x => GoT.enc x.Op ++ (GoT.enc x.Of ++ (GoT.enc x.Dir)), fun x => by simp only [List.length_append, GoT.len]; rfl, fun x => by simp only [cleanL_append, GoT.clean]; rfl, fun x => by simp only [List.all_append, GoT.cell]; rfl⟩
theorem tZ25 : szOf Try.prog 25 = some 2 := by rfl
theorem tZ35 : szOf Try.prog 35 = some 3 := by rfl
theorem tA25 : aggT Try.prog 25 = some true := by rfl
theorem tF25_1 : fieldOff Try.prog 25 1 = some 1 := by rfl
theorem tA23 : aggT Try.prog 23 = some false := by rfl
theorem tS23 : strT Try.prog 23 = some false := by rfl
theorem tA35 : aggT Try.prog 35 = some true := by rfl
theorem tZ30 : szOf Try.prog 30 = some 2 := by rfl
theorem t030 : zeroOf Try.prog 30 = some [.int .i64 0, (.tl 0 [])] := by rfl
theorem tF25_0 : fieldOff Try.prog 25 0 = some 0 := by rfl
theorem tA3 : aggT Try.prog 3 = some false := by rfl
theorem tF30_0 : fieldOff Try.prog 30 0 = some 0 := by rfl
theorem tZ3 : szOf Try.prog 3 = some 1 := by rfl
theorem tE28 : elemT Try.prog 28 = some 65 := by rfl
theorem tZ65 : szOf Try.prog 65 = some 2 := by rfl
theorem tB65 : bytesOf Try.prog 65 = some 16 := by rfl
theorem t065 : zeroOf Try.prog 65 = some [.int .i64 0, .int .i64 0] := by rfl
theorem tE23 : elemT Try.prog 23 = some 80 := by rfl
theorem tZ80 : szOf Try.prog 80 = some 2 := by rfl
theorem tA80 : aggT Try.prog 80 = some true := by rfl
theorem tF80_0 : fieldOff Try.prog 80 0 = some 0 := by rfl
theorem tF65_0 : fieldOff Try.prog 65 0 = some 0 := by rfl
theorem tF80_1 : fieldOff Try.prog 80 1 = some 1 := by rfl
theorem tF65_1 : fieldOff Try.prog 65 1 = some 1 := by rfl
theorem tA65 : aggT Try.prog 65 = some true := by rfl
theorem tF30_1 : fieldOff Try.prog 30 1 = some 1 := by rfl
theorem tZ28 : szOf Try.prog 28 = some 1 := by rfl
theorem tA30 : aggT Try.prog 30 = some true := by rfl
theorem tZ37 : szOf Try.prog 37 = some 3 := by rfl
theorem t037 : zeroOf Try.prog 37 = some [.int .i64 0, .int .i64 0, .int .i64 0] := by rfl
theorem tF35_0 : fieldOff Try.prog 35 0 = some 0 := by rfl
theorem tF37_0 : fieldOff Try.prog 37 0 = some 0 := by rfl
theorem tF35_1 : fieldOff Try.prog 35 1 = some 1 := by rfl
theorem tF37_1 : fieldOff Try.prog 37 1 = some 1 := by rfl
theorem tF35_2 : fieldOff Try.prog 35 2 = some 2 := by rfl
theorem tF37_2 : fieldOff Try.prog 37 2 = some 2 := by rfl
theorem tA37 : aggT Try.prog 37 = some true := by rfl
theorem tA28 : aggT Try.prog 28 = some false := by rfl
theorem tS28 : strT Try.prog 28 = some false := by rfl
/-- laws.szCounterS -/
def f33 (aA0 : List Counter) (aLeft1 : Int) : Option Int :=
  (bif decide ((w64 (aLeft1 - (aA0.length : Int))) < (0:Int)) then some (-1:Int) else some (w64 (aLeft1 - (aA0.length : Int))))
theorem f33_run {aA0 : List Counter} {aLeft1 : Int} {r : Int} {l1 : Nat} {H : Heap} {lk : Lk} (hk : f33 aA0 aLeft1 = some r) (hlk : 0 < lk.length := by simp) : runL Try.prog hh 33 [.lit l1 aA0.length (flat aA0), .int .i64 aLeft1] H lk = some (.int .i64 r, H) := by
  refine run_start Try.func33 rfl Try.ntmps33 Try.results33 rfl rfl fun hO => ?_
  unfold f33 at hk
  refine wpL_sq ?_
  refine wpL_rg ?_
  refine pA (.int _ _) ?_
  refine pE ?_
  refine gn ?_
  refine wpL_sq ?_
  refine wpL_rg ?_
  refine pM (.int _ _) ?_
  refine pM (.lit _ _ _) ?_
  refine pLen tS23 ?_
  refine pBi ?_
  refine pA (.int _ _) ?_
  refine pE ?_
  refine gn ?_
  refine wpL_sq ?_
  refine wpL_sq ?_
  refine wpL_rg ?_
  refine pM (.int _ _) ?_
  refine pBi ?_
  refine pE ?_
  refine gn ?_
  refine wpL_cd (b := decide ((w64 (aLeft1 - (aA0.length : Int))) < (0:Int))) (fun hb => ?_) (fun hb => ?_)
  · replace hk := ct hb hk
    refine wpL_sq ?_
    refine wpL_rg ?_
    refine pA (.int _ _) ?_
    refine pE ?_
    refine gn ?_
    refine wpL_rt ?_
    refine gr ?_
    cases hk; exact fin0 hO
  · replace hk := cf hb hk
    refine wpL_sk ?_
    refine gn ?_
    refine wpL_sq ?_
    refine wpL_rg ?_
    refine pM (.int _ _) ?_
    refine pA (.int _ _) ?_
    refine pE ?_
    refine gn ?_
    refine wpL_rt ?_
    cases hk; exact fin0 hO
/-- laws.szLayout -/
def f9 (aA0 : Layout) (aLeft1 : Int) : Option Int :=
  ((f33 aA0.Counters aLeft1).bind fun v2 => (bif decide (v2 < (0:Int)) then some (-1:Int) else some v2))
theorem f9_run {aA0 : Layout} {aLeft1 : Int} {r : Int} {l1 : Nat} {H : Heap} {lk : Lk} (hk : f9 aA0 aLeft1 = some r) (hlk : 0 < lk.length := by simp) : runL Try.prog hh 9 [.agg [.int .i64 aA0.Sections, .lit l1 aA0.Counters.length (flat aA0.Counters)], .int .i64 aLeft1] H lk = some (.int .i64 r, H) := by
  refine run_start Try.func9 rfl Try.ntmps9 Try.results9 rfl rfl fun hO => ?_
  unfold f9 at hk
  refine wpL_sq ?_
  refine wpL_rg ?_
  refine pBox (cs := [_, _]) hO tZ25 (fun b1 G hO => ?_)
  refine pA (.int _ _) ?_
  refine pE ?_
  refine gn ?_
  refine wpL_sq ?_
  refine wpL_rg ?_
  refine pF tF25_1 ?_
  refine pLo hO 0 (.lit _ _ _) tA23 ?_
  refine pM (.int _ _) ?_
  obtain ⟨v2, hv2, hk⟩ := bs hk
  refine pCall (fun _ => f33_run hv2) ?_
  refine pA (.int _ _) ?_
  refine pE ?_
  refine gn ?_
  refine wpL_sq ?_
  refine wpL_sq ?_
  refine wpL_rg ?_
  refine pM (.int _ _) ?_
  refine pBi ?_
  refine pE ?_
  refine gn ?_
  refine wpL_cd (b := decide (v2 < (0:Int))) (fun hb => ?_) (fun hb => ?_)
  · replace hk := ct hb hk
    refine wpL_sq ?_
    refine wpL_rg ?_
    refine pA (.int _ _) ?_
    refine pE ?_
    refine gn ?_
    refine wpL_rt ?_
    refine gr ?_
    cases hk; exact fin0 hO
  · replace hk := cf hb hk
    refine wpL_sk ?_
    refine gn ?_
    refine wpL_sq ?_
    refine wpL_rg ?_
    refine pM (.int _ _) ?_
    refine pA (.int _ _) ?_
    refine pE ?_
    refine gn ?_
    refine wpL_rt ?_
    cases hk; exact fin0 hO
/-- laws.toCounter -/
def f54 (aA0 : Counter) : Option Counter :=
  some aA0
theorem f54_run {aA0 : Counter} {r : Counter} {H : Heap} {lk : Lk} (hk : f54 aA0 = some r) (hlk : 0 < lk.length := by simp) : runL Try.prog hh 54 [.agg [.int .i64 aA0.From, .int .i64 aA0.To]] H lk = some (.agg [.int .i64 r.From, .int .i64 r.To], H) := by
  refine run_start Try.func54 rfl Try.ntmps54 Try.results54 rfl rfl fun hO => ?_
  unfold f54 at hk
  refine wpL_sq ?_
  refine wpL_rg ?_
  refine pBox (cs := [_, _]) hO tZ80 (fun b1 G hO => ?_)
  refine pNew hO tZ65 t065 (fun b2 G hO => ?_)
  refine pE ?_
  refine gn ?_
  refine wpL_sq ?_
  refine wpL_rg ?_
  refine pNew hO tZ65 t065 (fun b3 G hO => ?_)
  refine pE ?_
  refine gn ?_
  refine wpL_sq ?_
  refine wpL_rg ?_
  refine pF tF80_0 ?_
  refine pLo hO 2 (.int _ _) tA3 ?_
  refine pF tF65_0 ?_
  refine pSt (xs := [_]) hO 0 tZ3 rfl (fun G hO => ?_)
  refine pE ?_
  refine gn ?_
  refine wpL_sq ?_
  refine wpL_rg ?_
  refine pF tF80_1 ?_
  refine pLo hO 2 (.int _ _) tA3 ?_
  refine pF tF65_1 ?_
  refine pSt (xs := [_]) hO 0 tZ3 rfl (fun G hO => ?_)
  refine pE ?_
  refine gn ?_
  refine wpL_sq ?_
  refine wpL_rg ?_
  refine pLs hO 0 [_, _] tA65 tZ65 ?_
  refine pSt (xs := [_, _]) hO 1 tZ65 rfl (fun G hO => ?_)
  refine pE ?_
  refine gn ?_
  refine wpL_rt ?_
  cases hk; exact finA (α := Counter) aA0 hO hlk (resC hO 1 [_, _] tA65 tZ65)
/-- laws.toCounterS -/
def f35_L1 (aA0 : List Counter) : ((List Counter) × Int) → Option (((List Counter) × Int) ⊕ (List Counter)) := fun s =>
  (bif decide (s.2 < (aA0.length : Int)) then ((getI aA0 s.2).bind fun c5 => ((f54 c5).bind fun v6 => ((getI s.1 s.2).bind fun c7 => some (.inl (s.1.set s.2.toNat v6, w64 (s.2 + (1:Int))))))) else ((some s.1).map Sum.inr))
def f35 (aA0 : List Counter) : Option (List Counter) :=
  ((makeB 16 (aA0.length : Int)).bind fun m1 => (loopO (f35_L1 aA0) (List.replicate m1 (⟨0, 0⟩ : Counter), (0:Int))))
theorem f35_run {aA0 : List Counter} {r : (List Counter)} {l1 : Nat} {H : Heap} {lk : Lk} (hk : f35 aA0 = some r) (hlk : 0 < lk.length := by simp) : runL Try.prog hh 35 [.lit l1 aA0.length (flat aA0)] H lk = some (.lit 0 r.length (flat r), H) := by
  refine run_start Try.func35 rfl Try.ntmps35 Try.results35 rfl rfl fun hO => ?_
  unfold f35 at hk
  refine wpL_sq ?_
  refine wpL_rg ?_
  refine pA (.tl 0 []) ?_
  refine pE ?_
  refine gn ?_
  refine wpL_sq ?_
  refine wpL_rg ?_
  refine pM (.lit _ _ _) ?_
  refine pLen tS23 ?_
  obtain ⟨m1, hm1, hk⟩ := bs hk
  refine pMk hO hm1 (⟨0, 0⟩ : Counter) tE28 tZ65 tB65 t065 (fun b2 G hO => ?_)
  refine pA (.sl _ _ _) ?_
  refine pE ?_
  refine gn ?_
  refine wpL_sq ?_
  refine wpL_sq ?_
  refine wpL_rg ?_
  refine pA (.int _ _) ?_
  refine pE ?_
  refine gn ?_
  refine wpL_bl ?_
  refine wpL_loopO (F := f35_L1 aA0) (fun s S' => ∃ (J : Nat → V) (G : Heap), s.1.length = m1 ∧ Owns H G [.blk b2 (.cells 2 (flat s.1))] ∧ S' = ⟨hav [(0, .lit l1 aA0.length (flat aA0)), (3, .sl b2 0 m1), (4, .int .i64 s.2)] J, G⟩) hk ⟨_, _, List.length_replicate, hO, St.hav _ ⟨rfl, rfl, rfl, trivial⟩⟩ ?_
  rintro ⟨x3, x4⟩ _ y1 ⟨J, G, hl3, hO, rfl⟩ hk hx1
  refine wpL_sq ?_
  refine wpL_sq ?_
  refine wpL_rg ?_
  refine pM (.int _ _) ?_
  refine pM (.lit _ _ _) ?_
  refine pLen tS23 ?_
  refine pBi ?_
  refine pE ?_
  refine gn ?_
  refine wpL_cd (b := decide (x4 < (aA0.length : Int))) (fun hb => ?_) (fun hb => ?_)
  · replace hk := ct hb hk
    refine wpL_sk ?_
    refine gn ?_
    refine wpL_sq ?_
    refine wpL_bl ?_
    refine wpL_rg ?_
    refine pM (.sl _ _ _) ?_
    refine pM (.int _ _) ?_
    refine pM (.lit _ _ _) ?_
    refine pM (.int _ _) ?_
    obtain ⟨c5, hc5, hk⟩ := bs hk
    refine pX hc5 tE23 tZ80 ?_
    refine pLp (.agg [_, _]) (rd2 (off := 0) hc5 tA80 tZ80) ?_
    obtain ⟨v6, hv6, hk⟩ := bs hk
    refine pCall (fun _ => f54_run hv6) ?_
    obtain ⟨c7, hc7, hk⟩ := bs hk
    refine pXm hl3 hc7 tE28 tZ65 ?_
    refine pSm hO 0 hc7 tZ65 rfl v6 (.agg [_, _]) (fun G hO => ?_)
    refine pE ?_
    refine bn (gn ?_)
    refine wpL_rg ?_
    refine pM (.int _ _) ?_
    refine pBi ?_
    refine pA (.int _ _) ?_
    refine pE ?_
    refine gn ?_
    cases hk; exact ⟨_, rfl, _, _, (List.length_set.trans hl3), hO, St.hav _ ⟨rfl, rfl, rfl, trivial⟩⟩
  · replace hk := cf hb hk
    refine wpL_ex ?_
    refine ge (ge (be (gn ?_)))
    replace hk := lx hx1 hk
    refine wpL_sq ?_
    refine wpL_rg ?_
    refine pM (.sl _ _ _) ?_
    refine pA (.sl _ _ _) ?_
    refine pE ?_
    refine gn ?_
    refine wpL_rt ?_
    cases hk; exact finM hO 0 hl3 hlk
/-- laws.toLayout -/
def f11 (aA0 : Layout) : Option Layout :=
  ((f35 aA0.Counters).bind fun v4 => some ({ Sections := aA0.Sections, Counters := v4 } : Layout))
theorem f11_run {aA0 : Layout} {r : Layout} {l1 : Nat} {H : Heap} {lk : Lk} (hk : f11 aA0 = some r) (hlk : 0 < lk.length := by simp) : runL Try.prog hh 11 [.agg [.int .i64 aA0.Sections, .lit l1 aA0.Counters.length (flat aA0.Counters)]] H lk = some (.agg [.int .i64 r.Sections, .lit 0 r.Counters.length (flat r.Counters)], H) := by
  refine run_start Try.func11 rfl Try.ntmps11 Try.results11 rfl rfl fun hO => ?_
  unfold f11 at hk
  refine wpL_sq ?_
  refine wpL_rg ?_
  refine pBox (cs := [_, _]) hO tZ25 (fun b1 G hO => ?_)
  refine pNew hO tZ30 t030 (fun b2 G hO => ?_)
  refine pE ?_
  refine gn ?_
  refine wpL_sq ?_
  refine wpL_rg ?_
  refine pNew hO tZ30 t030 (fun b3 G hO => ?_)
  refine pE ?_
  refine gn ?_
  refine wpL_sq ?_
  refine wpL_rg ?_
  refine pF tF25_0 ?_
  refine pLo hO 2 (.int _ _) tA3 ?_
  refine pF tF30_0 ?_
  refine pSt (xs := [_]) hO 0 tZ3 rfl (fun G hO => ?_)
  refine pE ?_
  refine gn ?_
  refine wpL_sq ?_
  refine wpL_rg ?_
  refine pF tF25_1 ?_
  refine pLo hO 2 (.lit _ _ _) tA23 ?_
  obtain ⟨v4, hv4, hk⟩ := bs hk
  refine pCall (fun _ => f35_run hv4) ?_
  refine pF tF30_1 ?_
  refine pSt (xs := [_]) hO 0 tZ28 rfl (fun G hO => ?_)
  refine pE ?_
  refine gn ?_
  refine wpL_sq ?_
  refine wpL_rg ?_
  refine pLs hO 0 [_, _] tA30 tZ30 ?_
  refine pSt (xs := [_, _]) hO 1 tZ30 rfl (fun G hO => ?_)
  refine pE ?_
  refine gn ?_
  refine wpL_rt ?_
  cases hk; exact finA (α := Layout) ({ Sections := aA0.Sections, Counters := v4 } : Layout) hO hlk (resC hO 1 [_, _] tA30 tZ30)
/-- laws.toCountEvent -/
def f15 (aA0 : CountEvent) : Option CountEvent :=
  some aA0
theorem f15_run {aA0 : CountEvent} {r : CountEvent} {H : Heap} {lk : Lk} (hk : f15 aA0 = some r) (hlk : 0 < lk.length := by simp) : runL Try.prog hh 15 [.agg [.int .i64 aA0.Op, .int .i64 aA0.Of, .int .i64 aA0.Dir]] H lk = some (.agg [.int .i64 r.Op, .int .i64 r.Of, .int .i64 r.Dir], H) := by
  refine run_start Try.func15 rfl Try.ntmps15 Try.results15 rfl rfl fun hO => ?_
  unfold f15 at hk
  refine wpL_sq ?_
  refine wpL_rg ?_
  refine pBox (cs := [_, _, _]) hO tZ35 (fun b1 G hO => ?_)
  refine pNew hO tZ37 t037 (fun b2 G hO => ?_)
  refine pE ?_
  refine gn ?_
  refine wpL_sq ?_
  refine wpL_rg ?_
  refine pNew hO tZ37 t037 (fun b3 G hO => ?_)
  refine pE ?_
  refine gn ?_
  refine wpL_sq ?_
  refine wpL_rg ?_
  refine pF tF35_0 ?_
  refine pLo hO 2 (.int _ _) tA3 ?_
  refine pF tF37_0 ?_
  refine pSt (xs := [_]) hO 0 tZ3 rfl (fun G hO => ?_)
  refine pE ?_
  refine gn ?_
  refine wpL_sq ?_
  refine wpL_rg ?_
  refine pF tF35_1 ?_
  refine pLo hO 2 (.int _ _) tA3 ?_
  refine pF tF37_1 ?_
  refine pSt (xs := [_]) hO 0 tZ3 rfl (fun G hO => ?_)
  refine pE ?_
  refine gn ?_
  refine wpL_sq ?_
  refine wpL_rg ?_
  refine pF tF35_2 ?_
  refine pLo hO 2 (.int _ _) tA3 ?_
  refine pF tF37_2 ?_
  refine pSt (xs := [_]) hO 0 tZ3 rfl (fun G hO => ?_)
  refine pE ?_
  refine gn ?_
  refine wpL_sq ?_
  refine wpL_rg ?_
  refine pLs hO 0 [_, _, _] tA37 tZ37 ?_
  refine pSt (xs := [_, _, _]) hO 1 tZ37 rfl (fun G hO => ?_)
  refine pE ?_
  refine gn ?_
  refine wpL_rt ?_
  cases hk; exact finA (α := CountEvent) aA0 hO hlk (resC hO 1 [_, _, _] tA37 tZ37)
/-- spec.l14in -/
def f34 (aX0 : Int) (aA1 : Int) (aB2 : Int) : Option Bool :=
  some (decide (aX0 ≥ aA1) && decide (aX0 ≤ aB2))
theorem f34_run {aX0 : Int} {aA1 : Int} {aB2 : Int} {r : Bool} {H : Heap} {lk : Lk} (hk : f34 aX0 aA1 aB2 = some r) (hlk : 0 < lk.length := by simp) : runL Try.prog hh 34 [.int .i64 aX0, .int .i64 aA1, .int .i64 aB2] H lk = some (.bool r, H) := by
  refine run_start Try.func34 rfl Try.ntmps34 Try.results34 rfl rfl fun hO => ?_
  unfold f34 at hk
  refine wpL_sq ?_
  refine wpL_rg ?_
  refine pA (.bool _) ?_
  refine pE ?_
  refine gn ?_
  refine wpL_sq ?_
  refine wpL_rg ?_
  refine pM (.int _ _) ?_
  refine pM (.int _ _) ?_
  refine pBi ?_
  refine pM (.bool _) ?_
  refine wpR_mid (l1 := [_, _, _, _]) (fun S' => ∃ J, S' = ⟨hav [(14, .bool (decide (aX0 ≥ aA1) && decide (aX0 ≤ aB2)))] J, H⟩) ?_ ?_
  · refine bc (b := decide (aX0 ≥ aA1)) (fun hg1 => ?_) (fun hg1 => ?_)
    · refine pGy hg1 ?_
      refine pM (.int _ _) ?_
      refine pGy hg1 ?_
      refine pM (.int _ _) ?_
      refine pGy hg1 ?_
      refine pBi ?_
      refine pPt hg1 (.bool _) ?_
      exact pE ⟨_, St.hav _ ⟨by rw [hg1]; rfl, trivial⟩⟩
    · refine pGn hg1 ?_
      refine pGn hg1 ?_
      refine pGn hg1 ?_
      refine pPf hg1 (.bool _) ?_
      exact pE ⟨_, St.hav _ ⟨by rw [hg1]; rfl, trivial⟩⟩
  · rintro _ ⟨J, rfl⟩
    refine pA (.bool _) ?_
    refine pE ?_
    refine gn ?_
    refine wpL_rt ?_
    cases hk; exact fin0 hO
/-- spec.LayoutOk -/
def f10_L1 (aL0 : Layout) : Int → Option (Int ⊕ Int) := fun s =>
  (bif decide (s < (aL0.Counters.length : Int)) then ((getI aL0.Counters s).bind fun c4 => ((f34 c4.From (-1:Int) (w64 (aL0.Sections - (1:Int)))).bind fun v6 => ((bif !v6 then some true else ((f34 c4.To (-1:Int) (w64 (aL0.Sections - (1:Int)))).bind fun v8 => some (!v8))).bind fun t7 => (bif (t7 || (c4.From == c4.To)) then ((some (2:Int)).map Sum.inr) else some (.inl (w64 (s + (1:Int)))))))) else ((some (0:Int)).map Sum.inr))
def f10 (aL0 : Layout) : Option Int :=
  ((f34 aL0.Sections (1:Int) (60:Int)).bind fun v2 => (bif (!v2 || decide ((aL0.Counters.length : Int) > (120:Int))) then some (1:Int) else (loopO (f10_L1 aL0) ((0:Int)))))
theorem f10_run {aL0 : Layout} {r : Int} {l1 : Nat} {H : Heap} {lk : Lk} (hk : f10 aL0 = some r) (hlk : 0 < lk.length := by simp) : runL Try.prog hh 10 [.agg [.int .i64 aL0.Sections, .lit l1 aL0.Counters.length (flat aL0.Counters)]] H lk = some (.int .i64 r, H) := by
  refine run_start Try.func10 rfl Try.ntmps10 Try.results10 rfl rfl fun hO => ?_
  unfold f10 at hk
  refine wpL_sq ?_
  refine wpL_rg ?_
  refine pBox (cs := [_, _]) hO tZ30 (fun b1 G hO => ?_)
  refine pA (.int _ _) ?_
  refine pE ?_
  refine gn ?_
  refine wpL_sq ?_
  refine wpL_sq ?_
  refine wpL_rg ?_
  refine pF tF30_0 ?_
  refine pLo hO 0 (.int _ _) tA3 ?_
  obtain ⟨v2, hv2, hk⟩ := bs hk
  refine pCall (fun _ => f34_run hv2) ?_
  refine pU ?_
  refine pM (.bool _) ?_
  refine wpR_mid (l1 := [_, _, _, _, _]) (fun S' => ∃ J, S' = ⟨hav [(1, .ptr b1 0), (14, .bool (!v2 || decide ((aL0.Counters.length : Int) > (120:Int))))] J, G⟩) ?_ ?_
  · refine bc (b := !v2) (fun hg1 => ?_) (fun hg1 => ?_)
    · refine pGn hg1 ?_
      refine pGn hg1 ?_
      refine pGn hg1 ?_
      refine pGn hg1 ?_
      refine pPt hg1 (.bool _) ?_
      exact pE ⟨_, St.hav _ ⟨rfl, by rw [hg1]; rfl, trivial⟩⟩
    · refine pGy hg1 ?_
      refine pF tF30_1 ?_
      refine pGy hg1 ?_
      refine pLo hO 0 (.lit _ _ _) tA28 ?_
      refine pGy hg1 ?_
      refine pLen tS28 ?_
      refine pGy hg1 ?_
      refine pBi ?_
      refine pPf hg1 (.bool _) ?_
      exact pE ⟨_, St.hav _ ⟨rfl, by rw [hg1]; rfl, trivial⟩⟩
  · rintro _ ⟨J, rfl⟩
    refine pE ?_
    refine gn ?_
    refine wpL_cd (b := (!v2 || decide ((aL0.Counters.length : Int) > (120:Int)))) (fun hb => ?_) (fun hb => ?_)
    · replace hk := ct hb hk
      refine wpL_sq ?_
      refine wpL_rg ?_
      refine pA (.int _ _) ?_
      refine pE ?_
      refine gn ?_
      refine wpL_rt ?_
      refine gr ?_
      cases hk; exact fin0 hO
    · replace hk := cf hb hk
      refine wpL_sk ?_
      refine gn ?_
      refine wpL_sq ?_
      refine wpL_sq ?_
      refine wpL_rg ?_
      refine pF tF30_1 ?_
      refine pLo hO 0 (.lit _ _ _) tA28 ?_
      refine pLen tS28 ?_
      refine pM (.int _ _) ?_
      refine pE ?_
      refine gn ?_
      refine wpL_bl ?_
      refine wpL_loopO (F := f10_L1 aL0) (fun s S' => ∃ (J : Nat → V) (G : Heap), Owns H G [.blk b1 (.cells 2 [.int .i64 aL0.Sections, .lit l1 aL0.Counters.length (flat aL0.Counters)])] ∧ S' = ⟨hav [(1, .ptr b1 0), (16, .lit l1 aL0.Counters.length (flat aL0.Counters)), (17, .int .i64 (aL0.Counters.length : Int)), (18, .int .i64 s)] J, G⟩) hk ⟨_, _, hO, St.hav _ ⟨rfl, rfl, rfl, rfl, trivial⟩⟩ ?_
      rintro x3 _ y1 ⟨J, G, hO, rfl⟩ hk hx1
      refine wpL_sq ?_
      refine wpL_rg ?_
      refine pBi ?_
      refine pE ?_
      refine gn ?_
      refine wpL_sq ?_
      refine wpL_cd (b := decide (x3 < (aL0.Counters.length : Int))) (fun hb => ?_) (fun hb => ?_)
      · replace hk := ct hb hk
        refine wpL_sk ?_
        refine gn ?_
        refine wpL_sq ?_
        refine wpL_bl ?_
        refine wpL_sq ?_
        refine wpL_rg ?_
        obtain ⟨c4, hc4, hk⟩ := bs hk
        refine pX hc4 tE28 tZ65 ?_
        refine pLp (.agg [_, _]) (rd2 (off := 0) hc4 tA65 tZ65) ?_
        refine pNew hO tZ65 t065 (fun b5 G hO => ?_)
        refine pSt (xs := [_, _]) hO 0 tZ65 rfl (fun G hO => ?_)
        refine pE ?_
        refine gn ?_
        refine wpL_sq ?_
        refine wpL_rg ?_
        refine pF tF65_0 ?_
        refine pLo hO 0 (.int _ _) tA3 ?_
        refine pF tF30_0 ?_
        refine pLo hO 1 (.int _ _) tA3 ?_
        refine pBi ?_
        obtain ⟨v6, hv6, hk⟩ := bs hk
        refine pCall (fun _ => f34_run hv6) ?_
        refine pU ?_
        refine pM (.bool _) ?_
        obtain ⟨t7, ht, hk⟩ := bs hk
        refine wpR_mid (l1 := [_, _, _, _, _, _, _, _]) (fun S' => ∃ J, S' = ⟨hav [(1, .ptr b1 0), (4, .ptr b5 0), (16, .lit l1 aL0.Counters.length (flat aL0.Counters)), (17, .int .i64 (aL0.Counters.length : Int)), (18, .int .i64 x3), (37, .bool t7)] J, G⟩) ?_ ?_
        · refine bc (b := !v6) (fun hg1 => ?_) (fun hg1 => ?_)
          · replace hk := ct hg1 ht
            refine pGn hg1 ?_
            refine pGn hg1 ?_
            refine pGn hg1 ?_
            refine pGn hg1 ?_
            refine pGn hg1 ?_
            refine pGn hg1 ?_
            refine pGn hg1 ?_
            refine pPt hg1 (.bool _) ?_
            cases hk; exact pE ⟨_, St.hav _ ⟨rfl, rfl, rfl, rfl, rfl, rfl, trivial⟩⟩
          · replace hk := cf hg1 ht
            refine pGy hg1 ?_
            refine pF tF65_1 ?_
            refine pGy hg1 ?_
            refine pLo hO 0 (.int _ _) tA3 ?_
            refine pGy hg1 ?_
            refine pF tF30_0 ?_
            refine pGy hg1 ?_
            refine pLo hO 1 (.int _ _) tA3 ?_
            refine pGy hg1 ?_
            refine pBi ?_
            refine pGy hg1 ?_
            obtain ⟨v8, hv8, hk⟩ := bs hk
            refine pCall (fun _ => f34_run hv8) ?_
            refine pGy hg1 ?_
            refine pU ?_
            refine pPf hg1 (.bool _) ?_
            cases hk; exact pE ⟨_, St.hav _ ⟨rfl, rfl, rfl, rfl, rfl, rfl, trivial⟩⟩
        · rintro _ ⟨J, rfl⟩
          refine pM (.bool _) ?_
          refine wpR_mid (l1 := [_, _, _, _, _, _]) (fun S' => ∃ J, S' = ⟨hav [(1, .ptr b1 0), (16, .lit l1 aL0.Counters.length (flat aL0.Counters)), (17, .int .i64 (aL0.Counters.length : Int)), (18, .int .i64 x3), (44, .bool (t7 || (c4.From == c4.To)))] J, G⟩) ?_ ?_
          · refine bc (b := t7) (fun hg1 => ?_) (fun hg1 => ?_)
            · refine pGn hg1 ?_
              refine pGn hg1 ?_
              refine pGn hg1 ?_
              refine pGn hg1 ?_
              refine pGn hg1 ?_
              refine pPt hg1 (.bool _) ?_
              exact pE ⟨_, St.hav _ ⟨rfl, rfl, rfl, rfl, by rw [hg1]; rfl, trivial⟩⟩
            · refine pGy hg1 ?_
              refine pF tF65_0 ?_
              refine pGy hg1 ?_
              refine pLo hO 0 (.int _ _) tA3 ?_
              refine pGy hg1 ?_
              refine pF tF65_1 ?_
              refine pGy hg1 ?_
              refine pLo hO 0 (.int _ _) tA3 ?_
              refine pGy hg1 ?_
              refine pBi ?_
              refine pPf hg1 (.bool _) ?_
              exact pE ⟨_, St.hav _ ⟨rfl, rfl, rfl, rfl, by rw [hg1]; rfl, trivial⟩⟩
          · rintro _ ⟨J, rfl⟩
            refine pE ?_
            refine gn ?_
            refine wpL_cd (b := (t7 || (c4.From == c4.To))) (fun hb => ?_) (fun hb => ?_)
            · replace hk := ct hb hk
              refine wpL_sq ?_
              refine wpL_rg ?_
              refine pA (.int _ _) ?_
              refine pE ?_
              refine gn ?_
              refine wpL_rt ?_
              refine br (gr (gr (br (gr ?_))))
              replace hk := lx hx1 hk
              cases hk; exact fin0 hO
            · replace hk := cf hb hk
              refine wpL_sk ?_
              refine bn (gn ?_)
              refine wpL_rg ?_
              refine pBi ?_
              refine pM (.int _ _) ?_
              refine pE ?_
              refine gn ?_
              cases hk; exact ⟨_, rfl, _, _, (Owns.pick hO [1] (by decide) rfl), St.hav _ ⟨rfl, rfl, rfl, rfl, trivial⟩⟩
      · replace hk := cf hb hk
        refine wpL_ex ?_
        refine ge (ge (be (gn ?_)))
        replace hk := lx hx1 hk
        refine wpL_sq ?_
        refine wpL_rg ?_
        refine pA (.int _ _) ?_
        refine pE ?_
        refine gn ?_
        refine wpL_rt ?_
        cases hk; exact fin0 hO
/-- spec.CountEventOk -/
def f14_k2 (aL0 : Layout) (aE1 : CountEvent) (x6 : Bool) : Option Bool :=
  (bif x6 then ((f34 aE1.Of (0:Int) (w64 ((aL0.Counters.length : Int) - (1:Int)))).bind fun v7 => some (v7 && (aE1.Dir == (0:Int)))) else (bif (aE1.Op == (5:Int)) then ((f34 aE1.Of (0:Int) (w64 (aL0.Sections - (1:Int)))).bind fun v8 => some (v8 && (aE1.Dir == (0:Int)))) else some false))
def f14_k1 (aL0 : Layout) (aE1 : CountEvent) (x4 : Bool) : Option Bool :=
  (bif x4 then ((f34 aE1.Of (0:Int) (w64 ((aL0.Counters.length : Int) - (1:Int)))).bind fun v5 => some (v5 && ((aE1.Dir == (1:Int)) || (aE1.Dir == (-1:Int))))) else (bif (aE1.Op == (3:Int)) then (f14_k2 aL0 aE1 (aE1.Op == (3:Int))) else (f14_k2 aL0 aE1 (aE1.Op == (4:Int)))))
def f14 (aL0 : Layout) (aE1 : CountEvent) : Option Bool :=
  ((f10 aL0).bind fun v3 => (bif (v3 != (0:Int)) then some false else (bif (aE1.Op == (1:Int)) then (f14_k1 aL0 aE1 (aE1.Op == (1:Int))) else (f14_k1 aL0 aE1 (aE1.Op == (2:Int))))))
theorem f14_run {aL0 : Layout} {aE1 : CountEvent} {r : Bool} {l1 : Nat} {H : Heap} {lk : Lk} (hk : f14 aL0 aE1 = some r) (hlk : 0 < lk.length := by simp) : runL Try.prog hh 14 [.agg [.int .i64 aL0.Sections, .lit l1 aL0.Counters.length (flat aL0.Counters)], .agg [.int .i64 aE1.Op, .int .i64 aE1.Of, .int .i64 aE1.Dir]] H lk = some (.bool r, H) := by
  refine run_start Try.func14 rfl Try.ntmps14 Try.results14 rfl rfl fun hO => ?_
  unfold f14 at hk
  refine wpL_sq ?_
  refine wpL_rg ?_
  refine pBox (cs := [_, _]) hO tZ30 (fun b1 G hO => ?_)
  refine pBox (cs := [_, _, _]) hO tZ37 (fun b2 G hO => ?_)
  refine pA (.bool _) ?_
  refine pE ?_
  refine gn ?_
  refine wpL_sq ?_
  refine wpL_sq ?_
  refine wpL_rg ?_
  refine pLs hO 1 [_, _] tA30 tZ30 ?_
  obtain ⟨v3, hv3, hk⟩ := bs hk
  refine pCall (fun _ => f10_run hv3) ?_
  refine pBi ?_
  refine pE ?_
  refine gn ?_
  refine wpL_cd (b := (v3 != (0:Int))) (fun hb => ?_) (fun hb => ?_)
  · replace hk := ct hb hk
    refine wpL_sq ?_
    refine wpL_rg ?_
    refine pA (.bool _) ?_
    refine pE ?_
    refine gn ?_
    refine wpL_rt ?_
    refine gr ?_
    cases hk; exact fin0 hO
  · replace hk := cf hb hk
    refine wpL_sk ?_
    refine gn ?_
    refine wpL_sq ?_
    refine wpL_sq ?_
    refine wpL_rg ?_
    refine pF tF37_0 ?_
    refine pLo hO 0 (.int _ _) tA3 ?_
    refine pE ?_
    refine gn ?_
    refine wpL_bl ?_
    refine wpL_mid (fun S' => ∃ (x4 : Bool) (J : Nat → V) (G : Heap), f14_k1 aL0 aE1 x4 = some r ∧ Owns H G [.blk b2 (.cells 3 [.int .i64 aE1.Op, .int .i64 aE1.Of, .int .i64 aE1.Dir]), .blk b1 (.cells 2 [.int .i64 aL0.Sections, .lit l1 aL0.Counters.length (flat aL0.Counters)])] ∧ S' = ⟨hav [(2, .ptr b1 0), (3, .ptr b2 0), (9, .int .i64 aE1.Op), (10, .bool x4)] J, G⟩) ?_ ?_
    · refine wpL_sq ?_
      refine wpL_rg ?_
      refine pBi ?_
      refine pA (.bool _) ?_
      refine pE ?_
      refine gn ?_
      refine wpL_cd (b := (aE1.Op == (1:Int))) (fun hb => ?_) (fun hb => ?_)
      · replace hk := ct hb hk
        refine wpL_sk ?_
        refine gn ?_
        exact ⟨(aE1.Op == (1:Int)), _, _, hk, hO, St.hav _ ⟨rfl, rfl, rfl, rfl, trivial⟩⟩
      · replace hk := cf hb hk
        refine wpL_rg ?_
        refine pBi ?_
        refine pA (.bool _) ?_
        refine pE ?_
        refine gn ?_
        exact ⟨(aE1.Op == (2:Int)), _, _, hk, hO, St.hav _ ⟨rfl, rfl, rfl, rfl, trivial⟩⟩
    · rintro _ ⟨x4, J, G, hk, hO, rfl⟩
      refine wpL_cd (b := x4) (fun hb => ?_) (fun hb => ?_)
      · replace hk := ct hb hk
        refine wpL_sq ?_
        refine wpL_rg ?_
        refine pF tF37_1 ?_
        refine pLo hO 0 (.int _ _) tA3 ?_
        refine pF tF30_1 ?_
        refine pLo hO 1 (.lit _ _ _) tA28 ?_
        refine pLen tS28 ?_
        refine pBi ?_
        obtain ⟨v5, hv5, hk⟩ := bs hk
        refine pCall (fun _ => f34_run hv5) ?_
        refine pM (.bool _) ?_
        refine wpR_mid (l1 := [_, _, _, _, _, _, _, _, _]) (fun S' => ∃ J, S' = ⟨hav [(29, .bool (v5 && ((aE1.Dir == (1:Int)) || (aE1.Dir == (-1:Int)))))] J, G⟩) ?_ ?_
        · refine bc (b := v5) (fun hg1 => ?_) (fun hg1 => ?_)
          · refine pGy hg1 ?_
            refine pF tF37_2 ?_
            refine pGy hg1 ?_
            refine pLo hO 0 (.int _ _) tA3 ?_
            refine pGy hg1 ?_
            refine pBi ?_
            refine pGy hg1 ?_
            refine pM (.bool _) ?_
            refine wpR_mid (l1 := [_, _, _, _]) (fun S' => ∃ J, S' = ⟨hav [(20, .bool v5), (28, .bool ((aE1.Dir == (1:Int)) || (aE1.Dir == (-1:Int))))] J, G⟩) ?_ ?_
            · refine bc (b := (aE1.Dir == (1:Int))) (fun hg2 => ?_) (fun hg2 => ?_)
              · refine pGn hg2 ?_
                refine pGn hg2 ?_
                refine pGn hg2 ?_
                refine pGy hg1 ?_
                refine pPt hg2 (.bool _) ?_
                exact pE ⟨_, St.hav _ ⟨rfl, by rw [hg2]; rfl, trivial⟩⟩
              · refine pGy hg2 ?_
                refine pF tF37_2 ?_
                refine pGy hg2 ?_
                refine pLo hO 0 (.int _ _) tA3 ?_
                refine pGy hg2 ?_
                refine pBi ?_
                refine pGy hg1 ?_
                refine pPf hg2 (.bool _) ?_
                exact pE ⟨_, St.hav _ ⟨rfl, by rw [hg2]; rfl, trivial⟩⟩
            · rintro _ ⟨J, rfl⟩
              refine pPt hg1 (.bool _) ?_
              exact pE ⟨_, St.hav _ ⟨by rw [hg1]; rfl, trivial⟩⟩
          · refine pGn hg1 ?_
            refine pGn hg1 ?_
            refine pGn hg1 ?_
            refine pGn hg1 ?_
            refine pGu ?_
            refine pGu ?_
            refine pGu ?_
            refine pGn hg1 ?_
            refine pPf hg1 (.bool _) ?_
            exact pE ⟨_, St.hav _ ⟨by rw [hg1]; rfl, trivial⟩⟩
        · rintro _ ⟨J, rfl⟩
          refine pA (.bool _) ?_
          refine pE ?_
          refine gn ?_
          refine wpL_rt ?_
          refine br (gr ?_)
          cases hk; exact fin0 hO
      · replace hk := cf hb hk
        refine wpL_mid (fun S' => ∃ (x6 : Bool) (J : Nat → V) (G : Heap), f14_k2 aL0 aE1 x6 = some r ∧ Owns H G [.blk b2 (.cells 3 [.int .i64 aE1.Op, .int .i64 aE1.Of, .int .i64 aE1.Dir]), .blk b1 (.cells 2 [.int .i64 aL0.Sections, .lit l1 aL0.Counters.length (flat aL0.Counters)])] ∧ S' = ⟨hav [(2, .ptr b1 0), (3, .ptr b2 0), (9, .int .i64 aE1.Op), (30, .bool x6)] J, G⟩) ?_ ?_
        · refine wpL_sq ?_
          refine wpL_rg ?_
          refine pBi ?_
          refine pA (.bool _) ?_
          refine pE ?_
          refine gn ?_
          refine wpL_cd (b := (aE1.Op == (3:Int))) (fun hb => ?_) (fun hb => ?_)
          · replace hk := ct hb hk
            refine wpL_sk ?_
            refine gn ?_
            exact ⟨(aE1.Op == (3:Int)), _, _, hk, hO, St.hav _ ⟨rfl, rfl, rfl, rfl, trivial⟩⟩
          · replace hk := cf hb hk
            refine wpL_rg ?_
            refine pBi ?_
            refine pA (.bool _) ?_
            refine pE ?_
            refine gn ?_
            exact ⟨(aE1.Op == (4:Int)), _, _, hk, hO, St.hav _ ⟨rfl, rfl, rfl, rfl, trivial⟩⟩
        · rintro _ ⟨x6, J, G, hk, hO, rfl⟩
          refine wpL_cd (b := x6) (fun hb => ?_) (fun hb => ?_)
          · replace hk := ct hb hk
            refine wpL_sq ?_
            refine wpL_rg ?_
            refine pF tF37_1 ?_
            refine pLo hO 0 (.int _ _) tA3 ?_
            refine pF tF30_1 ?_
            refine pLo hO 1 (.lit _ _ _) tA28 ?_
            refine pLen tS28 ?_
            refine pBi ?_
            obtain ⟨v7, hv7, hk⟩ := bs hk
            refine pCall (fun _ => f34_run hv7) ?_
            refine pM (.bool _) ?_
            refine wpR_mid (l1 := [_, _, _, _]) (fun S' => ∃ J, S' = ⟨hav [(44, .bool (v7 && (aE1.Dir == (0:Int))))] J, G⟩) ?_ ?_
            · refine bc (b := v7) (fun hg1 => ?_) (fun hg1 => ?_)
              · refine pGy hg1 ?_
                refine pF tF37_2 ?_
                refine pGy hg1 ?_
                refine pLo hO 0 (.int _ _) tA3 ?_
                refine pGy hg1 ?_
                refine pBi ?_
                refine pPt hg1 (.bool _) ?_
                exact pE ⟨_, St.hav _ ⟨by rw [hg1]; rfl, trivial⟩⟩
              · refine pGn hg1 ?_
                refine pGn hg1 ?_
                refine pGn hg1 ?_
                refine pPf hg1 (.bool _) ?_
                exact pE ⟨_, St.hav _ ⟨by rw [hg1]; rfl, trivial⟩⟩
            · rintro _ ⟨J, rfl⟩
              refine pA (.bool _) ?_
              refine pE ?_
              refine gn ?_
              refine wpL_rt ?_
              refine br (gr ?_)
              cases hk; exact fin0 hO
          · replace hk := cf hb hk
            refine wpL_sq ?_
            refine wpL_rg ?_
            refine pBi ?_
            refine pA (.bool _) ?_
            refine pE ?_
            refine gn ?_
            refine wpL_cd (b := (aE1.Op == (5:Int))) (fun hb => ?_) (fun hb => ?_)
            · replace hk := ct hb hk
              refine wpL_sq ?_
              refine wpL_rg ?_
              refine pF tF37_1 ?_
              refine pLo hO 0 (.int _ _) tA3 ?_
              refine pF tF30_0 ?_
              refine pLo hO 1 (.int _ _) tA3 ?_
              refine pBi ?_
              obtain ⟨v8, hv8, hk⟩ := bs hk
              refine pCall (fun _ => f34_run hv8) ?_
              refine pM (.bool _) ?_
              refine wpR_mid (l1 := [_, _, _, _]) (fun S' => ∃ J, S' = ⟨hav [(57, .bool (v8 && (aE1.Dir == (0:Int))))] J, G⟩) ?_ ?_
              · refine bc (b := v8) (fun hg1 => ?_) (fun hg1 => ?_)
                · refine pGy hg1 ?_
                  refine pF tF37_2 ?_
                  refine pGy hg1 ?_
                  refine pLo hO 0 (.int _ _) tA3 ?_
                  refine pGy hg1 ?_
                  refine pBi ?_
                  refine pPt hg1 (.bool _) ?_
                  exact pE ⟨_, St.hav _ ⟨by rw [hg1]; rfl, trivial⟩⟩
                · refine pGn hg1 ?_
                  refine pGn hg1 ?_
                  refine pGn hg1 ?_
                  refine pPf hg1 (.bool _) ?_
                  exact pE ⟨_, St.hav _ ⟨by rw [hg1]; rfl, trivial⟩⟩
              · rintro _ ⟨J, rfl⟩
                refine pA (.bool _) ?_
                refine pE ?_
                refine gn ?_
                refine wpL_rt ?_
                refine br (gr ?_)
                cases hk; exact fin0 hO
            · replace hk := cf hb hk
              refine wpL_sk ?_
              refine bn (gn ?_)
              refine wpL_sq ?_
              refine wpL_rg ?_
              refine pA (.bool _) ?_
              refine pE ?_
              refine gn ?_
              refine wpL_rt ?_
              cases hk; exact fin0 hO
/-- impl.LayoutOk$1 -/
def f36 (aX0 : Int) (aA1 : Layout) : Option Bool :=
  some (decide (aX0 ≥ (-1:Int)) && decide (aX0 < aA1.Sections))
theorem f36_run {aX0 : Int} {aA1 : Layout} {r : Bool} {l1 : Nat} {H : Heap} {lk : Lk} {q0 : Nat} (hk : f36 aX0 aA1 = some r) (hq0 : H[q0]? = some (.cells 2 [.int .i64 aA1.Sections, .lit l1 aA1.Counters.length (flat aA1.Counters)])) (hlk : 0 < lk.length := by simp) : runL Try.prog hh 36 [.int .i64 aX0, .ptr q0 0] H lk = some (.bool r, H) := by
  refine run_start Try.func36 rfl Try.ntmps36 Try.results36 rfl rfl fun hO => ?_
  unfold f36 at hk
  refine wpL_sq ?_
  refine wpL_rg ?_
  refine pA (.bool _) ?_
  refine pE ?_
  refine gn ?_
  refine wpL_sq ?_
  refine wpL_rg ?_
  refine pM (.int _ _) ?_
  refine pBi ?_
  refine pM (.bool _) ?_
  refine wpR_mid (l1 := [_, _, _, _, _]) (fun S' => ∃ J, S' = ⟨hav [(11, .bool (decide (aX0 ≥ (-1:Int)) && decide (aX0 < aA1.Sections)))] J, H⟩) ?_ ?_
  · refine bc (b := decide (aX0 ≥ (-1:Int))) (fun hg1 => ?_) (fun hg1 => ?_)
    · refine pGy hg1 ?_
      refine pM (.int _ _) ?_
      refine pGy hg1 ?_
      refine pF tF30_0 ?_
      refine pGy hg1 ?_
      refine pLf (.int _ _) hO hq0 tA3 ?_
      refine pGy hg1 ?_
      refine pBi ?_
      refine pPt hg1 (.bool _) ?_
      exact pE ⟨_, St.hav _ ⟨by rw [hg1]; rfl, trivial⟩⟩
    · refine pGn hg1 ?_
      refine pGn hg1 ?_
      refine pGn hg1 ?_
      refine pGn hg1 ?_
      refine pPf hg1 (.bool _) ?_
      exact pE ⟨_, St.hav _ ⟨by rw [hg1]; rfl, trivial⟩⟩
  · rintro _ ⟨J, rfl⟩
    refine pA (.bool _) ?_
    refine pE ?_
    refine gn ?_
    refine wpL_rt ?_
    cases hk; exact fin0 hO
/-- impl.LayoutOk -/
def f12_L1 (aL0 : Layout) : Int → Option (Int ⊕ Int) := fun s =>
  (bif decide (s < (aL0.Counters.length : Int)) then ((getI aL0.Counters s).bind fun c3 => ((f36 c3.From aL0).bind fun v5 => ((bif !v5 then some true else ((f36 c3.To aL0).bind fun v7 => some (!v7))).bind fun t6 => (bif (t6 || (c3.From == c3.To)) then ((some (2:Int)).map Sum.inr) else some (.inl (w64 (s + (1:Int)))))))) else ((some (0:Int)).map Sum.inr))
def f12 (aL0 : Layout) : Option Int :=
  (bif ((decide (aL0.Sections < (1:Int)) || decide (aL0.Sections > (60:Int))) || decide ((aL0.Counters.length : Int) > (120:Int))) then some (1:Int) else (loopO (f12_L1 aL0) ((0:Int))))
theorem f12_run {aL0 : Layout} {r : Int} {l1 : Nat} {H : Heap} {lk : Lk} (hk : f12 aL0 = some r) (hlk : 0 < lk.length := by simp) : runL Try.prog hh 12 [.agg [.int .i64 aL0.Sections, .lit l1 aL0.Counters.length (flat aL0.Counters)]] H lk = some (.int .i64 r, H) := by
  refine run_start Try.func12 rfl Try.ntmps12 Try.results12 rfl rfl fun hO => ?_
  unfold f12 at hk
  refine wpL_sq ?_
  refine wpL_rg ?_
  refine pBox (cs := [_, _]) hO tZ30 (fun b1 G hO => ?_)
  refine pA (.int _ _) ?_
  refine pE ?_
  refine gn ?_
  refine wpL_sq ?_
  refine wpL_sq ?_
  refine wpL_rg ?_
  refine pF tF30_0 ?_
  refine pLo hO 0 (.int _ _) tA3 ?_
  refine pBi ?_
  refine pM (.bool _) ?_
  refine wpR_mid (l1 := [_, _, _, _]) (fun S' => ∃ J, S' = ⟨hav [(1, .ptr b1 0), (13, .bool (decide (aL0.Sections < (1:Int)) || decide (aL0.Sections > (60:Int))))] J, G⟩) ?_ ?_
  · refine bc (b := decide (aL0.Sections < (1:Int))) (fun hg1 => ?_) (fun hg1 => ?_)
    · refine pGn hg1 ?_
      refine pGn hg1 ?_
      refine pGn hg1 ?_
      refine pPt hg1 (.bool _) ?_
      exact pE ⟨_, St.hav _ ⟨rfl, by rw [hg1]; rfl, trivial⟩⟩
    · refine pGy hg1 ?_
      refine pF tF30_0 ?_
      refine pGy hg1 ?_
      refine pLo hO 0 (.int _ _) tA3 ?_
      refine pGy hg1 ?_
      refine pBi ?_
      refine pPf hg1 (.bool _) ?_
      exact pE ⟨_, St.hav _ ⟨rfl, by rw [hg1]; rfl, trivial⟩⟩
  · rintro _ ⟨J, rfl⟩
    refine pM (.bool _) ?_
    refine wpR_mid (l1 := [_, _, _, _, _]) (fun S' => ∃ J, S' = ⟨hav [(1, .ptr b1 0), (19, .bool ((decide (aL0.Sections < (1:Int)) || decide (aL0.Sections > (60:Int))) || decide ((aL0.Counters.length : Int) > (120:Int))))] J, G⟩) ?_ ?_
    · refine bc (b := (decide (aL0.Sections < (1:Int)) || decide (aL0.Sections > (60:Int)))) (fun hg1 => ?_) (fun hg1 => ?_)
      · refine pGn hg1 ?_
        refine pGn hg1 ?_
        refine pGn hg1 ?_
        refine pGn hg1 ?_
        refine pPt hg1 (.bool _) ?_
        exact pE ⟨_, St.hav _ ⟨rfl, by rw [hg1]; rfl, trivial⟩⟩
      · refine pGy hg1 ?_
        refine pF tF30_1 ?_
        refine pGy hg1 ?_
        refine pLo hO 0 (.lit _ _ _) tA28 ?_
        refine pGy hg1 ?_
        refine pLen tS28 ?_
        refine pGy hg1 ?_
        refine pBi ?_
        refine pPf hg1 (.bool _) ?_
        exact pE ⟨_, St.hav _ ⟨rfl, by rw [hg1]; rfl, trivial⟩⟩
    · rintro _ ⟨J, rfl⟩
      refine pE ?_
      refine gn ?_
      refine wpL_cd (b := ((decide (aL0.Sections < (1:Int)) || decide (aL0.Sections > (60:Int))) || decide ((aL0.Counters.length : Int) > (120:Int)))) (fun hb => ?_) (fun hb => ?_)
      · replace hk := ct hb hk
        refine wpL_sq ?_
        refine wpL_rg ?_
        refine pA (.int _ _) ?_
        refine pE ?_
        refine gn ?_
        refine wpL_rt ?_
        refine gr ?_
        cases hk; exact fin0 hO
      · replace hk := cf hb hk
        refine wpL_sk ?_
        refine gn ?_
        refine wpL_sq ?_
        refine wpL_rg ?_
        refine pFn (vs := [_]) ?_
        refine pA (.fn _ _) ?_
        refine pE ?_
        refine gn ?_
        refine wpL_sq ?_
        refine wpL_sq ?_
        refine wpL_rg ?_
        refine pF tF30_1 ?_
        refine pLo hO 0 (.lit _ _ _) tA28 ?_
        refine pLen tS28 ?_
        refine pM (.int _ _) ?_
        refine pE ?_
        refine gn ?_
        refine wpL_bl ?_
        refine wpL_loopO (F := f12_L1 aL0) (fun s S' => ∃ (J : Nat → V) (G : Heap), Owns H G [.blk b1 (.cells 2 [.int .i64 aL0.Sections, .lit l1 aL0.Counters.length (flat aL0.Counters)])] ∧ S' = ⟨hav [(3, .fn 36 [.ptr b1 0]), (22, .lit l1 aL0.Counters.length (flat aL0.Counters)), (23, .int .i64 (aL0.Counters.length : Int)), (24, .int .i64 s)] J, G⟩) hk ⟨_, _, hO, St.hav _ ⟨rfl, rfl, rfl, rfl, trivial⟩⟩ ?_
        rintro x2 _ y1 ⟨J, G, hO, rfl⟩ hk hx1
        refine wpL_sq ?_
        refine wpL_rg ?_
        refine pBi ?_
        refine pE ?_
        refine gn ?_
        refine wpL_sq ?_
        refine wpL_cd (b := decide (x2 < (aL0.Counters.length : Int))) (fun hb => ?_) (fun hb => ?_)
        · replace hk := ct hb hk
          refine wpL_sk ?_
          refine gn ?_
          refine wpL_sq ?_
          refine wpL_bl ?_
          refine wpL_sq ?_
          refine wpL_rg ?_
          obtain ⟨c3, hc3, hk⟩ := bs hk
          refine pX hc3 tE28 tZ65 ?_
          refine pLp (.agg [_, _]) (rd2 (off := 0) hc3 tA65 tZ65) ?_
          refine pNew hO tZ65 t065 (fun b4 G hO => ?_)
          refine pSt (xs := [_, _]) hO 0 tZ65 rfl (fun G hO => ?_)
          refine pE ?_
          refine gn ?_
          refine wpL_sq ?_
          refine wpL_rg ?_
          refine pM (.fn _ _) ?_
          refine pF tF65_0 ?_
          refine pLo hO 0 (.int _ _) tA3 ?_
          obtain ⟨v5, hv5, hk⟩ := bs hk
          refine pCall (fun _ => f36_run hv5 (hO.get (k := 1) rfl).1) ?_
          refine pU ?_
          refine pM (.bool _) ?_
          obtain ⟨t6, ht, hk⟩ := bs hk
          refine wpR_mid (l1 := [_, _, _, _, _, _]) (fun S' => ∃ J, S' = ⟨hav [(3, .fn 36 [.ptr b1 0]), (5, .ptr b4 0), (22, .lit l1 aL0.Counters.length (flat aL0.Counters)), (23, .int .i64 (aL0.Counters.length : Int)), (24, .int .i64 x2), (39, .bool t6)] J, G⟩) ?_ ?_
          · refine bc (b := !v5) (fun hg1 => ?_) (fun hg1 => ?_)
            · replace hk := ct hg1 ht
              refine pGn hg1 ?_
              refine pGn hg1 ?_
              refine pGn hg1 ?_
              refine pGn hg1 ?_
              refine pGn hg1 ?_
              refine pPt hg1 (.bool _) ?_
              cases hk; exact pE ⟨_, St.hav _ ⟨rfl, rfl, rfl, rfl, rfl, rfl, trivial⟩⟩
            · replace hk := cf hg1 ht
              refine pGy hg1 ?_
              refine pM (.fn _ _) ?_
              refine pGy hg1 ?_
              refine pF tF65_1 ?_
              refine pGy hg1 ?_
              refine pLo hO 0 (.int _ _) tA3 ?_
              refine pGy hg1 ?_
              obtain ⟨v7, hv7, hk⟩ := bs hk
              refine pCall (fun _ => f36_run hv7 (hO.get (k := 1) rfl).1) ?_
              refine pGy hg1 ?_
              refine pU ?_
              refine pPf hg1 (.bool _) ?_
              cases hk; exact pE ⟨_, St.hav _ ⟨rfl, rfl, rfl, rfl, rfl, rfl, trivial⟩⟩
          · rintro _ ⟨J, rfl⟩
            refine pM (.bool _) ?_
            refine wpR_mid (l1 := [_, _, _, _, _, _]) (fun S' => ∃ J, S' = ⟨hav [(3, .fn 36 [.ptr b1 0]), (22, .lit l1 aL0.Counters.length (flat aL0.Counters)), (23, .int .i64 (aL0.Counters.length : Int)), (24, .int .i64 x2), (46, .bool (t6 || (c3.From == c3.To)))] J, G⟩) ?_ ?_
            · refine bc (b := t6) (fun hg1 => ?_) (fun hg1 => ?_)
              · refine pGn hg1 ?_
                refine pGn hg1 ?_
                refine pGn hg1 ?_
                refine pGn hg1 ?_
                refine pGn hg1 ?_
                refine pPt hg1 (.bool _) ?_
                exact pE ⟨_, St.hav _ ⟨rfl, rfl, rfl, rfl, by rw [hg1]; rfl, trivial⟩⟩
              · refine pGy hg1 ?_
                refine pF tF65_0 ?_
                refine pGy hg1 ?_
                refine pLo hO 0 (.int _ _) tA3 ?_
                refine pGy hg1 ?_
                refine pF tF65_1 ?_
                refine pGy hg1 ?_
                refine pLo hO 0 (.int _ _) tA3 ?_
                refine pGy hg1 ?_
                refine pBi ?_
                refine pPf hg1 (.bool _) ?_
                exact pE ⟨_, St.hav _ ⟨rfl, rfl, rfl, rfl, by rw [hg1]; rfl, trivial⟩⟩
            · rintro _ ⟨J, rfl⟩
              refine pE ?_
              refine gn ?_
              refine wpL_cd (b := (t6 || (c3.From == c3.To))) (fun hb => ?_) (fun hb => ?_)
              · replace hk := ct hb hk
                refine wpL_sq ?_
                refine wpL_rg ?_
                refine pA (.int _ _) ?_
                refine pE ?_
                refine gn ?_
                refine wpL_rt ?_
                refine br (gr (gr (br (gr ?_))))
                replace hk := lx hx1 hk
                cases hk; exact fin0 hO
              · replace hk := cf hb hk
                refine wpL_sk ?_
                refine bn (gn ?_)
                refine wpL_rg ?_
                refine pBi ?_
                refine pM (.int _ _) ?_
                refine pE ?_
                refine gn ?_
                cases hk; exact ⟨_, rfl, _, _, (Owns.pick hO [1] (by decide) rfl), St.hav _ ⟨rfl, rfl, rfl, rfl, trivial⟩⟩
        · replace hk := cf hb hk
          refine wpL_ex ?_
          refine ge (ge (be (gn ?_)))
          replace hk := lx hx1 hk
          refine wpL_sq ?_
          refine wpL_rg ?_
          refine pA (.int _ _) ?_
          refine pE ?_
          refine gn ?_
          refine wpL_rt ?_
          cases hk; exact fin0 hO
/-- impl.CountEventOk -/
def f16_k2 (aL0 : Layout) (aE1 : CountEvent) (x5 : Bool) : Option Bool :=
  (bif x5 then some ((decide (aE1.Of ≥ (0:Int)) && decide (aE1.Of < (aL0.Counters.length : Int))) && (aE1.Dir == (0:Int))) else (bif (aE1.Op == (5:Int)) then some ((decide (aE1.Of ≥ (0:Int)) && decide (aE1.Of < aL0.Sections)) && (aE1.Dir == (0:Int))) else some false))
def f16_k1 (aL0 : Layout) (aE1 : CountEvent) (x4 : Bool) : Option Bool :=
  (bif x4 then some ((decide (aE1.Of ≥ (0:Int)) && decide (aE1.Of < (aL0.Counters.length : Int))) && ((aE1.Dir == (1:Int)) || (aE1.Dir == (-1:Int)))) else (bif (aE1.Op == (3:Int)) then (f16_k2 aL0 aE1 (aE1.Op == (3:Int))) else (f16_k2 aL0 aE1 (aE1.Op == (4:Int)))))
def f16 (aL0 : Layout) (aE1 : CountEvent) : Option Bool :=
  ((f12 aL0).bind fun v3 => (bif (v3 != (0:Int)) then some false else (bif (aE1.Op == (1:Int)) then (f16_k1 aL0 aE1 (aE1.Op == (1:Int))) else (f16_k1 aL0 aE1 (aE1.Op == (2:Int))))))
theorem f16_run {aL0 : Layout} {aE1 : CountEvent} {r : Bool} {l1 : Nat} {H : Heap} {lk : Lk} (hk : f16 aL0 aE1 = some r) (hlk : 0 < lk.length := by simp) : runL Try.prog hh 16 [.agg [.int .i64 aL0.Sections, .lit l1 aL0.Counters.length (flat aL0.Counters)], .agg [.int .i64 aE1.Op, .int .i64 aE1.Of, .int .i64 aE1.Dir]] H lk = some (.bool r, H) := by
  refine run_start Try.func16 rfl Try.ntmps16 Try.results16 rfl rfl fun hO => ?_
  unfold f16 at hk
  refine wpL_sq ?_
  refine wpL_rg ?_
  refine pBox (cs := [_, _]) hO tZ30 (fun b1 G hO => ?_)
  refine pBox (cs := [_, _, _]) hO tZ37 (fun b2 G hO => ?_)
  refine pA (.bool _) ?_
  refine pE ?_
  refine gn ?_
  refine wpL_sq ?_
  refine wpL_sq ?_
  refine wpL_rg ?_
  refine pLs hO 1 [_, _] tA30 tZ30 ?_
  obtain ⟨v3, hv3, hk⟩ := bs hk
  refine pCall (fun _ => f12_run hv3) ?_
  refine pBi ?_
  refine pE ?_
  refine gn ?_
  refine wpL_cd (b := (v3 != (0:Int))) (fun hb => ?_) (fun hb => ?_)
  · replace hk := ct hb hk
    refine wpL_sq ?_
    refine wpL_rg ?_
    refine pA (.bool _) ?_
    refine pE ?_
    refine gn ?_
    refine wpL_rt ?_
    refine gr ?_
    cases hk; exact fin0 hO
  · replace hk := cf hb hk
    refine wpL_sk ?_
    refine gn ?_
    refine wpL_sq ?_
    refine wpL_rg ?_
    refine pF tF37_1 ?_
    refine pLo hO 0 (.int _ _) tA3 ?_
    refine pBi ?_
    refine pM (.bool _) ?_
    refine wpR_mid (l1 := [_, _, _, _, _, _, _]) (fun S' => ∃ J, S' = ⟨hav [(2, .ptr b1 0), (3, .ptr b2 0), (19, .bool (decide (aE1.Of ≥ (0:Int)) && decide (aE1.Of < (aL0.Counters.length : Int))))] J, G⟩) ?_ ?_
    · refine bc (b := decide (aE1.Of ≥ (0:Int))) (fun hg1 => ?_) (fun hg1 => ?_)
      · refine pGy hg1 ?_
        refine pF tF37_1 ?_
        refine pGy hg1 ?_
        refine pLo hO 0 (.int _ _) tA3 ?_
        refine pGy hg1 ?_
        refine pF tF30_1 ?_
        refine pGy hg1 ?_
        refine pLo hO 1 (.lit _ _ _) tA28 ?_
        refine pGy hg1 ?_
        refine pLen tS28 ?_
        refine pGy hg1 ?_
        refine pBi ?_
        refine pPt hg1 (.bool _) ?_
        exact pE ⟨_, St.hav _ ⟨rfl, rfl, by rw [hg1]; rfl, trivial⟩⟩
      · refine pGn hg1 ?_
        refine pGn hg1 ?_
        refine pGn hg1 ?_
        refine pGn hg1 ?_
        refine pGn hg1 ?_
        refine pGn hg1 ?_
        refine pPf hg1 (.bool _) ?_
        exact pE ⟨_, St.hav _ ⟨rfl, rfl, by rw [hg1]; rfl, trivial⟩⟩
    · rintro _ ⟨J, rfl⟩
      refine pA (.bool _) ?_
      refine pE ?_
      refine gn ?_
      refine wpL_sq ?_
      refine wpL_sq ?_
      refine wpL_rg ?_
      refine pF tF37_0 ?_
      refine pLo hO 0 (.int _ _) tA3 ?_
      refine pE ?_
      refine gn ?_
      refine wpL_bl ?_
      refine wpL_mid (fun S' => ∃ (x4 : Bool) (J : Nat → V) (G : Heap), f16_k1 aL0 aE1 x4 = some r ∧ Owns H G [.blk b2 (.cells 3 [.int .i64 aE1.Op, .int .i64 aE1.Of, .int .i64 aE1.Dir]), .blk b1 (.cells 2 [.int .i64 aL0.Sections, .lit l1 aL0.Counters.length (flat aL0.Counters)])] ∧ S' = ⟨hav [(2, .ptr b1 0), (3, .ptr b2 0), (5, .bool (decide (aE1.Of ≥ (0:Int)) && decide (aE1.Of < (aL0.Counters.length : Int)))), (21, .int .i64 aE1.Op), (22, .bool x4)] J, G⟩) ?_ ?_
      · refine wpL_sq ?_
        refine wpL_rg ?_
        refine pBi ?_
        refine pA (.bool _) ?_
        refine pE ?_
        refine gn ?_
        refine wpL_cd (b := (aE1.Op == (1:Int))) (fun hb => ?_) (fun hb => ?_)
        · replace hk := ct hb hk
          refine wpL_sk ?_
          refine gn ?_
          exact ⟨(aE1.Op == (1:Int)), _, _, hk, hO, St.hav _ ⟨rfl, rfl, rfl, rfl, rfl, trivial⟩⟩
        · replace hk := cf hb hk
          refine wpL_rg ?_
          refine pBi ?_
          refine pA (.bool _) ?_
          refine pE ?_
          refine gn ?_
          exact ⟨(aE1.Op == (2:Int)), _, _, hk, hO, St.hav _ ⟨rfl, rfl, rfl, rfl, rfl, trivial⟩⟩
      · rintro _ ⟨x4, J, G, hk, hO, rfl⟩
        refine wpL_cd (b := x4) (fun hb => ?_) (fun hb => ?_)
        · replace hk := ct hb hk
          refine wpL_sq ?_
          refine wpL_rg ?_
          refine pM (.bool _) ?_
          refine pM (.bool _) ?_
          refine wpR_mid (l1 := [_, _, _, _, _, _, _, _, _]) (fun S' => ∃ J, S' = ⟨hav [(35, .bool ((decide (aE1.Of ≥ (0:Int)) && decide (aE1.Of < (aL0.Counters.length : Int))) && ((aE1.Dir == (1:Int)) || (aE1.Dir == (-1:Int)))))] J, G⟩) ?_ ?_
          · refine bc (b := (decide (aE1.Of ≥ (0:Int)) && decide (aE1.Of < (aL0.Counters.length : Int)))) (fun hg1 => ?_) (fun hg1 => ?_)
            · refine pGy hg1 ?_
              refine pF tF37_2 ?_
              refine pGy hg1 ?_
              refine pLo hO 0 (.int _ _) tA3 ?_
              refine pGy hg1 ?_
              refine pBi ?_
              refine pGy hg1 ?_
              refine pM (.bool _) ?_
              refine wpR_mid (l1 := [_, _, _, _]) (fun S' => ∃ J, S' = ⟨hav [(26, .bool (decide (aE1.Of ≥ (0:Int)) && decide (aE1.Of < (aL0.Counters.length : Int)))), (34, .bool ((aE1.Dir == (1:Int)) || (aE1.Dir == (-1:Int))))] J, G⟩) ?_ ?_
              · refine bc (b := (aE1.Dir == (1:Int))) (fun hg2 => ?_) (fun hg2 => ?_)
                · refine pGn hg2 ?_
                  refine pGn hg2 ?_
                  refine pGn hg2 ?_
                  refine pGy hg1 ?_
                  refine pPt hg2 (.bool _) ?_
                  exact pE ⟨_, St.hav _ ⟨rfl, by rw [hg2]; rfl, trivial⟩⟩
                · refine pGy hg2 ?_
                  refine pF tF37_2 ?_
                  refine pGy hg2 ?_
                  refine pLo hO 0 (.int _ _) tA3 ?_
                  refine pGy hg2 ?_
                  refine pBi ?_
                  refine pGy hg1 ?_
                  refine pPf hg2 (.bool _) ?_
                  exact pE ⟨_, St.hav _ ⟨rfl, by rw [hg2]; rfl, trivial⟩⟩
              · rintro _ ⟨J, rfl⟩
                refine pPt hg1 (.bool _) ?_
                exact pE ⟨_, St.hav _ ⟨by rw [hg1]; rfl, trivial⟩⟩
            · refine pGn hg1 ?_
              refine pGn hg1 ?_
              refine pGn hg1 ?_
              refine pGn hg1 ?_
              refine pGu ?_
              refine pGu ?_
              refine pGu ?_
              refine pGn hg1 ?_
              refine pPf hg1 (.bool _) ?_
              exact pE ⟨_, St.hav _ ⟨by rw [hg1]; rfl, trivial⟩⟩
          · rintro _ ⟨J, rfl⟩
            refine pA (.bool _) ?_
            refine pE ?_
            refine gn ?_
            refine wpL_rt ?_
            refine br (gr ?_)
            cases hk; exact fin0 hO
        · replace hk := cf hb hk
          refine wpL_mid (fun S' => ∃ (x5 : Bool) (J : Nat → V) (G : Heap), f16_k2 aL0 aE1 x5 = some r ∧ Owns H G [.blk b2 (.cells 3 [.int .i64 aE1.Op, .int .i64 aE1.Of, .int .i64 aE1.Dir]), .blk b1 (.cells 2 [.int .i64 aL0.Sections, .lit l1 aL0.Counters.length (flat aL0.Counters)])] ∧ S' = ⟨hav [(2, .ptr b1 0), (3, .ptr b2 0), (5, .bool (decide (aE1.Of ≥ (0:Int)) && decide (aE1.Of < (aL0.Counters.length : Int)))), (21, .int .i64 aE1.Op), (36, .bool x5)] J, G⟩) ?_ ?_
          · refine wpL_sq ?_
            refine wpL_rg ?_
            refine pBi ?_
            refine pA (.bool _) ?_
            refine pE ?_
            refine gn ?_
            refine wpL_cd (b := (aE1.Op == (3:Int))) (fun hb => ?_) (fun hb => ?_)
            · replace hk := ct hb hk
              refine wpL_sk ?_
              refine gn ?_
              exact ⟨(aE1.Op == (3:Int)), _, _, hk, hO, St.hav _ ⟨rfl, rfl, rfl, rfl, rfl, trivial⟩⟩
            · replace hk := cf hb hk
              refine wpL_rg ?_
              refine pBi ?_
              refine pA (.bool _) ?_
              refine pE ?_
              refine gn ?_
              exact ⟨(aE1.Op == (4:Int)), _, _, hk, hO, St.hav _ ⟨rfl, rfl, rfl, rfl, rfl, trivial⟩⟩
          · rintro _ ⟨x5, J, G, hk, hO, rfl⟩
            refine wpL_cd (b := x5) (fun hb => ?_) (fun hb => ?_)
            · replace hk := ct hb hk
              refine wpL_sq ?_
              refine wpL_rg ?_
              refine pM (.bool _) ?_
              refine pM (.bool _) ?_
              refine wpR_mid (l1 := [_, _, _, _]) (fun S' => ∃ J, S' = ⟨hav [(44, .bool ((decide (aE1.Of ≥ (0:Int)) && decide (aE1.Of < (aL0.Counters.length : Int))) && (aE1.Dir == (0:Int))))] J, G⟩) ?_ ?_
              · refine bc (b := (decide (aE1.Of ≥ (0:Int)) && decide (aE1.Of < (aL0.Counters.length : Int)))) (fun hg1 => ?_) (fun hg1 => ?_)
                · refine pGy hg1 ?_
                  refine pF tF37_2 ?_
                  refine pGy hg1 ?_
                  refine pLo hO 0 (.int _ _) tA3 ?_
                  refine pGy hg1 ?_
                  refine pBi ?_
                  refine pPt hg1 (.bool _) ?_
                  exact pE ⟨_, St.hav _ ⟨by rw [hg1]; rfl, trivial⟩⟩
                · refine pGn hg1 ?_
                  refine pGn hg1 ?_
                  refine pGn hg1 ?_
                  refine pPf hg1 (.bool _) ?_
                  exact pE ⟨_, St.hav _ ⟨by rw [hg1]; rfl, trivial⟩⟩
              · rintro _ ⟨J, rfl⟩
                refine pA (.bool _) ?_
                refine pE ?_
                refine gn ?_
                refine wpL_rt ?_
                refine br (gr ?_)
                cases hk; exact fin0 hO
            · replace hk := cf hb hk
              refine wpL_sq ?_
              refine wpL_rg ?_
              refine pBi ?_
              refine pA (.bool _) ?_
              refine pE ?_
              refine gn ?_
              refine wpL_cd (b := (aE1.Op == (5:Int))) (fun hb => ?_) (fun hb => ?_)
              · replace hk := ct hb hk
                refine wpL_sq ?_
                refine wpL_rg ?_
                refine pF tF37_1 ?_
                refine pLo hO 0 (.int _ _) tA3 ?_
                refine pBi ?_
                refine pM (.bool _) ?_
                refine wpR_mid (l1 := [_, _, _, _, _, _]) (fun S' => ∃ J, S' = ⟨hav [(3, .ptr b2 0), (56, .bool (decide (aE1.Of ≥ (0:Int)) && decide (aE1.Of < aL0.Sections)))] J, G⟩) ?_ ?_
                · refine bc (b := decide (aE1.Of ≥ (0:Int))) (fun hg1 => ?_) (fun hg1 => ?_)
                  · refine pGy hg1 ?_
                    refine pF tF37_1 ?_
                    refine pGy hg1 ?_
                    refine pLo hO 0 (.int _ _) tA3 ?_
                    refine pGy hg1 ?_
                    refine pF tF30_0 ?_
                    refine pGy hg1 ?_
                    refine pLo hO 1 (.int _ _) tA3 ?_
                    refine pGy hg1 ?_
                    refine pBi ?_
                    refine pPt hg1 (.bool _) ?_
                    exact pE ⟨_, St.hav _ ⟨rfl, by rw [hg1]; rfl, trivial⟩⟩
                  · refine pGn hg1 ?_
                    refine pGn hg1 ?_
                    refine pGn hg1 ?_
                    refine pGn hg1 ?_
                    refine pGn hg1 ?_
                    refine pPf hg1 (.bool _) ?_
                    exact pE ⟨_, St.hav _ ⟨rfl, by rw [hg1]; rfl, trivial⟩⟩
                · rintro _ ⟨J, rfl⟩
                  refine pM (.bool _) ?_
                  refine wpR_mid (l1 := [_, _, _, _]) (fun S' => ∃ J, S' = ⟨hav [(61, .bool ((decide (aE1.Of ≥ (0:Int)) && decide (aE1.Of < aL0.Sections)) && (aE1.Dir == (0:Int))))] J, G⟩) ?_ ?_
                  · refine bc (b := (decide (aE1.Of ≥ (0:Int)) && decide (aE1.Of < aL0.Sections))) (fun hg1 => ?_) (fun hg1 => ?_)
                    · refine pGy hg1 ?_
                      refine pF tF37_2 ?_
                      refine pGy hg1 ?_
                      refine pLo hO 0 (.int _ _) tA3 ?_
                      refine pGy hg1 ?_
                      refine pBi ?_
                      refine pPt hg1 (.bool _) ?_
                      exact pE ⟨_, St.hav _ ⟨by rw [hg1]; rfl, trivial⟩⟩
                    · refine pGn hg1 ?_
                      refine pGn hg1 ?_
                      refine pGn hg1 ?_
                      refine pPf hg1 (.bool _) ?_
                      exact pE ⟨_, St.hav _ ⟨by rw [hg1]; rfl, trivial⟩⟩
                  · rintro _ ⟨J, rfl⟩
                    refine pA (.bool _) ?_
                    refine pE ?_
                    refine gn ?_
                    refine wpL_rt ?_
                    refine br (gr ?_)
                    cases hk; exact fin0 hO
              · replace hk := cf hb hk
                refine wpL_sk ?_
                refine bn (gn ?_)
                refine wpL_sq ?_
                refine wpL_rg ?_
                refine pA (.bool _) ?_
                refine pE ?_
                refine gn ?_
                refine wpL_rt ?_
                cases hk; exact fin0 hO
/-- laws.eqCounter -/
def f55 (aA0 : Counter) (aB1 : Counter) : Option Bool :=
  (bif (aA0.From != aB1.From) then some false else (bif (aA0.To != aB1.To) then some false else some true))
theorem f55_run {aA0 : Counter} {aB1 : Counter} {r : Bool} {H : Heap} {lk : Lk} (hk : f55 aA0 aB1 = some r) (hlk : 0 < lk.length := by simp) : runL Try.prog hh 55 [.agg [.int .i64 aA0.From, .int .i64 aA0.To], .agg [.int .i64 aB1.From, .int .i64 aB1.To]] H lk = some (.bool r, H) := by
  refine run_start Try.func55 rfl Try.ntmps55 Try.results55 rfl rfl fun hO => ?_
  unfold f55 at hk
  refine wpL_sq ?_
  refine wpL_rg ?_
  refine pBox (cs := [_, _]) hO tZ65 (fun b1 G hO => ?_)
  refine pBox (cs := [_, _]) hO tZ65 (fun b2 G hO => ?_)
  refine pA (.bool _) ?_
  refine pE ?_
  refine gn ?_
  refine wpL_sq ?_
  refine wpL_sq ?_
  refine wpL_rg ?_
  refine pF tF65_0 ?_
  refine pLo hO 1 (.int _ _) tA3 ?_
  refine pF tF65_0 ?_
  refine pLo hO 0 (.int _ _) tA3 ?_
  refine pBi ?_
  refine pE ?_
  refine gn ?_
  refine wpL_cd (b := (aA0.From != aB1.From)) (fun hb => ?_) (fun hb => ?_)
  · replace hk := ct hb hk
    refine wpL_sq ?_
    refine wpL_rg ?_
    refine pA (.bool _) ?_
    refine pE ?_
    refine gn ?_
    refine wpL_rt ?_
    refine gr ?_
    cases hk; exact fin0 hO
  · replace hk := cf hb hk
    refine wpL_sk ?_
    refine gn ?_
    refine wpL_sq ?_
    refine wpL_sq ?_
    refine wpL_rg ?_
    refine pF tF65_1 ?_
    refine pLo hO 1 (.int _ _) tA3 ?_
    refine pF tF65_1 ?_
    refine pLo hO 0 (.int _ _) tA3 ?_
    refine pBi ?_
    refine pE ?_
    refine gn ?_
    refine wpL_cd (b := (aA0.To != aB1.To)) (fun hb => ?_) (fun hb => ?_)
    · replace hk := ct hb hk
      refine wpL_sq ?_
      refine wpL_rg ?_
      refine pA (.bool _) ?_
      refine pE ?_
      refine gn ?_
      refine wpL_rt ?_
      refine gr ?_
      cases hk; exact fin0 hO
    · replace hk := cf hb hk
      refine wpL_sk ?_
      refine gn ?_
      refine wpL_sq ?_
      refine wpL_rg ?_
      refine pA (.bool _) ?_
      refine pE ?_
      refine gn ?_
      refine wpL_rt ?_
      cases hk; exact fin0 hO
/-- laws.eqCounterS -/
def f37_L1 (aA0 : List Counter) (aB1 : List Counter) : Int → Option (Int ⊕ Bool) := fun s =>
  (bif decide (s < (aA0.length : Int)) then ((getI aA0 s).bind fun c2 => ((getI aB1 s).bind fun c3 => ((f55 c2 c3).bind fun v4 => (bif !v4 then ((some false).map Sum.inr) else some (.inl (w64 (s + (1:Int)))))))) else ((some true).map Sum.inr))
def f37 (aA0 : List Counter) (aB1 : List Counter) : Option Bool :=
  (bif ((aA0.length : Int) != (aB1.length : Int)) then some false else (loopO (f37_L1 aA0 aB1) ((0:Int))))
theorem f37_run {aA0 : List Counter} {aB1 : List Counter} {r : Bool} {l1 l2 : Nat} {H : Heap} {lk : Lk} (hk : f37 aA0 aB1 = some r) (hlk : 0 < lk.length := by simp) : runL Try.prog hh 37 [.lit l1 aA0.length (flat aA0), .lit l2 aB1.length (flat aB1)] H lk = some (.bool r, H) := by
  refine run_start Try.func37 rfl Try.ntmps37 Try.results37 rfl rfl fun hO => ?_
  unfold f37 at hk
  refine wpL_sq ?_
  refine wpL_rg ?_
  refine pA (.bool _) ?_
  refine pE ?_
  refine gn ?_
  refine wpL_sq ?_
  refine wpL_sq ?_
  refine wpL_rg ?_
  refine pM (.lit _ _ _) ?_
  refine pLen tS28 ?_
  refine pM (.lit _ _ _) ?_
  refine pLen tS28 ?_
  refine pBi ?_
  refine pE ?_
  refine gn ?_
  refine wpL_cd (b := ((aA0.length : Int) != (aB1.length : Int))) (fun hb => ?_) (fun hb => ?_)
  · replace hk := ct hb hk
    refine wpL_sq ?_
    refine wpL_rg ?_
    refine pA (.bool _) ?_
    refine pE ?_
    refine gn ?_
    refine wpL_rt ?_
    refine gr ?_
    cases hk; exact fin0 hO
  · replace hk := cf hb hk
    refine wpL_sk ?_
    refine gn ?_
    refine wpL_sq ?_
    refine wpL_sq ?_
    refine wpL_rg ?_
    refine pA (.int _ _) ?_
    refine pE ?_
    refine gn ?_
    refine wpL_bl ?_
    refine wpL_loopO (F := f37_L1 aA0 aB1) (fun s S' => ∃ (J : Nat → V) (G : Heap), Owns H G [] ∧ S' = ⟨hav [(0, .lit l1 aA0.length (flat aA0)), (1, .lit l2 aB1.length (flat aB1)), (5, .int .i64 s)] J, G⟩) hk ⟨_, _, hO, St.hav _ ⟨rfl, rfl, rfl, trivial⟩⟩ ?_
    rintro x1 _ y1 ⟨J, G, hO, rfl⟩ hk hx1
    refine wpL_sq ?_
    refine wpL_sq ?_
    refine wpL_rg ?_
    refine pM (.int _ _) ?_
    refine pM (.lit _ _ _) ?_
    refine pLen tS28 ?_
    refine pBi ?_
    refine pE ?_
    refine gn ?_
    refine wpL_cd (b := decide (x1 < (aA0.length : Int))) (fun hb => ?_) (fun hb => ?_)
    · replace hk := ct hb hk
      refine wpL_sk ?_
      refine gn ?_
      refine wpL_sq ?_
      refine wpL_bl ?_
      refine wpL_sq ?_
      refine wpL_drw [(0, true), (1, true), (2, true), (3, true), (4, true), (5, true), (6, true), (7, true), (8, false), (9, false)] [_, _, _, _, _, _, _, _, _, _] (by decide +kernel) (by rfl) ?_
      refine pM (.lit _ _ _) ?_
      refine pM (.int _ _) ?_
      obtain ⟨c2, hc2, hk⟩ := bs hk
      refine pX hc2 tE28 tZ65 ?_
      refine pLp (.agg [_, _]) (rd2 (off := 0) hc2 tA65 tZ65) ?_
      refine pM (.lit _ _ _) ?_
      refine pM (.int _ _) ?_
      obtain ⟨c3, hc3, hk⟩ := bs hk
      refine pX hc3 tE28 tZ65 ?_
      refine pLp (.agg [_, _]) (rd2 (off := 0) hc3 tA65 tZ65) ?_
      obtain ⟨v4, hv4, hk⟩ := bs hk
      refine pCall (fun _ => f55_run hv4) ?_
      refine pU ?_
      refine pE ?_
      refine gn ?_
      refine wpL_cd (b := !v4) (fun hb => ?_) (fun hb => ?_)
      · replace hk := ct hb hk
        refine wpL_sq ?_
        refine wpL_rg ?_
        refine pA (.bool _) ?_
        refine pE ?_
        refine gn ?_
        refine wpL_rt ?_
        refine br (gr (gr (br (gr ?_))))
        replace hk := lx hx1 hk
        cases hk; exact fin0 hO
      · replace hk := cf hb hk
        refine wpL_sk ?_
        refine bn (gn ?_)
        refine wpL_rg ?_
        refine pM (.int _ _) ?_
        refine pBi ?_
        refine pA (.int _ _) ?_
        refine pE ?_
        refine gn ?_
        cases hk; exact ⟨_, rfl, _, _, hO, St.hav _ ⟨rfl, rfl, rfl, trivial⟩⟩
    · replace hk := cf hb hk
      refine wpL_ex ?_
      refine ge (ge (be (gn ?_)))
      replace hk := lx hx1 hk
      refine wpL_sq ?_
      refine wpL_rg ?_
      refine pA (.bool _) ?_
      refine pE ?_
      refine gn ?_
      refine wpL_rt ?_
      cases hk; exact fin0 hO
/-- laws.eqLayout -/
def f13 (aA0 : Layout) (aB1 : Layout) : Option Bool :=
  (bif (aA0.Sections != aB1.Sections) then some false else ((f37 aA0.Counters aB1.Counters).bind fun v3 => (bif !v3 then some false else some true)))
theorem f13_run {aA0 : Layout} {aB1 : Layout} {r : Bool} {l1 l2 : Nat} {H : Heap} {lk : Lk} (hk : f13 aA0 aB1 = some r) (hlk : 0 < lk.length := by simp) : runL Try.prog hh 13 [.agg [.int .i64 aA0.Sections, .lit l1 aA0.Counters.length (flat aA0.Counters)], .agg [.int .i64 aB1.Sections, .lit l2 aB1.Counters.length (flat aB1.Counters)]] H lk = some (.bool r, H) := by
  refine run_start Try.func13 rfl Try.ntmps13 Try.results13 rfl rfl fun hO => ?_
  unfold f13 at hk
  refine wpL_sq ?_
  refine wpL_rg ?_
  refine pBox (cs := [_, _]) hO tZ30 (fun b1 G hO => ?_)
  refine pBox (cs := [_, _]) hO tZ30 (fun b2 G hO => ?_)
  refine pA (.bool _) ?_
  refine pE ?_
  refine gn ?_
  refine wpL_sq ?_
  refine wpL_sq ?_
  refine wpL_rg ?_
  refine pF tF30_0 ?_
  refine pLo hO 1 (.int _ _) tA3 ?_
  refine pF tF30_0 ?_
  refine pLo hO 0 (.int _ _) tA3 ?_
  refine pBi ?_
  refine pE ?_
  refine gn ?_
  refine wpL_cd (b := (aA0.Sections != aB1.Sections)) (fun hb => ?_) (fun hb => ?_)
  · replace hk := ct hb hk
    refine wpL_sq ?_
    refine wpL_rg ?_
    refine pA (.bool _) ?_
    refine pE ?_
    refine gn ?_
    refine wpL_rt ?_
    refine gr ?_
    cases hk; exact fin0 hO
  · replace hk := cf hb hk
    refine wpL_sk ?_
    refine gn ?_
    refine wpL_sq ?_
    refine wpL_sq ?_
    refine wpL_rg ?_
    refine pF tF30_1 ?_
    refine pLo hO 1 (.lit _ _ _) tA28 ?_
    refine pF tF30_1 ?_
    refine pLo hO 0 (.lit _ _ _) tA28 ?_
    obtain ⟨v3, hv3, hk⟩ := bs hk
    refine pCall (fun _ => f37_run hv3) ?_
    refine pU ?_
    refine pE ?_
    refine gn ?_
    refine wpL_cd (b := !v3) (fun hb => ?_) (fun hb => ?_)
    · replace hk := ct hb hk
      refine wpL_sq ?_
      refine wpL_rg ?_
      refine pA (.bool _) ?_
      refine pE ?_
      refine gn ?_
      refine wpL_rt ?_
      refine gr ?_
      cases hk; exact fin0 hO
    · replace hk := cf hb hk
      refine wpL_sk ?_
      refine gn ?_
      refine wpL_sq ?_
      refine wpL_rg ?_
      refine pA (.bool _) ?_
      refine pE ?_
      refine gn ?_
      refine wpL_rt ?_
      cases hk; exact fin0 hO
/-- laws.FnExactCountEventOk -/
def f5 (aAL0 : Layout) (aAE1 : CountEvent) : Option Bool :=
  ((f9 aAL0 (1048576:Int)).bind fun v3 => (bif decide (v3 < (0:Int)) then some true else ((f11 aAL0).bind fun v4 => ((f15 aAE1).bind fun v5 => ((f14 v4 v5).bind fun v6 => ((f11 aAL0).bind fun v7 => ((f15 aAE1).bind fun v9 => ((f16 v7 v9).bind fun v10 => (bif !(v10 == v6) then some false else ((f11 aAL0).bind fun v11 => ((f13 v7 v11).bind fun v12 => (bif !v12 then some false else some true))))))))))))
theorem f5_run {aAL0 : Layout} {aAE1 : CountEvent} {r : Bool} {l1 : Nat} {H : Heap} {lk : Lk} (hk : f5 aAL0 aAE1 = some r) (hlk : 0 < lk.length := by simp) : runL Try.prog hh 5 [.agg [.int .i64 aAL0.Sections, .lit l1 aAL0.Counters.length (flat aAL0.Counters)], .agg [.int .i64 aAE1.Op, .int .i64 aAE1.Of, .int .i64 aAE1.Dir]] H lk = some (.bool r, H) := by
  refine run_start Try.func5 rfl Try.ntmps5 Try.results5 rfl rfl fun hO => ?_
  unfold f5 at hk
  refine wpL_sq ?_
  refine wpL_rg ?_
  refine pBox (cs := [_, _]) hO tZ25 (fun b1 G hO => ?_)
  refine pBox (cs := [_, _, _]) hO tZ35 (fun b2 G hO => ?_)
  refine pA (.bool _) ?_
  refine pE ?_
  refine gn ?_
  refine wpL_sq ?_
  refine wpL_rg ?_
  refine pA (.int _ _) ?_
  refine pE ?_
  refine gn ?_
  refine wpL_sq ?_
  refine wpL_rg ?_
  refine pLs hO 1 [_, _] tA25 tZ25 ?_
  refine pM (.int _ _) ?_
  obtain ⟨v3, hv3, hk⟩ := bs hk
  refine pCall (fun _ => f9_run hv3) ?_
  refine pA (.int _ _) ?_
  refine pE ?_
  refine gn ?_
  refine wpL_sq ?_
  refine wpL_sq ?_
  refine wpL_rg ?_
  refine pM (.int _ _) ?_
  refine pBi ?_
  refine pE ?_
  refine gn ?_
  refine wpL_cd (b := decide (v3 < (0:Int))) (fun hb => ?_) (fun hb => ?_)
  · replace hk := ct hb hk
    refine wpL_sq ?_
    refine wpL_rg ?_
    refine pA (.bool _) ?_
    refine pE ?_
    refine gn ?_
    refine wpL_rt ?_
    refine gr ?_
    cases hk; exact fin0 hO
  · replace hk := cf hb hk
    refine wpL_sk ?_
    refine gn ?_
    refine wpL_sq ?_
    refine wpL_drw [(0, true), (2, true), (1, true), (3, false), (4, false), (5, false)] [_, _, _, _, _, _] (by decide +kernel) (by rfl) ?_
    refine pLs hO 1 [_, _] tA25 tZ25 ?_
    refine pLs hO 0 [_, _, _] tA35 tZ35 ?_
    obtain ⟨v4, hv4, hk⟩ := bs hk
    refine pCall (fun _ => f11_run hv4) ?_
    obtain ⟨v5, hv5, hk⟩ := bs hk
    refine pCall (fun _ => f15_run hv5) ?_
    obtain ⟨v6, hv6, hk⟩ := bs hk
    refine pCall (fun _ => f14_run hv6) ?_
    refine pA (.bool _) ?_
    refine pE ?_
    refine gn ?_
    refine wpL_sq ?_
    refine wpL_rg ?_
    refine pLs hO 1 [_, _] tA25 tZ25 ?_
    obtain ⟨v7, hv7, hk⟩ := bs hk
    refine pCall (fun _ => f11_run hv7) ?_
    refine pNew hO tZ30 t030 (fun b8 G hO => ?_)
    refine pSt (xs := [_, _]) hO 0 tZ30 rfl (fun G hO => ?_)
    refine pE ?_
    refine gn ?_
    refine wpL_sq ?_
    refine wpL_drw [(0, true), (1, true), (2, true), (3, false), (4, false)] [_, _, _, _, _] (by decide +kernel) (by rfl) ?_
    refine pLs hO 0 [_, _] tA30 tZ30 ?_
    refine pLs hO 1 [_, _, _] tA35 tZ35 ?_
    obtain ⟨v9, hv9, hk⟩ := bs hk
    refine pCall (fun _ => f15_run hv9) ?_
    obtain ⟨v10, hv10, hk⟩ := bs hk
    refine pCall (fun _ => f16_run hv10) ?_
    refine pA (.bool _) ?_
    refine pE ?_
    refine gn ?_
    refine wpL_sq ?_
    refine wpL_sq ?_
    refine wpL_rg ?_
    refine pM (.bool _) ?_
    refine pM (.bool _) ?_
    refine pBn Try.underlying4 ?_
    refine pE ?_
    refine gn ?_
    refine wpL_cd (b := !(v10 == v6)) (fun hb => ?_) (fun hb => ?_)
    · replace hk := ct hb hk
      refine wpL_sq ?_
      refine wpL_rg ?_
      refine pA (.bool _) ?_
      refine pE ?_
      refine gn ?_
      refine wpL_rt ?_
      refine gr ?_
      cases hk; exact fin0 hO
    · replace hk := cf hb hk
      refine wpL_sk ?_
      refine gn ?_
      refine wpL_sq ?_
      refine wpL_sq ?_
      refine wpL_drw [(0, true), (1, true), (2, true), (3, false), (4, false)] [_, _, _, _, _] (by decide +kernel) (by rfl) ?_
      refine pLs hO 0 [_, _] tA30 tZ30 ?_
      refine pLs hO 2 [_, _] tA25 tZ25 ?_
      obtain ⟨v11, hv11, hk⟩ := bs hk
      refine pCall (fun _ => f11_run hv11) ?_
      obtain ⟨v12, hv12, hk⟩ := bs hk
      refine pCall (fun _ => f13_run hv12) ?_
      refine pU ?_
      refine pE ?_
      refine gn ?_
      refine wpL_cd (b := !v12) (fun hb => ?_) (fun hb => ?_)
      · replace hk := ct hb hk
        refine wpL_sq ?_
        refine wpL_rg ?_
        refine pA (.bool _) ?_
        refine pE ?_
        refine gn ?_
        refine wpL_rt ?_
        refine gr ?_
        cases hk; exact fin0 hO
      · replace hk := cf hb hk
        refine wpL_sk ?_
        refine gn ?_
        refine wpL_sq ?_
        refine wpL_rg ?_
        refine pA (.bool _) ?_
        refine pE ?_
        refine gn ?_
        refine wpL_rt ?_
        cases hk; exact fin0 hO
end
end Go.Proofs.Ytibdgkckacmfaaa.K
