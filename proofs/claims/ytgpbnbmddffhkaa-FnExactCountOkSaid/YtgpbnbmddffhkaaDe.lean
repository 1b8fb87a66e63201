/-
  The functions that FnExactCountOk reaches, as typed Lean functions, and that the interpreter computes them. No conditions.
-/
import Derived.Test.YtgpbnbmddffhkaaKv
import Derived.Test.YtgpbnbmddffhkaaProg
set_option linter.unusedVariables false
set_option linter.unusedSimpArgs false
set_option maxRecDepth 100000
namespace Go.Proofs.Ytgpbnbmddffhkaa.K
noncomputable section
def hh : Hints := { modes := fun _ => [], thaw := fun _ => false, grow := fun _ => false, keep := fun _ => false }
structure Counter where
  From : Int
  To : Int
instance : GoT Counter := ⟨2, by decide, fun x => GoT.enc x.From ++ (GoT.enc x.To), fun x => by simp only [List.length_append, GoT.len]; rfl, fun x => by simp only [cleanL_append, GoT.clean]; rfl, fun x => by simp only [List.all_append, GoT.cell]; rfl⟩
structure Layout where
  Sections : Int
  Counters : List Counter
instance : GoT Layout := ⟨2, by decide, fun x => GoT.enc x.Sections ++ (GoT.enc x.Counters), fun x => by simp only [List.length_append, GoT.len]; rfl, fun x => by simp only [cleanL_append, GoT.clean]; rfl, fun x => by simp only [List.all_append, GoT.cell]; rfl⟩
structure Section where
  Told : Int
  Count : Int
  Lost : Bool
  Sweep : Bool
  Last : Int
instance : GoT Section := ⟨5, by decide, fun x => GoT.enc x.Told ++ (GoT.enc x.Count ++ (GoT.enc x.Lost ++ (GoT.enc x.Sweep ++ (GoT.enc x.Last)))), fun x => by simp only [List.length_append, GoT.len]; rfl, fun x => by simp only [cleanL_append, GoT.clean]; rfl, fun x => by simp only [List.all_append, GoT.cell]; rfl⟩
structure CountState where
  Ok : Bool
  Sections : List Section
  Dead : List Bool
instance : GoT CountState := ⟨3, by decide, fun x => GoT.enc x.Ok ++ (GoT.enc x.Sections ++ (GoT.enc x.Dead)), fun x => by simp only [List.length_append, GoT.len]; rfl, fun x => by simp only [cleanL_append, GoT.clean]; rfl, fun x => by simp only [List.all_append, GoT.cell]; rfl⟩
theorem tZ24 : szOf Try.prog 24 = some 2 := by rfl
theorem tZ28 : szOf Try.prog 28 = some 3 := by rfl
theorem tA24 : aggT Try.prog 24 = some true := by rfl
theorem tF24_1 : fieldOff Try.prog 24 1 = some 1 := by rfl
theorem tA22 : aggT Try.prog 22 = some false := by rfl
theorem tS22 : strT Try.prog 22 = some false := by rfl
theorem tA28 : aggT Try.prog 28 = some true := by rfl
theorem tF28_1 : fieldOff Try.prog 28 1 = some 1 := by rfl
theorem tA25 : aggT Try.prog 25 = some false := by rfl
theorem tS25 : strT Try.prog 25 = some false := by rfl
theorem tF28_2 : fieldOff Try.prog 28 2 = some 2 := by rfl
theorem tA26 : aggT Try.prog 26 = some false := by rfl
theorem tS26 : strT Try.prog 26 = some false := by rfl
theorem tZ34 : szOf Try.prog 34 = some 2 := by rfl
theorem t034 : zeroOf Try.prog 34 = some [.int .i64 0, (.tl 0 [])] := by rfl
theorem tF24_0 : fieldOff Try.prog 24 0 = some 0 := by rfl
theorem tA3 : aggT Try.prog 3 = some false := by rfl
theorem tF34_0 : fieldOff Try.prog 34 0 = some 0 := by rfl
theorem tZ3 : szOf Try.prog 3 = some 1 := by rfl
theorem tE32 : elemT Try.prog 32 = some 226 := by rfl
theorem tZ226 : szOf Try.prog 226 = some 2 := by rfl
theorem tB226 : bytesOf Try.prog 226 = some 16 := by rfl
theorem t0226 : zeroOf Try.prog 226 = some [.int .i64 0, .int .i64 0] := by rfl
theorem tE22 : elemT Try.prog 22 = some 229 := by rfl
theorem tZ229 : szOf Try.prog 229 = some 2 := by rfl
theorem tA229 : aggT Try.prog 229 = some true := by rfl
theorem tF229_0 : fieldOff Try.prog 229 0 = some 0 := by rfl
theorem tF226_0 : fieldOff Try.prog 226 0 = some 0 := by rfl
theorem tF229_1 : fieldOff Try.prog 229 1 = some 1 := by rfl
theorem tF226_1 : fieldOff Try.prog 226 1 = some 1 := by rfl
theorem tA226 : aggT Try.prog 226 = some true := by rfl
theorem tF34_1 : fieldOff Try.prog 34 1 = some 1 := by rfl
theorem tZ32 : szOf Try.prog 32 = some 1 := by rfl
theorem tA34 : aggT Try.prog 34 = some true := by rfl
theorem tZ38 : szOf Try.prog 38 = some 3 := by rfl
theorem t038 : zeroOf Try.prog 38 = some [.bool false, (.tl 0 []), (.tl 0 [])] := by rfl
theorem tF28_0 : fieldOff Try.prog 28 0 = some 0 := by rfl
theorem tA4 : aggT Try.prog 4 = some false := by rfl
theorem tF38_0 : fieldOff Try.prog 38 0 = some 0 := by rfl
theorem tZ4 : szOf Try.prog 4 = some 1 := by rfl
theorem tE36 : elemT Try.prog 36 = some 142 := by rfl
theorem tZ142 : szOf Try.prog 142 = some 5 := by rfl
theorem tB142 : bytesOf Try.prog 142 = some 32 := by rfl
theorem t0142 : zeroOf Try.prog 142 = some [.int .i64 0, .int .i64 0, .bool false, .bool false, .int .i64 0] := by rfl
theorem tE25 : elemT Try.prog 25 = some 231 := by rfl
theorem tZ231 : szOf Try.prog 231 = some 5 := by rfl
theorem tA231 : aggT Try.prog 231 = some true := by rfl
theorem tF231_0 : fieldOff Try.prog 231 0 = some 0 := by rfl
theorem tF142_0 : fieldOff Try.prog 142 0 = some 0 := by rfl
theorem tF231_1 : fieldOff Try.prog 231 1 = some 1 := by rfl
theorem tF142_1 : fieldOff Try.prog 142 1 = some 1 := by rfl
theorem tF231_2 : fieldOff Try.prog 231 2 = some 2 := by rfl
theorem tF142_2 : fieldOff Try.prog 142 2 = some 2 := by rfl
theorem tF231_3 : fieldOff Try.prog 231 3 = some 3 := by rfl
theorem tF142_3 : fieldOff Try.prog 142 3 = some 3 := by rfl
theorem tF231_4 : fieldOff Try.prog 231 4 = some 4 := by rfl
theorem tF142_4 : fieldOff Try.prog 142 4 = some 4 := by rfl
theorem tA142 : aggT Try.prog 142 = some true := by rfl
theorem tF38_1 : fieldOff Try.prog 38 1 = some 1 := by rfl
theorem tZ36 : szOf Try.prog 36 = some 1 := by rfl
theorem tE26 : elemT Try.prog 26 = some 4 := by rfl
theorem tB4 : bytesOf Try.prog 4 = some 1 := by rfl
theorem t04 : zeroOf Try.prog 4 = some [.bool false] := by rfl
theorem tF38_2 : fieldOff Try.prog 38 2 = some 2 := by rfl
theorem tZ26 : szOf Try.prog 26 = some 1 := by rfl
theorem tA38 : aggT Try.prog 38 = some true := by rfl
theorem tA32 : aggT Try.prog 32 = some false := by rfl
theorem tS32 : strT Try.prog 32 = some false := by rfl
theorem tA36 : aggT Try.prog 36 = some false := by rfl
theorem tS36 : strT Try.prog 36 = some false := by rfl
theorem tE61 : elemT Try.prog 61 = some 3 := by rfl
theorem t03 : zeroOf Try.prog 3 = some [.int .i64 0] := by rfl
theorem tB3 : bytesOf Try.prog 3 = some 8 := by rfl
theorem tS61 : strT Try.prog 61 = some false := by rfl
/-- laws.szCounterS -/
def f68 (aA0 : List Counter) (aLeft1 : Int) : Option Int :=
  (bif decide ((w64 (aLeft1 - (aA0.length : Int))) < (0:Int)) then some (-1:Int) else some (w64 (aLeft1 - (aA0.length : Int))))
theorem f68_run {aA0 : List Counter} {aLeft1 : Int} {r : Int} {l1 : Nat} {H : Heap} {lk : Lk} (hk : f68 aA0 aLeft1 = some r) (hlk : 0 < lk.length := by simp) : runL Try.prog hh 68 [.lit l1 aA0.length (flat aA0), .int .i64 aLeft1] H lk = some (.int .i64 r, H) := by
  refine run_start Try.func68 rfl Try.ntmps68 Try.results68 rfl rfl fun hO => ?_
  unfold f68 at hk
  refine wpL_sq ?_
  refine wpL_rg ?_
  refine pA (.int _ _) ?_
  refine pE ?_
  refine gn ?_
  refine wpL_sq ?_
  refine wpL_rg ?_
  refine pM (.int _ _) ?_
  refine pM (.lit _ _ _) ?_
  refine pLen tS22 ?_
  refine pBi ?_
  refine pA (.int _ _) ?_
  refine pE ?_
  refine gn ?_
  refine wpL_sq ?_
  refine wpL_sq ?_
  refine wpL_rg ?_
  refine pM (.int _ _) ?_
  refine pBi ?_
  refine pE ?_
  refine gn ?_
  refine wpL_cd (b := decide ((w64 (aLeft1 - (aA0.length : Int))) < (0:Int))) (fun hb => ?_) (fun hb => ?_)
  · replace hk := ct hb hk
    refine wpL_sq ?_
    refine wpL_rg ?_
    refine pA (.int _ _) ?_
    refine pE ?_
    refine gn ?_
    refine wpL_rt ?_
    refine gr ?_
    cases hk; exact fin0 hO
  · replace hk := cf hb hk
    refine wpL_sk ?_
    refine gn ?_
    refine wpL_sq ?_
    refine wpL_rg ?_
    refine pM (.int _ _) ?_
    refine pA (.int _ _) ?_
    refine pE ?_
    refine gn ?_
    refine wpL_rt ?_
    cases hk; exact fin0 hO
/-- laws.szLayout -/
def f15 (aA0 : Layout) (aLeft1 : Int) : Option Int :=
  ((f68 aA0.Counters aLeft1).bind fun v2 => (bif decide (v2 < (0:Int)) then some (-1:Int) else some v2))
theorem f15_run {aA0 : Layout} {aLeft1 : Int} {r : Int} {l1 : Nat} {H : Heap} {lk : Lk} (hk : f15 aA0 aLeft1 = some r) (hlk : 0 < lk.length := by simp) : runL Try.prog hh 15 [.agg [.int .i64 aA0.Sections, .lit l1 aA0.Counters.length (flat aA0.Counters)], .int .i64 aLeft1] H lk = some (.int .i64 r, H) := by
  refine run_start Try.func15 rfl Try.ntmps15 Try.results15 rfl rfl fun hO => ?_
  unfold f15 at hk
  refine wpL_sq ?_
  refine wpL_rg ?_
  refine pBox (cs := [_, _]) hO tZ24 (fun b1 G hO => ?_)
  refine pA (.int _ _) ?_
  refine pE ?_
  refine gn ?_
  refine wpL_sq ?_
  refine wpL_rg ?_
  refine pF tF24_1 ?_
  refine pLo hO 0 (.lit _ _ _) tA22 ?_
  refine pM (.int _ _) ?_
  obtain ⟨v2, hv2, hk⟩ := bs hk
  refine pCall (fun _ => f68_run hv2) ?_
  refine pA (.int _ _) ?_
  refine pE ?_
  refine gn ?_
  refine wpL_sq ?_
  refine wpL_sq ?_
  refine wpL_rg ?_
  refine pM (.int _ _) ?_
  refine pBi ?_
  refine pE ?_
  refine gn ?_
  refine wpL_cd (b := decide (v2 < (0:Int))) (fun hb => ?_) (fun hb => ?_)
  · replace hk := ct hb hk
    refine wpL_sq ?_
    refine wpL_rg ?_
    refine pA (.int _ _) ?_
    refine pE ?_
    refine gn ?_
    refine wpL_rt ?_
    refine gr ?_
    cases hk; exact fin0 hO
  · replace hk := cf hb hk
    refine wpL_sk ?_
    refine gn ?_
    refine wpL_sq ?_
    refine wpL_rg ?_
    refine pM (.int _ _) ?_
    refine pA (.int _ _) ?_
    refine pE ?_
    refine gn ?_
    refine wpL_rt ?_
    cases hk; exact fin0 hO
/-- laws.szSectionS -/
def f69 (aA0 : List Section) (aLeft1 : Int) : Option Int :=
  (bif decide ((w64 (aLeft1 - (aA0.length : Int))) < (0:Int)) then some (-1:Int) else some (w64 (aLeft1 - (aA0.length : Int))))
theorem f69_run {aA0 : List Section} {aLeft1 : Int} {r : Int} {l1 : Nat} {H : Heap} {lk : Lk} (hk : f69 aA0 aLeft1 = some r) (hlk : 0 < lk.length := by simp) : runL Try.prog hh 69 [.lit l1 aA0.length (flat aA0), .int .i64 aLeft1] H lk = some (.int .i64 r, H) := by
  refine run_start Try.func69 rfl Try.ntmps69 Try.results69 rfl rfl fun hO => ?_
  unfold f69 at hk
  refine wpL_sq ?_
  refine wpL_rg ?_
  refine pA (.int _ _) ?_
  refine pE ?_
  refine gn ?_
  refine wpL_sq ?_
  refine wpL_rg ?_
  refine pM (.int _ _) ?_
  refine pM (.lit _ _ _) ?_
  refine pLen tS25 ?_
  refine pBi ?_
  refine pA (.int _ _) ?_
  refine pE ?_
  refine gn ?_
  refine wpL_sq ?_
  refine wpL_sq ?_
  refine wpL_rg ?_
  refine pM (.int _ _) ?_
  refine pBi ?_
  refine pE ?_
  refine gn ?_
  refine wpL_cd (b := decide ((w64 (aLeft1 - (aA0.length : Int))) < (0:Int))) (fun hb => ?_) (fun hb => ?_)
  · replace hk := ct hb hk
    refine wpL_sq ?_
    refine wpL_rg ?_
    refine pA (.int _ _) ?_
    refine pE ?_
    refine gn ?_
    refine wpL_rt ?_
    refine gr ?_
    cases hk; exact fin0 hO
  · replace hk := cf hb hk
    refine wpL_sk ?_
    refine gn ?_
    refine wpL_sq ?_
    refine wpL_rg ?_
    refine pM (.int _ _) ?_
    refine pA (.int _ _) ?_
    refine pE ?_
    refine gn ?_
    refine wpL_rt ?_
    cases hk; exact fin0 hO
/-- laws.szBoolS -/
def f70 (aA0 : List Bool) (aLeft1 : Int) : Option Int :=
  (bif decide ((w64 (aLeft1 - (aA0.length : Int))) < (0:Int)) then some (-1:Int) else some (w64 (aLeft1 - (aA0.length : Int))))
theorem f70_run {aA0 : List Bool} {aLeft1 : Int} {r : Int} {l1 : Nat} {H : Heap} {lk : Lk} (hk : f70 aA0 aLeft1 = some r) (hlk : 0 < lk.length := by simp) : runL Try.prog hh 70 [.lit l1 aA0.length (flat aA0), .int .i64 aLeft1] H lk = some (.int .i64 r, H) := by
  refine run_start Try.func70 rfl Try.ntmps70 Try.results70 rfl rfl fun hO => ?_
  unfold f70 at hk
  refine wpL_sq ?_
  refine wpL_rg ?_
  refine pA (.int _ _) ?_
  refine pE ?_
  refine gn ?_
  refine wpL_sq ?_
  refine wpL_rg ?_
  refine pM (.int _ _) ?_
  refine pM (.lit _ _ _) ?_
  refine pLen tS26 ?_
  refine pBi ?_
  refine pA (.int _ _) ?_
  refine pE ?_
  refine gn ?_
  refine wpL_sq ?_
  refine wpL_sq ?_
  refine wpL_rg ?_
  refine pM (.int _ _) ?_
  refine pBi ?_
  refine pE ?_
  refine gn ?_
  refine wpL_cd (b := decide ((w64 (aLeft1 - (aA0.length : Int))) < (0:Int))) (fun hb => ?_) (fun hb => ?_)
  · replace hk := ct hb hk
    refine wpL_sq ?_
    refine wpL_rg ?_
    refine pA (.int _ _) ?_
    refine pE ?_
    refine gn ?_
    refine wpL_rt ?_
    refine gr ?_
    cases hk; exact fin0 hO
  · replace hk := cf hb hk
    refine wpL_sk ?_
    refine gn ?_
    refine wpL_sq ?_
    refine wpL_rg ?_
    refine pM (.int _ _) ?_
    refine pA (.int _ _) ?_
    refine pE ?_
    refine gn ?_
    refine wpL_rt ?_
    cases hk; exact fin0 hO
/-- laws.szCountState -/
def f16 (aA0 : CountState) (aLeft1 : Int) : Option Int :=
  ((f69 aA0.Sections aLeft1).bind fun v2 => (bif decide (v2 < (0:Int)) then some (-1:Int) else ((f70 aA0.Dead v2).bind fun v3 => (bif decide (v3 < (0:Int)) then some (-1:Int) else some v3))))
theorem f16_run {aA0 : CountState} {aLeft1 : Int} {r : Int} {l1 l2 : Nat} {H : Heap} {lk : Lk} (hk : f16 aA0 aLeft1 = some r) (hlk : 0 < lk.length := by simp) : runL Try.prog hh 16 [.agg [.bool aA0.Ok, .lit l1 aA0.Sections.length (flat aA0.Sections), .lit l2 aA0.Dead.length (flat aA0.Dead)], .int .i64 aLeft1] H lk = some (.int .i64 r, H) := by
  refine run_start Try.func16 rfl Try.ntmps16 Try.results16 rfl rfl fun hO => ?_
  unfold f16 at hk
  refine wpL_sq ?_
  refine wpL_rg ?_
  refine pBox (cs := [_, _, _]) hO tZ28 (fun b1 G hO => ?_)
  refine pA (.int _ _) ?_
  refine pE ?_
  refine gn ?_
  refine wpL_sq ?_
  refine wpL_rg ?_
  refine pF tF28_1 ?_
  refine pLo hO 0 (.lit _ _ _) tA25 ?_
  refine pM (.int _ _) ?_
  obtain ⟨v2, hv2, hk⟩ := bs hk
  refine pCall (fun _ => f69_run hv2) ?_
  refine pA (.int _ _) ?_
  refine pE ?_
  refine gn ?_
  refine wpL_sq ?_
  refine wpL_sq ?_
  refine wpL_rg ?_
  refine pM (.int _ _) ?_
  refine pBi ?_
  refine pE ?_
  refine gn ?_
  refine wpL_cd (b := decide (v2 < (0:Int))) (fun hb => ?_) (fun hb => ?_)
  · replace hk := ct hb hk
    refine wpL_sq ?_
    refine wpL_rg ?_
    refine pA (.int _ _) ?_
    refine pE ?_
    refine gn ?_
    refine wpL_rt ?_
    refine gr ?_
    cases hk; exact fin0 hO
  · replace hk := cf hb hk
    refine wpL_sk ?_
    refine gn ?_
    refine wpL_sq ?_
    refine wpL_rg ?_
    refine pF tF28_2 ?_
    refine pLo hO 0 (.lit _ _ _) tA26 ?_
    refine pM (.int _ _) ?_
    obtain ⟨v3, hv3, hk⟩ := bs hk
    refine pCall (fun _ => f70_run hv3) ?_
    refine pA (.int _ _) ?_
    refine pE ?_
    refine gn ?_
    refine wpL_sq ?_
    refine wpL_sq ?_
    refine wpL_rg ?_
    refine pM (.int _ _) ?_
    refine pBi ?_
    refine pE ?_
    refine gn ?_
    refine wpL_cd (b := decide (v3 < (0:Int))) (fun hb => ?_) (fun hb => ?_)
    · replace hk := ct hb hk
      refine wpL_sq ?_
      refine wpL_rg ?_
      refine pA (.int _ _) ?_
      refine pE ?_
      refine gn ?_
      refine wpL_rt ?_
      refine gr ?_
      cases hk; exact fin0 hO
    · replace hk := cf hb hk
      refine wpL_sk ?_
      refine gn ?_
      refine wpL_sq ?_
      refine wpL_rg ?_
      refine pM (.int _ _) ?_
      refine pA (.int _ _) ?_
      refine pE ?_
      refine gn ?_
      refine wpL_rt ?_
      cases hk; exact fin0 hO
/-- laws.toCounter -/
def f161 (aA0 : Counter) : Option Counter :=
  some aA0
theorem f161_run {aA0 : Counter} {r : Counter} {H : Heap} {lk : Lk} (hk : f161 aA0 = some r) (hlk : 0 < lk.length := by simp) : runL Try.prog hh 161 [.agg [.int .i64 aA0.From, .int .i64 aA0.To]] H lk = some (.agg [.int .i64 r.From, .int .i64 r.To], H) := by
  refine run_start Try.func161 rfl Try.ntmps161 Try.results161 rfl rfl fun hO => ?_
  unfold f161 at hk
  refine wpL_sq ?_
  refine wpL_rg ?_
  refine pBox (cs := [_, _]) hO tZ229 (fun b1 G hO => ?_)
  refine pNew hO tZ226 t0226 (fun b2 G hO => ?_)
  refine pE ?_
  refine gn ?_
  refine wpL_sq ?_
  refine wpL_rg ?_
  refine pNew hO tZ226 t0226 (fun b3 G hO => ?_)
  refine pE ?_
  refine gn ?_
  refine wpL_sq ?_
  refine wpL_rg ?_
  refine pF tF229_0 ?_
  refine pLo hO 2 (.int _ _) tA3 ?_
  refine pF tF226_0 ?_
  refine pSt (xs := [_]) hO 0 tZ3 rfl (fun G hO => ?_)
  refine pE ?_
  refine gn ?_
  refine wpL_sq ?_
  refine wpL_rg ?_
  refine pF tF229_1 ?_
  refine pLo hO 2 (.int _ _) tA3 ?_
  refine pF tF226_1 ?_
  refine pSt (xs := [_]) hO 0 tZ3 rfl (fun G hO => ?_)
  refine pE ?_
  refine gn ?_
  refine wpL_sq ?_
  refine wpL_rg ?_
  refine pLs hO 0 [_, _] tA226 tZ226 ?_
  refine pSt (xs := [_, _]) hO 1 tZ226 rfl (fun G hO => ?_)
  refine pE ?_
  refine gn ?_
  refine wpL_rt ?_
  cases hk; exact finZ hO (fz_agg (n := 2) (fz_c (fz_int _ _) (fz_c (fz_int _ _) (fz_n)))) (resS hO 1 [_, _] tA226 tZ226 resN)
/-- laws.toCounterS -/
def f75_L1 (aA0 : List Counter) : ((List Counter) × Int) → Option (((List Counter) × Int) ⊕ (List Counter)) := fun s =>
  (bif decide (s.2 < (aA0.length : Int)) then ((getI aA0 s.2).bind fun c5 => ((f161 c5).bind fun v6 => ((getI s.1 s.2).bind fun c7 => some (.inl (s.1.set s.2.toNat v6, w64 (s.2 + (1:Int))))))) else ((some s.1).map Sum.inr))
def f75 (aA0 : List Counter) : Option (List Counter) :=
  ((makeB 16 (aA0.length : Int)).bind fun m1 => (loopO (f75_L1 aA0) (List.replicate m1 (⟨0, 0⟩ : Counter), (0:Int))))
theorem f75_run {aA0 : List Counter} {r : (List Counter)} {l1 : Nat} {H : Heap} {lk : Lk} (hk : f75 aA0 = some r) (hlk : 0 < lk.length := by simp) : runL Try.prog hh 75 [.lit l1 aA0.length (flat aA0)] H lk = some (.lit 0 r.length (flat r), H) := by
  refine run_start Try.func75 rfl Try.ntmps75 Try.results75 rfl rfl fun hO => ?_
  unfold f75 at hk
  refine wpL_sq ?_
  refine wpL_rg ?_
  refine pA (.tl 0 []) ?_
  refine pE ?_
  refine gn ?_
  refine wpL_sq ?_
  refine wpL_rg ?_
  refine pM (.lit _ _ _) ?_
  refine pLen tS22 ?_
  obtain ⟨m1, hm1, hk⟩ := bs hk
  refine pMk hO hm1 (⟨0, 0⟩ : Counter) tE32 tZ226 tB226 t0226 (fun b2 G hO => ?_)
  refine pA (.sl _ _ _) ?_
  refine pE ?_
  refine gn ?_
  refine wpL_sq ?_
  refine wpL_sq ?_
  refine wpL_rg ?_
  refine pA (.int _ _) ?_
  refine pE ?_
  refine gn ?_
  refine wpL_bl ?_
  refine wpL_loopO (F := f75_L1 aA0) (fun s S' => ∃ (J : Nat → V) (G : Heap), s.1.length = m1 ∧ Owns H G [.blk b2 (.cells 2 (flat s.1))] ∧ S' = ⟨hav [(0, .lit l1 aA0.length (flat aA0)), (3, .sl b2 0 m1), (4, .int .i64 s.2)] J, G⟩) hk ⟨_, _, List.length_replicate, hO, St.hav _ ⟨rfl, rfl, rfl, trivial⟩⟩ ?_
  rintro ⟨x3, x4⟩ _ y1 ⟨J, G, hl3, hO, rfl⟩ hk hx1
  refine wpL_sq ?_
  refine wpL_sq ?_
  refine wpL_rg ?_
  refine pM (.int _ _) ?_
  refine pM (.lit _ _ _) ?_
  refine pLen tS22 ?_
  refine pBi ?_
  refine pE ?_
  refine gn ?_
  refine wpL_cd (b := decide (x4 < (aA0.length : Int))) (fun hb => ?_) (fun hb => ?_)
  · replace hk := ct hb hk
    refine wpL_sk ?_
    refine gn ?_
    refine wpL_sq ?_
    refine wpL_bl ?_
    refine wpL_rg ?_
    refine pM (.sl _ _ _) ?_
    refine pM (.int _ _) ?_
    refine pM (.lit _ _ _) ?_
    refine pM (.int _ _) ?_
    obtain ⟨c5, hc5, hk⟩ := bs hk
    refine pX hc5 tE22 tZ229 ?_
    refine pLp (.agg [_, _]) (rd2 (off := 0) hc5 tA229 tZ229) ?_
    obtain ⟨v6, hv6, hk⟩ := bs hk
    refine pCall (fun _ => f161_run hv6) ?_
    obtain ⟨c7, hc7, hk⟩ := bs hk
    refine pXm hl3 hc7 tE32 tZ226 ?_
    refine pSm hO 0 hc7 tZ226 rfl v6 (.agg [_, _]) (fun G hO => ?_)
    refine pE ?_
    refine bn (gn ?_)
    refine wpL_rg ?_
    refine pM (.int _ _) ?_
    refine pBi ?_
    refine pA (.int _ _) ?_
    refine pE ?_
    refine gn ?_
    cases hk; exact ⟨_, rfl, _, _, (List.length_set.trans hl3), hO, St.hav _ ⟨rfl, rfl, rfl, trivial⟩⟩
  · replace hk := cf hb hk
    refine wpL_ex ?_
    refine ge (ge (be (gn ?_)))
    replace hk := lx hx1 hk
    refine wpL_sq ?_
    refine wpL_rg ?_
    refine pM (.sl _ _ _) ?_
    refine pA (.sl _ _ _) ?_
    refine pE ?_
    refine gn ?_
    refine wpL_rt ?_
    cases hk; exact finZ hO (fz_made (xs := x3) hl3 hlk 0) (resT (.sl _ _ _) resN)
/-- laws.toLayout -/
def f18 (aA0 : Layout) : Option Layout :=
  ((f75 aA0.Counters).bind fun v4 => some ({ Sections := aA0.Sections, Counters := v4 } : Layout))
theorem f18_run {aA0 : Layout} {r : Layout} {l1 : Nat} {H : Heap} {lk : Lk} (hk : f18 aA0 = some r) (hlk : 0 < lk.length := by simp) : runL Try.prog hh 18 [.agg [.int .i64 aA0.Sections, .lit l1 aA0.Counters.length (flat aA0.Counters)]] H lk = some (.agg [.int .i64 r.Sections, .lit 0 r.Counters.length (flat r.Counters)], H) := by
  refine run_start Try.func18 rfl Try.ntmps18 Try.results18 rfl rfl fun hO => ?_
  unfold f18 at hk
  refine wpL_sq ?_
  refine wpL_rg ?_
  refine pBox (cs := [_, _]) hO tZ24 (fun b1 G hO => ?_)
  refine pNew hO tZ34 t034 (fun b2 G hO => ?_)
  refine pE ?_
  refine gn ?_
  refine wpL_sq ?_
  refine wpL_rg ?_
  refine pNew hO tZ34 t034 (fun b3 G hO => ?_)
  refine pE ?_
  refine gn ?_
  refine wpL_sq ?_
  refine wpL_rg ?_
  refine pF tF24_0 ?_
  refine pLo hO 2 (.int _ _) tA3 ?_
  refine pF tF34_0 ?_
  refine pSt (xs := [_]) hO 0 tZ3 rfl (fun G hO => ?_)
  refine pE ?_
  refine gn ?_
  refine wpL_sq ?_
  refine wpL_rg ?_
  refine pF tF24_1 ?_
  refine pLo hO 2 (.lit _ _ _) tA22 ?_
  obtain ⟨v4, hv4, hk⟩ := bs hk
  refine pCall (fun _ => f75_run hv4) ?_
  refine pF tF34_1 ?_
  refine pSt (xs := [_]) hO 0 tZ32 rfl (fun G hO => ?_)
  refine pE ?_
  refine gn ?_
  refine wpL_sq ?_
  refine wpL_rg ?_
  refine pLs hO 0 [_, _] tA34 tZ34 ?_
  refine pSt (xs := [_, _]) hO 1 tZ34 rfl (fun G hO => ?_)
  refine pE ?_
  refine gn ?_
  refine wpL_rt ?_
  cases hk; exact finZ hO (fz_agg (n := 2) (fz_c (fz_int _ _) (fz_c (fz_lit hlk v4) (fz_n)))) (resS hO 1 [_, _] tA34 tZ34 resN)
/-- laws.toSection -/
def f162 (aA0 : Section) : Option Section :=
  some aA0
theorem f162_run {aA0 : Section} {r : Section} {H : Heap} {lk : Lk} (hk : f162 aA0 = some r) (hlk : 0 < lk.length := by simp) : runL Try.prog hh 162 [.agg [.int .i64 aA0.Told, .int .i64 aA0.Count, .bool aA0.Lost, .bool aA0.Sweep, .int .i64 aA0.Last]] H lk = some (.agg [.int .i64 r.Told, .int .i64 r.Count, .bool r.Lost, .bool r.Sweep, .int .i64 r.Last], H) := by
  refine run_start Try.func162 rfl Try.ntmps162 Try.results162 rfl rfl fun hO => ?_
  unfold f162 at hk
  refine wpL_sq ?_
  refine wpL_rg ?_
  refine pBox (cs := [_, _, _, _, _]) hO tZ231 (fun b1 G hO => ?_)
  refine pNew hO tZ142 t0142 (fun b2 G hO => ?_)
  refine pE ?_
  refine gn ?_
  refine wpL_sq ?_
  refine wpL_rg ?_
  refine pNew hO tZ142 t0142 (fun b3 G hO => ?_)
  refine pE ?_
  refine gn ?_
  refine wpL_sq ?_
  refine wpL_rg ?_
  refine pF tF231_0 ?_
  refine pLo hO 2 (.int _ _) tA3 ?_
  refine pF tF142_0 ?_
  refine pSt (xs := [_]) hO 0 tZ3 rfl (fun G hO => ?_)
  refine pE ?_
  refine gn ?_
  refine wpL_sq ?_
  refine wpL_rg ?_
  refine pF tF231_1 ?_
  refine pLo hO 2 (.int _ _) tA3 ?_
  refine pF tF142_1 ?_
  refine pSt (xs := [_]) hO 0 tZ3 rfl (fun G hO => ?_)
  refine pE ?_
  refine gn ?_
  refine wpL_sq ?_
  refine wpL_rg ?_
  refine pF tF231_2 ?_
  refine pLo hO 2 (.bool _) tA4 ?_
  refine pF tF142_2 ?_
  refine pSt (xs := [_]) hO 0 tZ4 rfl (fun G hO => ?_)
  refine pE ?_
  refine gn ?_
  refine wpL_sq ?_
  refine wpL_rg ?_
  refine pF tF231_3 ?_
  refine pLo hO 2 (.bool _) tA4 ?_
  refine pF tF142_3 ?_
  refine pSt (xs := [_]) hO 0 tZ4 rfl (fun G hO => ?_)
  refine pE ?_
  refine gn ?_
  refine wpL_sq ?_
  refine wpL_rg ?_
  refine pF tF231_4 ?_
  refine pLo hO 2 (.int _ _) tA3 ?_
  refine pF tF142_4 ?_
  refine pSt (xs := [_]) hO 0 tZ3 rfl (fun G hO => ?_)
  refine pE ?_
  refine gn ?_
  refine wpL_sq ?_
  refine wpL_rg ?_
  refine pLs hO 0 [_, _, _, _, _] tA142 tZ142 ?_
  refine pSt (xs := [_, _, _, _, _]) hO 1 tZ142 rfl (fun G hO => ?_)
  refine pE ?_
  refine gn ?_
  refine wpL_rt ?_
  cases hk; exact finZ hO (fz_agg (n := 2) (fz_c (fz_int _ _) (fz_c (fz_int _ _) (fz_c (fz_bool _) (fz_c (fz_bool _) (fz_c (fz_int _ _) (fz_n))))))) (resS hO 1 [_, _, _, _, _] tA142 tZ142 resN)
/-- laws.toSectionS -/
def f76_L1 (aA0 : List Section) : ((List Section) × Int) → Option (((List Section) × Int) ⊕ (List Section)) := fun s =>
  (bif decide (s.2 < (aA0.length : Int)) then ((getI aA0 s.2).bind fun c5 => ((f162 c5).bind fun v6 => ((getI s.1 s.2).bind fun c7 => some (.inl (s.1.set s.2.toNat v6, w64 (s.2 + (1:Int))))))) else ((some s.1).map Sum.inr))
def f76 (aA0 : List Section) : Option (List Section) :=
  ((makeB 32 (aA0.length : Int)).bind fun m1 => (loopO (f76_L1 aA0) (List.replicate m1 (⟨0, 0, false, false, 0⟩ : Section), (0:Int))))
theorem f76_run {aA0 : List Section} {r : (List Section)} {l1 : Nat} {H : Heap} {lk : Lk} (hk : f76 aA0 = some r) (hlk : 0 < lk.length := by simp) : runL Try.prog hh 76 [.lit l1 aA0.length (flat aA0)] H lk = some (.lit 0 r.length (flat r), H) := by
  refine run_start Try.func76 rfl Try.ntmps76 Try.results76 rfl rfl fun hO => ?_
  unfold f76 at hk
  refine wpL_sq ?_
  refine wpL_rg ?_
  refine pA (.tl 0 []) ?_
  refine pE ?_
  refine gn ?_
  refine wpL_sq ?_
  refine wpL_rg ?_
  refine pM (.lit _ _ _) ?_
  refine pLen tS25 ?_
  obtain ⟨m1, hm1, hk⟩ := bs hk
  refine pMk hO hm1 (⟨0, 0, false, false, 0⟩ : Section) tE36 tZ142 tB142 t0142 (fun b2 G hO => ?_)
  refine pA (.sl _ _ _) ?_
  refine pE ?_
  refine gn ?_
  refine wpL_sq ?_
  refine wpL_sq ?_
  refine wpL_rg ?_
  refine pA (.int _ _) ?_
  refine pE ?_
  refine gn ?_
  refine wpL_bl ?_
  refine wpL_loopO (F := f76_L1 aA0) (fun s S' => ∃ (J : Nat → V) (G : Heap), s.1.length = m1 ∧ Owns H G [.blk b2 (.cells 5 (flat s.1))] ∧ S' = ⟨hav [(0, .lit l1 aA0.length (flat aA0)), (3, .sl b2 0 m1), (4, .int .i64 s.2)] J, G⟩) hk ⟨_, _, List.length_replicate, hO, St.hav _ ⟨rfl, rfl, rfl, trivial⟩⟩ ?_
  rintro ⟨x3, x4⟩ _ y1 ⟨J, G, hl3, hO, rfl⟩ hk hx1
  refine wpL_sq ?_
  refine wpL_sq ?_
  refine wpL_rg ?_
  refine pM (.int _ _) ?_
  refine pM (.lit _ _ _) ?_
  refine pLen tS25 ?_
  refine pBi ?_
  refine pE ?_
  refine gn ?_
  refine wpL_cd (b := decide (x4 < (aA0.length : Int))) (fun hb => ?_) (fun hb => ?_)
  · replace hk := ct hb hk
    refine wpL_sk ?_
    refine gn ?_
    refine wpL_sq ?_
    refine wpL_bl ?_
    refine wpL_rg ?_
    refine pM (.sl _ _ _) ?_
    refine pM (.int _ _) ?_
    refine pM (.lit _ _ _) ?_
    refine pM (.int _ _) ?_
    obtain ⟨c5, hc5, hk⟩ := bs hk
    refine pX hc5 tE25 tZ231 ?_
    refine pLp (.agg [_, _, _, _, _]) (rd2 (off := 0) hc5 tA231 tZ231) ?_
    obtain ⟨v6, hv6, hk⟩ := bs hk
    refine pCall (fun _ => f162_run hv6) ?_
    obtain ⟨c7, hc7, hk⟩ := bs hk
    refine pXm hl3 hc7 tE36 tZ142 ?_
    refine pSm hO 0 hc7 tZ142 rfl v6 (.agg [_, _, _, _, _]) (fun G hO => ?_)
    refine pE ?_
    refine bn (gn ?_)
    refine wpL_rg ?_
    refine pM (.int _ _) ?_
    refine pBi ?_
    refine pA (.int _ _) ?_
    refine pE ?_
    refine gn ?_
    cases hk; exact ⟨_, rfl, _, _, (List.length_set.trans hl3), hO, St.hav _ ⟨rfl, rfl, rfl, trivial⟩⟩
  · replace hk := cf hb hk
    refine wpL_ex ?_
    refine ge (ge (be (gn ?_)))
    replace hk := lx hx1 hk
    refine wpL_sq ?_
    refine wpL_rg ?_
    refine pM (.sl _ _ _) ?_
    refine pA (.sl _ _ _) ?_
    refine pE ?_
    refine gn ?_
    refine wpL_rt ?_
    cases hk; exact finZ hO (fz_made (xs := x3) hl3 hlk 0) (resT (.sl _ _ _) resN)
/-- laws.toBoolS -/
def f77_L1 (aA0 : List Bool) : ((List Bool) × Int) → Option (((List Bool) × Int) ⊕ (List Bool)) := fun s =>
  (bif decide (s.2 < (aA0.length : Int)) then ((getI aA0 s.2).bind fun c5 => ((getI s.1 s.2).bind fun c6 => some (.inl (s.1.set s.2.toNat c5, w64 (s.2 + (1:Int)))))) else ((some s.1).map Sum.inr))
def f77 (aA0 : List Bool) : Option (List Bool) :=
  ((makeB 1 (aA0.length : Int)).bind fun m1 => (loopO (f77_L1 aA0) (List.replicate m1 (false : Bool), (0:Int))))
theorem f77_run {aA0 : List Bool} {r : (List Bool)} {l1 : Nat} {H : Heap} {lk : Lk} (hk : f77 aA0 = some r) (hlk : 0 < lk.length := by simp) : runL Try.prog hh 77 [.lit l1 aA0.length (flat aA0)] H lk = some (.lit 0 r.length (flat r), H) := by
  refine run_start Try.func77 rfl Try.ntmps77 Try.results77 rfl rfl fun hO => ?_
  unfold f77 at hk
  refine wpL_sq ?_
  refine wpL_rg ?_
  refine pA (.tl 0 []) ?_
  refine pE ?_
  refine gn ?_
  refine wpL_sq ?_
  refine wpL_rg ?_
  refine pM (.lit _ _ _) ?_
  refine pLen tS26 ?_
  obtain ⟨m1, hm1, hk⟩ := bs hk
  refine pMk hO hm1 (false : Bool) tE26 tZ4 tB4 t04 (fun b2 G hO => ?_)
  refine pA (.sl _ _ _) ?_
  refine pE ?_
  refine gn ?_
  refine wpL_sq ?_
  refine wpL_sq ?_
  refine wpL_rg ?_
  refine pA (.int _ _) ?_
  refine pE ?_
  refine gn ?_
  refine wpL_bl ?_
  refine wpL_loopO (F := f77_L1 aA0) (fun s S' => ∃ (J : Nat → V) (G : Heap), s.1.length = m1 ∧ Owns H G [.blk b2 (.cells 1 (flat s.1))] ∧ S' = ⟨hav [(0, .lit l1 aA0.length (flat aA0)), (3, .sl b2 0 m1), (4, .int .i64 s.2)] J, G⟩) hk ⟨_, _, List.length_replicate, hO, St.hav _ ⟨rfl, rfl, rfl, trivial⟩⟩ ?_
  rintro ⟨x3, x4⟩ _ y1 ⟨J, G, hl3, hO, rfl⟩ hk hx1
  refine wpL_sq ?_
  refine wpL_sq ?_
  refine wpL_rg ?_
  refine pM (.int _ _) ?_
  refine pM (.lit _ _ _) ?_
  refine pLen tS26 ?_
  refine pBi ?_
  refine pE ?_
  refine gn ?_
  refine wpL_cd (b := decide (x4 < (aA0.length : Int))) (fun hb => ?_) (fun hb => ?_)
  · replace hk := ct hb hk
    refine wpL_sk ?_
    refine gn ?_
    refine wpL_sq ?_
    refine wpL_bl ?_
    refine wpL_rg ?_
    refine pM (.sl _ _ _) ?_
    refine pM (.int _ _) ?_
    refine pM (.lit _ _ _) ?_
    refine pM (.int _ _) ?_
    obtain ⟨c5, hc5, hk⟩ := bs hk
    refine pX hc5 tE26 tZ4 ?_
    refine pLp (.bool _) (rd1 (off := 0) hc5 tA4) ?_
    obtain ⟨c6, hc6, hk⟩ := bs hk
    refine pXm hl3 hc6 tE26 tZ4 ?_
    refine pSm hO 0 hc6 tZ4 rfl c5 (.bool _) (fun G hO => ?_)
    refine pE ?_
    refine bn (gn ?_)
    refine wpL_rg ?_
    refine pM (.int _ _) ?_
    refine pBi ?_
    refine pA (.int _ _) ?_
    refine pE ?_
    refine gn ?_
    cases hk; exact ⟨_, rfl, _, _, (List.length_set.trans hl3), hO, St.hav _ ⟨rfl, rfl, rfl, trivial⟩⟩
  · replace hk := cf hb hk
    refine wpL_ex ?_
    refine ge (ge (be (gn ?_)))
    replace hk := lx hx1 hk
    refine wpL_sq ?_
    refine wpL_rg ?_
    refine pM (.sl _ _ _) ?_
    refine pA (.sl _ _ _) ?_
    refine pE ?_
    refine gn ?_
    refine wpL_rt ?_
    cases hk; exact finZ hO (fz_made (xs := x3) hl3 hlk 0) (resT (.sl _ _ _) resN)
/-- laws.toCountState -/
def f19 (aA0 : CountState) : Option CountState :=
  ((f76 aA0.Sections).bind fun v4 => ((f77 aA0.Dead).bind fun v5 => some ({ Ok := aA0.Ok, Sections := v4, Dead := v5 } : CountState)))
theorem f19_run {aA0 : CountState} {r : CountState} {l1 l2 : Nat} {H : Heap} {lk : Lk} (hk : f19 aA0 = some r) (hlk : 0 < lk.length := by simp) : runL Try.prog hh 19 [.agg [.bool aA0.Ok, .lit l1 aA0.Sections.length (flat aA0.Sections), .lit l2 aA0.Dead.length (flat aA0.Dead)]] H lk = some (.agg [.bool r.Ok, .lit 0 r.Sections.length (flat r.Sections), .lit 0 r.Dead.length (flat r.Dead)], H) := by
  refine run_start Try.func19 rfl Try.ntmps19 Try.results19 rfl rfl fun hO => ?_
  unfold f19 at hk
  refine wpL_sq ?_
  refine wpL_rg ?_
  refine pBox (cs := [_, _, _]) hO tZ28 (fun b1 G hO => ?_)
  refine pNew hO tZ38 t038 (fun b2 G hO => ?_)
  refine pE ?_
  refine gn ?_
  refine wpL_sq ?_
  refine wpL_rg ?_
  refine pNew hO tZ38 t038 (fun b3 G hO => ?_)
  refine pE ?_
  refine gn ?_
  refine wpL_sq ?_
  refine wpL_rg ?_
  refine pF tF28_0 ?_
  refine pLo hO 2 (.bool _) tA4 ?_
  refine pF tF38_0 ?_
  refine pSt (xs := [_]) hO 0 tZ4 rfl (fun G hO => ?_)
  refine pE ?_
  refine gn ?_
  refine wpL_sq ?_
  refine wpL_rg ?_
  refine pF tF28_1 ?_
  refine pLo hO 2 (.lit _ _ _) tA25 ?_
  obtain ⟨v4, hv4, hk⟩ := bs hk
  refine pCall (fun _ => f76_run hv4) ?_
  refine pF tF38_1 ?_
  refine pSt (xs := [_]) hO 0 tZ36 rfl (fun G hO => ?_)
  refine pE ?_
  refine gn ?_
  refine wpL_sq ?_
  refine wpL_rg ?_
  refine pF tF28_2 ?_
  refine pLo hO 2 (.lit _ _ _) tA26 ?_
  obtain ⟨v5, hv5, hk⟩ := bs hk
  refine pCall (fun _ => f77_run hv5) ?_
  refine pF tF38_2 ?_
  refine pSt (xs := [_]) hO 0 tZ26 rfl (fun G hO => ?_)
  refine pE ?_
  refine gn ?_
  refine wpL_sq ?_
  refine wpL_rg ?_
  refine pLs hO 0 [_, _, _] tA38 tZ38 ?_
  refine pSt (xs := [_, _, _]) hO 1 tZ38 rfl (fun G hO => ?_)
  refine pE ?_
  refine gn ?_
  refine wpL_rt ?_
  cases hk; exact finZ hO (fz_agg (n := 2) (fz_c (fz_bool _) (fz_c (fz_lit hlk v4) (fz_c (fz_lit hlk v5) (fz_n))))) (resS hO 1 [_, _, _] tA38 tZ38 resN)
/-- spec.l14in -/
def f72 (aX0 : Int) (aA1 : Int) (aB2 : Int) : Option Bool :=
  some (decide (aX0 ≥ aA1) && decide (aX0 ≤ aB2))
theorem f72_run {aX0 : Int} {aA1 : Int} {aB2 : Int} {r : Bool} {H : Heap} {lk : Lk} (hk : f72 aX0 aA1 aB2 = some r) (hlk : 0 < lk.length := by simp) : runL Try.prog hh 72 [.int .i64 aX0, .int .i64 aA1, .int .i64 aB2] H lk = some (.bool r, H) := by
  refine run_start Try.func72 rfl Try.ntmps72 Try.results72 rfl rfl fun hO => ?_
  unfold f72 at hk
  refine wpL_sq ?_
  refine wpL_rg ?_
  refine pA (.bool _) ?_
  refine pE ?_
  refine gn ?_
  refine wpL_sq ?_
  refine wpL_rg ?_
  refine pM (.int _ _) ?_
  refine pM (.int _ _) ?_
  refine pBi ?_
  refine pM (.bool _) ?_
  refine wpR_mid (l1 := [_, _, _, _]) (fun S' => ∃ J, S' = ⟨hav [(14, .bool (decide (aX0 ≥ aA1) && decide (aX0 ≤ aB2)))] J, H⟩) ?_ ?_
  · refine bc (b := decide (aX0 ≥ aA1)) (fun hg1 => ?_) (fun hg1 => ?_)
    · refine pGy hg1 ?_
      refine pM (.int _ _) ?_
      refine pGy hg1 ?_
      refine pM (.int _ _) ?_
      refine pGy hg1 ?_
      refine pBi ?_
      refine pPt hg1 (.bool _) ?_
      exact pE ⟨_, St.hav _ ⟨by rw [hg1]; rfl, trivial⟩⟩
    · refine pGn hg1 ?_
      refine pGn hg1 ?_
      refine pGn hg1 ?_
      refine pPf hg1 (.bool _) ?_
      exact pE ⟨_, St.hav _ ⟨by rw [hg1]; rfl, trivial⟩⟩
  · rintro _ ⟨J, rfl⟩
    refine pA (.bool _) ?_
    refine pE ?_
    refine gn ?_
    refine wpL_rt ?_
    cases hk; exact fin0 hO
/-- spec.LayoutOk -/
def f71_L1 (aL0 : Layout) : Int → Option (Int ⊕ Int) := fun s =>
  (bif decide (s < (aL0.Counters.length : Int)) then ((getI aL0.Counters s).bind fun c4 => ((f72 c4.From (-1:Int) (w64 (aL0.Sections - (1:Int)))).bind fun v6 => ((bif !v6 then some true else ((f72 c4.To (-1:Int) (w64 (aL0.Sections - (1:Int)))).bind fun v8 => some (!v8))).bind fun t7 => (bif (t7 || (c4.From == c4.To)) then ((some (2:Int)).map Sum.inr) else some (.inl (w64 (s + (1:Int)))))))) else ((some (0:Int)).map Sum.inr))
def f71 (aL0 : Layout) : Option Int :=
  ((f72 aL0.Sections (1:Int) (60:Int)).bind fun v2 => (bif (!v2 || decide ((aL0.Counters.length : Int) > (120:Int))) then some (1:Int) else (loopO (f71_L1 aL0) ((0:Int)))))
theorem f71_run {aL0 : Layout} {r : Int} {l1 : Nat} {H : Heap} {lk : Lk} (hk : f71 aL0 = some r) (hlk : 0 < lk.length := by simp) : runL Try.prog hh 71 [.agg [.int .i64 aL0.Sections, .lit l1 aL0.Counters.length (flat aL0.Counters)]] H lk = some (.int .i64 r, H) := by
  refine run_start Try.func71 rfl Try.ntmps71 Try.results71 rfl rfl fun hO => ?_
  unfold f71 at hk
  refine wpL_sq ?_
  refine wpL_rg ?_
  refine pBox (cs := [_, _]) hO tZ34 (fun b1 G hO => ?_)
  refine pA (.int _ _) ?_
  refine pE ?_
  refine gn ?_
  refine wpL_sq ?_
  refine wpL_sq ?_
  refine wpL_rg ?_
  refine pF tF34_0 ?_
  refine pLo hO 0 (.int _ _) tA3 ?_
  obtain ⟨v2, hv2, hk⟩ := bs hk
  refine pCall (fun _ => f72_run hv2) ?_
  refine pU ?_
  refine pM (.bool _) ?_
  refine wpR_mid (l1 := [_, _, _, _, _]) (fun S' => ∃ J, S' = ⟨hav [(1, .ptr b1 0), (14, .bool (!v2 || decide ((aL0.Counters.length : Int) > (120:Int))))] J, G⟩) ?_ ?_
  · refine bc (b := !v2) (fun hg1 => ?_) (fun hg1 => ?_)
    · refine pGn hg1 ?_
      refine pGn hg1 ?_
      refine pGn hg1 ?_
      refine pGn hg1 ?_
      refine pPt hg1 (.bool _) ?_
      exact pE ⟨_, St.hav _ ⟨rfl, by rw [hg1]; rfl, trivial⟩⟩
    · refine pGy hg1 ?_
      refine pF tF34_1 ?_
      refine pGy hg1 ?_
      refine pLo hO 0 (.lit _ _ _) tA32 ?_
      refine pGy hg1 ?_
      refine pLen tS32 ?_
      refine pGy hg1 ?_
      refine pBi ?_
      refine pPf hg1 (.bool _) ?_
      exact pE ⟨_, St.hav _ ⟨rfl, by rw [hg1]; rfl, trivial⟩⟩
  · rintro _ ⟨J, rfl⟩
    refine pE ?_
    refine gn ?_
    refine wpL_cd (b := (!v2 || decide ((aL0.Counters.length : Int) > (120:Int)))) (fun hb => ?_) (fun hb => ?_)
    · replace hk := ct hb hk
      refine wpL_sq ?_
      refine wpL_rg ?_
      refine pA (.int _ _) ?_
      refine pE ?_
      refine gn ?_
      refine wpL_rt ?_
      refine gr ?_
      cases hk; exact fin0 hO
    · replace hk := cf hb hk
      refine wpL_sk ?_
      refine gn ?_
      refine wpL_sq ?_
      refine wpL_sq ?_
      refine wpL_rg ?_
      refine pF tF34_1 ?_
      refine pLo hO 0 (.lit _ _ _) tA32 ?_
      refine pLen tS32 ?_
      refine pM (.int _ _) ?_
      refine pE ?_
      refine gn ?_
      refine wpL_bl ?_
      refine wpL_loopO (F := f71_L1 aL0) (fun s S' => ∃ (J : Nat → V) (G : Heap), Owns H G [.blk b1 (.cells 2 [.int .i64 aL0.Sections, .lit l1 aL0.Counters.length (flat aL0.Counters)])] ∧ S' = ⟨hav [(1, .ptr b1 0), (16, .lit l1 aL0.Counters.length (flat aL0.Counters)), (17, .int .i64 (aL0.Counters.length : Int)), (18, .int .i64 s)] J, G⟩) hk ⟨_, _, hO, St.hav _ ⟨rfl, rfl, rfl, rfl, trivial⟩⟩ ?_
      rintro x3 _ y1 ⟨J, G, hO, rfl⟩ hk hx1
      refine wpL_sq ?_
      refine wpL_rg ?_
      refine pBi ?_
      refine pE ?_
      refine gn ?_
      refine wpL_sq ?_
      refine wpL_cd (b := decide (x3 < (aL0.Counters.length : Int))) (fun hb => ?_) (fun hb => ?_)
      · replace hk := ct hb hk
        refine wpL_sk ?_
        refine gn ?_
        refine wpL_sq ?_
        refine wpL_bl ?_
        refine wpL_sq ?_
        refine wpL_rg ?_
        obtain ⟨c4, hc4, hk⟩ := bs hk
        refine pX hc4 tE32 tZ226 ?_
        refine pLp (.agg [_, _]) (rd2 (off := 0) hc4 tA226 tZ226) ?_
        refine pNew hO tZ226 t0226 (fun b5 G hO => ?_)
        refine pSt (xs := [_, _]) hO 0 tZ226 rfl (fun G hO => ?_)
        refine pE ?_
        refine gn ?_
        refine wpL_sq ?_
        refine wpL_rg ?_
        refine pF tF226_0 ?_
        refine pLo hO 0 (.int _ _) tA3 ?_
        refine pF tF34_0 ?_
        refine pLo hO 1 (.int _ _) tA3 ?_
        refine pBi ?_
        obtain ⟨v6, hv6, hk⟩ := bs hk
        refine pCall (fun _ => f72_run hv6) ?_
        refine pU ?_
        refine pM (.bool _) ?_
        obtain ⟨t7, ht, hk⟩ := bs hk
        refine wpR_mid (l1 := [_, _, _, _, _, _, _, _]) (fun S' => ∃ J, S' = ⟨hav [(1, .ptr b1 0), (4, .ptr b5 0), (16, .lit l1 aL0.Counters.length (flat aL0.Counters)), (17, .int .i64 (aL0.Counters.length : Int)), (18, .int .i64 x3), (37, .bool t7)] J, G⟩) ?_ ?_
        · refine bc (b := !v6) (fun hg1 => ?_) (fun hg1 => ?_)
          · replace hk := ct hg1 ht
            refine pGn hg1 ?_
            refine pGn hg1 ?_
            refine pGn hg1 ?_
            refine pGn hg1 ?_
            refine pGn hg1 ?_
            refine pGn hg1 ?_
            refine pGn hg1 ?_
            refine pPt hg1 (.bool _) ?_
            cases hk; exact pE ⟨_, St.hav _ ⟨rfl, rfl, rfl, rfl, rfl, rfl, trivial⟩⟩
          · replace hk := cf hg1 ht
            refine pGy hg1 ?_
            refine pF tF226_1 ?_
            refine pGy hg1 ?_
            refine pLo hO 0 (.int _ _) tA3 ?_
            refine pGy hg1 ?_
            refine pF tF34_0 ?_
            refine pGy hg1 ?_
            refine pLo hO 1 (.int _ _) tA3 ?_
            refine pGy hg1 ?_
            refine pBi ?_
            refine pGy hg1 ?_
            obtain ⟨v8, hv8, hk⟩ := bs hk
            refine pCall (fun _ => f72_run hv8) ?_
            refine pGy hg1 ?_
            refine pU ?_
            refine pPf hg1 (.bool _) ?_
            cases hk; exact pE ⟨_, St.hav _ ⟨rfl, rfl, rfl, rfl, rfl, rfl, trivial⟩⟩
        · rintro _ ⟨J, rfl⟩
          refine pM (.bool _) ?_
          refine wpR_mid (l1 := [_, _, _, _, _, _]) (fun S' => ∃ J, S' = ⟨hav [(1, .ptr b1 0), (16, .lit l1 aL0.Counters.length (flat aL0.Counters)), (17, .int .i64 (aL0.Counters.length : Int)), (18, .int .i64 x3), (44, .bool (t7 || (c4.From == c4.To)))] J, G⟩) ?_ ?_
          · refine bc (b := t7) (fun hg1 => ?_) (fun hg1 => ?_)
            · refine pGn hg1 ?_
              refine pGn hg1 ?_
              refine pGn hg1 ?_
              refine pGn hg1 ?_
              refine pGn hg1 ?_
              refine pPt hg1 (.bool _) ?_
              exact pE ⟨_, St.hav _ ⟨rfl, rfl, rfl, rfl, by rw [hg1]; rfl, trivial⟩⟩
            · refine pGy hg1 ?_
              refine pF tF226_0 ?_
              refine pGy hg1 ?_
              refine pLo hO 0 (.int _ _) tA3 ?_
              refine pGy hg1 ?_
              refine pF tF226_1 ?_
              refine pGy hg1 ?_
              refine pLo hO 0 (.int _ _) tA3 ?_
              refine pGy hg1 ?_
              refine pBi ?_
              refine pPf hg1 (.bool _) ?_
              exact pE ⟨_, St.hav _ ⟨rfl, rfl, rfl, rfl, by rw [hg1]; rfl, trivial⟩⟩
          · rintro _ ⟨J, rfl⟩
            refine pE ?_
            refine gn ?_
            refine wpL_cd (b := (t7 || (c4.From == c4.To))) (fun hb => ?_) (fun hb => ?_)
            · replace hk := ct hb hk
              refine wpL_sq ?_
              refine wpL_rg ?_
              refine pA (.int _ _) ?_
              refine pE ?_
              refine gn ?_
              refine wpL_rt ?_
              refine br (gr (gr (br (gr ?_))))
              replace hk := lx hx1 hk
              cases hk; exact fin0 hO
            · replace hk := cf hb hk
              refine wpL_sk ?_
              refine bn (gn ?_)
              refine wpL_rg ?_
              refine pBi ?_
              refine pM (.int _ _) ?_
              refine pE ?_
              refine gn ?_
              cases hk; exact ⟨_, rfl, _, _, (Owns.pick hO [1] (by decide) rfl), St.hav _ ⟨rfl, rfl, rfl, rfl, trivial⟩⟩
      · replace hk := cf hb hk
        refine wpL_ex ?_
        refine ge (ge (be (gn ?_)))
        replace hk := lx hx1 hk
        refine wpL_sq ?_
        refine wpL_rg ?_
        refine pA (.int _ _) ?_
        refine pE ?_
        refine gn ?_
        refine wpL_rt ?_
        cases hk; exact fin0 hO
/-- spec.Around -/
def f160_k2 (x7 : Int) (x8 : List Int) : Option (((List Int) × Int) ⊕ (List Int)) :=
  some (.inl (x8, w64 (x7 + (1:Int))))
def f160_L1 (aL0 : Layout) (aSection1 : Int) : ((List Int) × Int) → Option (((List Int) × Int) ⊕ (List Int)) := fun s =>
  (bif decide (s.2 < (aL0.Counters.length : Int)) then ((getI aL0.Counters s.2).bind fun c10 => (bif ((c10.From == aSection1) || (c10.To == aSection1)) then ((appB 8 s.1 ([s.2] : List Int)).bind fun z12 => (f160_k2 s.2 z12)) else (f160_k2 s.2 s.1))) else ((some s.1).map Sum.inr))
def f160 (aL0 : Layout) (aSection1 : Int) : Option (List Int) :=
  ((f71 aL0).bind fun v2 => ((bif (v2 != (0:Int)) then some true else ((f72 aSection1 (0:Int) (w64 (aL0.Sections - (1:Int)))).bind fun v4 => some (!v4))).bind fun t3 => (bif t3 then some ([] : List Int) else (loopO (f160_L1 aL0 aSection1) (([] : List Int), (0:Int))))))
theorem f160_run {aL0 : Layout} {aSection1 : Int} {r : (List Int)} {l1 : Nat} {H : Heap} {lk : Lk} (hk : f160 aL0 aSection1 = some r) (hlk : 0 < lk.length := by simp) : runL Try.prog hh 160 [.agg [.int .i64 aL0.Sections, .lit l1 aL0.Counters.length (flat aL0.Counters)], .int .i64 aSection1] H lk = some (.lit 0 r.length (flat r), H) := by
  refine run_start Try.func160 rfl Try.ntmps160 Try.results160 rfl rfl fun hO => ?_
  unfold f160 at hk
  refine wpL_sq ?_
  refine wpL_rg ?_
  refine pBox (cs := [_, _]) hO tZ34 (fun b1 G hO => ?_)
  refine pA (.tl 0 []) ?_
  refine pE ?_
  refine gn ?_
  refine wpL_sq ?_
  refine wpL_sq ?_
  refine wpL_rg ?_
  refine pLs hO 0 [_, _] tA34 tZ34 ?_
  obtain ⟨v2, hv2, hk⟩ := bs hk
  refine pCall (fun _ => f71_run hv2) ?_
  refine pBi ?_
  refine pM (.bool _) ?_
  obtain ⟨t3, ht, hk⟩ := bs hk
  refine wpR_mid (l1 := [_, _, _, _, _, _, _]) (fun S' => ∃ J, S' = ⟨hav [(1, .int .i64 aSection1), (2, .ptr b1 0), (18, .bool t3)] J, G⟩) ?_ ?_
  · refine bc (b := (v2 != (0:Int))) (fun hg1 => ?_) (fun hg1 => ?_)
    · replace hk := ct hg1 ht
      refine pGn hg1 ?_
      refine pGn hg1 ?_
      refine pGn hg1 ?_
      refine pGn hg1 ?_
      refine pGn hg1 ?_
      refine pGn hg1 ?_
      refine pPt hg1 (.bool _) ?_
      cases hk; exact pE ⟨_, St.hav _ ⟨rfl, rfl, rfl, trivial⟩⟩
    · replace hk := cf hg1 ht
      refine pGy hg1 ?_
      refine pM (.int _ _) ?_
      refine pGy hg1 ?_
      refine pF tF34_0 ?_
      refine pGy hg1 ?_
      refine pLo hO 0 (.int _ _) tA3 ?_
      refine pGy hg1 ?_
      refine pBi ?_
      refine pGy hg1 ?_
      obtain ⟨v4, hv4, hk⟩ := bs hk
      refine pCall (fun _ => f72_run hv4) ?_
      refine pGy hg1 ?_
      refine pU ?_
      refine pPf hg1 (.bool _) ?_
      cases hk; exact pE ⟨_, St.hav _ ⟨rfl, rfl, rfl, trivial⟩⟩
  · rintro _ ⟨J, rfl⟩
    refine pE ?_
    refine gn ?_
    refine wpL_cd (b := t3) (fun hb => ?_) (fun hb => ?_)
    · replace hk := ct hb hk
      refine wpL_sq ?_
      refine wpL_rg ?_
      refine pA (.tl 0 []) ?_
      refine pE ?_
      refine gn ?_
      refine wpL_rt ?_
      refine gr ?_
      cases hk; exact finZ hO (fz_nil (k := 0) Int) (resT (.tl 0 []) resN)
    · replace hk := cf hb hk
      refine wpL_sk ?_
      refine gn ?_
      refine wpL_sq ?_
      refine wpL_rg ?_
      refine pA (.tl 0 []) ?_
      refine pE ?_
      refine gn ?_
      refine wpL_sq ?_
      refine wpL_sq ?_
      refine wpL_rg ?_
      refine pF tF34_1 ?_
      refine pLo hO 0 (.lit _ _ _) tA32 ?_
      refine pLen tS32 ?_
      refine pM (.int _ _) ?_
      refine pE ?_
      refine gn ?_
      refine wpL_bl ?_
      refine wpL_loopO (F := f160_L1 aL0 aSection1) (fun s S' => ∃ (o5 : V) (J : Nat → V) (G : Heap), Owns H G [.own o5 lk.length 1 s.1.length (flat s.1)] ∧ S' = ⟨hav [(1, .int .i64 aSection1), (5, o5), (20, .lit l1 aL0.Counters.length (flat aL0.Counters)), (21, .int .i64 (aL0.Counters.length : Int)), (22, .int .i64 s.2)] J, G⟩) hk ⟨(.tl 0 []), _, _, (Owns.pick (Owns.addTl hO lk.length ([] : List Int)) [0] (by decide) rfl), St.hav _ ⟨rfl, rfl, rfl, rfl, rfl, trivial⟩⟩ ?_
      rintro ⟨x5, x7⟩ _ y1 ⟨o5, J, G, hO, rfl⟩ hk hx1
      refine wpL_sq ?_
      refine wpL_rg ?_
      refine pBi ?_
      refine pE ?_
      refine gn ?_
      refine wpL_sq ?_
      refine wpL_cd (b := decide (x7 < (aL0.Counters.length : Int))) (fun hb => ?_) (fun hb => ?_)
      · replace hk := ct hb hk
        refine wpL_sk ?_
        refine gn ?_
        refine wpL_mid (fun S' => ∃ (x8 : List Int) (o8 : V) (J : Nat → V) (G : Heap), f160_k2 x7 x8 = some y1 ∧ Owns H G [.own o8 lk.length 1 x8.length (flat x8)] ∧ S' = ⟨hav [(1, .int .i64 aSection1), (5, o8), (20, .lit l1 aL0.Counters.length (flat aL0.Counters)), (21, .int .i64 (aL0.Counters.length : Int)), (22, .int .i64 x7)] J, G⟩) ?_ ?_
        · refine wpL_bl ?_
          refine wpL_sq ?_
          refine wpL_rg ?_
          refine pM (.int _ _) ?_
          obtain ⟨c10, hc10, hk⟩ := bs hk
          refine pX hc10 tE32 tZ226 ?_
          refine pLp (.agg [_, _]) (rd2 (off := 0) hc10 tA226 tZ226) ?_
          refine pNew hO tZ226 t0226 (fun b11 G hO => ?_)
          refine pA (.int _ _) ?_
          refine pSt (xs := [_, _]) hO 0 tZ226 rfl (fun G hO => ?_)
          refine pE ?_
          refine gn ?_
          refine wpL_sq ?_
          refine wpL_rg ?_
          refine pF tF226_0 ?_
          refine pLo hO 0 (.int _ _) tA3 ?_
          refine pM (.int _ _) ?_
          refine pBi ?_
          refine pM (.bool _) ?_
          refine wpR_mid (l1 := [_, _, _, _, _]) (fun S' => ∃ J, S' = ⟨hav [(1, .int .i64 aSection1), (5, o5), (6, .int .i64 x7), (20, .lit l1 aL0.Counters.length (flat aL0.Counters)), (21, .int .i64 (aL0.Counters.length : Int)), (22, .int .i64 x7), (36, .bool ((c10.From == aSection1) || (c10.To == aSection1)))] J, G⟩) ?_ ?_
          · refine bc (b := (c10.From == aSection1)) (fun hg1 => ?_) (fun hg1 => ?_)
            · refine pGn hg1 ?_
              refine pGn hg1 ?_
              refine pGn hg1 ?_
              refine pGn hg1 ?_
              refine pPt hg1 (.bool _) ?_
              exact pE ⟨_, St.hav _ ⟨rfl, rfl, rfl, rfl, rfl, rfl, by rw [hg1]; rfl, trivial⟩⟩
            · refine pGy hg1 ?_
              refine pF tF226_1 ?_
              refine pGy hg1 ?_
              refine pLo hO 0 (.int _ _) tA3 ?_
              refine pGy hg1 ?_
              refine pM (.int _ _) ?_
              refine pGy hg1 ?_
              refine pBi ?_
              refine pPf hg1 (.bool _) ?_
              exact pE ⟨_, St.hav _ ⟨rfl, rfl, rfl, rfl, rfl, rfl, by rw [hg1]; rfl, trivial⟩⟩
          · rintro _ ⟨J, rfl⟩
            refine pE ?_
            refine gn ?_
            refine wpL_cd (b := ((c10.From == aSection1) || (c10.To == aSection1))) (fun hb => ?_) (fun hb => ?_)
            · replace hk := ct hb hk
              refine wpL_rg ?_
              refine pM o5 ?_
              refine pM (.int _ _) ?_
              refine pBs (ps := [(0, (.int _ _))]) ([x7] : List Int) tE61 tZ3 t03 (emb_cons (emb_int rfl _ _) (emb_nil)) ?_
              obtain ⟨z12, hz12, hk⟩ := bs hk
              refine pAp (xs := x5) hO 1 hz12 (bears_tl ([x7] : List Int)) tE61 tZ3 tB3 t03 tE61 rfl (fun o12 G hO => ?_)
              refine pA o12 ?_
              refine pE ?_
              refine bn (gn ?_)
              exact ⟨z12, o12, _, _, hk, (Owns.pick hO [1] (by decide) rfl), St.hav _ ⟨rfl, rfl, rfl, rfl, rfl, trivial⟩⟩
            · replace hk := cf hb hk
              refine wpL_sk ?_
              refine bn (gn ?_)
              exact ⟨x5, o5, _, _, hk, (Owns.pick hO [1] (by decide) rfl), St.hav _ ⟨rfl, rfl, rfl, rfl, rfl, trivial⟩⟩
        · rintro _ ⟨x8, o8, J, G, hk, hO, rfl⟩
          refine wpL_rg ?_
          refine pBi ?_
          refine pM (.int _ _) ?_
          refine pE ?_
          refine gn ?_
          cases hk; exact ⟨_, rfl, o8, _, _, hO, St.hav _ ⟨rfl, rfl, rfl, rfl, rfl, trivial⟩⟩
      · replace hk := cf hb hk
        refine wpL_ex ?_
        refine ge (ge (be (gn ?_)))
        replace hk := lx hx1 hk
        refine wpL_sq ?_
        refine wpL_rg ?_
        refine pM o5 ?_
        refine pA o5 ?_
        refine pE ?_
        refine gn ?_
        refine wpL_rt ?_
        cases hk; exact finZ hO (fz_own (xs := x5) hlk 0) (resT o5 resN)
/-- spec.l15dead -/
def f74_L1 (aDead1 : List Bool) (v2 : (List Int)) : Int → Option (Int ⊕ Bool) := fun s =>
  (bif decide (s < (v2.length : Int)) then ((getI v2 s).bind fun c4 => ((getI aDead1 c4).bind fun c5 => (bif c5 then ((some true).map Sum.inr) else some (.inl (w64 (s + (1:Int))))))) else ((some false).map Sum.inr))
def f74 (aL0 : Layout) (aDead1 : List Bool) (aSection2 : Int) : Option Bool :=
  ((f160 aL0 aSection2).bind fun v2 => (loopO (f74_L1 aDead1 v2) ((0:Int))))
theorem f74_run {aL0 : Layout} {aDead1 : List Bool} {aSection2 : Int} {r : Bool} {l1 l2 : Nat} {H : Heap} {lk : Lk} (hk : f74 aL0 aDead1 aSection2 = some r) (hlk : 0 < lk.length := by simp) : runL Try.prog hh 74 [.agg [.int .i64 aL0.Sections, .lit l1 aL0.Counters.length (flat aL0.Counters)], .lit l2 aDead1.length (flat aDead1), .int .i64 aSection2] H lk = some (.bool r, H) := by
  refine run_start Try.func74 rfl Try.ntmps74 Try.results74 rfl rfl fun hO => ?_
  unfold f74 at hk
  refine wpL_sq ?_
  refine wpL_rg ?_
  refine pBox (cs := [_, _]) hO tZ34 (fun b1 G hO => ?_)
  refine pA (.bool _) ?_
  refine pE ?_
  refine gn ?_
  refine wpL_sq ?_
  refine wpL_sq ?_
  refine wpL_rg ?_
  refine pLs hO 0 [_, _] tA34 tZ34 ?_
  refine pM (.int _ _) ?_
  obtain ⟨v2, hv2, hk⟩ := bs hk
  refine pCall (fun _ => f160_run hv2) ?_
  refine pLen tS61 ?_
  refine pM (.int _ _) ?_
  refine pE ?_
  refine gn ?_
  refine wpL_bl ?_
  refine wpL_loopO (F := f74_L1 aDead1 v2) (fun s S' => ∃ (J : Nat → V) (G : Heap), Owns H G [] ∧ S' = ⟨hav [(1, .lit l2 aDead1.length (flat aDead1)), (11, .lit 0 v2.length (flat v2)), (12, .int .i64 (v2.length : Int)), (13, .int .i64 s)] J, G⟩) hk ⟨_, _, (Owns.pick hO [] (by decide) rfl), St.hav _ ⟨rfl, rfl, rfl, rfl, trivial⟩⟩ ?_
  rintro x3 _ y1 ⟨J, G, hO, rfl⟩ hk hx1
  refine wpL_sq ?_
  refine wpL_rg ?_
  refine pBi ?_
  refine pE ?_
  refine gn ?_
  refine wpL_sq ?_
  refine wpL_cd (b := decide (x3 < (v2.length : Int))) (fun hb => ?_) (fun hb => ?_)
  · replace hk := ct hb hk
    refine wpL_sk ?_
    refine gn ?_
    refine wpL_sq ?_
    refine wpL_bl ?_
    refine wpL_sq ?_
    refine wpL_rg ?_
    obtain ⟨c4, hc4, hk⟩ := bs hk
    refine pX hc4 tE61 tZ3 ?_
    refine pLp (.int _ _) (rd1 (off := 0) hc4 tA3) ?_
    refine pA (.int _ _) ?_
    refine pE ?_
    refine gn ?_
    refine wpL_sq ?_
    refine wpL_rg ?_
    refine pM (.lit _ _ _) ?_
    refine pM (.int _ _) ?_
    obtain ⟨c5, hc5, hk⟩ := bs hk
    refine pX hc5 tE26 tZ4 ?_
    refine pLp (.bool _) (rd1 (off := 0) hc5 tA4) ?_
    refine pE ?_
    refine gn ?_
    refine wpL_cd (b := c5) (fun hb => ?_) (fun hb => ?_)
    · replace hk := ct hb hk
      refine wpL_sq ?_
      refine wpL_rg ?_
      refine pA (.bool _) ?_
      refine pE ?_
      refine gn ?_
      refine wpL_rt ?_
      refine br (gr (gr (br (gr ?_))))
      replace hk := lx hx1 hk
      cases hk; exact fin0 hO
    · replace hk := cf hb hk
      refine wpL_sk ?_
      refine bn (gn ?_)
      refine wpL_rg ?_
      refine pBi ?_
      refine pM (.int _ _) ?_
      refine pE ?_
      refine gn ?_
      cases hk; exact ⟨_, rfl, _, _, hO, St.hav _ ⟨rfl, rfl, rfl, rfl, trivial⟩⟩
  · replace hk := cf hb hk
    refine wpL_ex ?_
    refine ge (ge (be (gn ?_)))
    replace hk := lx hx1 hk
    refine wpL_sq ?_
    refine wpL_rg ?_
    refine pA (.bool _) ?_
    refine pE ?_
    refine gn ?_
    refine wpL_rt ?_
    cases hk; exact fin0 hO
/-- spec.l15told -/
def f73 (aL0 : Layout) (aDead1 : List Bool) (aSection2 : Int) (aX3 : Section) : Option Int :=
  ((f74 aL0 aDead1 aSection2).bind fun v3 => (bif v3 then some (3:Int) else (bif (aX3.Lost || ((aX3.Count != (0:Int)) && !aX3.Sweep)) then some (1:Int) else (bif aX3.Sweep then some (2:Int) else some (0:Int)))))
theorem f73_run {aL0 : Layout} {aDead1 : List Bool} {aSection2 : Int} {aX3 : Section} {r : Int} {l1 l2 : Nat} {H : Heap} {lk : Lk} (hk : f73 aL0 aDead1 aSection2 aX3 = some r) (hlk : 0 < lk.length := by simp) : runL Try.prog hh 73 [.agg [.int .i64 aL0.Sections, .lit l1 aL0.Counters.length (flat aL0.Counters)], .lit l2 aDead1.length (flat aDead1), .int .i64 aSection2, .agg [.int .i64 aX3.Told, .int .i64 aX3.Count, .bool aX3.Lost, .bool aX3.Sweep, .int .i64 aX3.Last]] H lk = some (.int .i64 r, H) := by
  refine run_start Try.func73 rfl Try.ntmps73 Try.results73 rfl rfl fun hO => ?_
  unfold f73 at hk
  refine wpL_sq ?_
  refine wpL_rg ?_
  refine pBox (cs := [_, _]) hO tZ34 (fun b1 G hO => ?_)
  refine pBox (cs := [_, _, _, _, _]) hO tZ142 (fun b2 G hO => ?_)
  refine pA (.int _ _) ?_
  refine pE ?_
  refine gn ?_
  refine wpL_sq ?_
  refine wpL_sq ?_
  refine wpL_rg ?_
  refine pLs hO 1 [_, _] tA34 tZ34 ?_
  refine pM (.lit _ _ _) ?_
  refine pM (.int _ _) ?_
  obtain ⟨v3, hv3, hk⟩ := bs hk
  refine pCall (fun _ => f74_run hv3) ?_
  refine pE ?_
  refine gn ?_
  refine wpL_cd (b := v3) (fun hb => ?_) (fun hb => ?_)
  · replace hk := ct hb hk
    refine wpL_sq ?_
    refine wpL_rg ?_
    refine pA (.int _ _) ?_
    refine pE ?_
    refine gn ?_
    refine wpL_rt ?_
    refine gr ?_
    cases hk; exact fin0 hO
  · replace hk := cf hb hk
    refine wpL_sk ?_
    refine gn ?_
    refine wpL_sq ?_
    refine wpL_sq ?_
    refine wpL_rg ?_
    refine pF tF142_2 ?_
    refine pLo hO 0 (.bool _) tA4 ?_
    refine pM (.bool _) ?_
    refine wpR_mid (l1 := [_, _, _, _, _, _, _, _, _]) (fun S' => ∃ J, S' = ⟨hav [(7, .ptr b2 0), (24, .bool (aX3.Lost || ((aX3.Count != (0:Int)) && !aX3.Sweep)))] J, G⟩) ?_ ?_
    · refine bc (b := aX3.Lost) (fun hg1 => ?_) (fun hg1 => ?_)
      · refine pGn hg1 ?_
        refine pGn hg1 ?_
        refine pGn hg1 ?_
        refine pGn hg1 ?_
        refine pGu ?_
        refine pGu ?_
        refine pGu ?_
        refine pGn hg1 ?_
        refine pPt hg1 (.bool _) ?_
        exact pE ⟨_, St.hav _ ⟨rfl, by rw [hg1]; rfl, trivial⟩⟩
      · refine pGy hg1 ?_
        refine pF tF142_1 ?_
        refine pGy hg1 ?_
        refine pLo hO 0 (.int _ _) tA3 ?_
        refine pGy hg1 ?_
        refine pBi ?_
        refine pGy hg1 ?_
        refine pM (.bool _) ?_
        refine wpR_mid (l1 := [_, _, _, _]) (fun S' => ∃ J, S' = ⟨hav [(7, .ptr b2 0), (15, .bool aX3.Lost), (23, .bool ((aX3.Count != (0:Int)) && !aX3.Sweep))] J, G⟩) ?_ ?_
        · refine bc (b := (aX3.Count != (0:Int))) (fun hg2 => ?_) (fun hg2 => ?_)
          · refine pGy hg2 ?_
            refine pF tF142_3 ?_
            refine pGy hg2 ?_
            refine pLo hO 0 (.bool _) tA4 ?_
            refine pGy hg2 ?_
            refine pU ?_
            refine pGy hg1 ?_
            refine pPt hg2 (.bool _) ?_
            exact pE ⟨_, St.hav _ ⟨rfl, rfl, by rw [hg2]; rfl, trivial⟩⟩
          · refine pGn hg2 ?_
            refine pGn hg2 ?_
            refine pGn hg2 ?_
            refine pGy hg1 ?_
            refine pPf hg2 (.bool _) ?_
            exact pE ⟨_, St.hav _ ⟨rfl, rfl, by rw [hg2]; rfl, trivial⟩⟩
        · rintro _ ⟨J, rfl⟩
          refine pPf hg1 (.bool _) ?_
          exact pE ⟨_, St.hav _ ⟨rfl, by rw [hg1]; rfl, trivial⟩⟩
    · rintro _ ⟨J, rfl⟩
      refine pE ?_
      refine gn ?_
      refine wpL_cd (b := (aX3.Lost || ((aX3.Count != (0:Int)) && !aX3.Sweep))) (fun hb => ?_) (fun hb => ?_)
      · replace hk := ct hb hk
        refine wpL_sq ?_
        refine wpL_rg ?_
        refine pA (.int _ _) ?_
        refine pE ?_
        refine gn ?_
        refine wpL_rt ?_
        refine gr ?_
        cases hk; exact fin0 hO
      · replace hk := cf hb hk
        refine wpL_sk ?_
        refine gn ?_
        refine wpL_sq ?_
        refine wpL_sq ?_
        refine wpL_rg ?_
        refine pF tF142_3 ?_
        refine pLo hO 0 (.bool _) tA4 ?_
        refine pE ?_
        refine gn ?_
        refine wpL_cd (b := aX3.Sweep) (fun hb => ?_) (fun hb => ?_)
        · replace hk := ct hb hk
          refine wpL_sq ?_
          refine wpL_rg ?_
          refine pA (.int _ _) ?_
          refine pE ?_
          refine gn ?_
          refine wpL_rt ?_
          refine gr ?_
          cases hk; exact fin0 hO
        · replace hk := cf hb hk
          refine wpL_sk ?_
          refine gn ?_
          refine wpL_sq ?_
          refine wpL_rg ?_
          refine pA (.int _ _) ?_
          refine pE ?_
          refine gn ?_
          refine wpL_rt ?_
          cases hk; exact fin0 hO
/-- spec.CountOk -/
def f17_L1 (aL0 : Layout) (aS1 : CountState) : Int → Option (Int ⊕ Bool) := fun s =>
  (bif decide (s < (aS1.Sections.length : Int)) then ((getI aS1.Sections s).bind fun c5 => ((f72 c5.Count (-1000000:Int) (1000000:Int)).bind fun v7 => ((bif !v7 then some true else ((f72 c5.Last (-1:Int) (1:Int)).bind fun v9 => some (!v9))).bind fun t8 => ((bif t8 then some true else ((f73 aL0 aS1.Dead s c5).bind fun v11 => some (c5.Told != v11))).bind fun t10 => (bif t10 then ((some false).map Sum.inr) else ((bif (decide (c5.Count < (0:Int)) && !c5.Lost) then some true else ((f74 aL0 aS1.Dead s).bind fun v13 => some (v13 && !c5.Lost))).bind fun t12 => (bif (t12 || (((c5.Sweep && (c5.Count == (0:Int))) && (c5.Last == (-1:Int))) && !c5.Lost)) then ((some false).map Sum.inr) else some (.inl (w64 (s + (1:Int))))))))))) else ((some true).map Sum.inr))
def f17 (aL0 : Layout) (aS1 : CountState) : Option Bool :=
  ((f71 aL0).bind fun v3 => (bif ((((v3 != (0:Int)) || !aS1.Ok) || ((aS1.Sections.length : Int) != aL0.Sections)) || ((aS1.Dead.length : Int) != (aL0.Counters.length : Int))) then some false else (loopO (f17_L1 aL0 aS1) ((0:Int)))))
theorem f17_run {aL0 : Layout} {aS1 : CountState} {r : Bool} {l1 l2 l3 : Nat} {H : Heap} {lk : Lk} (hk : f17 aL0 aS1 = some r) (hlk : 0 < lk.length := by simp) : runL Try.prog hh 17 [.agg [.int .i64 aL0.Sections, .lit l1 aL0.Counters.length (flat aL0.Counters)], .agg [.bool aS1.Ok, .lit l2 aS1.Sections.length (flat aS1.Sections), .lit l3 aS1.Dead.length (flat aS1.Dead)]] H lk = some (.bool r, H) := by
  refine run_start Try.func17 rfl Try.ntmps17 Try.results17 rfl rfl fun hO => ?_
  unfold f17 at hk
  refine wpL_sq ?_
  refine wpL_rg ?_
  refine pBox (cs := [_, _]) hO tZ34 (fun b1 G hO => ?_)
  refine pBox (cs := [_, _, _]) hO tZ38 (fun b2 G hO => ?_)
  refine pA (.bool _) ?_
  refine pE ?_
  refine gn ?_
  refine wpL_sq ?_
  refine wpL_sq ?_
  refine wpL_rg ?_
  refine pLs hO 1 [_, _] tA34 tZ34 ?_
  obtain ⟨v3, hv3, hk⟩ := bs hk
  refine pCall (fun _ => f71_run hv3) ?_
  refine pBi ?_
  refine pM (.bool _) ?_
  refine wpR_mid (l1 := [_, _, _, _]) (fun S' => ∃ J, S' = ⟨hav [(2, .ptr b1 0), (3, .ptr b2 0), (14, .bool ((v3 != (0:Int)) || !aS1.Ok))] J, G⟩) ?_ ?_
  · refine bc (b := (v3 != (0:Int))) (fun hg1 => ?_) (fun hg1 => ?_)
    · refine pGn hg1 ?_
      refine pGn hg1 ?_
      refine pGn hg1 ?_
      refine pPt hg1 (.bool _) ?_
      exact pE ⟨_, St.hav _ ⟨rfl, rfl, by rw [hg1]; rfl, trivial⟩⟩
    · refine pGy hg1 ?_
      refine pF tF38_0 ?_
      refine pGy hg1 ?_
      refine pLo hO 0 (.bool _) tA4 ?_
      refine pGy hg1 ?_
      refine pU ?_
      refine pPf hg1 (.bool _) ?_
      exact pE ⟨_, St.hav _ ⟨rfl, rfl, by rw [hg1]; rfl, trivial⟩⟩
  · rintro _ ⟨J, rfl⟩
    refine pM (.bool _) ?_
    refine wpR_mid (l1 := [_, _, _, _, _, _, _]) (fun S' => ∃ J, S' = ⟨hav [(2, .ptr b1 0), (3, .ptr b2 0), (22, .bool (((v3 != (0:Int)) || !aS1.Ok) || ((aS1.Sections.length : Int) != aL0.Sections)))] J, G⟩) ?_ ?_
    · refine bc (b := ((v3 != (0:Int)) || !aS1.Ok)) (fun hg1 => ?_) (fun hg1 => ?_)
      · refine pGn hg1 ?_
        refine pGn hg1 ?_
        refine pGn hg1 ?_
        refine pGn hg1 ?_
        refine pGn hg1 ?_
        refine pGn hg1 ?_
        refine pPt hg1 (.bool _) ?_
        exact pE ⟨_, St.hav _ ⟨rfl, rfl, by rw [hg1]; rfl, trivial⟩⟩
      · refine pGy hg1 ?_
        refine pF tF38_1 ?_
        refine pGy hg1 ?_
        refine pLo hO 0 (.lit _ _ _) tA36 ?_
        refine pGy hg1 ?_
        refine pLen tS36 ?_
        refine pGy hg1 ?_
        refine pF tF34_0 ?_
        refine pGy hg1 ?_
        refine pLo hO 1 (.int _ _) tA3 ?_
        refine pGy hg1 ?_
        refine pBi ?_
        refine pPf hg1 (.bool _) ?_
        exact pE ⟨_, St.hav _ ⟨rfl, rfl, by rw [hg1]; rfl, trivial⟩⟩
    · rintro _ ⟨J, rfl⟩
      refine pM (.bool _) ?_
      refine wpR_mid (l1 := [_, _, _, _, _, _, _, _]) (fun S' => ∃ J, S' = ⟨hav [(2, .ptr b1 0), (3, .ptr b2 0), (31, .bool ((((v3 != (0:Int)) || !aS1.Ok) || ((aS1.Sections.length : Int) != aL0.Sections)) || ((aS1.Dead.length : Int) != (aL0.Counters.length : Int))))] J, G⟩) ?_ ?_
      · refine bc (b := (((v3 != (0:Int)) || !aS1.Ok) || ((aS1.Sections.length : Int) != aL0.Sections))) (fun hg1 => ?_) (fun hg1 => ?_)
        · refine pGn hg1 ?_
          refine pGn hg1 ?_
          refine pGn hg1 ?_
          refine pGn hg1 ?_
          refine pGn hg1 ?_
          refine pGn hg1 ?_
          refine pGn hg1 ?_
          refine pPt hg1 (.bool _) ?_
          exact pE ⟨_, St.hav _ ⟨rfl, rfl, by rw [hg1]; rfl, trivial⟩⟩
        · refine pGy hg1 ?_
          refine pF tF38_2 ?_
          refine pGy hg1 ?_
          refine pLo hO 0 (.lit _ _ _) tA26 ?_
          refine pGy hg1 ?_
          refine pLen tS26 ?_
          refine pGy hg1 ?_
          refine pF tF34_1 ?_
          refine pGy hg1 ?_
          refine pLo hO 1 (.lit _ _ _) tA32 ?_
          refine pGy hg1 ?_
          refine pLen tS32 ?_
          refine pGy hg1 ?_
          refine pBi ?_
          refine pPf hg1 (.bool _) ?_
          exact pE ⟨_, St.hav _ ⟨rfl, rfl, by rw [hg1]; rfl, trivial⟩⟩
      · rintro _ ⟨J, rfl⟩
        refine pE ?_
        refine gn ?_
        refine wpL_cd (b := ((((v3 != (0:Int)) || !aS1.Ok) || ((aS1.Sections.length : Int) != aL0.Sections)) || ((aS1.Dead.length : Int) != (aL0.Counters.length : Int)))) (fun hb => ?_) (fun hb => ?_)
        · replace hk := ct hb hk
          refine wpL_sq ?_
          refine wpL_rg ?_
          refine pA (.bool _) ?_
          refine pE ?_
          refine gn ?_
          refine wpL_rt ?_
          refine gr ?_
          cases hk; exact fin0 hO
        · replace hk := cf hb hk
          refine wpL_sk ?_
          refine gn ?_
          refine wpL_sq ?_
          refine wpL_sq ?_
          refine wpL_rg ?_
          refine pF tF38_1 ?_
          refine pLo hO 0 (.lit _ _ _) tA36 ?_
          refine pLen tS36 ?_
          refine pM (.int _ _) ?_
          refine pE ?_
          refine gn ?_
          refine wpL_bl ?_
          refine wpL_loopO (F := f17_L1 aL0 aS1) (fun s S' => ∃ (J : Nat → V) (G : Heap), Owns H G [.blk b2 (.cells 3 [.bool aS1.Ok, .lit l2 aS1.Sections.length (flat aS1.Sections), .lit l3 aS1.Dead.length (flat aS1.Dead)]), .blk b1 (.cells 2 [.int .i64 aL0.Sections, .lit l1 aL0.Counters.length (flat aL0.Counters)])] ∧ S' = ⟨hav [(2, .ptr b1 0), (3, .ptr b2 0), (33, .lit l2 aS1.Sections.length (flat aS1.Sections)), (34, .int .i64 (aS1.Sections.length : Int)), (35, .int .i64 s)] J, G⟩) hk ⟨_, _, hO, St.hav _ ⟨rfl, rfl, rfl, rfl, rfl, trivial⟩⟩ ?_
          rintro x4 _ y1 ⟨J, G, hO, rfl⟩ hk hx1
          refine wpL_sq ?_
          refine wpL_rg ?_
          refine pBi ?_
          refine pE ?_
          refine gn ?_
          refine wpL_sq ?_
          refine wpL_cd (b := decide (x4 < (aS1.Sections.length : Int))) (fun hb => ?_) (fun hb => ?_)
          · replace hk := ct hb hk
            refine wpL_sk ?_
            refine gn ?_
            refine wpL_sq ?_
            refine wpL_bl ?_
            refine wpL_sq ?_
            refine wpL_rg ?_
            refine pM (.int _ _) ?_
            obtain ⟨c5, hc5, hk⟩ := bs hk
            refine pX hc5 tE36 tZ142 ?_
            refine pLp (.agg [_, _, _, _, _]) (rd2 (off := 0) hc5 tA142 tZ142) ?_
            refine pNew hO tZ142 t0142 (fun b6 G hO => ?_)
            refine pA (.int _ _) ?_
            refine pSt (xs := [_, _, _, _, _]) hO 0 tZ142 rfl (fun G hO => ?_)
            refine pE ?_
            refine gn ?_
            refine wpL_sq ?_
            refine wpL_sq ?_
            refine wpL_drw [(0, false), (1, true), (2, false), (3, false), (4, false), (5, false), (6, true), (7, false), (8, false), (9, false), (10, false), (11, true), (12, true), (13, true), (14, true), (15, true), (16, true), (17, true), (18, true), (19, false), (20, false)] [_, _, _, _, _, _, _, _, _, _, _, _, _, _, _, _, _, _, _, _, _] (by decide +kernel) (by rfl) ?_
            refine pF tF142_1 ?_
            refine pLo hO 0 (.int _ _) tA3 ?_
            obtain ⟨v7, hv7, hk⟩ := bs hk
            refine pCall (fun _ => f72_run hv7) ?_
            refine pU ?_
            refine pM (.bool _) ?_
            obtain ⟨t8, ht, hk⟩ := bs hk
            refine wpR_mid (l1 := [_, _, _, _, _]) (fun S' => ∃ J, S' = ⟨hav [(2, .ptr b1 0), (3, .ptr b2 0), (5, .int .i64 x4), (6, .ptr b6 0), (33, .lit l2 aS1.Sections.length (flat aS1.Sections)), (34, .int .i64 (aS1.Sections.length : Int)), (35, .int .i64 x4), (49, .bool t8)] J, G⟩) ?_ ?_
            · refine bc (b := !v7) (fun hg1 => ?_) (fun hg1 => ?_)
              · replace hk := ct hg1 ht
                refine pGn hg1 ?_
                refine pGn hg1 ?_
                refine pGn hg1 ?_
                refine pGn hg1 ?_
                refine pPt hg1 (.bool _) ?_
                cases hk; exact pE ⟨_, St.hav _ ⟨rfl, rfl, rfl, rfl, rfl, rfl, rfl, rfl, trivial⟩⟩
              · replace hk := cf hg1 ht
                refine pGy hg1 ?_
                refine pF tF142_4 ?_
                refine pGy hg1 ?_
                refine pLo hO 0 (.int _ _) tA3 ?_
                refine pGy hg1 ?_
                obtain ⟨v9, hv9, hk⟩ := bs hk
                refine pCall (fun _ => f72_run hv9) ?_
                refine pGy hg1 ?_
                refine pU ?_
                refine pPf hg1 (.bool _) ?_
                cases hk; exact pE ⟨_, St.hav _ ⟨rfl, rfl, rfl, rfl, rfl, rfl, rfl, rfl, trivial⟩⟩
            · rintro _ ⟨J, rfl⟩
              refine pM (.bool _) ?_
              obtain ⟨t10, ht, hk⟩ := bs hk
              refine wpR_mid (l1 := [_, _, _, _, _, _, _, _, _, _]) (fun S' => ∃ J, S' = ⟨hav [(2, .ptr b1 0), (3, .ptr b2 0), (5, .int .i64 x4), (6, .ptr b6 0), (33, .lit l2 aS1.Sections.length (flat aS1.Sections)), (34, .int .i64 (aS1.Sections.length : Int)), (35, .int .i64 x4), (60, .bool t10)] J, G⟩) ?_ ?_
              · refine bc (b := t8) (fun hg1 => ?_) (fun hg1 => ?_)
                · replace hk := ct hg1 ht
                  refine pGn hg1 ?_
                  refine pGn hg1 ?_
                  refine pGn hg1 ?_
                  refine pGn hg1 ?_
                  refine pGn hg1 ?_
                  refine pGn hg1 ?_
                  refine pGn hg1 ?_
                  refine pGn hg1 ?_
                  refine pGn hg1 ?_
                  refine pPt hg1 (.bool _) ?_
                  cases hk; exact pE ⟨_, St.hav _ ⟨rfl, rfl, rfl, rfl, rfl, rfl, rfl, rfl, trivial⟩⟩
                · replace hk := cf hg1 ht
                  refine pGy hg1 ?_
                  refine pF tF142_0 ?_
                  refine pGy hg1 ?_
                  refine pLo hO 0 (.int _ _) tA3 ?_
                  refine pGy hg1 ?_
                  refine pLs hO 2 [_, _] tA34 tZ34 ?_
                  refine pGy hg1 ?_
                  refine pF tF38_2 ?_
                  refine pGy hg1 ?_
                  refine pLo hO 1 (.lit _ _ _) tA26 ?_
                  refine pGy hg1 ?_
                  refine pM (.int _ _) ?_
                  refine pGy hg1 ?_
                  refine pLs hO 0 [_, _, _, _, _] tA142 tZ142 ?_
                  refine pGy hg1 ?_
                  obtain ⟨v11, hv11, hk⟩ := bs hk
                  refine pCall (fun _ => f73_run hv11) ?_
                  refine pGy hg1 ?_
                  refine pBi ?_
                  refine pPf hg1 (.bool _) ?_
                  cases hk; exact pE ⟨_, St.hav _ ⟨rfl, rfl, rfl, rfl, rfl, rfl, rfl, rfl, trivial⟩⟩
              · rintro _ ⟨J, rfl⟩
                refine pE ?_
                refine gn ?_
                refine wpL_cd (b := t10) (fun hb => ?_) (fun hb => ?_)
                · replace hk := ct hb hk
                  refine wpL_sq ?_
                  refine wpL_rg ?_
                  refine pA (.bool _) ?_
                  refine pE ?_
                  refine gn ?_
                  refine wpL_rt ?_
                  refine gr (br (gr (gr (br (gr ?_)))))
                  replace hk := lx hx1 hk
                  cases hk; exact fin0 hO
                · replace hk := cf hb hk
                  refine wpL_sk ?_
                  refine gn ?_
                  refine wpL_sq ?_
                  refine wpL_rg ?_
                  refine pF tF142_1 ?_
                  refine pLo hO 0 (.int _ _) tA3 ?_
                  refine pBi ?_
                  refine pM (.bool _) ?_
                  refine wpR_mid (l1 := [_, _, _, _]) (fun S' => ∃ J, S' = ⟨hav [(2, .ptr b1 0), (3, .ptr b2 0), (5, .int .i64 x4), (6, .ptr b6 0), (33, .lit l2 aS1.Sections.length (flat aS1.Sections)), (34, .int .i64 (aS1.Sections.length : Int)), (35, .int .i64 x4), (68, .bool (decide (c5.Count < (0:Int)) && !c5.Lost))] J, G⟩) ?_ ?_
                  · refine bc (b := decide (c5.Count < (0:Int))) (fun hg1 => ?_) (fun hg1 => ?_)
                    · refine pGy hg1 ?_
                      refine pF tF142_2 ?_
                      refine pGy hg1 ?_
                      refine pLo hO 0 (.bool _) tA4 ?_
                      refine pGy hg1 ?_
                      refine pU ?_
                      refine pPt hg1 (.bool _) ?_
                      exact pE ⟨_, St.hav _ ⟨rfl, rfl, rfl, rfl, rfl, rfl, rfl, by rw [hg1]; rfl, trivial⟩⟩
                    · refine pGn hg1 ?_
                      refine pGn hg1 ?_
                      refine pGn hg1 ?_
                      refine pPf hg1 (.bool _) ?_
                      exact pE ⟨_, St.hav _ ⟨rfl, rfl, rfl, rfl, rfl, rfl, rfl, by rw [hg1]; rfl, trivial⟩⟩
                  · rintro _ ⟨J, rfl⟩
                    refine pM (.bool _) ?_
                    obtain ⟨t12, ht, hk⟩ := bs hk
                    refine wpR_mid (l1 := [_, _, _, _, _, _, _, _, _, _, _]) (fun S' => ∃ J, S' = ⟨hav [(2, .ptr b1 0), (3, .ptr b2 0), (6, .ptr b6 0), (33, .lit l2 aS1.Sections.length (flat aS1.Sections)), (34, .int .i64 (aS1.Sections.length : Int)), (35, .int .i64 x4), (80, .bool t12)] J, G⟩) ?_ ?_
                    · refine bc (b := (decide (c5.Count < (0:Int)) && !c5.Lost)) (fun hg1 => ?_) (fun hg1 => ?_)
                      · replace hk := ct hg1 ht
                        refine pGn hg1 ?_
                        refine pGn hg1 ?_
                        refine pGn hg1 ?_
                        refine pGn hg1 ?_
                        refine pGn hg1 ?_
                        refine pGn hg1 ?_
                        refine pGu ?_
                        refine pGu ?_
                        refine pGu ?_
                        refine pGn hg1 ?_
                        refine pPt hg1 (.bool _) ?_
                        cases hk; exact pE ⟨_, St.hav _ ⟨rfl, rfl, rfl, rfl, rfl, rfl, rfl, trivial⟩⟩
                      · replace hk := cf hg1 ht
                        refine pGy hg1 ?_
                        refine pLs hO 2 [_, _] tA34 tZ34 ?_
                        refine pGy hg1 ?_
                        refine pF tF38_2 ?_
                        refine pGy hg1 ?_
                        refine pLo hO 1 (.lit _ _ _) tA26 ?_
                        refine pGy hg1 ?_
                        refine pM (.int _ _) ?_
                        refine pGy hg1 ?_
                        obtain ⟨v13, hv13, hk⟩ := bs hk
                        refine pCall (fun _ => f74_run hv13) ?_
                        refine pGy hg1 ?_
                        refine pM (.bool _) ?_
                        refine wpR_mid (l1 := [_, _, _, _]) (fun S' => ∃ J, S' = ⟨hav [(2, .ptr b1 0), (3, .ptr b2 0), (6, .ptr b6 0), (33, .lit l2 aS1.Sections.length (flat aS1.Sections)), (34, .int .i64 (aS1.Sections.length : Int)), (35, .int .i64 x4), (69, .bool (decide (c5.Count < (0:Int)) && !c5.Lost)), (79, .bool (v13 && !c5.Lost))] J, G⟩) ?_ ?_
                        · refine bc (b := v13) (fun hg2 => ?_) (fun hg2 => ?_)
                          · refine pGy hg2 ?_
                            refine pF tF142_2 ?_
                            refine pGy hg2 ?_
                            refine pLo hO 0 (.bool _) tA4 ?_
                            refine pGy hg2 ?_
                            refine pU ?_
                            refine pGy hg1 ?_
                            refine pPt hg2 (.bool _) ?_
                            exact pE ⟨_, St.hav _ ⟨rfl, rfl, rfl, rfl, rfl, rfl, rfl, by rw [hg2]; rfl, trivial⟩⟩
                          · refine pGn hg2 ?_
                            refine pGn hg2 ?_
                            refine pGn hg2 ?_
                            refine pGy hg1 ?_
                            refine pPf hg2 (.bool _) ?_
                            exact pE ⟨_, St.hav _ ⟨rfl, rfl, rfl, rfl, rfl, rfl, rfl, by rw [hg2]; rfl, trivial⟩⟩
                        · rintro _ ⟨J, rfl⟩
                          refine pPf hg1 (.bool _) ?_
                          cases hk; exact pE ⟨_, St.hav _ ⟨rfl, rfl, rfl, rfl, rfl, rfl, rfl, trivial⟩⟩
                    · rintro _ ⟨J, rfl⟩
                      refine pM (.bool _) ?_
                      refine wpR_mid (l1 := [_, _, _, _, _, _, _, _, _, _, _, _, _, _, _, _, _, _]) (fun S' => ∃ J, S' = ⟨hav [(2, .ptr b1 0), (3, .ptr b2 0), (33, .lit l2 aS1.Sections.length (flat aS1.Sections)), (34, .int .i64 (aS1.Sections.length : Int)), (35, .int .i64 x4), (99, .bool (t12 || (((c5.Sweep && (c5.Count == (0:Int))) && (c5.Last == (-1:Int))) && !c5.Lost)))] J, G⟩) ?_ ?_
                      · refine bc (b := t12) (fun hg1 => ?_) (fun hg1 => ?_)
                        · refine pGn hg1 ?_
                          refine pGn hg1 ?_
                          refine pGn hg1 ?_
                          refine pGu ?_
                          refine pGu ?_
                          refine pGu ?_
                          refine pGn hg1 ?_
                          refine pGn hg1 ?_
                          refine pGu ?_
                          refine pGu ?_
                          refine pGu ?_
                          refine pGn hg1 ?_
                          refine pGn hg1 ?_
                          refine pGu ?_
                          refine pGu ?_
                          refine pGu ?_
                          refine pGn hg1 ?_
                          refine pPt hg1 (.bool _) ?_
                          exact pE ⟨_, St.hav _ ⟨rfl, rfl, rfl, rfl, rfl, by rw [hg1]; rfl, trivial⟩⟩
                        · refine pGy hg1 ?_
                          refine pF tF142_3 ?_
                          refine pGy hg1 ?_
                          refine pLo hO 0 (.bool _) tA4 ?_
                          refine pGy hg1 ?_
                          refine pM (.bool _) ?_
                          refine wpR_mid (l1 := [_, _, _, _]) (fun S' => ∃ J, S' = ⟨hav [(2, .ptr b1 0), (3, .ptr b2 0), (6, .ptr b6 0), (33, .lit l2 aS1.Sections.length (flat aS1.Sections)), (34, .int .i64 (aS1.Sections.length : Int)), (35, .int .i64 x4), (81, .bool t12), (88, .bool (c5.Sweep && (c5.Count == (0:Int))))] J, G⟩) ?_ ?_
                          · refine bc (b := c5.Sweep) (fun hg2 => ?_) (fun hg2 => ?_)
                            · refine pGy hg2 ?_
                              refine pF tF142_1 ?_
                              refine pGy hg2 ?_
                              refine pLo hO 0 (.int _ _) tA3 ?_
                              refine pGy hg2 ?_
                              refine pBi ?_
                              refine pGy hg1 ?_
                              refine pPt hg2 (.bool _) ?_
                              exact pE ⟨_, St.hav _ ⟨rfl, rfl, rfl, rfl, rfl, rfl, rfl, by rw [hg2]; rfl, trivial⟩⟩
                            · refine pGn hg2 ?_
                              refine pGn hg2 ?_
                              refine pGn hg2 ?_
                              refine pGy hg1 ?_
                              refine pPf hg2 (.bool _) ?_
                              exact pE ⟨_, St.hav _ ⟨rfl, rfl, rfl, rfl, rfl, rfl, rfl, by rw [hg2]; rfl, trivial⟩⟩
                          · rintro _ ⟨J, rfl⟩
                            refine pGy hg1 ?_
                            refine pM (.bool _) ?_
                            refine wpR_mid (l1 := [_, _, _, _]) (fun S' => ∃ J, S' = ⟨hav [(2, .ptr b1 0), (3, .ptr b2 0), (6, .ptr b6 0), (33, .lit l2 aS1.Sections.length (flat aS1.Sections)), (34, .int .i64 (aS1.Sections.length : Int)), (35, .int .i64 x4), (81, .bool t12), (93, .bool ((c5.Sweep && (c5.Count == (0:Int))) && (c5.Last == (-1:Int))))] J, G⟩) ?_ ?_
                            · refine bc (b := (c5.Sweep && (c5.Count == (0:Int)))) (fun hg2 => ?_) (fun hg2 => ?_)
                              · refine pGy hg2 ?_
                                refine pF tF142_4 ?_
                                refine pGy hg2 ?_
                                refine pLo hO 0 (.int _ _) tA3 ?_
                                refine pGy hg2 ?_
                                refine pBi ?_
                                refine pGy hg1 ?_
                                refine pPt hg2 (.bool _) ?_
                                exact pE ⟨_, St.hav _ ⟨rfl, rfl, rfl, rfl, rfl, rfl, rfl, by rw [hg2]; rfl, trivial⟩⟩
                              · refine pGn hg2 ?_
                                refine pGn hg2 ?_
                                refine pGn hg2 ?_
                                refine pGy hg1 ?_
                                refine pPf hg2 (.bool _) ?_
                                exact pE ⟨_, St.hav _ ⟨rfl, rfl, rfl, rfl, rfl, rfl, rfl, by rw [hg2]; rfl, trivial⟩⟩
                            · rintro _ ⟨J, rfl⟩
                              refine pGy hg1 ?_
                              refine pM (.bool _) ?_
                              refine wpR_mid (l1 := [_, _, _, _]) (fun S' => ∃ J, S' = ⟨hav [(2, .ptr b1 0), (3, .ptr b2 0), (33, .lit l2 aS1.Sections.length (flat aS1.Sections)), (34, .int .i64 (aS1.Sections.length : Int)), (35, .int .i64 x4), (81, .bool t12), (98, .bool (((c5.Sweep && (c5.Count == (0:Int))) && (c5.Last == (-1:Int))) && !c5.Lost))] J, G⟩) ?_ ?_
                              · refine bc (b := ((c5.Sweep && (c5.Count == (0:Int))) && (c5.Last == (-1:Int)))) (fun hg2 => ?_) (fun hg2 => ?_)
                                · refine pGy hg2 ?_
                                  refine pF tF142_2 ?_
                                  refine pGy hg2 ?_
                                  refine pLo hO 0 (.bool _) tA4 ?_
                                  refine pGy hg2 ?_
                                  refine pU ?_
                                  refine pGy hg1 ?_
                                  refine pPt hg2 (.bool _) ?_
                                  exact pE ⟨_, St.hav _ ⟨rfl, rfl, rfl, rfl, rfl, rfl, by rw [hg2]; rfl, trivial⟩⟩
                                · refine pGn hg2 ?_
                                  refine pGn hg2 ?_
                                  refine pGn hg2 ?_
                                  refine pGy hg1 ?_
                                  refine pPf hg2 (.bool _) ?_
                                  exact pE ⟨_, St.hav _ ⟨rfl, rfl, rfl, rfl, rfl, rfl, by rw [hg2]; rfl, trivial⟩⟩
                              · rintro _ ⟨J, rfl⟩
                                refine pPf hg1 (.bool _) ?_
                                exact pE ⟨_, St.hav _ ⟨rfl, rfl, rfl, rfl, rfl, by rw [hg1]; rfl, trivial⟩⟩
                      · rintro _ ⟨J, rfl⟩
                        refine pE ?_
                        refine gn ?_
                        refine wpL_cd (b := (t12 || (((c5.Sweep && (c5.Count == (0:Int))) && (c5.Last == (-1:Int))) && !c5.Lost))) (fun hb => ?_) (fun hb => ?_)
                        · replace hk := ct hb hk
                          refine wpL_sq ?_
                          refine wpL_rg ?_
                          refine pA (.bool _) ?_
                          refine pE ?_
                          refine gn ?_
                          refine wpL_rt ?_
                          refine br (gr (gr (br (gr ?_))))
                          replace hk := lx hx1 hk
                          cases hk; exact fin0 hO
                        · replace hk := cf hb hk
                          refine wpL_sk ?_
                          refine bn (gn ?_)
                          refine wpL_rg ?_
                          refine pBi ?_
                          refine pM (.int _ _) ?_
                          refine pE ?_
                          refine gn ?_
                          cases hk; exact ⟨_, rfl, _, _, (Owns.pick hO [1, 2] (by decide) rfl), St.hav _ ⟨rfl, rfl, rfl, rfl, rfl, trivial⟩⟩
          · replace hk := cf hb hk
            refine wpL_ex ?_
            refine ge (ge (be (gn ?_)))
            replace hk := lx hx1 hk
            refine wpL_sq ?_
            refine wpL_rg ?_
            refine pA (.bool _) ?_
            refine pE ?_
            refine gn ?_
            refine wpL_rt ?_
            cases hk; exact fin0 hO
/-- impl.LayoutOk$1 -/
def f163 (aX0 : Int) (aA1 : Layout) : Option Bool :=
  some (decide (aX0 ≥ (-1:Int)) && decide (aX0 < aA1.Sections))
theorem f163_run {aX0 : Int} {aA1 : Layout} {r : Bool} {l1 : Nat} {H : Heap} {lk : Lk} {q0 : Nat} (hk : f163 aX0 aA1 = some r) (hq0 : H[q0]? = some (.cells 2 [.int .i64 aA1.Sections, .lit l1 aA1.Counters.length (flat aA1.Counters)])) (hlk : 0 < lk.length := by simp) : runL Try.prog hh 163 [.int .i64 aX0, .ptr q0 0] H lk = some (.bool r, H) := by
  refine run_start Try.func163 rfl Try.ntmps163 Try.results163 rfl rfl fun hO => ?_
  unfold f163 at hk
  refine wpL_sq ?_
  refine wpL_rg ?_
  refine pA (.bool _) ?_
  refine pE ?_
  refine gn ?_
  refine wpL_sq ?_
  refine wpL_rg ?_
  refine pM (.int _ _) ?_
  refine pBi ?_
  refine pM (.bool _) ?_
  refine wpR_mid (l1 := [_, _, _, _, _]) (fun S' => ∃ J, S' = ⟨hav [(11, .bool (decide (aX0 ≥ (-1:Int)) && decide (aX0 < aA1.Sections)))] J, H⟩) ?_ ?_
  · refine bc (b := decide (aX0 ≥ (-1:Int))) (fun hg1 => ?_) (fun hg1 => ?_)
    · refine pGy hg1 ?_
      refine pM (.int _ _) ?_
      refine pGy hg1 ?_
      refine pF tF34_0 ?_
      refine pGy hg1 ?_
      refine pLf (.int _ _) hO hq0 tA3 ?_
      refine pGy hg1 ?_
      refine pBi ?_
      refine pPt hg1 (.bool _) ?_
      exact pE ⟨_, St.hav _ ⟨by rw [hg1]; rfl, trivial⟩⟩
    · refine pGn hg1 ?_
      refine pGn hg1 ?_
      refine pGn hg1 ?_
      refine pGn hg1 ?_
      refine pPf hg1 (.bool _) ?_
      exact pE ⟨_, St.hav _ ⟨by rw [hg1]; rfl, trivial⟩⟩
  · rintro _ ⟨J, rfl⟩
    refine pA (.bool _) ?_
    refine pE ?_
    refine gn ?_
    refine wpL_rt ?_
    cases hk; exact fin0 hO
/-- impl.LayoutOk -/
def f78_L1 (aL0 : Layout) : Int → Option (Int ⊕ Int) := fun s =>
  (bif decide (s < (aL0.Counters.length : Int)) then ((getI aL0.Counters s).bind fun c3 => ((f163 c3.From aL0).bind fun v5 => ((bif !v5 then some true else ((f163 c3.To aL0).bind fun v7 => some (!v7))).bind fun t6 => (bif (t6 || (c3.From == c3.To)) then ((some (2:Int)).map Sum.inr) else some (.inl (w64 (s + (1:Int)))))))) else ((some (0:Int)).map Sum.inr))
def f78 (aL0 : Layout) : Option Int :=
  (bif ((decide (aL0.Sections < (1:Int)) || decide (aL0.Sections > (60:Int))) || decide ((aL0.Counters.length : Int) > (120:Int))) then some (1:Int) else (loopO (f78_L1 aL0) ((0:Int))))
theorem f78_run {aL0 : Layout} {r : Int} {l1 : Nat} {H : Heap} {lk : Lk} (hk : f78 aL0 = some r) (hlk : 0 < lk.length := by simp) : runL Try.prog hh 78 [.agg [.int .i64 aL0.Sections, .lit l1 aL0.Counters.length (flat aL0.Counters)]] H lk = some (.int .i64 r, H) := by
  refine run_start Try.func78 rfl Try.ntmps78 Try.results78 rfl rfl fun hO => ?_
  unfold f78 at hk
  refine wpL_sq ?_
  refine wpL_rg ?_
  refine pBox (cs := [_, _]) hO tZ34 (fun b1 G hO => ?_)
  refine pA (.int _ _) ?_
  refine pE ?_
  refine gn ?_
  refine wpL_sq ?_
  refine wpL_sq ?_
  refine wpL_rg ?_
  refine pF tF34_0 ?_
  refine pLo hO 0 (.int _ _) tA3 ?_
  refine pBi ?_
  refine pM (.bool _) ?_
  refine wpR_mid (l1 := [_, _, _, _]) (fun S' => ∃ J, S' = ⟨hav [(1, .ptr b1 0), (13, .bool (decide (aL0.Sections < (1:Int)) || decide (aL0.Sections > (60:Int))))] J, G⟩) ?_ ?_
  · refine bc (b := decide (aL0.Sections < (1:Int))) (fun hg1 => ?_) (fun hg1 => ?_)
    · refine pGn hg1 ?_
      refine pGn hg1 ?_
      refine pGn hg1 ?_
      refine pPt hg1 (.bool _) ?_
      exact pE ⟨_, St.hav _ ⟨rfl, by rw [hg1]; rfl, trivial⟩⟩
    · refine pGy hg1 ?_
      refine pF tF34_0 ?_
      refine pGy hg1 ?_
      refine pLo hO 0 (.int _ _) tA3 ?_
      refine pGy hg1 ?_
      refine pBi ?_
      refine pPf hg1 (.bool _) ?_
      exact pE ⟨_, St.hav _ ⟨rfl, by rw [hg1]; rfl, trivial⟩⟩
  · rintro _ ⟨J, rfl⟩
    refine pM (.bool _) ?_
    refine wpR_mid (l1 := [_, _, _, _, _]) (fun S' => ∃ J, S' = ⟨hav [(1, .ptr b1 0), (19, .bool ((decide (aL0.Sections < (1:Int)) || decide (aL0.Sections > (60:Int))) || decide ((aL0.Counters.length : Int) > (120:Int))))] J, G⟩) ?_ ?_
    · refine bc (b := (decide (aL0.Sections < (1:Int)) || decide (aL0.Sections > (60:Int)))) (fun hg1 => ?_) (fun hg1 => ?_)
      · refine pGn hg1 ?_
        refine pGn hg1 ?_
        refine pGn hg1 ?_
        refine pGn hg1 ?_
        refine pPt hg1 (.bool _) ?_
        exact pE ⟨_, St.hav _ ⟨rfl, by rw [hg1]; rfl, trivial⟩⟩
      · refine pGy hg1 ?_
        refine pF tF34_1 ?_
        refine pGy hg1 ?_
        refine pLo hO 0 (.lit _ _ _) tA32 ?_
        refine pGy hg1 ?_
        refine pLen tS32 ?_
        refine pGy hg1 ?_
        refine pBi ?_
        refine pPf hg1 (.bool _) ?_
        exact pE ⟨_, St.hav _ ⟨rfl, by rw [hg1]; rfl, trivial⟩⟩
    · rintro _ ⟨J, rfl⟩
      refine pE ?_
      refine gn ?_
      refine wpL_cd (b := ((decide (aL0.Sections < (1:Int)) || decide (aL0.Sections > (60:Int))) || decide ((aL0.Counters.length : Int) > (120:Int)))) (fun hb => ?_) (fun hb => ?_)
      · replace hk := ct hb hk
        refine wpL_sq ?_
        refine wpL_rg ?_
        refine pA (.int _ _) ?_
        refine pE ?_
        refine gn ?_
        refine wpL_rt ?_
        refine gr ?_
        cases hk; exact fin0 hO
      · replace hk := cf hb hk
        refine wpL_sk ?_
        refine gn ?_
        refine wpL_sq ?_
        refine wpL_rg ?_
        refine pFn (vs := [_]) ?_
        refine pA (.fn _ _) ?_
        refine pE ?_
        refine gn ?_
        refine wpL_sq ?_
        refine wpL_sq ?_
        refine wpL_rg ?_
        refine pF tF34_1 ?_
        refine pLo hO 0 (.lit _ _ _) tA32 ?_
        refine pLen tS32 ?_
        refine pM (.int _ _) ?_
        refine pE ?_
        refine gn ?_
        refine wpL_bl ?_
        refine wpL_loopO (F := f78_L1 aL0) (fun s S' => ∃ (J : Nat → V) (G : Heap), Owns H G [.blk b1 (.cells 2 [.int .i64 aL0.Sections, .lit l1 aL0.Counters.length (flat aL0.Counters)])] ∧ S' = ⟨hav [(3, .fn 163 [.ptr b1 0]), (22, .lit l1 aL0.Counters.length (flat aL0.Counters)), (23, .int .i64 (aL0.Counters.length : Int)), (24, .int .i64 s)] J, G⟩) hk ⟨_, _, hO, St.hav _ ⟨rfl, rfl, rfl, rfl, trivial⟩⟩ ?_
        rintro x2 _ y1 ⟨J, G, hO, rfl⟩ hk hx1
        refine wpL_sq ?_
        refine wpL_rg ?_
        refine pBi ?_
        refine pE ?_
        refine gn ?_
        refine wpL_sq ?_
        refine wpL_cd (b := decide (x2 < (aL0.Counters.length : Int))) (fun hb => ?_) (fun hb => ?_)
        · replace hk := ct hb hk
          refine wpL_sk ?_
          refine gn ?_
          refine wpL_sq ?_
          refine wpL_bl ?_
          refine wpL_sq ?_
          refine wpL_rg ?_
          obtain ⟨c3, hc3, hk⟩ := bs hk
          refine pX hc3 tE32 tZ226 ?_
          refine pLp (.agg [_, _]) (rd2 (off := 0) hc3 tA226 tZ226) ?_
          refine pNew hO tZ226 t0226 (fun b4 G hO => ?_)
          refine pSt (xs := [_, _]) hO 0 tZ226 rfl (fun G hO => ?_)
          refine pE ?_
          refine gn ?_
          refine wpL_sq ?_
          refine wpL_rg ?_
          refine pM (.fn _ _) ?_
          refine pF tF226_0 ?_
          refine pLo hO 0 (.int _ _) tA3 ?_
          obtain ⟨v5, hv5, hk⟩ := bs hk
          refine pCall (fun _ => f163_run hv5 (hO.get (k := 1) rfl).1) ?_
          refine pU ?_
          refine pM (.bool _) ?_
          obtain ⟨t6, ht, hk⟩ := bs hk
          refine wpR_mid (l1 := [_, _, _, _, _, _]) (fun S' => ∃ J, S' = ⟨hav [(3, .fn 163 [.ptr b1 0]), (5, .ptr b4 0), (22, .lit l1 aL0.Counters.length (flat aL0.Counters)), (23, .int .i64 (aL0.Counters.length : Int)), (24, .int .i64 x2), (39, .bool t6)] J, G⟩) ?_ ?_
          · refine bc (b := !v5) (fun hg1 => ?_) (fun hg1 => ?_)
            · replace hk := ct hg1 ht
              refine pGn hg1 ?_
              refine pGn hg1 ?_
              refine pGn hg1 ?_
              refine pGn hg1 ?_
              refine pGn hg1 ?_
              refine pPt hg1 (.bool _) ?_
              cases hk; exact pE ⟨_, St.hav _ ⟨rfl, rfl, rfl, rfl, rfl, rfl, trivial⟩⟩
            · replace hk := cf hg1 ht
              refine pGy hg1 ?_
              refine pM (.fn _ _) ?_
              refine pGy hg1 ?_
              refine pF tF226_1 ?_
              refine pGy hg1 ?_
              refine pLo hO 0 (.int _ _) tA3 ?_
              refine pGy hg1 ?_
              obtain ⟨v7, hv7, hk⟩ := bs hk
              refine pCall (fun _ => f163_run hv7 (hO.get (k := 1) rfl).1) ?_
              refine pGy hg1 ?_
              refine pU ?_
              refine pPf hg1 (.bool _) ?_
              cases hk; exact pE ⟨_, St.hav _ ⟨rfl, rfl, rfl, rfl, rfl, rfl, trivial⟩⟩
          · rintro _ ⟨J, rfl⟩
            refine pM (.bool _) ?_
            refine wpR_mid (l1 := [_, _, _, _, _, _]) (fun S' => ∃ J, S' = ⟨hav [(3, .fn 163 [.ptr b1 0]), (22, .lit l1 aL0.Counters.length (flat aL0.Counters)), (23, .int .i64 (aL0.Counters.length : Int)), (24, .int .i64 x2), (46, .bool (t6 || (c3.From == c3.To)))] J, G⟩) ?_ ?_
            · refine bc (b := t6) (fun hg1 => ?_) (fun hg1 => ?_)
              · refine pGn hg1 ?_
                refine pGn hg1 ?_
                refine pGn hg1 ?_
                refine pGn hg1 ?_
                refine pGn hg1 ?_
                refine pPt hg1 (.bool _) ?_
                exact pE ⟨_, St.hav _ ⟨rfl, rfl, rfl, rfl, by rw [hg1]; rfl, trivial⟩⟩
              · refine pGy hg1 ?_
                refine pF tF226_0 ?_
                refine pGy hg1 ?_
                refine pLo hO 0 (.int _ _) tA3 ?_
                refine pGy hg1 ?_
                refine pF tF226_1 ?_
                refine pGy hg1 ?_
                refine pLo hO 0 (.int _ _) tA3 ?_
                refine pGy hg1 ?_
                refine pBi ?_
                refine pPf hg1 (.bool _) ?_
                exact pE ⟨_, St.hav _ ⟨rfl, rfl, rfl, rfl, by rw [hg1]; rfl, trivial⟩⟩
            · rintro _ ⟨J, rfl⟩
              refine pE ?_
              refine gn ?_
              refine wpL_cd (b := (t6 || (c3.From == c3.To))) (fun hb => ?_) (fun hb => ?_)
              · replace hk := ct hb hk
                refine wpL_sq ?_
                refine wpL_rg ?_
                refine pA (.int _ _) ?_
                refine pE ?_
                refine gn ?_
                refine wpL_rt ?_
                refine br (gr (gr (br (gr ?_))))
                replace hk := lx hx1 hk
                cases hk; exact fin0 hO
              · replace hk := cf hb hk
                refine wpL_sk ?_
                refine bn (gn ?_)
                refine wpL_rg ?_
                refine pBi ?_
                refine pM (.int _ _) ?_
                refine pE ?_
                refine gn ?_
                cases hk; exact ⟨_, rfl, _, _, (Owns.pick hO [1] (by decide) rfl), St.hav _ ⟨rfl, rfl, rfl, rfl, trivial⟩⟩
        · replace hk := cf hb hk
          refine wpL_ex ?_
          refine ge (ge (be (gn ?_)))
          replace hk := lx hx1 hk
          refine wpL_sq ?_
          refine wpL_rg ?_
          refine pA (.int _ _) ?_
          refine pE ?_
          refine gn ?_
          refine wpL_rt ?_
          cases hk; exact fin0 hO
/-- impl.dead -/
def f80_L1 (aL0 : Layout) (aS1 : CountState) (aSection2 : Int) : Int → Option (Int ⊕ Bool) := fun s =>
  (bif decide (s < (aL0.Counters.length : Int)) then ((getI aL0.Counters s).bind fun c4 => ((getI aS1.Dead s).bind fun c6 => (bif (c6 && ((c4.From == aSection2) || (c4.To == aSection2))) then ((some true).map Sum.inr) else some (.inl (w64 (s + (1:Int))))))) else ((some false).map Sum.inr))
def f80 (aL0 : Layout) (aS1 : CountState) (aSection2 : Int) : Option Bool :=
  (loopO (f80_L1 aL0 aS1 aSection2) ((0:Int)))
theorem f80_run {aL0 : Layout} {aS1 : CountState} {aSection2 : Int} {r : Bool} {l1 l2 l3 : Nat} {H : Heap} {lk : Lk} (hk : f80 aL0 aS1 aSection2 = some r) (hlk : 0 < lk.length := by simp) : runL Try.prog hh 80 [.agg [.int .i64 aL0.Sections, .lit l1 aL0.Counters.length (flat aL0.Counters)], .agg [.bool aS1.Ok, .lit l2 aS1.Sections.length (flat aS1.Sections), .lit l3 aS1.Dead.length (flat aS1.Dead)], .int .i64 aSection2] H lk = some (.bool r, H) := by
  refine run_start Try.func80 rfl Try.ntmps80 Try.results80 rfl rfl fun hO => ?_
  unfold f80 at hk
  refine wpL_sq ?_
  refine wpL_rg ?_
  refine pBox (cs := [_, _]) hO tZ34 (fun b1 G hO => ?_)
  refine pBox (cs := [_, _, _]) hO tZ38 (fun b2 G hO => ?_)
  refine pA (.bool _) ?_
  refine pE ?_
  refine gn ?_
  refine wpL_sq ?_
  refine wpL_sq ?_
  refine wpL_rg ?_
  refine pF tF34_1 ?_
  refine pLo hO 1 (.lit _ _ _) tA32 ?_
  refine pLen tS32 ?_
  refine pM (.int _ _) ?_
  refine pE ?_
  refine gn ?_
  refine wpL_bl ?_
  refine wpL_loopO (F := f80_L1 aL0 aS1 aSection2) (fun s S' => ∃ (J : Nat → V) (G : Heap), Owns H G [.blk b2 (.cells 3 [.bool aS1.Ok, .lit l2 aS1.Sections.length (flat aS1.Sections), .lit l3 aS1.Dead.length (flat aS1.Dead)])] ∧ S' = ⟨hav [(2, .int .i64 aSection2), (4, .ptr b2 0), (10, .lit l1 aL0.Counters.length (flat aL0.Counters)), (11, .int .i64 (aL0.Counters.length : Int)), (12, .int .i64 s)] J, G⟩) hk ⟨_, _, (Owns.pick hO [0] (by decide) rfl), St.hav _ ⟨rfl, rfl, rfl, rfl, rfl, trivial⟩⟩ ?_
  rintro x3 _ y1 ⟨J, G, hO, rfl⟩ hk hx1
  refine wpL_sq ?_
  refine wpL_rg ?_
  refine pBi ?_
  refine pE ?_
  refine gn ?_
  refine wpL_sq ?_
  refine wpL_cd (b := decide (x3 < (aL0.Counters.length : Int))) (fun hb => ?_) (fun hb => ?_)
  · replace hk := ct hb hk
    refine wpL_sk ?_
    refine gn ?_
    refine wpL_sq ?_
    refine wpL_bl ?_
    refine wpL_sq ?_
    refine wpL_rg ?_
    refine pM (.int _ _) ?_
    obtain ⟨c4, hc4, hk⟩ := bs hk
    refine pX hc4 tE32 tZ226 ?_
    refine pLp (.agg [_, _]) (rd2 (off := 0) hc4 tA226 tZ226) ?_
    refine pNew hO tZ226 t0226 (fun b5 G hO => ?_)
    refine pA (.int _ _) ?_
    refine pSt (xs := [_, _]) hO 0 tZ226 rfl (fun G hO => ?_)
    refine pE ?_
    refine gn ?_
    refine wpL_sq ?_
    refine wpL_rg ?_
    refine pF tF38_2 ?_
    refine pLo hO 1 (.lit _ _ _) tA26 ?_
    refine pM (.int _ _) ?_
    obtain ⟨c6, hc6, hk⟩ := bs hk
    refine pX hc6 tE26 tZ4 ?_
    refine pLp (.bool _) (rd1 (off := 0) hc6 tA4) ?_
    refine pM (.bool _) ?_
    refine wpR_mid (l1 := [_, _, _, _, _, _, _, _, _, _, _]) (fun S' => ∃ J, S' = ⟨hav [(2, .int .i64 aSection2), (4, .ptr b2 0), (10, .lit l1 aL0.Counters.length (flat aL0.Counters)), (11, .int .i64 (aL0.Counters.length : Int)), (12, .int .i64 x3), (33, .bool (c6 && ((c4.From == aSection2) || (c4.To == aSection2))))] J, G⟩) ?_ ?_
    · refine bc (b := c6) (fun hg1 => ?_) (fun hg1 => ?_)
      · refine pGy hg1 ?_
        refine pF tF226_0 ?_
        refine pGy hg1 ?_
        refine pLo hO 0 (.int _ _) tA3 ?_
        refine pGy hg1 ?_
        refine pM (.int _ _) ?_
        refine pGy hg1 ?_
        refine pBi ?_
        refine pGy hg1 ?_
        refine pM (.bool _) ?_
        refine wpR_mid (l1 := [_, _, _, _, _]) (fun S' => ∃ J, S' = ⟨hav [(2, .int .i64 aSection2), (4, .ptr b2 0), (10, .lit l1 aL0.Counters.length (flat aL0.Counters)), (11, .int .i64 (aL0.Counters.length : Int)), (12, .int .i64 x3), (22, .bool c6), (32, .bool ((c4.From == aSection2) || (c4.To == aSection2)))] J, G⟩) ?_ ?_
        · refine bc (b := (c4.From == aSection2)) (fun hg2 => ?_) (fun hg2 => ?_)
          · refine pGn hg2 ?_
            refine pGn hg2 ?_
            refine pGn hg2 ?_
            refine pGn hg2 ?_
            refine pGy hg1 ?_
            refine pPt hg2 (.bool _) ?_
            exact pE ⟨_, St.hav _ ⟨rfl, rfl, rfl, rfl, rfl, rfl, by rw [hg2]; rfl, trivial⟩⟩
          · refine pGy hg2 ?_
            refine pF tF226_1 ?_
            refine pGy hg2 ?_
            refine pLo hO 0 (.int _ _) tA3 ?_
            refine pGy hg2 ?_
            refine pM (.int _ _) ?_
            refine pGy hg2 ?_
            refine pBi ?_
            refine pGy hg1 ?_
            refine pPf hg2 (.bool _) ?_
            exact pE ⟨_, St.hav _ ⟨rfl, rfl, rfl, rfl, rfl, rfl, by rw [hg2]; rfl, trivial⟩⟩
        · rintro _ ⟨J, rfl⟩
          refine pPt hg1 (.bool _) ?_
          exact pE ⟨_, St.hav _ ⟨rfl, rfl, rfl, rfl, rfl, by rw [hg1]; rfl, trivial⟩⟩
      · refine pGn hg1 ?_
        refine pGn hg1 ?_
        refine pGn hg1 ?_
        refine pGn hg1 ?_
        refine pGn hg1 ?_
        refine pGu ?_
        refine pGu ?_
        refine pGu ?_
        refine pGu ?_
        refine pGn hg1 ?_
        refine pPf hg1 (.bool _) ?_
        exact pE ⟨_, St.hav _ ⟨rfl, rfl, rfl, rfl, rfl, by rw [hg1]; rfl, trivial⟩⟩
    · rintro _ ⟨J, rfl⟩
      refine pE ?_
      refine gn ?_
      refine wpL_cd (b := (c6 && ((c4.From == aSection2) || (c4.To == aSection2)))) (fun hb => ?_) (fun hb => ?_)
      · replace hk := ct hb hk
        refine wpL_sq ?_
        refine wpL_rg ?_
        refine pA (.bool _) ?_
        refine pE ?_
        refine gn ?_
        refine wpL_rt ?_
        refine br (gr (gr (br (gr ?_))))
        replace hk := lx hx1 hk
        cases hk; exact fin0 hO
      · replace hk := cf hb hk
        refine wpL_sk ?_
        refine bn (gn ?_)
        refine wpL_rg ?_
        refine pBi ?_
        refine pM (.int _ _) ?_
        refine pE ?_
        refine gn ?_
        cases hk; exact ⟨_, rfl, _, _, (Owns.pick hO [1] (by decide) rfl), St.hav _ ⟨rfl, rfl, rfl, rfl, rfl, trivial⟩⟩
  · replace hk := cf hb hk
    refine wpL_ex ?_
    refine ge (ge (be (gn ?_)))
    replace hk := lx hx1 hk
    refine wpL_sq ?_
    refine wpL_rg ?_
    refine pA (.bool _) ?_
    refine pE ?_
    refine gn ?_
    refine wpL_rt ?_
    cases hk; exact fin0 hO
/-- impl.told -/
def f79 (aL0 : Layout) (aS1 : CountState) (aSection2 : Int) : Option Int :=
  ((getI aS1.Sections aSection2).bind fun c3 => ((f80 aL0 aS1 aSection2).bind fun v5 => (bif v5 then some (3:Int) else (bif (c3.Lost || ((c3.Count != (0:Int)) && !c3.Sweep)) then some (1:Int) else (bif c3.Sweep then some (2:Int) else some (0:Int))))))
theorem f79_run {aL0 : Layout} {aS1 : CountState} {aSection2 : Int} {r : Int} {l1 l2 l3 : Nat} {H : Heap} {lk : Lk} (hk : f79 aL0 aS1 aSection2 = some r) (hlk : 0 < lk.length := by simp) : runL Try.prog hh 79 [.agg [.int .i64 aL0.Sections, .lit l1 aL0.Counters.length (flat aL0.Counters)], .agg [.bool aS1.Ok, .lit l2 aS1.Sections.length (flat aS1.Sections), .lit l3 aS1.Dead.length (flat aS1.Dead)], .int .i64 aSection2] H lk = some (.int .i64 r, H) := by
  refine run_start Try.func79 rfl Try.ntmps79 Try.results79 rfl rfl fun hO => ?_
  unfold f79 at hk
  refine wpL_sq ?_
  refine wpL_rg ?_
  refine pBox (cs := [_, _]) hO tZ34 (fun b1 G hO => ?_)
  refine pBox (cs := [_, _, _]) hO tZ38 (fun b2 G hO => ?_)
  refine pA (.int _ _) ?_
  refine pE ?_
  refine gn ?_
  refine wpL_sq ?_
  refine wpL_rg ?_
  refine pF tF38_1 ?_
  refine pLo hO 0 (.lit _ _ _) tA36 ?_
  refine pM (.int _ _) ?_
  obtain ⟨c3, hc3, hk⟩ := bs hk
  refine pX hc3 tE36 tZ142 ?_
  refine pLp (.agg [_, _, _, _, _]) (rd2 (off := 0) hc3 tA142 tZ142) ?_
  refine pNew hO tZ142 t0142 (fun b4 G hO => ?_)
  refine pSt (xs := [_, _, _, _, _]) hO 0 tZ142 rfl (fun G hO => ?_)
  refine pE ?_
  refine gn ?_
  refine wpL_sq ?_
  refine wpL_bl ?_
  refine wpL_sq ?_
  refine wpL_rg ?_
  refine pLs hO 2 [_, _] tA34 tZ34 ?_
  refine pLs hO 1 [_, _, _] tA38 tZ38 ?_
  refine pM (.int _ _) ?_
  obtain ⟨v5, hv5, hk⟩ := bs hk
  refine pCall (fun _ => f80_run hv5) ?_
  refine pA (.bool _) ?_
  refine pE ?_
  refine gn ?_
  refine wpL_cd (b := v5) (fun hb => ?_) (fun hb => ?_)
  · replace hk := ct hb hk
    refine wpL_sq ?_
    refine wpL_rg ?_
    refine pA (.int _ _) ?_
    refine pE ?_
    refine gn ?_
    refine wpL_rt ?_
    refine br (gr ?_)
    cases hk; exact fin0 hO
  · replace hk := cf hb hk
    refine wpL_sq ?_
    refine wpL_rg ?_
    refine pF tF142_2 ?_
    refine pLo hO 0 (.bool _) tA4 ?_
    refine pM (.bool _) ?_
    refine wpR_mid (l1 := [_, _, _, _, _, _, _, _, _]) (fun S' => ∃ J, S' = ⟨hav [(7, .ptr b4 0), (30, .bool (c3.Lost || ((c3.Count != (0:Int)) && !c3.Sweep)))] J, G⟩) ?_ ?_
    · refine bc (b := c3.Lost) (fun hg1 => ?_) (fun hg1 => ?_)
      · refine pGn hg1 ?_
        refine pGn hg1 ?_
        refine pGn hg1 ?_
        refine pGn hg1 ?_
        refine pGu ?_
        refine pGu ?_
        refine pGu ?_
        refine pGn hg1 ?_
        refine pPt hg1 (.bool _) ?_
        exact pE ⟨_, St.hav _ ⟨rfl, by rw [hg1]; rfl, trivial⟩⟩
      · refine pGy hg1 ?_
        refine pF tF142_1 ?_
        refine pGy hg1 ?_
        refine pLo hO 0 (.int _ _) tA3 ?_
        refine pGy hg1 ?_
        refine pBi ?_
        refine pGy hg1 ?_
        refine pM (.bool _) ?_
        refine wpR_mid (l1 := [_, _, _, _]) (fun S' => ∃ J, S' = ⟨hav [(7, .ptr b4 0), (21, .bool c3.Lost), (29, .bool ((c3.Count != (0:Int)) && !c3.Sweep))] J, G⟩) ?_ ?_
        · refine bc (b := (c3.Count != (0:Int))) (fun hg2 => ?_) (fun hg2 => ?_)
          · refine pGy hg2 ?_
            refine pF tF142_3 ?_
            refine pGy hg2 ?_
            refine pLo hO 0 (.bool _) tA4 ?_
            refine pGy hg2 ?_
            refine pU ?_
            refine pGy hg1 ?_
            refine pPt hg2 (.bool _) ?_
            exact pE ⟨_, St.hav _ ⟨rfl, rfl, by rw [hg2]; rfl, trivial⟩⟩
          · refine pGn hg2 ?_
            refine pGn hg2 ?_
            refine pGn hg2 ?_
            refine pGy hg1 ?_
            refine pPf hg2 (.bool _) ?_
            exact pE ⟨_, St.hav _ ⟨rfl, rfl, by rw [hg2]; rfl, trivial⟩⟩
        · rintro _ ⟨J, rfl⟩
          refine pPf hg1 (.bool _) ?_
          exact pE ⟨_, St.hav _ ⟨rfl, by rw [hg1]; rfl, trivial⟩⟩
    · rintro _ ⟨J, rfl⟩
      refine pA (.bool _) ?_
      refine pE ?_
      refine gn ?_
      refine wpL_cd (b := (c3.Lost || ((c3.Count != (0:Int)) && !c3.Sweep))) (fun hb => ?_) (fun hb => ?_)
      · replace hk := ct hb hk
        refine wpL_sq ?_
        refine wpL_rg ?_
        refine pA (.int _ _) ?_
        refine pE ?_
        refine gn ?_
        refine wpL_rt ?_
        refine br (gr ?_)
        cases hk; exact fin0 hO
      · replace hk := cf hb hk
        refine wpL_sq ?_
        refine wpL_rg ?_
        refine pF tF142_3 ?_
        refine pLo hO 0 (.bool _) tA4 ?_
        refine pA (.bool _) ?_
        refine pE ?_
        refine gn ?_
        refine wpL_cd (b := c3.Sweep) (fun hb => ?_) (fun hb => ?_)
        · replace hk := ct hb hk
          refine wpL_sq ?_
          refine wpL_rg ?_
          refine pA (.int _ _) ?_
          refine pE ?_
          refine gn ?_
          refine wpL_rt ?_
          refine br (gr ?_)
          cases hk; exact fin0 hO
        · replace hk := cf hb hk
          refine wpL_sk ?_
          refine bn (gn ?_)
          refine wpL_sq ?_
          refine wpL_rg ?_
          refine pA (.int _ _) ?_
          refine pE ?_
          refine gn ?_
          refine wpL_rt ?_
          cases hk; exact fin0 hO
/-- impl.CountOk -/
def f20_L1 (aL0 : Layout) (aS1 : CountState) : Int → Option (Int ⊕ Bool) := fun s =>
  (bif decide (s < (aS1.Sections.length : Int)) then ((getI aS1.Sections s).bind fun c5 => ((bif (((decide (c5.Count < (-1000000:Int)) || decide (c5.Count > (1000000:Int))) || decide (c5.Last < (-1:Int))) || decide (c5.Last > (1:Int))) then some true else ((f79 aL0 aS1 s).bind fun v8 => some (c5.Told != v8))).bind fun t7 => (bif t7 then ((some false).map Sum.inr) else ((bif decide (c5.Count < (0:Int)) then some true else ((f80 aL0 aS1 s).bind fun v10 => some v10)).bind fun t9 => (bif ((t9 && !c5.Lost) || (((c5.Sweep && (c5.Count == (0:Int))) && (c5.Last == (-1:Int))) && !c5.Lost)) then ((some false).map Sum.inr) else some (.inl (w64 (s + (1:Int))))))))) else ((some true).map Sum.inr))
def f20 (aL0 : Layout) (aS1 : CountState) : Option Bool :=
  ((f78 aL0).bind fun v3 => (bif ((((v3 != (0:Int)) || !aS1.Ok) || ((aS1.Sections.length : Int) != aL0.Sections)) || ((aS1.Dead.length : Int) != (aL0.Counters.length : Int))) then some false else (loopO (f20_L1 aL0 aS1) ((0:Int)))))
theorem f20_run {aL0 : Layout} {aS1 : CountState} {r : Bool} {l1 l2 l3 : Nat} {H : Heap} {lk : Lk} (hk : f20 aL0 aS1 = some r) (hlk : 0 < lk.length := by simp) : runL Try.prog hh 20 [.agg [.int .i64 aL0.Sections, .lit l1 aL0.Counters.length (flat aL0.Counters)], .agg [.bool aS1.Ok, .lit l2 aS1.Sections.length (flat aS1.Sections), .lit l3 aS1.Dead.length (flat aS1.Dead)]] H lk = some (.bool r, H) := by
  refine run_start Try.func20 rfl Try.ntmps20 Try.results20 rfl rfl fun hO => ?_
  unfold f20 at hk
  refine wpL_sq ?_
  refine wpL_rg ?_
  refine pBox (cs := [_, _]) hO tZ34 (fun b1 G hO => ?_)
  refine pBox (cs := [_, _, _]) hO tZ38 (fun b2 G hO => ?_)
  refine pA (.bool _) ?_
  refine pE ?_
  refine gn ?_
  refine wpL_sq ?_
  refine wpL_sq ?_
  refine wpL_rg ?_
  refine pLs hO 1 [_, _] tA34 tZ34 ?_
  obtain ⟨v3, hv3, hk⟩ := bs hk
  refine pCall (fun _ => f78_run hv3) ?_
  refine pBi ?_
  refine pM (.bool _) ?_
  refine wpR_mid (l1 := [_, _, _, _]) (fun S' => ∃ J, S' = ⟨hav [(2, .ptr b1 0), (3, .ptr b2 0), (14, .bool ((v3 != (0:Int)) || !aS1.Ok))] J, G⟩) ?_ ?_
  · refine bc (b := (v3 != (0:Int))) (fun hg1 => ?_) (fun hg1 => ?_)
    · refine pGn hg1 ?_
      refine pGn hg1 ?_
      refine pGn hg1 ?_
      refine pPt hg1 (.bool _) ?_
      exact pE ⟨_, St.hav _ ⟨rfl, rfl, by rw [hg1]; rfl, trivial⟩⟩
    · refine pGy hg1 ?_
      refine pF tF38_0 ?_
      refine pGy hg1 ?_
      refine pLo hO 0 (.bool _) tA4 ?_
      refine pGy hg1 ?_
      refine pU ?_
      refine pPf hg1 (.bool _) ?_
      exact pE ⟨_, St.hav _ ⟨rfl, rfl, by rw [hg1]; rfl, trivial⟩⟩
  · rintro _ ⟨J, rfl⟩
    refine pM (.bool _) ?_
    refine wpR_mid (l1 := [_, _, _, _, _, _, _]) (fun S' => ∃ J, S' = ⟨hav [(2, .ptr b1 0), (3, .ptr b2 0), (22, .bool (((v3 != (0:Int)) || !aS1.Ok) || ((aS1.Sections.length : Int) != aL0.Sections)))] J, G⟩) ?_ ?_
    · refine bc (b := ((v3 != (0:Int)) || !aS1.Ok)) (fun hg1 => ?_) (fun hg1 => ?_)
      · refine pGn hg1 ?_
        refine pGn hg1 ?_
        refine pGn hg1 ?_
        refine pGn hg1 ?_
        refine pGn hg1 ?_
        refine pGn hg1 ?_
        refine pPt hg1 (.bool _) ?_
        exact pE ⟨_, St.hav _ ⟨rfl, rfl, by rw [hg1]; rfl, trivial⟩⟩
      · refine pGy hg1 ?_
        refine pF tF38_1 ?_
        refine pGy hg1 ?_
        refine pLo hO 0 (.lit _ _ _) tA36 ?_
        refine pGy hg1 ?_
        refine pLen tS36 ?_
        refine pGy hg1 ?_
        refine pF tF34_0 ?_
        refine pGy hg1 ?_
        refine pLo hO 1 (.int _ _) tA3 ?_
        refine pGy hg1 ?_
        refine pBi ?_
        refine pPf hg1 (.bool _) ?_
        exact pE ⟨_, St.hav _ ⟨rfl, rfl, by rw [hg1]; rfl, trivial⟩⟩
    · rintro _ ⟨J, rfl⟩
      refine pM (.bool _) ?_
      refine wpR_mid (l1 := [_, _, _, _, _, _, _, _]) (fun S' => ∃ J, S' = ⟨hav [(2, .ptr b1 0), (3, .ptr b2 0), (31, .bool ((((v3 != (0:Int)) || !aS1.Ok) || ((aS1.Sections.length : Int) != aL0.Sections)) || ((aS1.Dead.length : Int) != (aL0.Counters.length : Int))))] J, G⟩) ?_ ?_
      · refine bc (b := (((v3 != (0:Int)) || !aS1.Ok) || ((aS1.Sections.length : Int) != aL0.Sections))) (fun hg1 => ?_) (fun hg1 => ?_)
        · refine pGn hg1 ?_
          refine pGn hg1 ?_
          refine pGn hg1 ?_
          refine pGn hg1 ?_
          refine pGn hg1 ?_
          refine pGn hg1 ?_
          refine pGn hg1 ?_
          refine pPt hg1 (.bool _) ?_
          exact pE ⟨_, St.hav _ ⟨rfl, rfl, by rw [hg1]; rfl, trivial⟩⟩
        · refine pGy hg1 ?_
          refine pF tF38_2 ?_
          refine pGy hg1 ?_
          refine pLo hO 0 (.lit _ _ _) tA26 ?_
          refine pGy hg1 ?_
          refine pLen tS26 ?_
          refine pGy hg1 ?_
          refine pF tF34_1 ?_
          refine pGy hg1 ?_
          refine pLo hO 1 (.lit _ _ _) tA32 ?_
          refine pGy hg1 ?_
          refine pLen tS32 ?_
          refine pGy hg1 ?_
          refine pBi ?_
          refine pPf hg1 (.bool _) ?_
          exact pE ⟨_, St.hav _ ⟨rfl, rfl, by rw [hg1]; rfl, trivial⟩⟩
      · rintro _ ⟨J, rfl⟩
        refine pE ?_
        refine gn ?_
        refine wpL_cd (b := ((((v3 != (0:Int)) || !aS1.Ok) || ((aS1.Sections.length : Int) != aL0.Sections)) || ((aS1.Dead.length : Int) != (aL0.Counters.length : Int)))) (fun hb => ?_) (fun hb => ?_)
        · replace hk := ct hb hk
          refine wpL_sq ?_
          refine wpL_rg ?_
          refine pA (.bool _) ?_
          refine pE ?_
          refine gn ?_
          refine wpL_rt ?_
          refine gr ?_
          cases hk; exact fin0 hO
        · replace hk := cf hb hk
          refine wpL_sk ?_
          refine gn ?_
          refine wpL_sq ?_
          refine wpL_sq ?_
          refine wpL_rg ?_
          refine pF tF38_1 ?_
          refine pLo hO 0 (.lit _ _ _) tA36 ?_
          refine pLen tS36 ?_
          refine pM (.int _ _) ?_
          refine pE ?_
          refine gn ?_
          refine wpL_bl ?_
          refine wpL_loopO (F := f20_L1 aL0 aS1) (fun s S' => ∃ (J : Nat → V) (G : Heap), Owns H G [.blk b2 (.cells 3 [.bool aS1.Ok, .lit l2 aS1.Sections.length (flat aS1.Sections), .lit l3 aS1.Dead.length (flat aS1.Dead)]), .blk b1 (.cells 2 [.int .i64 aL0.Sections, .lit l1 aL0.Counters.length (flat aL0.Counters)])] ∧ S' = ⟨hav [(2, .ptr b1 0), (3, .ptr b2 0), (33, .lit l2 aS1.Sections.length (flat aS1.Sections)), (34, .int .i64 (aS1.Sections.length : Int)), (35, .int .i64 s)] J, G⟩) hk ⟨_, _, hO, St.hav _ ⟨rfl, rfl, rfl, rfl, rfl, trivial⟩⟩ ?_
          rintro x4 _ y1 ⟨J, G, hO, rfl⟩ hk hx1
          refine wpL_sq ?_
          refine wpL_rg ?_
          refine pBi ?_
          refine pE ?_
          refine gn ?_
          refine wpL_sq ?_
          refine wpL_cd (b := decide (x4 < (aS1.Sections.length : Int))) (fun hb => ?_) (fun hb => ?_)
          · replace hk := ct hb hk
            refine wpL_sk ?_
            refine gn ?_
            refine wpL_sq ?_
            refine wpL_bl ?_
            refine wpL_sq ?_
            refine wpL_rg ?_
            refine pM (.int _ _) ?_
            obtain ⟨c5, hc5, hk⟩ := bs hk
            refine pX hc5 tE36 tZ142 ?_
            refine pLp (.agg [_, _, _, _, _]) (rd2 (off := 0) hc5 tA142 tZ142) ?_
            refine pNew hO tZ142 t0142 (fun b6 G hO => ?_)
            refine pA (.int _ _) ?_
            refine pSt (xs := [_, _, _, _, _]) hO 0 tZ142 rfl (fun G hO => ?_)
            refine pE ?_
            refine gn ?_
            refine wpL_sq ?_
            refine wpL_sq ?_
            refine wpL_drw [(0, false), (1, true), (2, false), (3, false), (4, false), (5, true), (6, false), (7, false), (8, false), (9, false), (10, true), (11, false), (12, false), (13, false), (14, false), (15, true), (16, false), (17, false), (18, false), (19, true), (20, true), (21, true), (22, true), (23, true), (24, true), (25, false), (26, false)] [_, _, _, _, _, _, _, _, _, _, _, _, _, _, _, _, _, _, _, _, _, _, _, _, _, _, _] (by decide +kernel) (by rfl) ?_
            refine pF tF142_1 ?_
            refine pLo hO 0 (.int _ _) tA3 ?_
            refine pBi ?_
            refine pM (.bool _) ?_
            refine wpR_mid (l1 := [_, _, _, _]) (fun S' => ∃ J, S' = ⟨hav [(2, .ptr b1 0), (3, .ptr b2 0), (5, .int .i64 x4), (6, .ptr b6 0), (33, .lit l2 aS1.Sections.length (flat aS1.Sections)), (34, .int .i64 (aS1.Sections.length : Int)), (35, .int .i64 x4), (47, .bool (decide (c5.Count < (-1000000:Int)) || decide (c5.Count > (1000000:Int))))] J, G⟩) ?_ ?_
            · refine bc (b := decide (c5.Count < (-1000000:Int))) (fun hg1 => ?_) (fun hg1 => ?_)
              · refine pGn hg1 ?_
                refine pGn hg1 ?_
                refine pGn hg1 ?_
                refine pPt hg1 (.bool _) ?_
                exact pE ⟨_, St.hav _ ⟨rfl, rfl, rfl, rfl, rfl, rfl, rfl, by rw [hg1]; rfl, trivial⟩⟩
              · refine pGy hg1 ?_
                refine pF tF142_1 ?_
                refine pGy hg1 ?_
                refine pLo hO 0 (.int _ _) tA3 ?_
                refine pGy hg1 ?_
                refine pBi ?_
                refine pPf hg1 (.bool _) ?_
                exact pE ⟨_, St.hav _ ⟨rfl, rfl, rfl, rfl, rfl, rfl, rfl, by rw [hg1]; rfl, trivial⟩⟩
            · rintro _ ⟨J, rfl⟩
              refine pM (.bool _) ?_
              refine wpR_mid (l1 := [_, _, _, _]) (fun S' => ∃ J, S' = ⟨hav [(2, .ptr b1 0), (3, .ptr b2 0), (5, .int .i64 x4), (6, .ptr b6 0), (33, .lit l2 aS1.Sections.length (flat aS1.Sections)), (34, .int .i64 (aS1.Sections.length : Int)), (35, .int .i64 x4), (52, .bool ((decide (c5.Count < (-1000000:Int)) || decide (c5.Count > (1000000:Int))) || decide (c5.Last < (-1:Int))))] J, G⟩) ?_ ?_
              · refine bc (b := (decide (c5.Count < (-1000000:Int)) || decide (c5.Count > (1000000:Int)))) (fun hg1 => ?_) (fun hg1 => ?_)
                · refine pGn hg1 ?_
                  refine pGn hg1 ?_
                  refine pGn hg1 ?_
                  refine pPt hg1 (.bool _) ?_
                  exact pE ⟨_, St.hav _ ⟨rfl, rfl, rfl, rfl, rfl, rfl, rfl, by rw [hg1]; rfl, trivial⟩⟩
                · refine pGy hg1 ?_
                  refine pF tF142_4 ?_
                  refine pGy hg1 ?_
                  refine pLo hO 0 (.int _ _) tA3 ?_
                  refine pGy hg1 ?_
                  refine pBi ?_
                  refine pPf hg1 (.bool _) ?_
                  exact pE ⟨_, St.hav _ ⟨rfl, rfl, rfl, rfl, rfl, rfl, rfl, by rw [hg1]; rfl, trivial⟩⟩
              · rintro _ ⟨J, rfl⟩
                refine pM (.bool _) ?_
                refine wpR_mid (l1 := [_, _, _, _]) (fun S' => ∃ J, S' = ⟨hav [(2, .ptr b1 0), (3, .ptr b2 0), (5, .int .i64 x4), (6, .ptr b6 0), (33, .lit l2 aS1.Sections.length (flat aS1.Sections)), (34, .int .i64 (aS1.Sections.length : Int)), (35, .int .i64 x4), (57, .bool (((decide (c5.Count < (-1000000:Int)) || decide (c5.Count > (1000000:Int))) || decide (c5.Last < (-1:Int))) || decide (c5.Last > (1:Int))))] J, G⟩) ?_ ?_
                · refine bc (b := ((decide (c5.Count < (-1000000:Int)) || decide (c5.Count > (1000000:Int))) || decide (c5.Last < (-1:Int)))) (fun hg1 => ?_) (fun hg1 => ?_)
                  · refine pGn hg1 ?_
                    refine pGn hg1 ?_
                    refine pGn hg1 ?_
                    refine pPt hg1 (.bool _) ?_
                    exact pE ⟨_, St.hav _ ⟨rfl, rfl, rfl, rfl, rfl, rfl, rfl, by rw [hg1]; rfl, trivial⟩⟩
                  · refine pGy hg1 ?_
                    refine pF tF142_4 ?_
                    refine pGy hg1 ?_
                    refine pLo hO 0 (.int _ _) tA3 ?_
                    refine pGy hg1 ?_
                    refine pBi ?_
                    refine pPf hg1 (.bool _) ?_
                    exact pE ⟨_, St.hav _ ⟨rfl, rfl, rfl, rfl, rfl, rfl, rfl, by rw [hg1]; rfl, trivial⟩⟩
                · rintro _ ⟨J, rfl⟩
                  refine pM (.bool _) ?_
                  obtain ⟨t7, ht, hk⟩ := bs hk
                  refine wpR_mid (l1 := [_, _, _, _, _, _, _, _]) (fun S' => ∃ J, S' = ⟨hav [(2, .ptr b1 0), (3, .ptr b2 0), (5, .int .i64 x4), (6, .ptr b6 0), (33, .lit l2 aS1.Sections.length (flat aS1.Sections)), (34, .int .i64 (aS1.Sections.length : Int)), (35, .int .i64 x4), (66, .bool t7)] J, G⟩) ?_ ?_
                  · refine bc (b := (((decide (c5.Count < (-1000000:Int)) || decide (c5.Count > (1000000:Int))) || decide (c5.Last < (-1:Int))) || decide (c5.Last > (1:Int)))) (fun hg1 => ?_) (fun hg1 => ?_)
                    · replace hk := ct hg1 ht
                      refine pGn hg1 ?_
                      refine pGn hg1 ?_
                      refine pGn hg1 ?_
                      refine pGn hg1 ?_
                      refine pGn hg1 ?_
                      refine pGn hg1 ?_
                      refine pGn hg1 ?_
                      refine pPt hg1 (.bool _) ?_
                      cases hk; exact pE ⟨_, St.hav _ ⟨rfl, rfl, rfl, rfl, rfl, rfl, rfl, rfl, trivial⟩⟩
                    · replace hk := cf hg1 ht
                      refine pGy hg1 ?_
                      refine pF tF142_0 ?_
                      refine pGy hg1 ?_
                      refine pLo hO 0 (.int _ _) tA3 ?_
                      refine pGy hg1 ?_
                      refine pLs hO 2 [_, _] tA34 tZ34 ?_
                      refine pGy hg1 ?_
                      refine pLs hO 1 [_, _, _] tA38 tZ38 ?_
                      refine pGy hg1 ?_
                      refine pM (.int _ _) ?_
                      refine pGy hg1 ?_
                      obtain ⟨v8, hv8, hk⟩ := bs hk
                      refine pCall (fun _ => f79_run hv8) ?_
                      refine pGy hg1 ?_
                      refine pBi ?_
                      refine pPf hg1 (.bool _) ?_
                      cases hk; exact pE ⟨_, St.hav _ ⟨rfl, rfl, rfl, rfl, rfl, rfl, rfl, rfl, trivial⟩⟩
                  · rintro _ ⟨J, rfl⟩
                    refine pE ?_
                    refine gn ?_
                    refine wpL_cd (b := t7) (fun hb => ?_) (fun hb => ?_)
                    · replace hk := ct hb hk
                      refine wpL_sq ?_
                      refine wpL_rg ?_
                      refine pA (.bool _) ?_
                      refine pE ?_
                      refine gn ?_
                      refine wpL_rt ?_
                      refine gr (br (gr (gr (br (gr ?_)))))
                      replace hk := lx hx1 hk
                      cases hk; exact fin0 hO
                    · replace hk := cf hb hk
                      refine wpL_sk ?_
                      refine gn ?_
                      refine wpL_sq ?_
                      refine wpL_rg ?_
                      refine pF tF142_1 ?_
                      refine pLo hO 0 (.int _ _) tA3 ?_
                      refine pBi ?_
                      refine pM (.bool _) ?_
                      obtain ⟨t9, ht, hk⟩ := bs hk
                      refine wpR_mid (l1 := [_, _, _, _, _]) (fun S' => ∃ J, S' = ⟨hav [(2, .ptr b1 0), (3, .ptr b2 0), (6, .ptr b6 0), (33, .lit l2 aS1.Sections.length (flat aS1.Sections)), (34, .int .i64 (aS1.Sections.length : Int)), (35, .int .i64 x4), (75, .bool t9)] J, G⟩) ?_ ?_
                      · refine bc (b := decide (c5.Count < (0:Int))) (fun hg1 => ?_) (fun hg1 => ?_)
                        · replace hk := ct hg1 ht
                          refine pGn hg1 ?_
                          refine pGn hg1 ?_
                          refine pGn hg1 ?_
                          refine pGn hg1 ?_
                          refine pPt hg1 (.bool _) ?_
                          cases hk; exact pE ⟨_, St.hav _ ⟨rfl, rfl, rfl, rfl, rfl, rfl, rfl, trivial⟩⟩
                        · replace hk := cf hg1 ht
                          refine pGy hg1 ?_
                          refine pLs hO 2 [_, _] tA34 tZ34 ?_
                          refine pGy hg1 ?_
                          refine pLs hO 1 [_, _, _] tA38 tZ38 ?_
                          refine pGy hg1 ?_
                          refine pM (.int _ _) ?_
                          refine pGy hg1 ?_
                          obtain ⟨v10, hv10, hk⟩ := bs hk
                          refine pCall (fun _ => f80_run hv10) ?_
                          refine pPf hg1 (.bool _) ?_
                          cases hk; exact pE ⟨_, St.hav _ ⟨rfl, rfl, rfl, rfl, rfl, rfl, rfl, trivial⟩⟩
                      · rintro _ ⟨J, rfl⟩
                        refine pM (.bool _) ?_
                        refine wpR_mid (l1 := [_, _, _, _]) (fun S' => ∃ J, S' = ⟨hav [(2, .ptr b1 0), (3, .ptr b2 0), (6, .ptr b6 0), (33, .lit l2 aS1.Sections.length (flat aS1.Sections)), (34, .int .i64 (aS1.Sections.length : Int)), (35, .int .i64 x4), (80, .bool (t9 && !c5.Lost))] J, G⟩) ?_ ?_
                        · refine bc (b := t9) (fun hg1 => ?_) (fun hg1 => ?_)
                          · refine pGy hg1 ?_
                            refine pF tF142_2 ?_
                            refine pGy hg1 ?_
                            refine pLo hO 0 (.bool _) tA4 ?_
                            refine pGy hg1 ?_
                            refine pU ?_
                            refine pPt hg1 (.bool _) ?_
                            exact pE ⟨_, St.hav _ ⟨rfl, rfl, rfl, rfl, rfl, rfl, by rw [hg1]; rfl, trivial⟩⟩
                          · refine pGn hg1 ?_
                            refine pGn hg1 ?_
                            refine pGn hg1 ?_
                            refine pPf hg1 (.bool _) ?_
                            exact pE ⟨_, St.hav _ ⟨rfl, rfl, rfl, rfl, rfl, rfl, by rw [hg1]; rfl, trivial⟩⟩
                        · rintro _ ⟨J, rfl⟩
                          refine pM (.bool _) ?_
                          refine wpR_mid (l1 := [_, _, _, _, _, _, _, _, _, _, _, _, _, _, _, _, _, _]) (fun S' => ∃ J, S' = ⟨hav [(2, .ptr b1 0), (3, .ptr b2 0), (33, .lit l2 aS1.Sections.length (flat aS1.Sections)), (34, .int .i64 (aS1.Sections.length : Int)), (35, .int .i64 x4), (99, .bool ((t9 && !c5.Lost) || (((c5.Sweep && (c5.Count == (0:Int))) && (c5.Last == (-1:Int))) && !c5.Lost)))] J, G⟩) ?_ ?_
                          · refine bc (b := (t9 && !c5.Lost)) (fun hg1 => ?_) (fun hg1 => ?_)
                            · refine pGn hg1 ?_
                              refine pGn hg1 ?_
                              refine pGn hg1 ?_
                              refine pGu ?_
                              refine pGu ?_
                              refine pGu ?_
                              refine pGn hg1 ?_
                              refine pGn hg1 ?_
                              refine pGu ?_
                              refine pGu ?_
                              refine pGu ?_
                              refine pGn hg1 ?_
                              refine pGn hg1 ?_
                              refine pGu ?_
                              refine pGu ?_
                              refine pGu ?_
                              refine pGn hg1 ?_
                              refine pPt hg1 (.bool _) ?_
                              exact pE ⟨_, St.hav _ ⟨rfl, rfl, rfl, rfl, rfl, by rw [hg1]; rfl, trivial⟩⟩
                            · refine pGy hg1 ?_
                              refine pF tF142_3 ?_
                              refine pGy hg1 ?_
                              refine pLo hO 0 (.bool _) tA4 ?_
                              refine pGy hg1 ?_
                              refine pM (.bool _) ?_
                              refine wpR_mid (l1 := [_, _, _, _]) (fun S' => ∃ J, S' = ⟨hav [(2, .ptr b1 0), (3, .ptr b2 0), (6, .ptr b6 0), (33, .lit l2 aS1.Sections.length (flat aS1.Sections)), (34, .int .i64 (aS1.Sections.length : Int)), (35, .int .i64 x4), (81, .bool (t9 && !c5.Lost)), (88, .bool (c5.Sweep && (c5.Count == (0:Int))))] J, G⟩) ?_ ?_
                              · refine bc (b := c5.Sweep) (fun hg2 => ?_) (fun hg2 => ?_)
                                · refine pGy hg2 ?_
                                  refine pF tF142_1 ?_
                                  refine pGy hg2 ?_
                                  refine pLo hO 0 (.int _ _) tA3 ?_
                                  refine pGy hg2 ?_
                                  refine pBi ?_
                                  refine pGy hg1 ?_
                                  refine pPt hg2 (.bool _) ?_
                                  exact pE ⟨_, St.hav _ ⟨rfl, rfl, rfl, rfl, rfl, rfl, rfl, by rw [hg2]; rfl, trivial⟩⟩
                                · refine pGn hg2 ?_
                                  refine pGn hg2 ?_
                                  refine pGn hg2 ?_
                                  refine pGy hg1 ?_
                                  refine pPf hg2 (.bool _) ?_
                                  exact pE ⟨_, St.hav _ ⟨rfl, rfl, rfl, rfl, rfl, rfl, rfl, by rw [hg2]; rfl, trivial⟩⟩
                              · rintro _ ⟨J, rfl⟩
                                refine pGy hg1 ?_
                                refine pM (.bool _) ?_
                                refine wpR_mid (l1 := [_, _, _, _]) (fun S' => ∃ J, S' = ⟨hav [(2, .ptr b1 0), (3, .ptr b2 0), (6, .ptr b6 0), (33, .lit l2 aS1.Sections.length (flat aS1.Sections)), (34, .int .i64 (aS1.Sections.length : Int)), (35, .int .i64 x4), (81, .bool (t9 && !c5.Lost)), (93, .bool ((c5.Sweep && (c5.Count == (0:Int))) && (c5.Last == (-1:Int))))] J, G⟩) ?_ ?_
                                · refine bc (b := (c5.Sweep && (c5.Count == (0:Int)))) (fun hg2 => ?_) (fun hg2 => ?_)
                                  · refine pGy hg2 ?_
                                    refine pF tF142_4 ?_
                                    refine pGy hg2 ?_
                                    refine pLo hO 0 (.int _ _) tA3 ?_
                                    refine pGy hg2 ?_
                                    refine pBi ?_
                                    refine pGy hg1 ?_
                                    refine pPt hg2 (.bool _) ?_
                                    exact pE ⟨_, St.hav _ ⟨rfl, rfl, rfl, rfl, rfl, rfl, rfl, by rw [hg2]; rfl, trivial⟩⟩
                                  · refine pGn hg2 ?_
                                    refine pGn hg2 ?_
                                    refine pGn hg2 ?_
                                    refine pGy hg1 ?_
                                    refine pPf hg2 (.bool _) ?_
                                    exact pE ⟨_, St.hav _ ⟨rfl, rfl, rfl, rfl, rfl, rfl, rfl, by rw [hg2]; rfl, trivial⟩⟩
                                · rintro _ ⟨J, rfl⟩
                                  refine pGy hg1 ?_
                                  refine pM (.bool _) ?_
                                  refine wpR_mid (l1 := [_, _, _, _]) (fun S' => ∃ J, S' = ⟨hav [(2, .ptr b1 0), (3, .ptr b2 0), (33, .lit l2 aS1.Sections.length (flat aS1.Sections)), (34, .int .i64 (aS1.Sections.length : Int)), (35, .int .i64 x4), (81, .bool (t9 && !c5.Lost)), (98, .bool (((c5.Sweep && (c5.Count == (0:Int))) && (c5.Last == (-1:Int))) && !c5.Lost))] J, G⟩) ?_ ?_
                                  · refine bc (b := ((c5.Sweep && (c5.Count == (0:Int))) && (c5.Last == (-1:Int)))) (fun hg2 => ?_) (fun hg2 => ?_)
                                    · refine pGy hg2 ?_
                                      refine pF tF142_2 ?_
                                      refine pGy hg2 ?_
                                      refine pLo hO 0 (.bool _) tA4 ?_
                                      refine pGy hg2 ?_
                                      refine pU ?_
                                      refine pGy hg1 ?_
                                      refine pPt hg2 (.bool _) ?_
                                      exact pE ⟨_, St.hav _ ⟨rfl, rfl, rfl, rfl, rfl, rfl, by rw [hg2]; rfl, trivial⟩⟩
                                    · refine pGn hg2 ?_
                                      refine pGn hg2 ?_
                                      refine pGn hg2 ?_
                                      refine pGy hg1 ?_
                                      refine pPf hg2 (.bool _) ?_
                                      exact pE ⟨_, St.hav _ ⟨rfl, rfl, rfl, rfl, rfl, rfl, by rw [hg2]; rfl, trivial⟩⟩
                                  · rintro _ ⟨J, rfl⟩
                                    refine pPf hg1 (.bool _) ?_
                                    exact pE ⟨_, St.hav _ ⟨rfl, rfl, rfl, rfl, rfl, by rw [hg1]; rfl, trivial⟩⟩
                          · rintro _ ⟨J, rfl⟩
                            refine pE ?_
                            refine gn ?_
                            refine wpL_cd (b := ((t9 && !c5.Lost) || (((c5.Sweep && (c5.Count == (0:Int))) && (c5.Last == (-1:Int))) && !c5.Lost))) (fun hb => ?_) (fun hb => ?_)
                            · replace hk := ct hb hk
                              refine wpL_sq ?_
                              refine wpL_rg ?_
                              refine pA (.bool _) ?_
                              refine pE ?_
                              refine gn ?_
                              refine wpL_rt ?_
                              refine br (gr (gr (br (gr ?_))))
                              replace hk := lx hx1 hk
                              cases hk; exact fin0 hO
                            · replace hk := cf hb hk
                              refine wpL_sk ?_
                              refine bn (gn ?_)
                              refine wpL_rg ?_
                              refine pBi ?_
                              refine pM (.int _ _) ?_
                              refine pE ?_
                              refine gn ?_
                              cases hk; exact ⟨_, rfl, _, _, (Owns.pick hO [1, 2] (by decide) rfl), St.hav _ ⟨rfl, rfl, rfl, rfl, rfl, trivial⟩⟩
          · replace hk := cf hb hk
            refine wpL_ex ?_
            refine ge (ge (be (gn ?_)))
            replace hk := lx hx1 hk
            refine wpL_sq ?_
            refine wpL_rg ?_
            refine pA (.bool _) ?_
            refine pE ?_
            refine gn ?_
            refine wpL_rt ?_
            cases hk; exact fin0 hO
/-- laws.eqCounter -/
def f164 (aA0 : Counter) (aB1 : Counter) : Option Bool :=
  (bif (aA0.From != aB1.From) then some false else (bif (aA0.To != aB1.To) then some false else some true))
theorem f164_run {aA0 : Counter} {aB1 : Counter} {r : Bool} {H : Heap} {lk : Lk} (hk : f164 aA0 aB1 = some r) (hlk : 0 < lk.length := by simp) : runL Try.prog hh 164 [.agg [.int .i64 aA0.From, .int .i64 aA0.To], .agg [.int .i64 aB1.From, .int .i64 aB1.To]] H lk = some (.bool r, H) := by
  refine run_start Try.func164 rfl Try.ntmps164 Try.results164 rfl rfl fun hO => ?_
  unfold f164 at hk
  refine wpL_sq ?_
  refine wpL_rg ?_
  refine pBox (cs := [_, _]) hO tZ226 (fun b1 G hO => ?_)
  refine pBox (cs := [_, _]) hO tZ226 (fun b2 G hO => ?_)
  refine pA (.bool _) ?_
  refine pE ?_
  refine gn ?_
  refine wpL_sq ?_
  refine wpL_sq ?_
  refine wpL_rg ?_
  refine pF tF226_0 ?_
  refine pLo hO 1 (.int _ _) tA3 ?_
  refine pF tF226_0 ?_
  refine pLo hO 0 (.int _ _) tA3 ?_
  refine pBi ?_
  refine pE ?_
  refine gn ?_
  refine wpL_cd (b := (aA0.From != aB1.From)) (fun hb => ?_) (fun hb => ?_)
  · replace hk := ct hb hk
    refine wpL_sq ?_
    refine wpL_rg ?_
    refine pA (.bool _) ?_
    refine pE ?_
    refine gn ?_
    refine wpL_rt ?_
    refine gr ?_
    cases hk; exact fin0 hO
  · replace hk := cf hb hk
    refine wpL_sk ?_
    refine gn ?_
    refine wpL_sq ?_
    refine wpL_sq ?_
    refine wpL_rg ?_
    refine pF tF226_1 ?_
    refine pLo hO 1 (.int _ _) tA3 ?_
    refine pF tF226_1 ?_
    refine pLo hO 0 (.int _ _) tA3 ?_
    refine pBi ?_
    refine pE ?_
    refine gn ?_
    refine wpL_cd (b := (aA0.To != aB1.To)) (fun hb => ?_) (fun hb => ?_)
    · replace hk := ct hb hk
      refine wpL_sq ?_
      refine wpL_rg ?_
      refine pA (.bool _) ?_
      refine pE ?_
      refine gn ?_
      refine wpL_rt ?_
      refine gr ?_
      cases hk; exact fin0 hO
    · replace hk := cf hb hk
      refine wpL_sk ?_
      refine gn ?_
      refine wpL_sq ?_
      refine wpL_rg ?_
      refine pA (.bool _) ?_
      refine pE ?_
      refine gn ?_
      refine wpL_rt ?_
      cases hk; exact fin0 hO
/-- laws.eqCounterS -/
def f81_L1 (aA0 : List Counter) (aB1 : List Counter) : Int → Option (Int ⊕ Bool) := fun s =>
  (bif decide (s < (aA0.length : Int)) then ((getI aA0 s).bind fun c2 => ((getI aB1 s).bind fun c3 => ((f164 c2 c3).bind fun v4 => (bif !v4 then ((some false).map Sum.inr) else some (.inl (w64 (s + (1:Int)))))))) else ((some true).map Sum.inr))
def f81 (aA0 : List Counter) (aB1 : List Counter) : Option Bool :=
  (bif ((aA0.length : Int) != (aB1.length : Int)) then some false else (loopO (f81_L1 aA0 aB1) ((0:Int))))
theorem f81_run {aA0 : List Counter} {aB1 : List Counter} {r : Bool} {l1 l2 : Nat} {H : Heap} {lk : Lk} (hk : f81 aA0 aB1 = some r) (hlk : 0 < lk.length := by simp) : runL Try.prog hh 81 [.lit l1 aA0.length (flat aA0), .lit l2 aB1.length (flat aB1)] H lk = some (.bool r, H) := by
  refine run_start Try.func81 rfl Try.ntmps81 Try.results81 rfl rfl fun hO => ?_
  unfold f81 at hk
  refine wpL_sq ?_
  refine wpL_rg ?_
  refine pA (.bool _) ?_
  refine pE ?_
  refine gn ?_
  refine wpL_sq ?_
  refine wpL_sq ?_
  refine wpL_rg ?_
  refine pM (.lit _ _ _) ?_
  refine pLen tS32 ?_
  refine pM (.lit _ _ _) ?_
  refine pLen tS32 ?_
  refine pBi ?_
  refine pE ?_
  refine gn ?_
  refine wpL_cd (b := ((aA0.length : Int) != (aB1.length : Int))) (fun hb => ?_) (fun hb => ?_)
  · replace hk := ct hb hk
    refine wpL_sq ?_
    refine wpL_rg ?_
    refine pA (.bool _) ?_
    refine pE ?_
    refine gn ?_
    refine wpL_rt ?_
    refine gr ?_
    cases hk; exact fin0 hO
  · replace hk := cf hb hk
    refine wpL_sk ?_
    refine gn ?_
    refine wpL_sq ?_
    refine wpL_sq ?_
    refine wpL_rg ?_
    refine pA (.int _ _) ?_
    refine pE ?_
    refine gn ?_
    refine wpL_bl ?_
    refine wpL_loopO (F := f81_L1 aA0 aB1) (fun s S' => ∃ (J : Nat → V) (G : Heap), Owns H G [] ∧ S' = ⟨hav [(0, .lit l1 aA0.length (flat aA0)), (1, .lit l2 aB1.length (flat aB1)), (5, .int .i64 s)] J, G⟩) hk ⟨_, _, hO, St.hav _ ⟨rfl, rfl, rfl, trivial⟩⟩ ?_
    rintro x1 _ y1 ⟨J, G, hO, rfl⟩ hk hx1
    refine wpL_sq ?_
    refine wpL_sq ?_
    refine wpL_rg ?_
    refine pM (.int _ _) ?_
    refine pM (.lit _ _ _) ?_
    refine pLen tS32 ?_
    refine pBi ?_
    refine pE ?_
    refine gn ?_
    refine wpL_cd (b := decide (x1 < (aA0.length : Int))) (fun hb => ?_) (fun hb => ?_)
    · replace hk := ct hb hk
      refine wpL_sk ?_
      refine gn ?_
      refine wpL_sq ?_
      refine wpL_bl ?_
      refine wpL_sq ?_
      refine wpL_drw [(0, true), (1, true), (2, true), (3, true), (4, true), (5, true), (6, true), (7, true), (8, false), (9, false)] [_, _, _, _, _, _, _, _, _, _] (by decide +kernel) (by rfl) ?_
      refine pM (.lit _ _ _) ?_
      refine pM (.int _ _) ?_
      obtain ⟨c2, hc2, hk⟩ := bs hk
      refine pX hc2 tE32 tZ226 ?_
      refine pLp (.agg [_, _]) (rd2 (off := 0) hc2 tA226 tZ226) ?_
      refine pM (.lit _ _ _) ?_
      refine pM (.int _ _) ?_
      obtain ⟨c3, hc3, hk⟩ := bs hk
      refine pX hc3 tE32 tZ226 ?_
      refine pLp (.agg [_, _]) (rd2 (off := 0) hc3 tA226 tZ226) ?_
      obtain ⟨v4, hv4, hk⟩ := bs hk
      refine pCall (fun _ => f164_run hv4) ?_
      refine pU ?_
      refine pE ?_
      refine gn ?_
      refine wpL_cd (b := !v4) (fun hb => ?_) (fun hb => ?_)
      · replace hk := ct hb hk
        refine wpL_sq ?_
        refine wpL_rg ?_
        refine pA (.bool _) ?_
        refine pE ?_
        refine gn ?_
        refine wpL_rt ?_
        refine br (gr (gr (br (gr ?_))))
        replace hk := lx hx1 hk
        cases hk; exact fin0 hO
      · replace hk := cf hb hk
        refine wpL_sk ?_
        refine bn (gn ?_)
        refine wpL_rg ?_
        refine pM (.int _ _) ?_
        refine pBi ?_
        refine pA (.int _ _) ?_
        refine pE ?_
        refine gn ?_
        cases hk; exact ⟨_, rfl, _, _, hO, St.hav _ ⟨rfl, rfl, rfl, trivial⟩⟩
    · replace hk := cf hb hk
      refine wpL_ex ?_
      refine ge (ge (be (gn ?_)))
      replace hk := lx hx1 hk
      refine wpL_sq ?_
      refine wpL_rg ?_
      refine pA (.bool _) ?_
      refine pE ?_
      refine gn ?_
      refine wpL_rt ?_
      cases hk; exact fin0 hO
/-- laws.eqLayout -/
def f21 (aA0 : Layout) (aB1 : Layout) : Option Bool :=
  (bif (aA0.Sections != aB1.Sections) then some false else ((f81 aA0.Counters aB1.Counters).bind fun v3 => (bif !v3 then some false else some true)))
theorem f21_run {aA0 : Layout} {aB1 : Layout} {r : Bool} {l1 l2 : Nat} {H : Heap} {lk : Lk} (hk : f21 aA0 aB1 = some r) (hlk : 0 < lk.length := by simp) : runL Try.prog hh 21 [.agg [.int .i64 aA0.Sections, .lit l1 aA0.Counters.length (flat aA0.Counters)], .agg [.int .i64 aB1.Sections, .lit l2 aB1.Counters.length (flat aB1.Counters)]] H lk = some (.bool r, H) := by
  refine run_start Try.func21 rfl Try.ntmps21 Try.results21 rfl rfl fun hO => ?_
  unfold f21 at hk
  refine wpL_sq ?_
  refine wpL_rg ?_
  refine pBox (cs := [_, _]) hO tZ34 (fun b1 G hO => ?_)
  refine pBox (cs := [_, _]) hO tZ34 (fun b2 G hO => ?_)
  refine pA (.bool _) ?_
  refine pE ?_
  refine gn ?_
  refine wpL_sq ?_
  refine wpL_sq ?_
  refine wpL_rg ?_
  refine pF tF34_0 ?_
  refine pLo hO 1 (.int _ _) tA3 ?_
  refine pF tF34_0 ?_
  refine pLo hO 0 (.int _ _) tA3 ?_
  refine pBi ?_
  refine pE ?_
  refine gn ?_
  refine wpL_cd (b := (aA0.Sections != aB1.Sections)) (fun hb => ?_) (fun hb => ?_)
  · replace hk := ct hb hk
    refine wpL_sq ?_
    refine wpL_rg ?_
    refine pA (.bool _) ?_
    refine pE ?_
    refine gn ?_
    refine wpL_rt ?_
    refine gr ?_
    cases hk; exact fin0 hO
  · replace hk := cf hb hk
    refine wpL_sk ?_
    refine gn ?_
    refine wpL_sq ?_
    refine wpL_sq ?_
    refine wpL_rg ?_
    refine pF tF34_1 ?_
    refine pLo hO 1 (.lit _ _ _) tA32 ?_
    refine pF tF34_1 ?_
    refine pLo hO 0 (.lit _ _ _) tA32 ?_
    obtain ⟨v3, hv3, hk⟩ := bs hk
    refine pCall (fun _ => f81_run hv3) ?_
    refine pU ?_
    refine pE ?_
    refine gn ?_
    refine wpL_cd (b := !v3) (fun hb => ?_) (fun hb => ?_)
    · replace hk := ct hb hk
      refine wpL_sq ?_
      refine wpL_rg ?_
      refine pA (.bool _) ?_
      refine pE ?_
      refine gn ?_
      refine wpL_rt ?_
      refine gr ?_
      cases hk; exact fin0 hO
    · replace hk := cf hb hk
      refine wpL_sk ?_
      refine gn ?_
      refine wpL_sq ?_
      refine wpL_rg ?_
      refine pA (.bool _) ?_
      refine pE ?_
      refine gn ?_
      refine wpL_rt ?_
      cases hk; exact fin0 hO
/-- laws.eqSection -/
def f165 (aA0 : Section) (aB1 : Section) : Option Bool :=
  (bif (aA0.Told != aB1.Told) then some false else (bif (aA0.Count != aB1.Count) then some false else (bif !(aA0.Lost == aB1.Lost) then some false else (bif !(aA0.Sweep == aB1.Sweep) then some false else (bif (aA0.Last != aB1.Last) then some false else some true)))))
theorem f165_run {aA0 : Section} {aB1 : Section} {r : Bool} {H : Heap} {lk : Lk} (hk : f165 aA0 aB1 = some r) (hlk : 0 < lk.length := by simp) : runL Try.prog hh 165 [.agg [.int .i64 aA0.Told, .int .i64 aA0.Count, .bool aA0.Lost, .bool aA0.Sweep, .int .i64 aA0.Last], .agg [.int .i64 aB1.Told, .int .i64 aB1.Count, .bool aB1.Lost, .bool aB1.Sweep, .int .i64 aB1.Last]] H lk = some (.bool r, H) := by
  refine run_start Try.func165 rfl Try.ntmps165 Try.results165 rfl rfl fun hO => ?_
  unfold f165 at hk
  refine wpL_sq ?_
  refine wpL_rg ?_
  refine pBox (cs := [_, _, _, _, _]) hO tZ142 (fun b1 G hO => ?_)
  refine pBox (cs := [_, _, _, _, _]) hO tZ142 (fun b2 G hO => ?_)
  refine pA (.bool _) ?_
  refine pE ?_
  refine gn ?_
  refine wpL_sq ?_
  refine wpL_sq ?_
  refine wpL_rg ?_
  refine pF tF142_0 ?_
  refine pLo hO 1 (.int _ _) tA3 ?_
  refine pF tF142_0 ?_
  refine pLo hO 0 (.int _ _) tA3 ?_
  refine pBi ?_
  refine pE ?_
  refine gn ?_
  refine wpL_cd (b := (aA0.Told != aB1.Told)) (fun hb => ?_) (fun hb => ?_)
  · replace hk := ct hb hk
    refine wpL_sq ?_
    refine wpL_rg ?_
    refine pA (.bool _) ?_
    refine pE ?_
    refine gn ?_
    refine wpL_rt ?_
    refine gr ?_
    cases hk; exact fin0 hO
  · replace hk := cf hb hk
    refine wpL_sk ?_
    refine gn ?_
    refine wpL_sq ?_
    refine wpL_sq ?_
    refine wpL_rg ?_
    refine pF tF142_1 ?_
    refine pLo hO 1 (.int _ _) tA3 ?_
    refine pF tF142_1 ?_
    refine pLo hO 0 (.int _ _) tA3 ?_
    refine pBi ?_
    refine pE ?_
    refine gn ?_
    refine wpL_cd (b := (aA0.Count != aB1.Count)) (fun hb => ?_) (fun hb => ?_)
    · replace hk := ct hb hk
      refine wpL_sq ?_
      refine wpL_rg ?_
      refine pA (.bool _) ?_
      refine pE ?_
      refine gn ?_
      refine wpL_rt ?_
      refine gr ?_
      cases hk; exact fin0 hO
    · replace hk := cf hb hk
      refine wpL_sk ?_
      refine gn ?_
      refine wpL_sq ?_
      refine wpL_sq ?_
      refine wpL_rg ?_
      refine pF tF142_2 ?_
      refine pLo hO 1 (.bool _) tA4 ?_
      refine pF tF142_2 ?_
      refine pLo hO 0 (.bool _) tA4 ?_
      refine pBn Try.underlying4 ?_
      refine pE ?_
      refine gn ?_
      refine wpL_cd (b := !(aA0.Lost == aB1.Lost)) (fun hb => ?_) (fun hb => ?_)
      · replace hk := ct hb hk
        refine wpL_sq ?_
        refine wpL_rg ?_
        refine pA (.bool _) ?_
        refine pE ?_
        refine gn ?_
        refine wpL_rt ?_
        refine gr ?_
        cases hk; exact fin0 hO
      · replace hk := cf hb hk
        refine wpL_sk ?_
        refine gn ?_
        refine wpL_sq ?_
        refine wpL_sq ?_
        refine wpL_rg ?_
        refine pF tF142_3 ?_
        refine pLo hO 1 (.bool _) tA4 ?_
        refine pF tF142_3 ?_
        refine pLo hO 0 (.bool _) tA4 ?_
        refine pBn Try.underlying4 ?_
        refine pE ?_
        refine gn ?_
        refine wpL_cd (b := !(aA0.Sweep == aB1.Sweep)) (fun hb => ?_) (fun hb => ?_)
        · replace hk := ct hb hk
          refine wpL_sq ?_
          refine wpL_rg ?_
          refine pA (.bool _) ?_
          refine pE ?_
          refine gn ?_
          refine wpL_rt ?_
          refine gr ?_
          cases hk; exact fin0 hO
        · replace hk := cf hb hk
          refine wpL_sk ?_
          refine gn ?_
          refine wpL_sq ?_
          refine wpL_sq ?_
          refine wpL_rg ?_
          refine pF tF142_4 ?_
          refine pLo hO 1 (.int _ _) tA3 ?_
          refine pF tF142_4 ?_
          refine pLo hO 0 (.int _ _) tA3 ?_
          refine pBi ?_
          refine pE ?_
          refine gn ?_
          refine wpL_cd (b := (aA0.Last != aB1.Last)) (fun hb => ?_) (fun hb => ?_)
          · replace hk := ct hb hk
            refine wpL_sq ?_
            refine wpL_rg ?_
            refine pA (.bool _) ?_
            refine pE ?_
            refine gn ?_
            refine wpL_rt ?_
            refine gr ?_
            cases hk; exact fin0 hO
          · replace hk := cf hb hk
            refine wpL_sk ?_
            refine gn ?_
            refine wpL_sq ?_
            refine wpL_rg ?_
            refine pA (.bool _) ?_
            refine pE ?_
            refine gn ?_
            refine wpL_rt ?_
            cases hk; exact fin0 hO
/-- laws.eqSectionS -/
def f82_L1 (aA0 : List Section) (aB1 : List Section) : Int → Option (Int ⊕ Bool) := fun s =>
  (bif decide (s < (aA0.length : Int)) then ((getI aA0 s).bind fun c2 => ((getI aB1 s).bind fun c3 => ((f165 c2 c3).bind fun v4 => (bif !v4 then ((some false).map Sum.inr) else some (.inl (w64 (s + (1:Int)))))))) else ((some true).map Sum.inr))
def f82 (aA0 : List Section) (aB1 : List Section) : Option Bool :=
  (bif ((aA0.length : Int) != (aB1.length : Int)) then some false else (loopO (f82_L1 aA0 aB1) ((0:Int))))
theorem f82_run {aA0 : List Section} {aB1 : List Section} {r : Bool} {l1 l2 : Nat} {H : Heap} {lk : Lk} (hk : f82 aA0 aB1 = some r) (hlk : 0 < lk.length := by simp) : runL Try.prog hh 82 [.lit l1 aA0.length (flat aA0), .lit l2 aB1.length (flat aB1)] H lk = some (.bool r, H) := by
  refine run_start Try.func82 rfl Try.ntmps82 Try.results82 rfl rfl fun hO => ?_
  unfold f82 at hk
  refine wpL_sq ?_
  refine wpL_rg ?_
  refine pA (.bool _) ?_
  refine pE ?_
  refine gn ?_
  refine wpL_sq ?_
  refine wpL_sq ?_
  refine wpL_rg ?_
  refine pM (.lit _ _ _) ?_
  refine pLen tS36 ?_
  refine pM (.lit _ _ _) ?_
  refine pLen tS36 ?_
  refine pBi ?_
  refine pE ?_
  refine gn ?_
  refine wpL_cd (b := ((aA0.length : Int) != (aB1.length : Int))) (fun hb => ?_) (fun hb => ?_)
  · replace hk := ct hb hk
    refine wpL_sq ?_
    refine wpL_rg ?_
    refine pA (.bool _) ?_
    refine pE ?_
    refine gn ?_
    refine wpL_rt ?_
    refine gr ?_
    cases hk; exact fin0 hO
  · replace hk := cf hb hk
    refine wpL_sk ?_
    refine gn ?_
    refine wpL_sq ?_
    refine wpL_sq ?_
    refine wpL_rg ?_
    refine pA (.int _ _) ?_
    refine pE ?_
    refine gn ?_
    refine wpL_bl ?_
    refine wpL_loopO (F := f82_L1 aA0 aB1) (fun s S' => ∃ (J : Nat → V) (G : Heap), Owns H G [] ∧ S' = ⟨hav [(0, .lit l1 aA0.length (flat aA0)), (1, .lit l2 aB1.length (flat aB1)), (5, .int .i64 s)] J, G⟩) hk ⟨_, _, hO, St.hav _ ⟨rfl, rfl, rfl, trivial⟩⟩ ?_
    rintro x1 _ y1 ⟨J, G, hO, rfl⟩ hk hx1
    refine wpL_sq ?_
    refine wpL_sq ?_
    refine wpL_rg ?_
    refine pM (.int _ _) ?_
    refine pM (.lit _ _ _) ?_
    refine pLen tS36 ?_
    refine pBi ?_
    refine pE ?_
    refine gn ?_
    refine wpL_cd (b := decide (x1 < (aA0.length : Int))) (fun hb => ?_) (fun hb => ?_)
    · replace hk := ct hb hk
      refine wpL_sk ?_
      refine gn ?_
      refine wpL_sq ?_
      refine wpL_bl ?_
      refine wpL_sq ?_
      refine wpL_drw [(0, true), (1, true), (2, true), (3, true), (4, true), (5, true), (6, true), (7, true), (8, false), (9, false)] [_, _, _, _, _, _, _, _, _, _] (by decide +kernel) (by rfl) ?_
      refine pM (.lit _ _ _) ?_
      refine pM (.int _ _) ?_
      obtain ⟨c2, hc2, hk⟩ := bs hk
      refine pX hc2 tE36 tZ142 ?_
      refine pLp (.agg [_, _, _, _, _]) (rd2 (off := 0) hc2 tA142 tZ142) ?_
      refine pM (.lit _ _ _) ?_
      refine pM (.int _ _) ?_
      obtain ⟨c3, hc3, hk⟩ := bs hk
      refine pX hc3 tE36 tZ142 ?_
      refine pLp (.agg [_, _, _, _, _]) (rd2 (off := 0) hc3 tA142 tZ142) ?_
      obtain ⟨v4, hv4, hk⟩ := bs hk
      refine pCall (fun _ => f165_run hv4) ?_
      refine pU ?_
      refine pE ?_
      refine gn ?_
      refine wpL_cd (b := !v4) (fun hb => ?_) (fun hb => ?_)
      · replace hk := ct hb hk
        refine wpL_sq ?_
        refine wpL_rg ?_
        refine pA (.bool _) ?_
        refine pE ?_
        refine gn ?_
        refine wpL_rt ?_
        refine br (gr (gr (br (gr ?_))))
        replace hk := lx hx1 hk
        cases hk; exact fin0 hO
      · replace hk := cf hb hk
        refine wpL_sk ?_
        refine bn (gn ?_)
        refine wpL_rg ?_
        refine pM (.int _ _) ?_
        refine pBi ?_
        refine pA (.int _ _) ?_
        refine pE ?_
        refine gn ?_
        cases hk; exact ⟨_, rfl, _, _, hO, St.hav _ ⟨rfl, rfl, rfl, trivial⟩⟩
    · replace hk := cf hb hk
      refine wpL_ex ?_
      refine ge (ge (be (gn ?_)))
      replace hk := lx hx1 hk
      refine wpL_sq ?_
      refine wpL_rg ?_
      refine pA (.bool _) ?_
      refine pE ?_
      refine gn ?_
      refine wpL_rt ?_
      cases hk; exact fin0 hO
/-- laws.eqBoolS -/
def f83_L1 (aA0 : List Bool) (aB1 : List Bool) : Int → Option (Int ⊕ Bool) := fun s =>
  (bif decide (s < (aA0.length : Int)) then ((getI aA0 s).bind fun c2 => ((getI aB1 s).bind fun c3 => (bif !(c2 == c3) then ((some false).map Sum.inr) else some (.inl (w64 (s + (1:Int))))))) else ((some true).map Sum.inr))
def f83 (aA0 : List Bool) (aB1 : List Bool) : Option Bool :=
  (bif ((aA0.length : Int) != (aB1.length : Int)) then some false else (loopO (f83_L1 aA0 aB1) ((0:Int))))
theorem f83_run {aA0 : List Bool} {aB1 : List Bool} {r : Bool} {l1 l2 : Nat} {H : Heap} {lk : Lk} (hk : f83 aA0 aB1 = some r) (hlk : 0 < lk.length := by simp) : runL Try.prog hh 83 [.lit l1 aA0.length (flat aA0), .lit l2 aB1.length (flat aB1)] H lk = some (.bool r, H) := by
  refine run_start Try.func83 rfl Try.ntmps83 Try.results83 rfl rfl fun hO => ?_
  unfold f83 at hk
  refine wpL_sq ?_
  refine wpL_rg ?_
  refine pA (.bool _) ?_
  refine pE ?_
  refine gn ?_
  refine wpL_sq ?_
  refine wpL_sq ?_
  refine wpL_rg ?_
  refine pM (.lit _ _ _) ?_
  refine pLen tS26 ?_
  refine pM (.lit _ _ _) ?_
  refine pLen tS26 ?_
  refine pBi ?_
  refine pE ?_
  refine gn ?_
  refine wpL_cd (b := ((aA0.length : Int) != (aB1.length : Int))) (fun hb => ?_) (fun hb => ?_)
  · replace hk := ct hb hk
    refine wpL_sq ?_
    refine wpL_rg ?_
    refine pA (.bool _) ?_
    refine pE ?_
    refine gn ?_
    refine wpL_rt ?_
    refine gr ?_
    cases hk; exact fin0 hO
  · replace hk := cf hb hk
    refine wpL_sk ?_
    refine gn ?_
    refine wpL_sq ?_
    refine wpL_sq ?_
    refine wpL_rg ?_
    refine pA (.int _ _) ?_
    refine pE ?_
    refine gn ?_
    refine wpL_bl ?_
    refine wpL_loopO (F := f83_L1 aA0 aB1) (fun s S' => ∃ (J : Nat → V) (G : Heap), Owns H G [] ∧ S' = ⟨hav [(0, .lit l1 aA0.length (flat aA0)), (1, .lit l2 aB1.length (flat aB1)), (5, .int .i64 s)] J, G⟩) hk ⟨_, _, hO, St.hav _ ⟨rfl, rfl, rfl, trivial⟩⟩ ?_
    rintro x1 _ y1 ⟨J, G, hO, rfl⟩ hk hx1
    refine wpL_sq ?_
    refine wpL_sq ?_
    refine wpL_rg ?_
    refine pM (.int _ _) ?_
    refine pM (.lit _ _ _) ?_
    refine pLen tS26 ?_
    refine pBi ?_
    refine pE ?_
    refine gn ?_
    refine wpL_cd (b := decide (x1 < (aA0.length : Int))) (fun hb => ?_) (fun hb => ?_)
    · replace hk := ct hb hk
      refine wpL_sk ?_
      refine gn ?_
      refine wpL_sq ?_
      refine wpL_bl ?_
      refine wpL_sq ?_
      refine wpL_drw [(0, true), (1, true), (2, true), (3, true), (4, true), (5, true), (6, true), (7, true), (8, false)] [_, _, _, _, _, _, _, _, _] (by decide +kernel) (by rfl) ?_
      refine pM (.lit _ _ _) ?_
      refine pM (.int _ _) ?_
      obtain ⟨c2, hc2, hk⟩ := bs hk
      refine pX hc2 tE26 tZ4 ?_
      refine pLp (.bool _) (rd1 (off := 0) hc2 tA4) ?_
      refine pM (.lit _ _ _) ?_
      refine pM (.int _ _) ?_
      obtain ⟨c3, hc3, hk⟩ := bs hk
      refine pX hc3 tE26 tZ4 ?_
      refine pLp (.bool _) (rd1 (off := 0) hc3 tA4) ?_
      refine pBn Try.underlying4 ?_
      refine pE ?_
      refine gn ?_
      refine wpL_cd (b := !(c2 == c3)) (fun hb => ?_) (fun hb => ?_)
      · replace hk := ct hb hk
        refine wpL_sq ?_
        refine wpL_rg ?_
        refine pA (.bool _) ?_
        refine pE ?_
        refine gn ?_
        refine wpL_rt ?_
        refine br (gr (gr (br (gr ?_))))
        replace hk := lx hx1 hk
        cases hk; exact fin0 hO
      · replace hk := cf hb hk
        refine wpL_sk ?_
        refine bn (gn ?_)
        refine wpL_rg ?_
        refine pM (.int _ _) ?_
        refine pBi ?_
        refine pA (.int _ _) ?_
        refine pE ?_
        refine gn ?_
        cases hk; exact ⟨_, rfl, _, _, hO, St.hav _ ⟨rfl, rfl, rfl, trivial⟩⟩
    · replace hk := cf hb hk
      refine wpL_ex ?_
      refine ge (ge (be (gn ?_)))
      replace hk := lx hx1 hk
      refine wpL_sq ?_
      refine wpL_rg ?_
      refine pA (.bool _) ?_
      refine pE ?_
      refine gn ?_
      refine wpL_rt ?_
      cases hk; exact fin0 hO
/-- laws.eqCountState -/
def f22 (aA0 : CountState) (aB1 : CountState) : Option Bool :=
  (bif !(aA0.Ok == aB1.Ok) then some false else ((f82 aA0.Sections aB1.Sections).bind fun v3 => (bif !v3 then some false else ((f83 aA0.Dead aB1.Dead).bind fun v4 => (bif !v4 then some false else some true)))))
theorem f22_run {aA0 : CountState} {aB1 : CountState} {r : Bool} {l1 l2 l3 l4 : Nat} {H : Heap} {lk : Lk} (hk : f22 aA0 aB1 = some r) (hlk : 0 < lk.length := by simp) : runL Try.prog hh 22 [.agg [.bool aA0.Ok, .lit l1 aA0.Sections.length (flat aA0.Sections), .lit l2 aA0.Dead.length (flat aA0.Dead)], .agg [.bool aB1.Ok, .lit l3 aB1.Sections.length (flat aB1.Sections), .lit l4 aB1.Dead.length (flat aB1.Dead)]] H lk = some (.bool r, H) := by
  refine run_start Try.func22 rfl Try.ntmps22 Try.results22 rfl rfl fun hO => ?_
  unfold f22 at hk
  refine wpL_sq ?_
  refine wpL_rg ?_
  refine pBox (cs := [_, _, _]) hO tZ38 (fun b1 G hO => ?_)
  refine pBox (cs := [_, _, _]) hO tZ38 (fun b2 G hO => ?_)
  refine pA (.bool _) ?_
  refine pE ?_
  refine gn ?_
  refine wpL_sq ?_
  refine wpL_sq ?_
  refine wpL_rg ?_
  refine pF tF38_0 ?_
  refine pLo hO 1 (.bool _) tA4 ?_
  refine pF tF38_0 ?_
  refine pLo hO 0 (.bool _) tA4 ?_
  refine pBn Try.underlying4 ?_
  refine pE ?_
  refine gn ?_
  refine wpL_cd (b := !(aA0.Ok == aB1.Ok)) (fun hb => ?_) (fun hb => ?_)
  · replace hk := ct hb hk
    refine wpL_sq ?_
    refine wpL_rg ?_
    refine pA (.bool _) ?_
    refine pE ?_
    refine gn ?_
    refine wpL_rt ?_
    refine gr ?_
    cases hk; exact fin0 hO
  · replace hk := cf hb hk
    refine wpL_sk ?_
    refine gn ?_
    refine wpL_sq ?_
    refine wpL_sq ?_
    refine wpL_rg ?_
    refine pF tF38_1 ?_
    refine pLo hO 1 (.lit _ _ _) tA36 ?_
    refine pF tF38_1 ?_
    refine pLo hO 0 (.lit _ _ _) tA36 ?_
    obtain ⟨v3, hv3, hk⟩ := bs hk
    refine pCall (fun _ => f82_run hv3) ?_
    refine pU ?_
    refine pE ?_
    refine gn ?_
    refine wpL_cd (b := !v3) (fun hb => ?_) (fun hb => ?_)
    · replace hk := ct hb hk
      refine wpL_sq ?_
      refine wpL_rg ?_
      refine pA (.bool _) ?_
      refine pE ?_
      refine gn ?_
      refine wpL_rt ?_
      refine gr ?_
      cases hk; exact fin0 hO
    · replace hk := cf hb hk
      refine wpL_sk ?_
      refine gn ?_
      refine wpL_sq ?_
      refine wpL_sq ?_
      refine wpL_rg ?_
      refine pF tF38_2 ?_
      refine pLo hO 1 (.lit _ _ _) tA26 ?_
      refine pF tF38_2 ?_
      refine pLo hO 0 (.lit _ _ _) tA26 ?_
      obtain ⟨v4, hv4, hk⟩ := bs hk
      refine pCall (fun _ => f83_run hv4) ?_
      refine pU ?_
      refine pE ?_
      refine gn ?_
      refine wpL_cd (b := !v4) (fun hb => ?_) (fun hb => ?_)
      · replace hk := ct hb hk
        refine wpL_sq ?_
        refine wpL_rg ?_
        refine pA (.bool _) ?_
        refine pE ?_
        refine gn ?_
        refine wpL_rt ?_
        refine gr ?_
        cases hk; exact fin0 hO
      · replace hk := cf hb hk
        refine wpL_sk ?_
        refine gn ?_
        refine wpL_sq ?_
        refine wpL_rg ?_
        refine pA (.bool _) ?_
        refine pE ?_
        refine gn ?_
        refine wpL_rt ?_
        cases hk; exact fin0 hO
/-- laws.FnExactCountOk -/
def f3 (aAL0 : Layout) (aAS1 : CountState) : Option Bool :=
  ((f15 aAL0 (1048576:Int)).bind fun v3 => (bif decide (v3 < (0:Int)) then some true else ((f16 aAS1 v3).bind fun v4 => (bif decide (v4 < (0:Int)) then some true else ((f18 aAL0).bind fun v5 => ((f19 aAS1).bind fun v6 => ((f17 v5 v6).bind fun v7 => ((f18 aAL0).bind fun v8 => ((f19 aAS1).bind fun v10 => ((f20 v8 v10).bind fun v12 => (bif !(v12 == v7) then some false else ((f18 aAL0).bind fun v13 => ((f21 v8 v13).bind fun v14 => (bif !v14 then some false else ((f19 aAS1).bind fun v15 => ((f22 v10 v15).bind fun v16 => (bif !v16 then some false else some true)))))))))))))))))
theorem f3_run {aAL0 : Layout} {aAS1 : CountState} {r : Bool} {l1 l2 l3 : Nat} {H : Heap} {lk : Lk} (hk : f3 aAL0 aAS1 = some r) (hlk : 0 < lk.length := by simp) : runL Try.prog hh 3 [.agg [.int .i64 aAL0.Sections, .lit l1 aAL0.Counters.length (flat aAL0.Counters)], .agg [.bool aAS1.Ok, .lit l2 aAS1.Sections.length (flat aAS1.Sections), .lit l3 aAS1.Dead.length (flat aAS1.Dead)]] H lk = some (.bool r, H) := by
  refine run_start Try.func3 rfl Try.ntmps3 Try.results3 rfl rfl fun hO => ?_
  unfold f3 at hk
  refine wpL_sq ?_
  refine wpL_rg ?_
  refine pBox (cs := [_, _]) hO tZ24 (fun b1 G hO => ?_)
  refine pBox (cs := [_, _, _]) hO tZ28 (fun b2 G hO => ?_)
  refine pA (.bool _) ?_
  refine pE ?_
  refine gn ?_
  refine wpL_sq ?_
  refine wpL_rg ?_
  refine pA (.int _ _) ?_
  refine pE ?_
  refine gn ?_
  refine wpL_sq ?_
  refine wpL_rg ?_
  refine pLs hO 1 [_, _] tA24 tZ24 ?_
  refine pM (.int _ _) ?_
  obtain ⟨v3, hv3, hk⟩ := bs hk
  refine pCall (fun _ => f15_run hv3) ?_
  refine pA (.int _ _) ?_
  refine pE ?_
  refine gn ?_
  refine wpL_sq ?_
  refine wpL_sq ?_
  refine wpL_rg ?_
  refine pM (.int _ _) ?_
  refine pBi ?_
  refine pE ?_
  refine gn ?_
  refine wpL_cd (b := decide (v3 < (0:Int))) (fun hb => ?_) (fun hb => ?_)
  · replace hk := ct hb hk
    refine wpL_sq ?_
    refine wpL_rg ?_
    refine pA (.bool _) ?_
    refine pE ?_
    refine gn ?_
    refine wpL_rt ?_
    refine gr ?_
    cases hk; exact fin0 hO
  · replace hk := cf hb hk
    refine wpL_sk ?_
    refine gn ?_
    refine wpL_sq ?_
    refine wpL_rg ?_
    refine pLs hO 0 [_, _, _] tA28 tZ28 ?_
    refine pM (.int _ _) ?_
    obtain ⟨v4, hv4, hk⟩ := bs hk
    refine pCall (fun _ => f16_run hv4) ?_
    refine pA (.int _ _) ?_
    refine pE ?_
    refine gn ?_
    refine wpL_sq ?_
    refine wpL_sq ?_
    refine wpL_rg ?_
    refine pM (.int _ _) ?_
    refine pBi ?_
    refine pE ?_
    refine gn ?_
    refine wpL_cd (b := decide (v4 < (0:Int))) (fun hb => ?_) (fun hb => ?_)
    · replace hk := ct hb hk
      refine wpL_sq ?_
      refine wpL_rg ?_
      refine pA (.bool _) ?_
      refine pE ?_
      refine gn ?_
      refine wpL_rt ?_
      refine gr ?_
      cases hk; exact fin0 hO
    · replace hk := cf hb hk
      refine wpL_sk ?_
      refine gn ?_
      refine wpL_sq ?_
      refine wpL_drw [(0, true), (2, true), (1, true), (3, false), (4, false), (5, false)] [_, _, _, _, _, _] (by decide +kernel) (by rfl) ?_
      refine pLs hO 1 [_, _] tA24 tZ24 ?_
      refine pLs hO 0 [_, _, _] tA28 tZ28 ?_
      obtain ⟨v5, hv5, hk⟩ := bs hk
      refine pCall (fun _ => f18_run hv5) ?_
      obtain ⟨v6, hv6, hk⟩ := bs hk
      refine pCall (fun _ => f19_run hv6) ?_
      obtain ⟨v7, hv7, hk⟩ := bs hk
      refine pCall (fun _ => f17_run hv7) ?_
      refine pA (.bool _) ?_
      refine pE ?_
      refine gn ?_
      refine wpL_sq ?_
      refine wpL_rg ?_
      refine pLs hO 1 [_, _] tA24 tZ24 ?_
      obtain ⟨v8, hv8, hk⟩ := bs hk
      refine pCall (fun _ => f18_run hv8) ?_
      refine pNew hO tZ34 t034 (fun b9 G hO => ?_)
      refine pSt (xs := [_, _]) hO 0 tZ34 rfl (fun G hO => ?_)
      refine pE ?_
      refine gn ?_
      refine wpL_sq ?_
      refine wpL_rg ?_
      refine pLs hO 1 [_, _, _] tA28 tZ28 ?_
      obtain ⟨v10, hv10, hk⟩ := bs hk
      refine pCall (fun _ => f19_run hv10) ?_
      refine pNew hO tZ38 t038 (fun b11 G hO => ?_)
      refine pSt (xs := [_, _, _]) hO 0 tZ38 rfl (fun G hO => ?_)
      refine pE ?_
      refine gn ?_
      refine wpL_sq ?_
      refine wpL_rg ?_
      refine pLs hO 1 [_, _] tA34 tZ34 ?_
      refine pLs hO 0 [_, _, _] tA38 tZ38 ?_
      obtain ⟨v12, hv12, hk⟩ := bs hk
      refine pCall (fun _ => f20_run hv12) ?_
      refine pA (.bool _) ?_
      refine pE ?_
      refine gn ?_
      refine wpL_sq ?_
      refine wpL_sq ?_
      refine wpL_rg ?_
      refine pM (.bool _) ?_
      refine pM (.bool _) ?_
      refine pBn Try.underlying4 ?_
      refine pE ?_
      refine gn ?_
      refine wpL_cd (b := !(v12 == v7)) (fun hb => ?_) (fun hb => ?_)
      · replace hk := ct hb hk
        refine wpL_sq ?_
        refine wpL_rg ?_
        refine pA (.bool _) ?_
        refine pE ?_
        refine gn ?_
        refine wpL_rt ?_
        refine gr ?_
        cases hk; exact fin0 hO
      · replace hk := cf hb hk
        refine wpL_sk ?_
        refine gn ?_
        refine wpL_sq ?_
        refine wpL_sq ?_
        refine wpL_drw [(0, true), (1, true), (2, true), (3, false), (4, false)] [_, _, _, _, _] (by decide +kernel) (by rfl) ?_
        refine pLs hO 1 [_, _] tA34 tZ34 ?_
        refine pLs hO 3 [_, _] tA24 tZ24 ?_
        obtain ⟨v13, hv13, hk⟩ := bs hk
        refine pCall (fun _ => f18_run hv13) ?_
        obtain ⟨v14, hv14, hk⟩ := bs hk
        refine pCall (fun _ => f21_run hv14) ?_
        refine pU ?_
        refine pE ?_
        refine gn ?_
        refine wpL_cd (b := !v14) (fun hb => ?_) (fun hb => ?_)
        · replace hk := ct hb hk
          refine wpL_sq ?_
          refine wpL_rg ?_
          refine pA (.bool _) ?_
          refine pE ?_
          refine gn ?_
          refine wpL_rt ?_
          refine gr ?_
          cases hk; exact fin0 hO
        · replace hk := cf hb hk
          refine wpL_sk ?_
          refine gn ?_
          refine wpL_sq ?_
          refine wpL_sq ?_
          refine wpL_drw [(0, true), (1, true), (2, true), (3, false), (4, false)] [_, _, _, _, _] (by decide +kernel) (by rfl) ?_
          refine pLs hO 0 [_, _, _] tA38 tZ38 ?_
          refine pLs hO 2 [_, _, _] tA28 tZ28 ?_
          obtain ⟨v15, hv15, hk⟩ := bs hk
          refine pCall (fun _ => f19_run hv15) ?_
          obtain ⟨v16, hv16, hk⟩ := bs hk
          refine pCall (fun _ => f22_run hv16) ?_
          refine pU ?_
          refine pE ?_
          refine gn ?_
          refine wpL_cd (b := !v16) (fun hb => ?_) (fun hb => ?_)
          · replace hk := ct hb hk
            refine wpL_sq ?_
            refine wpL_rg ?_
            refine pA (.bool _) ?_
            refine pE ?_
            refine gn ?_
            refine wpL_rt ?_
            refine gr ?_
            cases hk; exact fin0 hO
          · replace hk := cf hb hk
            refine wpL_sk ?_
            refine gn ?_
            refine wpL_sq ?_
            refine wpL_rg ?_
            refine pA (.bool _) ?_
            refine pE ?_
            refine gn ?_
            refine wpL_rt ?_
            cases hk; exact fin0 hO
end
end Go.Proofs.Ytgpbnbmddffhkaa.K
