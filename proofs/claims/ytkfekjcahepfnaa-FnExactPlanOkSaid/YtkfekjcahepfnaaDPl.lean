/-
  The functions that FnExactPlanOk reaches, as typed Lean functions, and that the interpreter computes them. No conditions.
-/
import Derived.Test.YtkfekjcahepfnaaKx
import Derived.Test.YtkfekjcahepfnaaProg
set_option linter.unusedVariables false
set_option linter.unusedSimpArgs false
set_option maxRecDepth 100000
namespace Go.Proofs.Ytkfekjcahepfnaa.K
noncomputable section
def hh : Hints := { modes := fun _ => [], thaw := fun _ => false, grow := fun k => Nat.beq k 271, keep := fun _ => false }
structure Turn where
  Switch : Int
  Lie : Int
instance : GoT Turn := ⟨2, by decide, fun x => GoT.enc x.Switch ++ (GoT.enc x.Lie), fun x => by simp only [List.length_append, GoT.len]; rfl, fun x => by simp only [cleanL_append, GoT.clean]; rfl, fun x => by simp only [List.all_append, GoT.cell]; rfl⟩
structure Way where
  Sections : List Int
  Lies : List Turn
  Flanks : List Turn
  Over : List Int
  Near : List Int
instance : GoT Way := ⟨5, by decide, fun x => GoT.enc x.Sections ++ (GoT.enc x.Lies ++ (GoT.enc x.Flanks ++ (GoT.enc x.Over ++ (GoT.enc x.Near)))), fun x => by simp only [List.length_append, GoT.len]; rfl, fun x => by simp only [cleanL_append, GoT.clean]; rfl, fun x => by simp only [List.all_append, GoT.cell]; rfl⟩
structure Plan where
  Sections : Int
  Switches : List Int
  Ways : List Way
  Bars : List (List Bool)
  Hold : Int
instance : GoT Plan := ⟨5, by decide, fun x => GoT.enc x.Sections ++ (GoT.enc x.Switches ++ (GoT.enc x.Ways ++ (GoT.enc x.Bars ++ (GoT.enc x.Hold)))), fun x => by simp only [List.length_append, GoT.len]; rfl, fun x => by simp only [cleanL_append, GoT.clean]; rfl, fun x => by simp only [List.all_append, GoT.cell]; rfl⟩
structure Fault where
  Code : Int
  At : Int
instance : GoT Fault := ⟨2, by decide, fun x => GoT.enc x.Code ++ (GoT.enc x.At), fun x => by simp only [List.length_append, GoT.len]; rfl, fun x => by simp only [cleanL_append, GoT.clean]; rfl, fun x => by simp only [List.all_append, GoT.cell]; rfl⟩
theorem tZ74 : szOf Try.prog 74 = some 5 := by rfl
theorem tA74 : aggT Try.prog 74 = some true := by rfl
theorem tF74_1 : fieldOff Try.prog 74 1 = some 1 := by rfl
theorem tA26 : aggT Try.prog 26 = some false := by rfl
theorem tS26 : strT Try.prog 26 = some false := by rfl
theorem tF74_2 : fieldOff Try.prog 74 2 = some 2 := by rfl
theorem tA72 : aggT Try.prog 72 = some false := by rfl
theorem tS72 : strT Try.prog 72 = some false := by rfl
theorem tE72 : elemT Try.prog 72 = some 304 := by rfl
theorem tZ304 : szOf Try.prog 304 = some 5 := by rfl
theorem tA304 : aggT Try.prog 304 = some true := by rfl
theorem tF304_0 : fieldOff Try.prog 304 0 = some 0 := by rfl
theorem tF304_1 : fieldOff Try.prog 304 1 = some 1 := by rfl
theorem tA302 : aggT Try.prog 302 = some false := by rfl
theorem tS302 : strT Try.prog 302 = some false := by rfl
theorem tF304_2 : fieldOff Try.prog 304 2 = some 2 := by rfl
theorem tF304_3 : fieldOff Try.prog 304 3 = some 3 := by rfl
theorem tF304_4 : fieldOff Try.prog 304 4 = some 4 := by rfl
theorem tF74_3 : fieldOff Try.prog 74 3 = some 3 := by rfl
theorem tA45 : aggT Try.prog 45 = some false := by rfl
theorem tS45 : strT Try.prog 45 = some false := by rfl
theorem tE45 : elemT Try.prog 45 = some 38 := by rfl
theorem tZ38 : szOf Try.prog 38 = some 1 := by rfl
theorem tA38 : aggT Try.prog 38 = some false := by rfl
theorem tS38 : strT Try.prog 38 = some false := by rfl
theorem tZ81 : szOf Try.prog 81 = some 5 := by rfl
theorem t081 : zeroOf Try.prog 81 = some [.int .i64 0, (.tl 0 []), (.tl 0 []), (.tl 0 []), .int .i64 0] := by rfl
theorem tF74_0 : fieldOff Try.prog 74 0 = some 0 := by rfl
theorem tA3 : aggT Try.prog 3 = some false := by rfl
theorem tF81_0 : fieldOff Try.prog 81 0 = some 0 := by rfl
theorem tZ3 : szOf Try.prog 3 = some 1 := by rfl
theorem tE26 : elemT Try.prog 26 = some 3 := by rfl
theorem tB3 : bytesOf Try.prog 3 = some 8 := by rfl
theorem t03 : zeroOf Try.prog 3 = some [.int .i64 0] := by rfl
theorem tF81_1 : fieldOff Try.prog 81 1 = some 1 := by rfl
theorem tZ26 : szOf Try.prog 26 = some 1 := by rfl
theorem tE79 : elemT Try.prog 79 = some 218 := by rfl
theorem tZ218 : szOf Try.prog 218 = some 5 := by rfl
theorem tB218 : bytesOf Try.prog 218 = some 120 := by rfl
theorem t0218 : zeroOf Try.prog 218 = some [(.tl 0 []), (.tl 0 []), (.tl 0 []), (.tl 0 []), (.tl 0 [])] := by rfl
theorem tF218_0 : fieldOff Try.prog 218 0 = some 0 := by rfl
theorem tE216 : elemT Try.prog 216 = some 307 := by rfl
theorem tZ307 : szOf Try.prog 307 = some 2 := by rfl
theorem tB307 : bytesOf Try.prog 307 = some 16 := by rfl
theorem t0307 : zeroOf Try.prog 307 = some [.int .i64 0, .int .i64 0] := by rfl
theorem tE302 : elemT Try.prog 302 = some 390 := by rfl
theorem tZ390 : szOf Try.prog 390 = some 2 := by rfl
theorem tA390 : aggT Try.prog 390 = some true := by rfl
theorem tF390_0 : fieldOff Try.prog 390 0 = some 0 := by rfl
theorem tF307_0 : fieldOff Try.prog 307 0 = some 0 := by rfl
theorem tF390_1 : fieldOff Try.prog 390 1 = some 1 := by rfl
theorem tF307_1 : fieldOff Try.prog 307 1 = some 1 := by rfl
theorem tA307 : aggT Try.prog 307 = some true := by rfl
theorem tF218_1 : fieldOff Try.prog 218 1 = some 1 := by rfl
theorem tZ216 : szOf Try.prog 216 = some 1 := by rfl
theorem tF218_2 : fieldOff Try.prog 218 2 = some 2 := by rfl
theorem tF218_3 : fieldOff Try.prog 218 3 = some 3 := by rfl
theorem tF218_4 : fieldOff Try.prog 218 4 = some 4 := by rfl
theorem tA218 : aggT Try.prog 218 = some true := by rfl
theorem tF81_2 : fieldOff Try.prog 81 2 = some 2 := by rfl
theorem tZ79 : szOf Try.prog 79 = some 1 := by rfl
theorem tB38 : bytesOf Try.prog 38 = some 24 := by rfl
theorem t038 : zeroOf Try.prog 38 = some [(.tl 0 [])] := by rfl
theorem tE38 : elemT Try.prog 38 = some 4 := by rfl
theorem tZ4 : szOf Try.prog 4 = some 1 := by rfl
theorem tB4 : bytesOf Try.prog 4 = some 1 := by rfl
theorem t04 : zeroOf Try.prog 4 = some [.bool false] := by rfl
theorem tA4 : aggT Try.prog 4 = some false := by rfl
theorem tF81_3 : fieldOff Try.prog 81 3 = some 3 := by rfl
theorem tZ45 : szOf Try.prog 45 = some 1 := by rfl
theorem tF74_4 : fieldOff Try.prog 74 4 = some 4 := by rfl
theorem tF81_4 : fieldOff Try.prog 81 4 = some 4 := by rfl
theorem tA81 : aggT Try.prog 81 = some true := by rfl
theorem tZ77 : szOf Try.prog 77 = some 2 := by rfl
theorem t077 : zeroOf Try.prog 77 = some [.int .i64 0, .int .i64 0] := by rfl
theorem tA79 : aggT Try.prog 79 = some false := by rfl
theorem tS79 : strT Try.prog 79 = some false := by rfl
theorem tP77 : placesK Try.prog 77 = some [(0, 1), (1, 1)] := by rfl
theorem tA77 : aggT Try.prog 77 = some true := by rfl
theorem tA216 : aggT Try.prog 216 = some false := by rfl
theorem tS216 : strT Try.prog 216 = some false := by rfl
theorem tC271 : Try.f271.body.bind isClone = some 216 := by rfl
theorem tM309 : mapK Try.prog 309 = some (.one .i, 4) := by decide +kernel
theorem tY4 : zero1 Try.prog 4 = some (GoP.pv (false : Bool)) := by rfl
theorem tF77_0 : fieldOff Try.prog 77 0 = some 0 := by rfl
theorem tF77_1 : fieldOff Try.prog 77 1 = some 1 := by rfl
/-- laws.szIntS -/
def f138 (aA0 : List Int) (aLeft1 : Int) : Option Int :=
  (bif decide ((w64 (aLeft1 - (aA0.length : Int))) < (0:Int)) then some (-1:Int) else some (w64 (aLeft1 - (aA0.length : Int))))
theorem f138_run {aA0 : List Int} {aLeft1 : Int} {r : Int} {l1 : Nat} {H : Heap} {lk : Lk} (hk : f138 aA0 aLeft1 = some r) (hlk : 0 < lk.length := by simp) : runL Try.prog hh 138 [.lit l1 aA0.length (flat aA0), .int .i64 aLeft1] H lk = some (.int .i64 r, H) := by
  refine run_start Try.func138 rfl Try.ntmps138 Try.results138 rfl rfl fun hO => ?_
  unfold f138 at hk
  refine wpL_sq ?_
  refine wpL_rg ?_
  refine pA (.int _ _) ?_
  refine pE ?_
  refine gn ?_
  refine wpL_sq ?_
  refine wpL_rg ?_
  refine pM (.int _ _) ?_
  refine pM (.lit _ _ _) ?_
  refine pLen tS26 ?_
  refine pBi ?_
  refine pA (.int _ _) ?_
  refine pE ?_
  refine gn ?_
  refine wpL_sq ?_
  refine wpL_sq ?_
  refine wpL_rg ?_
  refine pM (.int _ _) ?_
  refine pBi ?_
  refine pE ?_
  refine gn ?_
  refine wpL_cd (b := decide ((w64 (aLeft1 - (aA0.length : Int))) < (0:Int))) (fun hb => ?_) (fun hb => ?_)
  · replace hk := ct hb hk
    refine wpL_sq ?_
    refine wpL_rg ?_
    refine pA (.int _ _) ?_
    refine pE ?_
    refine gn ?_
    refine wpL_rt ?_
    refine gr ?_
    replace hk := Option.some.inj hk; subst hk; exact fin0 hO
  · replace hk := cf hb hk
    refine wpL_sk ?_
    refine gn ?_
    refine wpL_sq ?_
    refine wpL_rg ?_
    refine pM (.int _ _) ?_
    refine pA (.int _ _) ?_
    refine pE ?_
    refine gn ?_
    refine wpL_rt ?_
    replace hk := Option.some.inj hk; subst hk; exact fin0 hO
/-- laws.szTurnS -/
def f324 (aA0 : List Turn) (aLeft1 : Int) : Option Int :=
  (bif decide ((w64 (aLeft1 - (aA0.length : Int))) < (0:Int)) then some (-1:Int) else some (w64 (aLeft1 - (aA0.length : Int))))
theorem f324_run {aA0 : List Turn} {aLeft1 : Int} {r : Int} {l1 : Nat} {H : Heap} {lk : Lk} (hk : f324 aA0 aLeft1 = some r) (hlk : 0 < lk.length := by simp) : runL Try.prog hh 324 [.lit l1 aA0.length (flat aA0), .int .i64 aLeft1] H lk = some (.int .i64 r, H) := by
  refine run_start Try.func324 rfl Try.ntmps324 Try.results324 rfl rfl fun hO => ?_
  unfold f324 at hk
  refine wpL_sq ?_
  refine wpL_rg ?_
  refine pA (.int _ _) ?_
  refine pE ?_
  refine gn ?_
  refine wpL_sq ?_
  refine wpL_rg ?_
  refine pM (.int _ _) ?_
  refine pM (.lit _ _ _) ?_
  refine pLen tS302 ?_
  refine pBi ?_
  refine pA (.int _ _) ?_
  refine pE ?_
  refine gn ?_
  refine wpL_sq ?_
  refine wpL_sq ?_
  refine wpL_rg ?_
  refine pM (.int _ _) ?_
  refine pBi ?_
  refine pE ?_
  refine gn ?_
  refine wpL_cd (b := decide ((w64 (aLeft1 - (aA0.length : Int))) < (0:Int))) (fun hb => ?_) (fun hb => ?_)
  · replace hk := ct hb hk
    refine wpL_sq ?_
    refine wpL_rg ?_
    refine pA (.int _ _) ?_
    refine pE ?_
    refine gn ?_
    refine wpL_rt ?_
    refine gr ?_
    replace hk := Option.some.inj hk; subst hk; exact fin0 hO
  · replace hk := cf hb hk
    refine wpL_sk ?_
    refine gn ?_
    refine wpL_sq ?_
    refine wpL_rg ?_
    refine pM (.int _ _) ?_
    refine pA (.int _ _) ?_
    refine pE ?_
    refine gn ?_
    refine wpL_rt ?_
    replace hk := Option.some.inj hk; subst hk; exact fin0 hO
/-- laws.szWay -/
def f266 (aA0 : Way) (aLeft1 : Int) : Option Int :=
  ((f138 aA0.Sections aLeft1).bind fun v2 => (bif decide (v2 < (0:Int)) then some (-1:Int) else ((f324 aA0.Lies v2).bind fun v3 => (bif decide (v3 < (0:Int)) then some (-1:Int) else ((f324 aA0.Flanks v3).bind fun v4 => (bif decide (v4 < (0:Int)) then some (-1:Int) else ((f138 aA0.Over v4).bind fun v5 => (bif decide (v5 < (0:Int)) then some (-1:Int) else ((f138 aA0.Near v5).bind fun v6 => (bif decide (v6 < (0:Int)) then some (-1:Int) else some v6))))))))))
theorem f266_run {aA0 : Way} {aLeft1 : Int} {r : Int} {l1 l2 l3 l4 l5 : Nat} {H : Heap} {lk : Lk} (hk : f266 aA0 aLeft1 = some r) (hlk : 0 < lk.length := by simp) : runL Try.prog hh 266 [.agg [.lit l1 aA0.Sections.length (flat aA0.Sections), .lit l2 aA0.Lies.length (flat aA0.Lies), .lit l3 aA0.Flanks.length (flat aA0.Flanks), .lit l4 aA0.Over.length (flat aA0.Over), .lit l5 aA0.Near.length (flat aA0.Near)], .int .i64 aLeft1] H lk = some (.int .i64 r, H) := by
  refine run_start Try.func266 rfl Try.ntmps266 Try.results266 rfl rfl fun hO => ?_
  unfold f266 at hk
  refine wpL_sq ?_
  refine wpL_rg ?_
  refine pBox (cs := [_, _, _, _, _]) hO tZ304 (fun b1 G hO => ?_)
  refine pA (.int _ _) ?_
  refine pE ?_
  refine gn ?_
  refine wpL_sq ?_
  refine wpL_rg ?_
  refine pF tF304_0 ?_
  refine pLo hO 0 (.lit _ _ _) tA26 ?_
  refine pM (.int _ _) ?_
  obtain ⟨v2, hv2, hk⟩ := bs hk
  refine pCall (fun _ => f138_run hv2) ?_
  refine pA (.int _ _) ?_
  refine pE ?_
  refine gn ?_
  refine wpL_sq ?_
  refine wpL_sq ?_
  refine wpL_rg ?_
  refine pM (.int _ _) ?_
  refine pBi ?_
  refine pE ?_
  refine gn ?_
  refine wpL_cd (b := decide (v2 < (0:Int))) (fun hb => ?_) (fun hb => ?_)
  · replace hk := ct hb hk
    refine wpL_sq ?_
    refine wpL_rg ?_
    refine pA (.int _ _) ?_
    refine pE ?_
    refine gn ?_
    refine wpL_rt ?_
    refine gr ?_
    replace hk := Option.some.inj hk; subst hk; exact fin0 hO
  · replace hk := cf hb hk
    refine wpL_sk ?_
    refine gn ?_
    refine wpL_sq ?_
    refine wpL_rg ?_
    refine pF tF304_1 ?_
    refine pLo hO 0 (.lit _ _ _) tA302 ?_
    refine pM (.int _ _) ?_
    obtain ⟨v3, hv3, hk⟩ := bs hk
    refine pCall (fun _ => f324_run hv3) ?_
    refine pA (.int _ _) ?_
    refine pE ?_
    refine gn ?_
    refine wpL_sq ?_
    refine wpL_sq ?_
    refine wpL_rg ?_
    refine pM (.int _ _) ?_
    refine pBi ?_
    refine pE ?_
    refine gn ?_
    refine wpL_cd (b := decide (v3 < (0:Int))) (fun hb => ?_) (fun hb => ?_)
    · replace hk := ct hb hk
      refine wpL_sq ?_
      refine wpL_rg ?_
      refine pA (.int _ _) ?_
      refine pE ?_
      refine gn ?_
      refine wpL_rt ?_
      refine gr ?_
      replace hk := Option.some.inj hk; subst hk; exact fin0 hO
    · replace hk := cf hb hk
      refine wpL_sk ?_
      refine gn ?_
      refine wpL_sq ?_
      refine wpL_rg ?_
      refine pF tF304_2 ?_
      refine pLo hO 0 (.lit _ _ _) tA302 ?_
      refine pM (.int _ _) ?_
      obtain ⟨v4, hv4, hk⟩ := bs hk
      refine pCall (fun _ => f324_run hv4) ?_
      refine pA (.int _ _) ?_
      refine pE ?_
      refine gn ?_
      refine wpL_sq ?_
      refine wpL_sq ?_
      refine wpL_rg ?_
      refine pM (.int _ _) ?_
      refine pBi ?_
      refine pE ?_
      refine gn ?_
      refine wpL_cd (b := decide (v4 < (0:Int))) (fun hb => ?_) (fun hb => ?_)
      · replace hk := ct hb hk
        refine wpL_sq ?_
        refine wpL_rg ?_
        refine pA (.int _ _) ?_
        refine pE ?_
        refine gn ?_
        refine wpL_rt ?_
        refine gr ?_
        replace hk := Option.some.inj hk; subst hk; exact fin0 hO
      · replace hk := cf hb hk
        refine wpL_sk ?_
        refine gn ?_
        refine wpL_sq ?_
        refine wpL_rg ?_
        refine pF tF304_3 ?_
        refine pLo hO 0 (.lit _ _ _) tA26 ?_
        refine pM (.int _ _) ?_
        obtain ⟨v5, hv5, hk⟩ := bs hk
        refine pCall (fun _ => f138_run hv5) ?_
        refine pA (.int _ _) ?_
        refine pE ?_
        refine gn ?_
        refine wpL_sq ?_
        refine wpL_sq ?_
        refine wpL_rg ?_
        refine pM (.int _ _) ?_
        refine pBi ?_
        refine pE ?_
        refine gn ?_
        refine wpL_cd (b := decide (v5 < (0:Int))) (fun hb => ?_) (fun hb => ?_)
        · replace hk := ct hb hk
          refine wpL_sq ?_
          refine wpL_rg ?_
          refine pA (.int _ _) ?_
          refine pE ?_
          refine gn ?_
          refine wpL_rt ?_
          refine gr ?_
          replace hk := Option.some.inj hk; subst hk; exact fin0 hO
        · replace hk := cf hb hk
          refine wpL_sk ?_
          refine gn ?_
          refine wpL_sq ?_
          refine wpL_rg ?_
          refine pF tF304_4 ?_
          refine pLo hO 0 (.lit _ _ _) tA26 ?_
          refine pM (.int _ _) ?_
          obtain ⟨v6, hv6, hk⟩ := bs hk
          refine pCall (fun _ => f138_run hv6) ?_
          refine pA (.int _ _) ?_
          refine pE ?_
          refine gn ?_
          refine wpL_sq ?_
          refine wpL_sq ?_
          refine wpL_rg ?_
          refine pM (.int _ _) ?_
          refine pBi ?_
          refine pE ?_
          refine gn ?_
          refine wpL_cd (b := decide (v6 < (0:Int))) (fun hb => ?_) (fun hb => ?_)
          · replace hk := ct hb hk
            refine wpL_sq ?_
            refine wpL_rg ?_
            refine pA (.int _ _) ?_
            refine pE ?_
            refine gn ?_
            refine wpL_rt ?_
            refine gr ?_
            replace hk := Option.some.inj hk; subst hk; exact fin0 hO
          · replace hk := cf hb hk
            refine wpL_sk ?_
            refine gn ?_
            refine wpL_sq ?_
            refine wpL_rg ?_
            refine pM (.int _ _) ?_
            refine pA (.int _ _) ?_
            refine pE ?_
            refine gn ?_
            refine wpL_rt ?_
            replace hk := Option.some.inj hk; subst hk; exact fin0 hO
/-- laws.szWayS -/
def f166_L1 (aA0 : List Way) : (Int × Int) → Option ((Int × Int) ⊕ Int) := fun s =>
  (bif decide (s.2 < (aA0.length : Int)) then ((getI aA0 s.2).bind fun c3 => ((f266 c3 s.1).bind fun v4 => (bif decide (v4 < (0:Int)) then ((some (-1:Int)).map Sum.inr) else some (.inl (v4, w64 (s.2 + (1:Int))))))) else ((some s.1).map Sum.inr))
def f166 (aA0 : List Way) (aLeft1 : Int) : Option Int :=
  (bif decide ((w64 (aLeft1 - (aA0.length : Int))) < (0:Int)) then some (-1:Int) else (loopO (f166_L1 aA0) (w64 (aLeft1 - (aA0.length : Int)), (0:Int))))
theorem f166_run {aA0 : List Way} {aLeft1 : Int} {r : Int} {l1 : Nat} {H : Heap} {lk : Lk} (hk : f166 aA0 aLeft1 = some r) (hlk : 0 < lk.length := by simp) : runL Try.prog hh 166 [.lit l1 aA0.length (flat aA0), .int .i64 aLeft1] H lk = some (.int .i64 r, H) := by
  refine run_start Try.func166 rfl Try.ntmps166 Try.results166 rfl rfl fun hO => ?_
  unfold f166 at hk
  refine wpL_sq ?_
  refine wpL_rg ?_
  refine pA (.int _ _) ?_
  refine pE ?_
  refine gn ?_
  refine wpL_sq ?_
  refine wpL_rg ?_
  refine pM (.int _ _) ?_
  refine pM (.lit _ _ _) ?_
  refine pLen tS72 ?_
  refine pBi ?_
  refine pA (.int _ _) ?_
  refine pE ?_
  refine gn ?_
  refine wpL_sq ?_
  refine wpL_sq ?_
  refine wpL_rg ?_
  refine pM (.int _ _) ?_
  refine pBi ?_
  refine pE ?_
  refine gn ?_
  refine wpL_cd (b := decide ((w64 (aLeft1 - (aA0.length : Int))) < (0:Int))) (fun hb => ?_) (fun hb => ?_)
  · replace hk := ct hb hk
    refine wpL_sq ?_
    refine wpL_rg ?_
    refine pA (.int _ _) ?_
    refine pE ?_
    refine gn ?_
    refine wpL_rt ?_
    refine gr ?_
    replace hk := Option.some.inj hk; subst hk; exact fin0 hO
  · replace hk := cf hb hk
    refine wpL_sk ?_
    refine gn ?_
    refine wpL_sq ?_
    refine wpL_sq ?_
    refine wpL_rg ?_
    refine pA (.int _ _) ?_
    refine pE ?_
    refine gn ?_
    refine wpL_bl ?_
    refine wpL_loopO (F := f166_L1 aA0) (fun s S' => ∃ (J : Nat → V) (G : Heap), Owns H G [] ∧ S' = ⟨hav [(0, .lit l1 aA0.length (flat aA0)), (1, .int .i64 s.1), (5, .int .i64 s.2)] J, G⟩) hk ⟨_, _, hO, St.hav _ ⟨rfl, rfl, rfl, trivial⟩⟩ ?_
    rintro ⟨x1, x2⟩ _ y1 ⟨J, G, hO, rfl⟩ hk hx1
    refine wpL_sq ?_
    refine wpL_sq ?_
    refine wpL_rg ?_
    refine pM (.int _ _) ?_
    refine pM (.lit _ _ _) ?_
    refine pLen tS72 ?_
    refine pBi ?_
    refine pE ?_
    refine gn ?_
    refine wpL_cd (b := decide (x2 < (aA0.length : Int))) (fun hb => ?_) (fun hb => ?_)
    · replace hk := ct hb hk
      refine wpL_sk ?_
      refine gn ?_
      refine wpL_sq ?_
      refine wpL_bl ?_
      refine wpL_sq ?_
      refine wpL_rg ?_
      refine pM (.lit _ _ _) ?_
      refine pM (.int _ _) ?_
      obtain ⟨c3, hc3, hk⟩ := bs hk
      refine pX hc3 tE72 tZ304 ?_
      refine pLp (.agg [_, _, _, _, _]) (rd2 (off := 0) hc3 tA304 tZ304) ?_
      refine pM (.int _ _) ?_
      obtain ⟨v4, hv4, hk⟩ := bs hk
      refine pCall (fun _ => f266_run hv4) ?_
      refine pA (.int _ _) ?_
      refine pE ?_
      refine gn ?_
      refine wpL_sq ?_
      refine wpL_rg ?_
      refine pM (.int _ _) ?_
      refine pBi ?_
      refine pE ?_
      refine gn ?_
      refine wpL_cd (b := decide (v4 < (0:Int))) (fun hb => ?_) (fun hb => ?_)
      · replace hk := ct hb hk
        refine wpL_sq ?_
        refine wpL_rg ?_
        refine pA (.int _ _) ?_
        refine pE ?_
        refine gn ?_
        refine wpL_rt ?_
        refine br (gr (gr (br (gr ?_))))
        replace hk := lx hx1 hk
        replace hk := Option.some.inj hk; subst hk; exact fin0 hO
      · replace hk := cf hb hk
        refine wpL_sk ?_
        refine bn (gn ?_)
        refine wpL_rg ?_
        refine pM (.int _ _) ?_
        refine pBi ?_
        refine pA (.int _ _) ?_
        refine pE ?_
        refine gn ?_
        cases hk; exact ⟨_, rfl, _, _, hO, St.hav _ ⟨rfl, rfl, rfl, trivial⟩⟩
    · replace hk := cf hb hk
      refine wpL_ex ?_
      refine ge (ge (be (gn ?_)))
      replace hk := lx hx1 hk
      refine wpL_sq ?_
      refine wpL_rg ?_
      refine pM (.int _ _) ?_
      refine pA (.int _ _) ?_
      refine pE ?_
      refine gn ?_
      refine wpL_rt ?_
      replace hk := Option.some.inj hk; subst hk; exact fin0 hO
/-- laws.szBoolS -/
def f139 (aA0 : List Bool) (aLeft1 : Int) : Option Int :=
  (bif decide ((w64 (aLeft1 - (aA0.length : Int))) < (0:Int)) then some (-1:Int) else some (w64 (aLeft1 - (aA0.length : Int))))
theorem f139_run {aA0 : List Bool} {aLeft1 : Int} {r : Int} {l1 : Nat} {H : Heap} {lk : Lk} (hk : f139 aA0 aLeft1 = some r) (hlk : 0 < lk.length := by simp) : runL Try.prog hh 139 [.lit l1 aA0.length (flat aA0), .int .i64 aLeft1] H lk = some (.int .i64 r, H) := by
  refine run_start Try.func139 rfl Try.ntmps139 Try.results139 rfl rfl fun hO => ?_
  unfold f139 at hk
  refine wpL_sq ?_
  refine wpL_rg ?_
  refine pA (.int _ _) ?_
  refine pE ?_
  refine gn ?_
  refine wpL_sq ?_
  refine wpL_rg ?_
  refine pM (.int _ _) ?_
  refine pM (.lit _ _ _) ?_
  refine pLen tS38 ?_
  refine pBi ?_
  refine pA (.int _ _) ?_
  refine pE ?_
  refine gn ?_
  refine wpL_sq ?_
  refine wpL_sq ?_
  refine wpL_rg ?_
  refine pM (.int _ _) ?_
  refine pBi ?_
  refine pE ?_
  refine gn ?_
  refine wpL_cd (b := decide ((w64 (aLeft1 - (aA0.length : Int))) < (0:Int))) (fun hb => ?_) (fun hb => ?_)
  · replace hk := ct hb hk
    refine wpL_sq ?_
    refine wpL_rg ?_
    refine pA (.int _ _) ?_
    refine pE ?_
    refine gn ?_
    refine wpL_rt ?_
    refine gr ?_
    replace hk := Option.some.inj hk; subst hk; exact fin0 hO
  · replace hk := cf hb hk
    refine wpL_sk ?_
    refine gn ?_
    refine wpL_sq ?_
    refine wpL_rg ?_
    refine pM (.int _ _) ?_
    refine pA (.int _ _) ?_
    refine pE ?_
    refine gn ?_
    refine wpL_rt ?_
    replace hk := Option.some.inj hk; subst hk; exact fin0 hO
/-- laws.szBoolSS -/
def f140_L1 (aA0 : List (List Bool)) : (Int × Int) → Option ((Int × Int) ⊕ Int) := fun s =>
  (bif decide (s.2 < (aA0.length : Int)) then ((getI aA0 s.2).bind fun c3 => ((f139 c3 s.1).bind fun v4 => (bif decide (v4 < (0:Int)) then ((some (-1:Int)).map Sum.inr) else some (.inl (v4, w64 (s.2 + (1:Int))))))) else ((some s.1).map Sum.inr))
def f140 (aA0 : List (List Bool)) (aLeft1 : Int) : Option Int :=
  (bif decide ((w64 (aLeft1 - (aA0.length : Int))) < (0:Int)) then some (-1:Int) else (loopO (f140_L1 aA0) (w64 (aLeft1 - (aA0.length : Int)), (0:Int))))
theorem f140_run {aA0 : List (List Bool)} {aLeft1 : Int} {r : Int} {l1 : Nat} {H : Heap} {lk : Lk} (hk : f140 aA0 aLeft1 = some r) (hlk : 0 < lk.length := by simp) : runL Try.prog hh 140 [.lit l1 aA0.length (flat aA0), .int .i64 aLeft1] H lk = some (.int .i64 r, H) := by
  refine run_start Try.func140 rfl Try.ntmps140 Try.results140 rfl rfl fun hO => ?_
  unfold f140 at hk
  refine wpL_sq ?_
  refine wpL_rg ?_
  refine pA (.int _ _) ?_
  refine pE ?_
  refine gn ?_
  refine wpL_sq ?_
  refine wpL_rg ?_
  refine pM (.int _ _) ?_
  refine pM (.lit _ _ _) ?_
  refine pLen tS45 ?_
  refine pBi ?_
  refine pA (.int _ _) ?_
  refine pE ?_
  refine gn ?_
  refine wpL_sq ?_
  refine wpL_sq ?_
  refine wpL_rg ?_
  refine pM (.int _ _) ?_
  refine pBi ?_
  refine pE ?_
  refine gn ?_
  refine wpL_cd (b := decide ((w64 (aLeft1 - (aA0.length : Int))) < (0:Int))) (fun hb => ?_) (fun hb => ?_)
  · replace hk := ct hb hk
    refine wpL_sq ?_
    refine wpL_rg ?_
    refine pA (.int _ _) ?_
    refine pE ?_
    refine gn ?_
    refine wpL_rt ?_
    refine gr ?_
    replace hk := Option.some.inj hk; subst hk; exact fin0 hO
  · replace hk := cf hb hk
    refine wpL_sk ?_
    refine gn ?_
    refine wpL_sq ?_
    refine wpL_sq ?_
    refine wpL_rg ?_
    refine pA (.int _ _) ?_
    refine pE ?_
    refine gn ?_
    refine wpL_bl ?_
    refine wpL_loopO (F := f140_L1 aA0) (fun s S' => ∃ (J : Nat → V) (G : Heap), Owns H G [] ∧ S' = ⟨hav [(0, .lit l1 aA0.length (flat aA0)), (1, .int .i64 s.1), (5, .int .i64 s.2)] J, G⟩) hk ⟨_, _, hO, St.hav _ ⟨rfl, rfl, rfl, trivial⟩⟩ ?_
    rintro ⟨x1, x2⟩ _ y1 ⟨J, G, hO, rfl⟩ hk hx1
    refine wpL_sq ?_
    refine wpL_sq ?_
    refine wpL_rg ?_
    refine pM (.int _ _) ?_
    refine pM (.lit _ _ _) ?_
    refine pLen tS45 ?_
    refine pBi ?_
    refine pE ?_
    refine gn ?_
    refine wpL_cd (b := decide (x2 < (aA0.length : Int))) (fun hb => ?_) (fun hb => ?_)
    · replace hk := ct hb hk
      refine wpL_sk ?_
      refine gn ?_
      refine wpL_sq ?_
      refine wpL_bl ?_
      refine wpL_sq ?_
      refine wpL_rg ?_
      refine pM (.lit _ _ _) ?_
      refine pM (.int _ _) ?_
      obtain ⟨c3, hc3, hk⟩ := bs hk
      refine pX hc3 tE45 tZ38 ?_
      refine pLp (.lit _ _ _) (rd1 (off := 0) hc3 tA38) ?_
      refine pM (.int _ _) ?_
      obtain ⟨v4, hv4, hk⟩ := bs hk
      refine pCall (fun _ => f139_run hv4) ?_
      refine pA (.int _ _) ?_
      refine pE ?_
      refine gn ?_
      refine wpL_sq ?_
      refine wpL_rg ?_
      refine pM (.int _ _) ?_
      refine pBi ?_
      refine pE ?_
      refine gn ?_
      refine wpL_cd (b := decide (v4 < (0:Int))) (fun hb => ?_) (fun hb => ?_)
      · replace hk := ct hb hk
        refine wpL_sq ?_
        refine wpL_rg ?_
        refine pA (.int _ _) ?_
        refine pE ?_
        refine gn ?_
        refine wpL_rt ?_
        refine br (gr (gr (br (gr ?_))))
        replace hk := lx hx1 hk
        replace hk := Option.some.inj hk; subst hk; exact fin0 hO
      · replace hk := cf hb hk
        refine wpL_sk ?_
        refine bn (gn ?_)
        refine wpL_rg ?_
        refine pM (.int _ _) ?_
        refine pBi ?_
        refine pA (.int _ _) ?_
        refine pE ?_
        refine gn ?_
        cases hk; exact ⟨_, rfl, _, _, hO, St.hav _ ⟨rfl, rfl, rfl, trivial⟩⟩
    · replace hk := cf hb hk
      refine wpL_ex ?_
      refine ge (ge (be (gn ?_)))
      replace hk := lx hx1 hk
      refine wpL_sq ?_
      refine wpL_rg ?_
      refine pM (.int _ _) ?_
      refine pA (.int _ _) ?_
      refine pE ?_
      refine gn ?_
      refine wpL_rt ?_
      replace hk := Option.some.inj hk; subst hk; exact fin0 hO
/-- laws.szPlan -/
def f51 (aA0 : Plan) (aLeft1 : Int) : Option Int :=
  ((f138 aA0.Switches aLeft1).bind fun v2 => (bif decide (v2 < (0:Int)) then some (-1:Int) else ((f166 aA0.Ways v2).bind fun v3 => (bif decide (v3 < (0:Int)) then some (-1:Int) else ((f140 aA0.Bars v3).bind fun v4 => (bif decide (v4 < (0:Int)) then some (-1:Int) else some v4))))))
theorem f51_run {aA0 : Plan} {aLeft1 : Int} {r : Int} {l1 l2 l3 : Nat} {H : Heap} {lk : Lk} (hk : f51 aA0 aLeft1 = some r) (hlk : 0 < lk.length := by simp) : runL Try.prog hh 51 [.agg [.int .i64 aA0.Sections, .lit l1 aA0.Switches.length (flat aA0.Switches), .lit l2 aA0.Ways.length (flat aA0.Ways), .lit l3 aA0.Bars.length (flat aA0.Bars), .int .i64 aA0.Hold], .int .i64 aLeft1] H lk = some (.int .i64 r, H) := by
  refine run_start Try.func51 rfl Try.ntmps51 Try.results51 rfl rfl fun hO => ?_
  unfold f51 at hk
  refine wpL_sq ?_
  refine wpL_rg ?_
  refine pBox (cs := [_, _, _, _, _]) hO tZ74 (fun b1 G hO => ?_)
  refine pA (.int _ _) ?_
  refine pE ?_
  refine gn ?_
  refine wpL_sq ?_
  refine wpL_rg ?_
  refine pF tF74_1 ?_
  refine pLo hO 0 (.lit _ _ _) tA26 ?_
  refine pM (.int _ _) ?_
  obtain ⟨v2, hv2, hk⟩ := bs hk
  refine pCall (fun _ => f138_run hv2) ?_
  refine pA (.int _ _) ?_
  refine pE ?_
  refine gn ?_
  refine wpL_sq ?_
  refine wpL_sq ?_
  refine wpL_rg ?_
  refine pM (.int _ _) ?_
  refine pBi ?_
  refine pE ?_
  refine gn ?_
  refine wpL_cd (b := decide (v2 < (0:Int))) (fun hb => ?_) (fun hb => ?_)
  · replace hk := ct hb hk
    refine wpL_sq ?_
    refine wpL_rg ?_
    refine pA (.int _ _) ?_
    refine pE ?_
    refine gn ?_
    refine wpL_rt ?_
    refine gr ?_
    replace hk := Option.some.inj hk; subst hk; exact fin0 hO
  · replace hk := cf hb hk
    refine wpL_sk ?_
    refine gn ?_
    refine wpL_sq ?_
    refine wpL_rg ?_
    refine pF tF74_2 ?_
    refine pLo hO 0 (.lit _ _ _) tA72 ?_
    refine pM (.int _ _) ?_
    obtain ⟨v3, hv3, hk⟩ := bs hk
    refine pCall (fun _ => f166_run hv3) ?_
    refine pA (.int _ _) ?_
    refine pE ?_
    refine gn ?_
    refine wpL_sq ?_
    refine wpL_sq ?_
    refine wpL_rg ?_
    refine pM (.int _ _) ?_
    refine pBi ?_
    refine pE ?_
    refine gn ?_
    refine wpL_cd (b := decide (v3 < (0:Int))) (fun hb => ?_) (fun hb => ?_)
    · replace hk := ct hb hk
      refine wpL_sq ?_
      refine wpL_rg ?_
      refine pA (.int _ _) ?_
      refine pE ?_
      refine gn ?_
      refine wpL_rt ?_
      refine gr ?_
      replace hk := Option.some.inj hk; subst hk; exact fin0 hO
    · replace hk := cf hb hk
      refine wpL_sk ?_
      refine gn ?_
      refine wpL_sq ?_
      refine wpL_rg ?_
      refine pF tF74_3 ?_
      refine pLo hO 0 (.lit _ _ _) tA45 ?_
      refine pM (.int _ _) ?_
      obtain ⟨v4, hv4, hk⟩ := bs hk
      refine pCall (fun _ => f140_run hv4) ?_
      refine pA (.int _ _) ?_
      refine pE ?_
      refine gn ?_
      refine wpL_sq ?_
      refine wpL_sq ?_
      refine wpL_rg ?_
      refine pM (.int _ _) ?_
      refine pBi ?_
      refine pE ?_
      refine gn ?_
      refine wpL_cd (b := decide (v4 < (0:Int))) (fun hb => ?_) (fun hb => ?_)
      · replace hk := ct hb hk
        refine wpL_sq ?_
        refine wpL_rg ?_
        refine pA (.int _ _) ?_
        refine pE ?_
        refine gn ?_
        refine wpL_rt ?_
        refine gr ?_
        replace hk := Option.some.inj hk; subst hk; exact fin0 hO
      · replace hk := cf hb hk
        refine wpL_sk ?_
        refine gn ?_
        refine wpL_sq ?_
        refine wpL_rg ?_
        refine pM (.int _ _) ?_
        refine pA (.int _ _) ?_
        refine pE ?_
        refine gn ?_
        refine wpL_rt ?_
        replace hk := Option.some.inj hk; subst hk; exact fin0 hO
/-- laws.toIntS -/
def f97_L1 (aA0 : List Int) : ((List Int) × Int) → Option (((List Int) × Int) ⊕ (List Int)) := fun s =>
  (bif decide (s.2 < (aA0.length : Int)) then ((getI aA0 s.2).bind fun c5 => ((getI s.1 s.2).bind fun c6 => some (.inl (s.1.set s.2.toNat c5, w64 (s.2 + (1:Int)))))) else ((some s.1).map Sum.inr))
def f97 (aA0 : List Int) : Option (List Int) :=
  ((makeB 8 (aA0.length : Int)).bind fun m1 => (loopO (f97_L1 aA0) (List.replicate m1 (0 : Int), (0:Int))))
theorem f97_run {aA0 : List Int} {r : (List Int)} {l1 : Nat} {H : Heap} {lk : Lk} (hk : f97 aA0 = some r) (hlk : 0 < lk.length := by simp) : runL Try.prog hh 97 [.lit l1 aA0.length (flat aA0)] H lk = some (.lit 0 r.length (flat r), H) := by
  refine run_start Try.func97 rfl Try.ntmps97 Try.results97 rfl rfl fun hO => ?_
  unfold f97 at hk
  refine wpL_sq ?_
  refine wpL_rg ?_
  refine pA (.tl 0 []) ?_
  refine pE ?_
  refine gn ?_
  refine wpL_sq ?_
  refine wpL_rg ?_
  refine pM (.lit _ _ _) ?_
  refine pLen tS26 ?_
  obtain ⟨m1, hm1, hk⟩ := bs hk
  refine pMk hO hm1 (0 : Int) tE26 tZ3 tB3 t03 (fun b2 G hO => ?_)
  refine pA (.sl _ _ _) ?_
  refine pE ?_
  refine gn ?_
  refine wpL_sq ?_
  refine wpL_sq ?_
  refine wpL_rg ?_
  refine pA (.int _ _) ?_
  refine pE ?_
  refine gn ?_
  refine wpL_bl ?_
  refine wpL_loopO (F := f97_L1 aA0) (fun s S' => ∃ (J : Nat → V) (G : Heap), s.1.length = m1 ∧ Owns H G [.blk b2 (.cells 1 (flat s.1))] ∧ S' = ⟨hav [(0, .lit l1 aA0.length (flat aA0)), (3, .sl b2 0 m1), (4, .int .i64 s.2)] J, G⟩) hk ⟨_, _, List.length_replicate, hO, St.hav _ ⟨rfl, rfl, rfl, trivial⟩⟩ ?_
  rintro ⟨x3, x4⟩ _ y1 ⟨J, G, hl3, hO, rfl⟩ hk hx1
  refine wpL_sq ?_
  refine wpL_sq ?_
  refine wpL_rg ?_
  refine pM (.int _ _) ?_
  refine pM (.lit _ _ _) ?_
  refine pLen tS26 ?_
  refine pBi ?_
  refine pE ?_
  refine gn ?_
  refine wpL_cd (b := decide (x4 < (aA0.length : Int))) (fun hb => ?_) (fun hb => ?_)
  · replace hk := ct hb hk
    refine wpL_sk ?_
    refine gn ?_
    refine wpL_sq ?_
    refine wpL_bl ?_
    refine wpL_rg ?_
    refine pM (.sl _ _ _) ?_
    refine pM (.int _ _) ?_
    refine pM (.lit _ _ _) ?_
    refine pM (.int _ _) ?_
    obtain ⟨c5, hc5, hk⟩ := bs hk
    refine pX hc5 tE26 tZ3 ?_
    refine pLp (.int _ _) (rd1 (off := 0) hc5 tA3) ?_
    obtain ⟨c6, hc6, hk⟩ := bs hk
    refine pXm hl3 hc6 tE26 tZ3 ?_
    refine pSm hO 0 hc6 tZ3 rfl c5 (.int _ _) (fun G hO => ?_)
    refine pE ?_
    refine bn (gn ?_)
    refine wpL_rg ?_
    refine pM (.int _ _) ?_
    refine pBi ?_
    refine pA (.int _ _) ?_
    refine pE ?_
    refine gn ?_
    cases hk; exact ⟨_, rfl, _, _, (List.length_set.trans hl3), hO, St.hav _ ⟨rfl, rfl, rfl, trivial⟩⟩
  · replace hk := cf hb hk
    refine wpL_ex ?_
    refine ge (ge (be (gn ?_)))
    replace hk := lx hx1 hk
    refine wpL_sq ?_
    refine wpL_rg ?_
    refine pM (.sl _ _ _) ?_
    refine pA (.sl _ _ _) ?_
    refine pE ?_
    refine gn ?_
    refine wpL_rt ?_
    replace hk := Option.some.inj hk; subst hk; exact finZ hO (fz_made (xs := x3) hl3 hlk 0) (resT (.sl _ _ _) resN)
/-- laws.toTurn -/
def f350 (aA0 : Turn) : Option Turn :=
  some aA0
theorem f350_run {aA0 : Turn} {r : Turn} {H : Heap} {lk : Lk} (hk : f350 aA0 = some r) (hlk : 0 < lk.length := by simp) : runL Try.prog hh 350 [.agg [.int .i64 aA0.Switch, .int .i64 aA0.Lie]] H lk = some (.agg [.int .i64 r.Switch, .int .i64 r.Lie], H) := by
  refine run_start Try.func350 rfl Try.ntmps350 Try.results350 rfl rfl fun hO => ?_
  unfold f350 at hk
  refine wpL_sq ?_
  refine wpL_rg ?_
  refine pBox (cs := [_, _]) hO tZ390 (fun b1 G hO => ?_)
  refine pNew hO tZ307 t0307 (fun b2 G hO => ?_)
  refine pE ?_
  refine gn ?_
  refine wpL_sq ?_
  refine wpL_rg ?_
  refine pNew hO tZ307 t0307 (fun b3 G hO => ?_)
  refine pE ?_
  refine gn ?_
  refine wpL_sq ?_
  refine wpL_rg ?_
  refine pF tF390_0 ?_
  refine pLo hO 2 (.int _ _) tA3 ?_
  refine pF tF307_0 ?_
  refine pSt (xs := [_]) hO 0 tZ3 rfl (fun G hO => ?_)
  refine pE ?_
  refine gn ?_
  refine wpL_sq ?_
  refine wpL_rg ?_
  refine pF tF390_1 ?_
  refine pLo hO 2 (.int _ _) tA3 ?_
  refine pF tF307_1 ?_
  refine pSt (xs := [_]) hO 0 tZ3 rfl (fun G hO => ?_)
  refine pE ?_
  refine gn ?_
  refine wpL_sq ?_
  refine wpL_rg ?_
  refine pLs hO 0 [_, _] tA307 tZ307 ?_
  refine pSt (xs := [_, _]) hO 1 tZ307 rfl (fun G hO => ?_)
  refine pE ?_
  refine gn ?_
  refine wpL_rt ?_
  replace hk := Option.some.inj hk; subst hk; exact finZ hO (fz_agg (n := 2) (fz_c (fz_int _ _) (fz_c (fz_int _ _) (fz_n)))) (resS hO 1 [_, _] tA307 tZ307 resN)
/-- laws.toTurnS -/
def f325_L1 (aA0 : List Turn) : ((List Turn) × Int) → Option (((List Turn) × Int) ⊕ (List Turn)) := fun s =>
  (bif decide (s.2 < (aA0.length : Int)) then ((getI aA0 s.2).bind fun c5 => ((f350 c5).bind fun v6 => ((getI s.1 s.2).bind fun c7 => some (.inl (s.1.set s.2.toNat v6, w64 (s.2 + (1:Int))))))) else ((some s.1).map Sum.inr))
def f325 (aA0 : List Turn) : Option (List Turn) :=
  ((makeB 16 (aA0.length : Int)).bind fun m1 => (loopO (f325_L1 aA0) (List.replicate m1 (⟨0, 0⟩ : Turn), (0:Int))))
theorem f325_run {aA0 : List Turn} {r : (List Turn)} {l1 : Nat} {H : Heap} {lk : Lk} (hk : f325 aA0 = some r) (hlk : 0 < lk.length := by simp) : runL Try.prog hh 325 [.lit l1 aA0.length (flat aA0)] H lk = some (.lit 0 r.length (flat r), H) := by
  refine run_start Try.func325 rfl Try.ntmps325 Try.results325 rfl rfl fun hO => ?_
  unfold f325 at hk
  refine wpL_sq ?_
  refine wpL_rg ?_
  refine pA (.tl 0 []) ?_
  refine pE ?_
  refine gn ?_
  refine wpL_sq ?_
  refine wpL_rg ?_
  refine pM (.lit _ _ _) ?_
  refine pLen tS302 ?_
  obtain ⟨m1, hm1, hk⟩ := bs hk
  refine pMk hO hm1 (⟨0, 0⟩ : Turn) tE216 tZ307 tB307 t0307 (fun b2 G hO => ?_)
  refine pA (.sl _ _ _) ?_
  refine pE ?_
  refine gn ?_
  refine wpL_sq ?_
  refine wpL_sq ?_
  refine wpL_rg ?_
  refine pA (.int _ _) ?_
  refine pE ?_
  refine gn ?_
  refine wpL_bl ?_
  refine wpL_loopO (F := f325_L1 aA0) (fun s S' => ∃ (J : Nat → V) (G : Heap), s.1.length = m1 ∧ Owns H G [.blk b2 (.cells 2 (flat s.1))] ∧ S' = ⟨hav [(0, .lit l1 aA0.length (flat aA0)), (3, .sl b2 0 m1), (4, .int .i64 s.2)] J, G⟩) hk ⟨_, _, List.length_replicate, hO, St.hav _ ⟨rfl, rfl, rfl, trivial⟩⟩ ?_
  rintro ⟨x3, x4⟩ _ y1 ⟨J, G, hl3, hO, rfl⟩ hk hx1
  refine wpL_sq ?_
  refine wpL_sq ?_
  refine wpL_rg ?_
  refine pM (.int _ _) ?_
  refine pM (.lit _ _ _) ?_
  refine pLen tS302 ?_
  refine pBi ?_
  refine pE ?_
  refine gn ?_
  refine wpL_cd (b := decide (x4 < (aA0.length : Int))) (fun hb => ?_) (fun hb => ?_)
  · replace hk := ct hb hk
    refine wpL_sk ?_
    refine gn ?_
    refine wpL_sq ?_
    refine wpL_bl ?_
    refine wpL_rg ?_
    refine pM (.sl _ _ _) ?_
    refine pM (.int _ _) ?_
    refine pM (.lit _ _ _) ?_
    refine pM (.int _ _) ?_
    obtain ⟨c5, hc5, hk⟩ := bs hk
    refine pX hc5 tE302 tZ390 ?_
    refine pLp (.agg [_, _]) (rd2 (off := 0) hc5 tA390 tZ390) ?_
    obtain ⟨v6, hv6, hk⟩ := bs hk
    refine pCall (fun _ => f350_run hv6) ?_
    obtain ⟨c7, hc7, hk⟩ := bs hk
    refine pXm hl3 hc7 tE216 tZ307 ?_
    refine pSm hO 0 hc7 tZ307 rfl v6 (.agg [_, _]) (fun G hO => ?_)
    refine pE ?_
    refine bn (gn ?_)
    refine wpL_rg ?_
    refine pM (.int _ _) ?_
    refine pBi ?_
    refine pA (.int _ _) ?_
    refine pE ?_
    refine gn ?_
    cases hk; exact ⟨_, rfl, _, _, (List.length_set.trans hl3), hO, St.hav _ ⟨rfl, rfl, rfl, trivial⟩⟩
  · replace hk := cf hb hk
    refine wpL_ex ?_
    refine ge (ge (be (gn ?_)))
    replace hk := lx hx1 hk
    refine wpL_sq ?_
    refine wpL_rg ?_
    refine pM (.sl _ _ _) ?_
    refine pA (.sl _ _ _) ?_
    refine pE ?_
    refine gn ?_
    refine wpL_rt ?_
    replace hk := Option.some.inj hk; subst hk; exact finZ hO (fz_made (xs := x3) hl3 hlk 0) (resT (.sl _ _ _) resN)
/-- laws.toWay -/
def f269 (aA0 : Way) : Option Way :=
  ((f97 aA0.Sections).bind fun v4 => ((f325 aA0.Lies).bind fun v5 => ((f325 aA0.Flanks).bind fun v6 => ((f97 aA0.Over).bind fun v7 => ((f97 aA0.Near).bind fun v8 => some ({ Sections := v4, Lies := v5, Flanks := v6, Over := v7, Near := v8 } : Way))))))
theorem f269_run {aA0 : Way} {r : Way} {l1 l2 l3 l4 l5 : Nat} {H : Heap} {lk : Lk} (hk : f269 aA0 = some r) (hlk : 0 < lk.length := by simp) : runL Try.prog hh 269 [.agg [.lit l1 aA0.Sections.length (flat aA0.Sections), .lit l2 aA0.Lies.length (flat aA0.Lies), .lit l3 aA0.Flanks.length (flat aA0.Flanks), .lit l4 aA0.Over.length (flat aA0.Over), .lit l5 aA0.Near.length (flat aA0.Near)]] H lk = some (.agg [.lit 0 r.Sections.length (flat r.Sections), .lit 0 r.Lies.length (flat r.Lies), .lit 0 r.Flanks.length (flat r.Flanks), .lit 0 r.Over.length (flat r.Over), .lit 0 r.Near.length (flat r.Near)], H) := by
  refine run_start Try.func269 rfl Try.ntmps269 Try.results269 rfl rfl fun hO => ?_
  unfold f269 at hk
  refine wpL_sq ?_
  refine wpL_rg ?_
  refine pBox (cs := [_, _, _, _, _]) hO tZ304 (fun b1 G hO => ?_)
  refine pNew hO tZ218 t0218 (fun b2 G hO => ?_)
  refine pE ?_
  refine gn ?_
  refine wpL_sq ?_
  refine wpL_rg ?_
  refine pNew hO tZ218 t0218 (fun b3 G hO => ?_)
  refine pE ?_
  refine gn ?_
  refine wpL_sq ?_
  refine wpL_rg ?_
  refine pF tF304_0 ?_
  refine pLo hO 2 (.lit _ _ _) tA26 ?_
  obtain ⟨v4, hv4, hk⟩ := bs hk
  refine pCall (fun _ => f97_run hv4) ?_
  refine pF tF218_0 ?_
  refine pSt (xs := [_]) hO 0 tZ26 rfl (fun G hO => ?_)
  refine pE ?_
  refine gn ?_
  refine wpL_sq ?_
  refine wpL_rg ?_
  refine pF tF304_1 ?_
  refine pLo hO 2 (.lit _ _ _) tA302 ?_
  obtain ⟨v5, hv5, hk⟩ := bs hk
  refine pCall (fun _ => f325_run hv5) ?_
  refine pF tF218_1 ?_
  refine pSt (xs := [_]) hO 0 tZ216 rfl (fun G hO => ?_)
  refine pE ?_
  refine gn ?_
  refine wpL_sq ?_
  refine wpL_rg ?_
  refine pF tF304_2 ?_
  refine pLo hO 2 (.lit _ _ _) tA302 ?_
  obtain ⟨v6, hv6, hk⟩ := bs hk
  refine pCall (fun _ => f325_run hv6) ?_
  refine pF tF218_2 ?_
  refine pSt (xs := [_]) hO 0 tZ216 rfl (fun G hO => ?_)
  refine pE ?_
  refine gn ?_
  refine wpL_sq ?_
  refine wpL_rg ?_
  refine pF tF304_3 ?_
  refine pLo hO 2 (.lit _ _ _) tA26 ?_
  obtain ⟨v7, hv7, hk⟩ := bs hk
  refine pCall (fun _ => f97_run hv7) ?_
  refine pF tF218_3 ?_
  refine pSt (xs := [_]) hO 0 tZ26 rfl (fun G hO => ?_)
  refine pE ?_
  refine gn ?_
  refine wpL_sq ?_
  refine wpL_rg ?_
  refine pF tF304_4 ?_
  refine pLo hO 2 (.lit _ _ _) tA26 ?_
  obtain ⟨v8, hv8, hk⟩ := bs hk
  refine pCall (fun _ => f97_run hv8) ?_
  refine pF tF218_4 ?_
  refine pSt (xs := [_]) hO 0 tZ26 rfl (fun G hO => ?_)
  refine pE ?_
  refine gn ?_
  refine wpL_sq ?_
  refine wpL_rg ?_
  refine pLs hO 0 [_, _, _, _, _] tA218 tZ218 ?_
  refine pSt (xs := [_, _, _, _, _]) hO 1 tZ218 rfl (fun G hO => ?_)
  refine pE ?_
  refine gn ?_
  refine wpL_rt ?_
  replace hk := Option.some.inj hk; subst hk; exact finZ hO (fz_agg (n := 2) (fz_c (fz_lit hlk v4) (fz_c (fz_lit hlk v5) (fz_c (fz_lit hlk v6) (fz_c (fz_lit hlk v7) (fz_c (fz_lit hlk v8) (fz_n))))))) (resS hO 1 [_, _, _, _, _] tA218 tZ218 resN)
/-- laws.toWayS -/
def f170_L1 (aA0 : List Way) : ((List Way) × Int) → Option (((List Way) × Int) ⊕ (List Way)) := fun s =>
  (bif decide (s.2 < (aA0.length : Int)) then ((getI aA0 s.2).bind fun c5 => ((f269 c5).bind fun v6 => ((getI s.1 s.2).bind fun c7 => some (.inl (s.1.set s.2.toNat v6, w64 (s.2 + (1:Int))))))) else ((some s.1).map Sum.inr))
def f170 (aA0 : List Way) : Option (List Way) :=
  ((makeB 120 (aA0.length : Int)).bind fun m1 => (loopO (f170_L1 aA0) (List.replicate m1 (⟨[], [], [], [], []⟩ : Way), (0:Int))))
theorem f170_run {aA0 : List Way} {r : (List Way)} {l1 : Nat} {H : Heap} {lk : Lk} (hk : f170 aA0 = some r) (hlk : 0 < lk.length := by simp) : runL Try.prog hh 170 [.lit l1 aA0.length (flat aA0)] H lk = some (.lit 0 r.length (flat r), H) := by
  refine run_start Try.func170 rfl Try.ntmps170 Try.results170 rfl rfl fun hO => ?_
  unfold f170 at hk
  refine wpL_sq ?_
  refine wpL_rg ?_
  refine pA (.tl 0 []) ?_
  refine pE ?_
  refine gn ?_
  refine wpL_sq ?_
  refine wpL_rg ?_
  refine pM (.lit _ _ _) ?_
  refine pLen tS72 ?_
  obtain ⟨m1, hm1, hk⟩ := bs hk
  refine pMk hO hm1 (⟨[], [], [], [], []⟩ : Way) tE79 tZ218 tB218 t0218 (fun b2 G hO => ?_)
  refine pA (.sl _ _ _) ?_
  refine pE ?_
  refine gn ?_
  refine wpL_sq ?_
  refine wpL_sq ?_
  refine wpL_rg ?_
  refine pA (.int _ _) ?_
  refine pE ?_
  refine gn ?_
  refine wpL_bl ?_
  refine wpL_loopO (F := f170_L1 aA0) (fun s S' => ∃ (J : Nat → V) (G : Heap), s.1.length = m1 ∧ Owns H G [.blk b2 (.cells 5 (flat s.1))] ∧ S' = ⟨hav [(0, .lit l1 aA0.length (flat aA0)), (3, .sl b2 0 m1), (4, .int .i64 s.2)] J, G⟩) hk ⟨_, _, List.length_replicate, hO, St.hav _ ⟨rfl, rfl, rfl, trivial⟩⟩ ?_
  rintro ⟨x3, x4⟩ _ y1 ⟨J, G, hl3, hO, rfl⟩ hk hx1
  refine wpL_sq ?_
  refine wpL_sq ?_
  refine wpL_rg ?_
  refine pM (.int _ _) ?_
  refine pM (.lit _ _ _) ?_
  refine pLen tS72 ?_
  refine pBi ?_
  refine pE ?_
  refine gn ?_
  refine wpL_cd (b := decide (x4 < (aA0.length : Int))) (fun hb => ?_) (fun hb => ?_)
  · replace hk := ct hb hk
    refine wpL_sk ?_
    refine gn ?_
    refine wpL_sq ?_
    refine wpL_bl ?_
    refine wpL_rg ?_
    refine pM (.sl _ _ _) ?_
    refine pM (.int _ _) ?_
    refine pM (.lit _ _ _) ?_
    refine pM (.int _ _) ?_
    obtain ⟨c5, hc5, hk⟩ := bs hk
    refine pX hc5 tE72 tZ304 ?_
    refine pLp (.agg [_, _, _, _, _]) (rd2 (off := 0) hc5 tA304 tZ304) ?_
    obtain ⟨v6, hv6, hk⟩ := bs hk
    refine pCall (fun _ => f269_run hv6) ?_
    obtain ⟨c7, hc7, hk⟩ := bs hk
    refine pXm hl3 hc7 tE79 tZ218 ?_
    refine pSm hO 0 hc7 tZ218 rfl v6 (.agg [_, _, _, _, _]) (fun G hO => ?_)
    refine pE ?_
    refine bn (gn ?_)
    refine wpL_rg ?_
    refine pM (.int _ _) ?_
    refine pBi ?_
    refine pA (.int _ _) ?_
    refine pE ?_
    refine gn ?_
    cases hk; exact ⟨_, rfl, _, _, (List.length_set.trans hl3), hO, St.hav _ ⟨rfl, rfl, rfl, trivial⟩⟩
  · replace hk := cf hb hk
    refine wpL_ex ?_
    refine ge (ge (be (gn ?_)))
    replace hk := lx hx1 hk
    refine wpL_sq ?_
    refine wpL_rg ?_
    refine pM (.sl _ _ _) ?_
    refine pA (.sl _ _ _) ?_
    refine pE ?_
    refine gn ?_
    refine wpL_rt ?_
    replace hk := Option.some.inj hk; subst hk; exact finZ hO (fz_made (xs := x3) hl3 hlk 0) (resT (.sl _ _ _) resN)
/-- laws.toBoolS -/
def f143_L1 (aA0 : List Bool) : ((List Bool) × Int) → Option (((List Bool) × Int) ⊕ (List Bool)) := fun s =>
  (bif decide (s.2 < (aA0.length : Int)) then ((getI aA0 s.2).bind fun c5 => ((getI s.1 s.2).bind fun c6 => some (.inl (s.1.set s.2.toNat c5, w64 (s.2 + (1:Int)))))) else ((some s.1).map Sum.inr))
def f143 (aA0 : List Bool) : Option (List Bool) :=
  ((makeB 1 (aA0.length : Int)).bind fun m1 => (loopO (f143_L1 aA0) (List.replicate m1 (false : Bool), (0:Int))))
theorem f143_run {aA0 : List Bool} {r : (List Bool)} {l1 : Nat} {H : Heap} {lk : Lk} (hk : f143 aA0 = some r) (hlk : 0 < lk.length := by simp) : runL Try.prog hh 143 [.lit l1 aA0.length (flat aA0)] H lk = some (.lit 0 r.length (flat r), H) := by
  refine run_start Try.func143 rfl Try.ntmps143 Try.results143 rfl rfl fun hO => ?_
  unfold f143 at hk
  refine wpL_sq ?_
  refine wpL_rg ?_
  refine pA (.tl 0 []) ?_
  refine pE ?_
  refine gn ?_
  refine wpL_sq ?_
  refine wpL_rg ?_
  refine pM (.lit _ _ _) ?_
  refine pLen tS38 ?_
  obtain ⟨m1, hm1, hk⟩ := bs hk
  refine pMk hO hm1 (false : Bool) tE38 tZ4 tB4 t04 (fun b2 G hO => ?_)
  refine pA (.sl _ _ _) ?_
  refine pE ?_
  refine gn ?_
  refine wpL_sq ?_
  refine wpL_sq ?_
  refine wpL_rg ?_
  refine pA (.int _ _) ?_
  refine pE ?_
  refine gn ?_
  refine wpL_bl ?_
  refine wpL_loopO (F := f143_L1 aA0) (fun s S' => ∃ (J : Nat → V) (G : Heap), s.1.length = m1 ∧ Owns H G [.blk b2 (.cells 1 (flat s.1))] ∧ S' = ⟨hav [(0, .lit l1 aA0.length (flat aA0)), (3, .sl b2 0 m1), (4, .int .i64 s.2)] J, G⟩) hk ⟨_, _, List.length_replicate, hO, St.hav _ ⟨rfl, rfl, rfl, trivial⟩⟩ ?_
  rintro ⟨x3, x4⟩ _ y1 ⟨J, G, hl3, hO, rfl⟩ hk hx1
  refine wpL_sq ?_
  refine wpL_sq ?_
  refine wpL_rg ?_
  refine pM (.int _ _) ?_
  refine pM (.lit _ _ _) ?_
  refine pLen tS38 ?_
  refine pBi ?_
  refine pE ?_
  refine gn ?_
  refine wpL_cd (b := decide (x4 < (aA0.length : Int))) (fun hb => ?_) (fun hb => ?_)
  · replace hk := ct hb hk
    refine wpL_sk ?_
    refine gn ?_
    refine wpL_sq ?_
    refine wpL_bl ?_
    refine wpL_rg ?_
    refine pM (.sl _ _ _) ?_
    refine pM (.int _ _) ?_
    refine pM (.lit _ _ _) ?_
    refine pM (.int _ _) ?_
    obtain ⟨c5, hc5, hk⟩ := bs hk
    refine pX hc5 tE38 tZ4 ?_
    refine pLp (.bool _) (rd1 (off := 0) hc5 tA4) ?_
    obtain ⟨c6, hc6, hk⟩ := bs hk
    refine pXm hl3 hc6 tE38 tZ4 ?_
    refine pSm hO 0 hc6 tZ4 rfl c5 (.bool _) (fun G hO => ?_)
    refine pE ?_
    refine bn (gn ?_)
    refine wpL_rg ?_
    refine pM (.int _ _) ?_
    refine pBi ?_
    refine pA (.int _ _) ?_
    refine pE ?_
    refine gn ?_
    cases hk; exact ⟨_, rfl, _, _, (List.length_set.trans hl3), hO, St.hav _ ⟨rfl, rfl, rfl, trivial⟩⟩
  · replace hk := cf hb hk
    refine wpL_ex ?_
    refine ge (ge (be (gn ?_)))
    replace hk := lx hx1 hk
    refine wpL_sq ?_
    refine wpL_rg ?_
    refine pM (.sl _ _ _) ?_
    refine pA (.sl _ _ _) ?_
    refine pE ?_
    refine gn ?_
    refine wpL_rt ?_
    replace hk := Option.some.inj hk; subst hk; exact finZ hO (fz_made (xs := x3) hl3 hlk 0) (resT (.sl _ _ _) resN)
/-- laws.toBoolSS -/
def f144_L1 (aA0 : List (List Bool)) : ((List (List Bool)) × Int) → Option (((List (List Bool)) × Int) ⊕ (List (List Bool))) := fun s =>
  (bif decide (s.2 < (aA0.length : Int)) then ((getI aA0 s.2).bind fun c5 => ((f143 c5).bind fun v6 => ((getI s.1 s.2).bind fun c7 => some (.inl (s.1.set s.2.toNat v6, w64 (s.2 + (1:Int))))))) else ((some s.1).map Sum.inr))
def f144 (aA0 : List (List Bool)) : Option (List (List Bool)) :=
  ((makeB 24 (aA0.length : Int)).bind fun m1 => (loopO (f144_L1 aA0) (List.replicate m1 ([] : List Bool), (0:Int))))
theorem f144_run {aA0 : List (List Bool)} {r : (List (List Bool))} {l1 : Nat} {H : Heap} {lk : Lk} (hk : f144 aA0 = some r) (hlk : 0 < lk.length := by simp) : runL Try.prog hh 144 [.lit l1 aA0.length (flat aA0)] H lk = some (.lit 0 r.length (flat r), H) := by
  refine run_start Try.func144 rfl Try.ntmps144 Try.results144 rfl rfl fun hO => ?_
  unfold f144 at hk
  refine wpL_sq ?_
  refine wpL_rg ?_
  refine pA (.tl 0 []) ?_
  refine pE ?_
  refine gn ?_
  refine wpL_sq ?_
  refine wpL_rg ?_
  refine pM (.lit _ _ _) ?_
  refine pLen tS45 ?_
  obtain ⟨m1, hm1, hk⟩ := bs hk
  refine pMk hO hm1 ([] : List Bool) tE45 tZ38 tB38 t038 (fun b2 G hO => ?_)
  refine pA (.sl _ _ _) ?_
  refine pE ?_
  refine gn ?_
  refine wpL_sq ?_
  refine wpL_sq ?_
  refine wpL_rg ?_
  refine pA (.int _ _) ?_
  refine pE ?_
  refine gn ?_
  refine wpL_bl ?_
  refine wpL_loopO (F := f144_L1 aA0) (fun s S' => ∃ (J : Nat → V) (G : Heap), s.1.length = m1 ∧ Owns H G [.blk b2 (.cells 1 (flat s.1))] ∧ S' = ⟨hav [(0, .lit l1 aA0.length (flat aA0)), (3, .sl b2 0 m1), (4, .int .i64 s.2)] J, G⟩) hk ⟨_, _, List.length_replicate, hO, St.hav _ ⟨rfl, rfl, rfl, trivial⟩⟩ ?_
  rintro ⟨x3, x4⟩ _ y1 ⟨J, G, hl3, hO, rfl⟩ hk hx1
  refine wpL_sq ?_
  refine wpL_sq ?_
  refine wpL_rg ?_
  refine pM (.int _ _) ?_
  refine pM (.lit _ _ _) ?_
  refine pLen tS45 ?_
  refine pBi ?_
  refine pE ?_
  refine gn ?_
  refine wpL_cd (b := decide (x4 < (aA0.length : Int))) (fun hb => ?_) (fun hb => ?_)
  · replace hk := ct hb hk
    refine wpL_sk ?_
    refine gn ?_
    refine wpL_sq ?_
    refine wpL_bl ?_
    refine wpL_rg ?_
    refine pM (.sl _ _ _) ?_
    refine pM (.int _ _) ?_
    refine pM (.lit _ _ _) ?_
    refine pM (.int _ _) ?_
    obtain ⟨c5, hc5, hk⟩ := bs hk
    refine pX hc5 tE45 tZ38 ?_
    refine pLp (.lit _ _ _) (rd1 (off := 0) hc5 tA38) ?_
    obtain ⟨v6, hv6, hk⟩ := bs hk
    refine pCall (fun _ => f143_run hv6) ?_
    obtain ⟨c7, hc7, hk⟩ := bs hk
    refine pXm hl3 hc7 tE45 tZ38 ?_
    refine pSm hO 0 hc7 tZ38 rfl v6 (.lit _ _ _) (fun G hO => ?_)
    refine pE ?_
    refine bn (gn ?_)
    refine wpL_rg ?_
    refine pM (.int _ _) ?_
    refine pBi ?_
    refine pA (.int _ _) ?_
    refine pE ?_
    refine gn ?_
    cases hk; exact ⟨_, rfl, _, _, (List.length_set.trans hl3), hO, St.hav _ ⟨rfl, rfl, rfl, trivial⟩⟩
  · replace hk := cf hb hk
    refine wpL_ex ?_
    refine ge (ge (be (gn ?_)))
    replace hk := lx hx1 hk
    refine wpL_sq ?_
    refine wpL_rg ?_
    refine pM (.sl _ _ _) ?_
    refine pA (.sl _ _ _) ?_
    refine pE ?_
    refine gn ?_
    refine wpL_rt ?_
    replace hk := Option.some.inj hk; subst hk; exact finZ hO (fz_made (xs := x3) hl3 hlk 0) (resT (.sl _ _ _) resN)
/-- laws.toPlan -/
def f53 (aA0 : Plan) : Option Plan :=
  ((f97 aA0.Switches).bind fun v4 => ((f170 aA0.Ways).bind fun v5 => ((f144 aA0.Bars).bind fun v6 => some ({ Sections := aA0.Sections, Switches := v4, Ways := v5, Bars := v6, Hold := aA0.Hold } : Plan))))
theorem f53_run {aA0 : Plan} {r : Plan} {l1 l2 l3 : Nat} {H : Heap} {lk : Lk} (hk : f53 aA0 = some r) (hlk : 0 < lk.length := by simp) : runL Try.prog hh 53 [.agg [.int .i64 aA0.Sections, .lit l1 aA0.Switches.length (flat aA0.Switches), .lit l2 aA0.Ways.length (flat aA0.Ways), .lit l3 aA0.Bars.length (flat aA0.Bars), .int .i64 aA0.Hold]] H lk = some (.agg [.int .i64 r.Sections, .lit 0 r.Switches.length (flat r.Switches), .lit 0 r.Ways.length (flat r.Ways), .lit 0 r.Bars.length (flat r.Bars), .int .i64 r.Hold], H) := by
  refine run_start Try.func53 rfl Try.ntmps53 Try.results53 rfl rfl fun hO => ?_
  unfold f53 at hk
  refine wpL_sq ?_
  refine wpL_rg ?_
  refine pBox (cs := [_, _, _, _, _]) hO tZ74 (fun b1 G hO => ?_)
  refine pNew hO tZ81 t081 (fun b2 G hO => ?_)
  refine pE ?_
  refine gn ?_
  refine wpL_sq ?_
  refine wpL_rg ?_
  refine pNew hO tZ81 t081 (fun b3 G hO => ?_)
  refine pE ?_
  refine gn ?_
  refine wpL_sq ?_
  refine wpL_rg ?_
  refine pF tF74_0 ?_
  refine pLo hO 2 (.int _ _) tA3 ?_
  refine pF tF81_0 ?_
  refine pSt (xs := [_]) hO 0 tZ3 rfl (fun G hO => ?_)
  refine pE ?_
  refine gn ?_
  refine wpL_sq ?_
  refine wpL_rg ?_
  refine pF tF74_1 ?_
  refine pLo hO 2 (.lit _ _ _) tA26 ?_
  obtain ⟨v4, hv4, hk⟩ := bs hk
  refine pCall (fun _ => f97_run hv4) ?_
  refine pF tF81_1 ?_
  refine pSt (xs := [_]) hO 0 tZ26 rfl (fun G hO => ?_)
  refine pE ?_
  refine gn ?_
  refine wpL_sq ?_
  refine wpL_rg ?_
  refine pF tF74_2 ?_
  refine pLo hO 2 (.lit _ _ _) tA72 ?_
  obtain ⟨v5, hv5, hk⟩ := bs hk
  refine pCall (fun _ => f170_run hv5) ?_
  refine pF tF81_2 ?_
  refine pSt (xs := [_]) hO 0 tZ79 rfl (fun G hO => ?_)
  refine pE ?_
  refine gn ?_
  refine wpL_sq ?_
  refine wpL_rg ?_
  refine pF tF74_3 ?_
  refine pLo hO 2 (.lit _ _ _) tA45 ?_
  obtain ⟨v6, hv6, hk⟩ := bs hk
  refine pCall (fun _ => f144_run hv6) ?_
  refine pF tF81_3 ?_
  refine pSt (xs := [_]) hO 0 tZ45 rfl (fun G hO => ?_)
  refine pE ?_
  refine gn ?_
  refine wpL_sq ?_
  refine wpL_rg ?_
  refine pF tF74_4 ?_
  refine pLo hO 2 (.int _ _) tA3 ?_
  refine pF tF81_4 ?_
  refine pSt (xs := [_]) hO 0 tZ3 rfl (fun G hO => ?_)
  refine pE ?_
  refine gn ?_
  refine wpL_sq ?_
  refine wpL_rg ?_
  refine pLs hO 0 [_, _, _, _, _] tA81 tZ81 ?_
  refine pSt (xs := [_, _, _, _, _]) hO 1 tZ81 rfl (fun G hO => ?_)
  refine pE ?_
  refine gn ?_
  refine wpL_rt ?_
  replace hk := Option.some.inj hk; subst hk; exact finZ hO (fz_agg (n := 2) (fz_c (fz_int _ _) (fz_c (fz_lit hlk v4) (fz_c (fz_lit hlk v5) (fz_c (fz_lit hlk v6) (fz_c (fz_int _ _) (fz_n))))))) (resS hO 1 [_, _, _, _, _] tA81 tZ81 resN)
/-- spec.l17in -/
def f167 (aX0 : Int) (aA1 : Int) (aB2 : Int) : Option Bool :=
  some (decide (aX0 ≥ aA1) && decide (aX0 ≤ aB2))
theorem f167_run {aX0 : Int} {aA1 : Int} {aB2 : Int} {r : Bool} {H : Heap} {lk : Lk} (hk : f167 aX0 aA1 aB2 = some r) (hlk : 0 < lk.length := by simp) : runL Try.prog hh 167 [.int .i64 aX0, .int .i64 aA1, .int .i64 aB2] H lk = some (.bool r, H) := by
  refine run_start Try.func167 rfl Try.ntmps167 Try.results167 rfl rfl fun hO => ?_
  unfold f167 at hk
  refine wpL_sq ?_
  refine wpL_rg ?_
  refine pA (.bool _) ?_
  refine pE ?_
  refine gn ?_
  refine wpL_sq ?_
  refine wpL_rg ?_
  refine pM (.int _ _) ?_
  refine pM (.int _ _) ?_
  refine pBi ?_
  refine pM (.bool _) ?_
  refine wpR_mid (l1 := [_, _, _, _]) (fun S' => ∃ J, S' = ⟨hav [(14, .bool (decide (aX0 ≥ aA1) && decide (aX0 ≤ aB2)))] J, H⟩) ?_ ?_
  · refine bc (b := decide (aX0 ≥ aA1)) (fun hg1 => ?_) (fun hg1 => ?_)
    · refine pGy hg1 ?_
      refine pM (.int _ _) ?_
      refine pGy hg1 ?_
      refine pM (.int _ _) ?_
      refine pGy hg1 ?_
      refine pBi ?_
      refine pPt hg1 (.bool _) ?_
      exact pE ⟨_, St.hav _ ⟨by rw [hg1]; rfl, trivial⟩⟩
    · refine pGn hg1 ?_
      refine pGn hg1 ?_
      refine pGn hg1 ?_
      refine pPf hg1 (.bool _) ?_
      exact pE ⟨_, St.hav _ ⟨by rw [hg1]; rfl, trivial⟩⟩
  · rintro _ ⟨J, rfl⟩
    refine pA (.bool _) ?_
    refine pE ?_
    refine gn ?_
    refine wpL_rt ?_
    replace hk := Option.some.inj hk; subst hk; exact fin0 hO
/-- spec.l17list -/
def f267_L2 (aList0 : List Int) (x1 : Int) (c2 : Int) : Int → Option (Int ⊕ (Int ⊕ Bool)) := fun s =>
  (bif decide (s < x1) then ((getI aList0 s).bind fun c5 => (bif (c5 == c2) then (((some false).map Sum.inr).map Sum.inr) else some (.inl (w64 (s + (1:Int)))))) else ((some (.inl (w64 (x1 + (1:Int))))).map Sum.inr))
def f267_L1 (aList0 : List Int) (aN1 : Int) : Int → Option (Int ⊕ Bool) := fun s =>
  (bif decide (s < (aList0.length : Int)) then ((getI aList0 s).bind fun c2 => ((f167 c2 (0:Int) (w64 (aN1 - (1:Int)))).bind fun v3 => (bif !v3 then ((some false).map Sum.inr) else (loopO (f267_L2 aList0 s c2) ((0:Int)))))) else ((some (decide ((aList0.length : Int) ≤ (30:Int)))).map Sum.inr))
def f267 (aList0 : List Int) (aN1 : Int) : Option Bool :=
  (loopO (f267_L1 aList0 aN1) ((0:Int)))
theorem f267_run {aList0 : List Int} {aN1 : Int} {r : Bool} {l1 : Nat} {H : Heap} {lk : Lk} (hk : f267 aList0 aN1 = some r) (hlk : 0 < lk.length := by simp) : runL Try.prog hh 267 [.lit l1 aList0.length (flat aList0), .int .i64 aN1] H lk = some (.bool r, H) := by
  refine run_start Try.func267 rfl Try.ntmps267 Try.results267 rfl rfl fun hO => ?_
  unfold f267 at hk
  refine wpL_sq ?_
  refine wpL_rg ?_
  refine pA (.bool _) ?_
  refine pE ?_
  refine gn ?_
  refine wpL_sq ?_
  refine wpL_sq ?_
  refine wpL_rg ?_
  refine pM (.lit _ _ _) ?_
  refine pLen tS26 ?_
  refine pM (.int _ _) ?_
  refine pE ?_
  refine gn ?_
  refine wpL_bl ?_
  refine wpL_loopO (F := f267_L1 aList0 aN1) (fun s S' => ∃ (J : Nat → V) (G : Heap), Owns H G [] ∧ S' = ⟨hav [(0, .lit l1 aList0.length (flat aList0)), (1, .int .i64 aN1), (8, .lit l1 aList0.length (flat aList0)), (9, .int .i64 (aList0.length : Int)), (10, .int .i64 s)] J, G⟩) hk ⟨_, _, hO, St.hav _ ⟨rfl, rfl, rfl, rfl, rfl, trivial⟩⟩ ?_
  rintro x1 _ y1 ⟨J, G, hO, rfl⟩ hk hx1
  refine wpL_sq ?_
  refine wpL_rg ?_
  refine pBi ?_
  refine pE ?_
  refine gn ?_
  refine wpL_sq ?_
  refine wpL_cd (b := decide (x1 < (aList0.length : Int))) (fun hb => ?_) (fun hb => ?_)
  · replace hk := ct hb hk
    refine wpL_sk ?_
    refine gn ?_
    refine wpL_sq ?_
    refine wpL_bl ?_
    refine wpL_sq ?_
    refine wpL_rg ?_
    refine pM (.int _ _) ?_
    obtain ⟨c2, hc2, hk⟩ := bs hk
    refine pX hc2 tE26 tZ3 ?_
    refine pLp (.int _ _) (rd1 (off := 0) hc2 tA3) ?_
    refine pA (.int _ _) ?_
    refine pA (.int _ _) ?_
    refine pE ?_
    refine gn ?_
    refine wpL_sq ?_
    refine wpL_sq ?_
    refine wpL_rg ?_
    refine pM (.int _ _) ?_
    refine pM (.int _ _) ?_
    refine pBi ?_
    obtain ⟨v3, hv3, hk⟩ := bs hk
    refine pCall (fun _ => f167_run hv3) ?_
    refine pU ?_
    refine pE ?_
    refine gn ?_
    refine wpL_cd (b := !v3) (fun hb => ?_) (fun hb => ?_)
    · replace hk := ct hb hk
      refine wpL_sq ?_
      refine wpL_rg ?_
      refine pA (.bool _) ?_
      refine pE ?_
      refine gn ?_
      refine wpL_rt ?_
      refine gr (br (gr (gr (br (gr ?_)))))
      replace hk := lx hx1 hk
      replace hk := Option.some.inj hk; subst hk; exact fin0 hO
    · replace hk := cf hb hk
      refine wpL_sk ?_
      refine gn ?_
      refine wpL_sq ?_
      refine wpL_rg ?_
      refine pA (.int _ _) ?_
      refine pE ?_
      refine gn ?_
      refine wpL_bl ?_
      refine wpL_loopO (F := f267_L2 aList0 x1 c2) (fun s S' => ∃ (J : Nat → V) (G : Heap), Owns H G [] ∧ S' = ⟨hav [(0, .lit l1 aList0.length (flat aList0)), (1, .int .i64 aN1), (5, .int .i64 x1), (6, .int .i64 c2), (7, .int .i64 s), (8, .lit l1 aList0.length (flat aList0)), (9, .int .i64 (aList0.length : Int)), (10, .int .i64 x1)] J, G⟩) hk ⟨_, _, hO, St.hav _ ⟨rfl, rfl, rfl, rfl, rfl, rfl, rfl, rfl, trivial⟩⟩ ?_
      rintro x4 _ y2 ⟨J, G, hO, rfl⟩ hk hx2
      refine wpL_sq ?_
      refine wpL_sq ?_
      refine wpL_rg ?_
      refine pM (.int _ _) ?_
      refine pM (.int _ _) ?_
      refine pBi ?_
      refine pE ?_
      refine gn ?_
      refine wpL_cd (b := decide (x4 < x1)) (fun hb => ?_) (fun hb => ?_)
      · replace hk := ct hb hk
        refine wpL_sk ?_
        refine gn ?_
        refine wpL_sq ?_
        refine wpL_bl ?_
        refine wpL_sq ?_
        refine wpL_rg ?_
        refine pM (.lit _ _ _) ?_
        refine pM (.int _ _) ?_
        obtain ⟨c5, hc5, hk⟩ := bs hk
        refine pX hc5 tE26 tZ3 ?_
        refine pLp (.int _ _) (rd1 (off := 0) hc5 tA3) ?_
        refine pM (.int _ _) ?_
        refine pBi ?_
        refine pE ?_
        refine gn ?_
        refine wpL_cd (b := (c5 == c2)) (fun hb => ?_) (fun hb => ?_)
        · replace hk := ct hb hk
          refine wpL_sq ?_
          refine wpL_rg ?_
          refine pA (.bool _) ?_
          refine pE ?_
          refine gn ?_
          refine wpL_rt ?_
          refine br (gr (gr (br (br (gr (gr (br (gr ?_))))))))
          replace hk := lx hx2 hk
          replace hk := lx hx1 hk
          replace hk := Option.some.inj hk; subst hk; exact fin0 hO
        · replace hk := cf hb hk
          refine wpL_sk ?_
          refine bn (gn ?_)
          refine wpL_rg ?_
          refine pM (.int _ _) ?_
          refine pBi ?_
          refine pA (.int _ _) ?_
          refine pE ?_
          refine gn ?_
          cases hk; exact ⟨_, rfl, _, _, hO, St.hav _ ⟨rfl, rfl, rfl, rfl, rfl, rfl, rfl, rfl, trivial⟩⟩
      · replace hk := cf hb hk
        refine wpL_ex ?_
        refine ge (ge (be (bn (gn ?_))))
        replace hk := lx hx2 hk
        refine wpL_rg ?_
        refine pBi ?_
        refine pM (.int _ _) ?_
        refine pE ?_
        refine gn ?_
        cases hk; exact ⟨_, rfl, _, _, hO, St.hav _ ⟨rfl, rfl, rfl, rfl, rfl, trivial⟩⟩
  · replace hk := cf hb hk
    refine wpL_ex ?_
    refine ge (ge (be (gn ?_)))
    replace hk := lx hx1 hk
    refine wpL_sq ?_
    refine wpL_rg ?_
    refine pM (.lit _ _ _) ?_
    refine pLen tS26 ?_
    refine pBi ?_
    refine pA (.bool _) ?_
    refine pE ?_
    refine gn ?_
    refine wpL_rt ?_
    replace hk := Option.some.inj hk; subst hk; exact fin0 hO
/-- spec.l17lies -/
def f268_L2 (aList1 : List Turn) (x2 : Int) (c3 : Turn) : Int → Option (Int ⊕ (Int ⊕ Bool)) := fun s =>
  (bif decide (s < x2) then ((getI aList1 s).bind fun c9 => (bif (c9.Switch == c3.Switch) then (((some false).map Sum.inr).map Sum.inr) else some (.inl (w64 (s + (1:Int)))))) else ((some (.inl (w64 (x2 + (1:Int))))).map Sum.inr))
def f268_L1 (aP0 : Plan) (aList1 : List Turn) : Int → Option (Int ⊕ Bool) := fun s =>
  (bif decide (s < (aList1.length : Int)) then ((getI aList1 s).bind fun c3 => ((f167 c3.Switch (0:Int) (w64 ((aP0.Switches.length : Int) - (1:Int)))).bind fun v5 => ((bif !v5 then some true else ((f167 c3.Lie (1:Int) (2:Int)).bind fun v7 => some (!v7))).bind fun t6 => (bif t6 then ((some false).map Sum.inr) else (loopO (f268_L2 aList1 s c3) ((0:Int))))))) else ((some (decide ((aList1.length : Int) ≤ (30:Int)))).map Sum.inr))
def f268 (aP0 : Plan) (aList1 : List Turn) : Option Bool :=
  (loopO (f268_L1 aP0 aList1) ((0:Int)))
theorem f268_run {aP0 : Plan} {aList1 : List Turn} {r : Bool} {l1 l2 l3 l4 : Nat} {H : Heap} {lk : Lk} (hk : f268 aP0 aList1 = some r) (hlk : 0 < lk.length := by simp) : runL Try.prog hh 268 [.agg [.int .i64 aP0.Sections, .lit l1 aP0.Switches.length (flat aP0.Switches), .lit l2 aP0.Ways.length (flat aP0.Ways), .lit l3 aP0.Bars.length (flat aP0.Bars), .int .i64 aP0.Hold], .lit l4 aList1.length (flat aList1)] H lk = some (.bool r, H) := by
  refine run_start Try.func268 rfl Try.ntmps268 Try.results268 rfl rfl fun hO => ?_
  unfold f268 at hk
  refine wpL_sq ?_
  refine wpL_rg ?_
  refine pBox (cs := [_, _, _, _, _]) hO tZ81 (fun b1 G hO => ?_)
  refine pA (.bool _) ?_
  refine pE ?_
  refine gn ?_
  refine wpL_sq ?_
  refine wpL_sq ?_
  refine wpL_rg ?_
  refine pM (.lit _ _ _) ?_
  refine pLen tS216 ?_
  refine pM (.int _ _) ?_
  refine pE ?_
  refine gn ?_
  refine wpL_bl ?_
  refine wpL_loopO (F := f268_L1 aP0 aList1) (fun s S' => ∃ (J : Nat → V) (G : Heap), Owns H G [.blk b1 (.cells 5 [.int .i64 aP0.Sections, .lit l1 aP0.Switches.length (flat aP0.Switches), .lit l2 aP0.Ways.length (flat aP0.Ways), .lit l3 aP0.Bars.length (flat aP0.Bars), .int .i64 aP0.Hold])] ∧ S' = ⟨hav [(1, .lit l4 aList1.length (flat aList1)), (2, .ptr b1 0), (8, .lit l4 aList1.length (flat aList1)), (9, .int .i64 (aList1.length : Int)), (10, .int .i64 s)] J, G⟩) hk ⟨_, _, hO, St.hav _ ⟨rfl, rfl, rfl, rfl, rfl, trivial⟩⟩ ?_
  rintro x2 _ y1 ⟨J, G, hO, rfl⟩ hk hx1
  refine wpL_sq ?_
  refine wpL_rg ?_
  refine pBi ?_
  refine pE ?_
  refine gn ?_
  refine wpL_sq ?_
  refine wpL_cd (b := decide (x2 < (aList1.length : Int))) (fun hb => ?_) (fun hb => ?_)
  · replace hk := ct hb hk
    refine wpL_sk ?_
    refine gn ?_
    refine wpL_sq ?_
    refine wpL_bl ?_
    refine wpL_sq ?_
    refine wpL_rg ?_
    refine pM (.int _ _) ?_
    obtain ⟨c3, hc3, hk⟩ := bs hk
    refine pX hc3 tE216 tZ307 ?_
    refine pLp (.agg [_, _]) (rd2 (off := 0) hc3 tA307 tZ307) ?_
    refine pNew hO tZ307 t0307 (fun b4 G hO => ?_)
    refine pA (.int _ _) ?_
    refine pSt (xs := [_, _]) hO 0 tZ307 rfl (fun G hO => ?_)
    refine pE ?_
    refine gn ?_
    refine wpL_sq ?_
    refine wpL_sq ?_
    refine wpL_rg ?_
    refine pF tF307_0 ?_
    refine pLo hO 0 (.int _ _) tA3 ?_
    refine pF tF81_1 ?_
    refine pLo hO 1 (.lit _ _ _) tA26 ?_
    refine pLen tS26 ?_
    refine pBi ?_
    obtain ⟨v5, hv5, hk⟩ := bs hk
    refine pCall (fun _ => f167_run hv5) ?_
    refine pU ?_
    refine pM (.bool _) ?_
    obtain ⟨t6, ht, hk⟩ := bs hk
    refine wpR_mid (l1 := [_, _, _, _, _]) (fun S' => ∃ J, S' = ⟨hav [(1, .lit l4 aList1.length (flat aList1)), (2, .ptr b1 0), (5, .int .i64 x2), (6, .ptr b4 0), (8, .lit l4 aList1.length (flat aList1)), (9, .int .i64 (aList1.length : Int)), (10, .int .i64 x2), (28, .bool t6)] J, G⟩) ?_ ?_
    · refine bc (b := !v5) (fun hg1 => ?_) (fun hg1 => ?_)
      · replace hk := ct hg1 ht
        refine pGn hg1 ?_
        refine pGn hg1 ?_
        refine pGn hg1 ?_
        refine pGn hg1 ?_
        refine pPt hg1 (.bool _) ?_
        cases hk; exact pE ⟨_, St.hav _ ⟨rfl, rfl, rfl, rfl, rfl, rfl, rfl, rfl, trivial⟩⟩
      · replace hk := cf hg1 ht
        refine pGy hg1 ?_
        refine pF tF307_1 ?_
        refine pGy hg1 ?_
        refine pLo hO 0 (.int _ _) tA3 ?_
        refine pGy hg1 ?_
        obtain ⟨v7, hv7, hk⟩ := bs hk
        refine pCall (fun _ => f167_run hv7) ?_
        refine pGy hg1 ?_
        refine pU ?_
        refine pPf hg1 (.bool _) ?_
        cases hk; exact pE ⟨_, St.hav _ ⟨rfl, rfl, rfl, rfl, rfl, rfl, rfl, rfl, trivial⟩⟩
    · rintro _ ⟨J, rfl⟩
      refine pE ?_
      refine gn ?_
      refine wpL_cd (b := t6) (fun hb => ?_) (fun hb => ?_)
      · replace hk := ct hb hk
        refine wpL_sq ?_
        refine wpL_rg ?_
        refine pA (.bool _) ?_
        refine pE ?_
        refine gn ?_
        refine wpL_rt ?_
        refine gr (br (gr (gr (br (gr ?_)))))
        replace hk := lx hx1 hk
        replace hk := Option.some.inj hk; subst hk; exact fin0 hO
      · replace hk := cf hb hk
        refine wpL_sk ?_
        refine gn ?_
        refine wpL_sq ?_
        refine wpL_rg ?_
        refine pA (.int _ _) ?_
        refine pE ?_
        refine gn ?_
        refine wpL_bl ?_
        refine wpL_loopO (F := f268_L2 aList1 x2 c3) (fun s S' => ∃ (J : Nat → V) (G : Heap), Owns H G [.blk b4 (.cells 2 [.int .i64 c3.Switch, .int .i64 c3.Lie]), .blk b1 (.cells 5 [.int .i64 aP0.Sections, .lit l1 aP0.Switches.length (flat aP0.Switches), .lit l2 aP0.Ways.length (flat aP0.Ways), .lit l3 aP0.Bars.length (flat aP0.Bars), .int .i64 aP0.Hold])] ∧ S' = ⟨hav [(1, .lit l4 aList1.length (flat aList1)), (2, .ptr b1 0), (5, .int .i64 x2), (6, .ptr b4 0), (7, .int .i64 s), (8, .lit l4 aList1.length (flat aList1)), (9, .int .i64 (aList1.length : Int)), (10, .int .i64 x2)] J, G⟩) hk ⟨_, _, hO, St.hav _ ⟨rfl, rfl, rfl, rfl, rfl, rfl, rfl, rfl, trivial⟩⟩ ?_
        rintro x8 _ y2 ⟨J, G, hO, rfl⟩ hk hx2
        refine wpL_sq ?_
        refine wpL_sq ?_
        refine wpL_rg ?_
        refine pM (.int _ _) ?_
        refine pM (.int _ _) ?_
        refine pBi ?_
        refine pE ?_
        refine gn ?_
        refine wpL_cd (b := decide (x8 < x2)) (fun hb => ?_) (fun hb => ?_)
        · replace hk := ct hb hk
          refine wpL_sk ?_
          refine gn ?_
          refine wpL_sq ?_
          refine wpL_bl ?_
          refine wpL_sq ?_
          refine wpL_drw [(0, true), (1, true), (2, true), (3, true), (4, true), (5, true), (6, true), (7, false)] [_, _, _, _, _, _, _, _] (by decide +kernel) (by rfl) ?_
          refine pM (.lit _ _ _) ?_
          refine pM (.int _ _) ?_
          obtain ⟨c9, hc9, hk⟩ := bs hk
          refine pX hc9 tE216 tZ307 ?_
          refine pF tF307_0 ?_
          refine pLp (.int _ _) (rd1 (off := 0) hc9 tA3) ?_
          refine pF tF307_0 ?_
          refine pLo hO 0 (.int _ _) tA3 ?_
          refine pBi ?_
          refine pE ?_
          refine gn ?_
          refine wpL_cd (b := (c9.Switch == c3.Switch)) (fun hb => ?_) (fun hb => ?_)
          · replace hk := ct hb hk
            refine wpL_sq ?_
            refine wpL_rg ?_
            refine pA (.bool _) ?_
            refine pE ?_
            refine gn ?_
            refine wpL_rt ?_
            refine br (gr (gr (br (br (gr (gr (br (gr ?_))))))))
            replace hk := lx hx2 hk
            replace hk := lx hx1 hk
            replace hk := Option.some.inj hk; subst hk; exact fin0 hO
          · replace hk := cf hb hk
            refine wpL_sk ?_
            refine bn (gn ?_)
            refine wpL_rg ?_
            refine pM (.int _ _) ?_
            refine pBi ?_
            refine pA (.int _ _) ?_
            refine pE ?_
            refine gn ?_
            cases hk; exact ⟨_, rfl, _, _, hO, St.hav _ ⟨rfl, rfl, rfl, rfl, rfl, rfl, rfl, rfl, trivial⟩⟩
        · replace hk := cf hb hk
          refine wpL_ex ?_
          refine ge (ge (be (bn (gn ?_))))
          replace hk := lx hx2 hk
          refine wpL_rg ?_
          refine pBi ?_
          refine pM (.int _ _) ?_
          refine pE ?_
          refine gn ?_
          cases hk; exact ⟨_, rfl, _, _, (Owns.pick hO [1] (by decide) rfl), St.hav _ ⟨rfl, rfl, rfl, rfl, rfl, trivial⟩⟩
  · replace hk := cf hb hk
    refine wpL_ex ?_
    refine ge (ge (be (gn ?_)))
    replace hk := lx hx1 hk
    refine wpL_sq ?_
    refine wpL_rg ?_
    refine pM (.lit _ _ _) ?_
    refine pLen tS216 ?_
    refine pBi ?_
    refine pA (.bool _) ?_
    refine pE ?_
    refine gn ?_
    refine wpL_rt ?_
    replace hk := Option.some.inj hk; subst hk; exact fin0 hO
/-- spec.l17meet -/
def f169_L2 (aB1 : List Int) (x1 : Int) (c2 : Int) : Int → Option (Int ⊕ (Int ⊕ Bool)) := fun s =>
  (bif decide (s < (aB1.length : Int)) then ((getI aB1 s).bind fun c4 => (bif (c2 == c4) then (((some true).map Sum.inr).map Sum.inr) else some (.inl (w64 (s + (1:Int)))))) else ((some (.inl (w64 (x1 + (1:Int))))).map Sum.inr))
def f169_L1 (aA0 : List Int) (aB1 : List Int) : Int → Option (Int ⊕ Bool) := fun s =>
  (bif decide (s < (aA0.length : Int)) then ((getI aA0 s).bind fun c2 => (loopO (f169_L2 aB1 s c2) ((0:Int)))) else ((some false).map Sum.inr))
def f169 (aA0 : List Int) (aB1 : List Int) : Option Bool :=
  (loopO (f169_L1 aA0 aB1) ((0:Int)))
theorem f169_run {aA0 : List Int} {aB1 : List Int} {r : Bool} {l1 l2 : Nat} {H : Heap} {lk : Lk} (hk : f169 aA0 aB1 = some r) (hlk : 0 < lk.length := by simp) : runL Try.prog hh 169 [.lit l1 aA0.length (flat aA0), .lit l2 aB1.length (flat aB1)] H lk = some (.bool r, H) := by
  refine run_start Try.func169 rfl Try.ntmps169 Try.results169 rfl rfl fun hO => ?_
  unfold f169 at hk
  refine wpL_sq ?_
  refine wpL_rg ?_
  refine pA (.bool _) ?_
  refine pE ?_
  refine gn ?_
  refine wpL_sq ?_
  refine wpL_sq ?_
  refine wpL_rg ?_
  refine pM (.lit _ _ _) ?_
  refine pLen tS26 ?_
  refine pM (.int _ _) ?_
  refine pE ?_
  refine gn ?_
  refine wpL_bl ?_
  refine wpL_loopO (F := f169_L1 aA0 aB1) (fun s S' => ∃ (J : Nat → V) (G : Heap), Owns H G [] ∧ S' = ⟨hav [(1, .lit l2 aB1.length (flat aB1)), (9, .lit l1 aA0.length (flat aA0)), (10, .int .i64 (aA0.length : Int)), (11, .int .i64 s)] J, G⟩) hk ⟨_, _, hO, St.hav _ ⟨rfl, rfl, rfl, rfl, trivial⟩⟩ ?_
  rintro x1 _ y1 ⟨J, G, hO, rfl⟩ hk hx1
  refine wpL_sq ?_
  refine wpL_rg ?_
  refine pBi ?_
  refine pE ?_
  refine gn ?_
  refine wpL_sq ?_
  refine wpL_cd (b := decide (x1 < (aA0.length : Int))) (fun hb => ?_) (fun hb => ?_)
  · replace hk := ct hb hk
    refine wpL_sk ?_
    refine gn ?_
    refine wpL_sq ?_
    refine wpL_bl ?_
    refine wpL_sq ?_
    refine wpL_rg ?_
    obtain ⟨c2, hc2, hk⟩ := bs hk
    refine pX hc2 tE26 tZ3 ?_
    refine pLp (.int _ _) (rd1 (off := 0) hc2 tA3) ?_
    refine pA (.int _ _) ?_
    refine pE ?_
    refine gn ?_
    refine wpL_sq ?_
    refine wpL_rg ?_
    refine pM (.lit _ _ _) ?_
    refine pLen tS26 ?_
    refine pM (.int _ _) ?_
    refine pE ?_
    refine gn ?_
    refine wpL_bl ?_
    refine wpL_loopO (F := f169_L2 aB1 x1 c2) (fun s S' => ∃ (J : Nat → V) (G : Heap), Owns H G [] ∧ S' = ⟨hav [(1, .lit l2 aB1.length (flat aB1)), (6, .int .i64 c2), (9, .lit l1 aA0.length (flat aA0)), (10, .int .i64 (aA0.length : Int)), (11, .int .i64 x1), (15, .lit l2 aB1.length (flat aB1)), (16, .int .i64 (aB1.length : Int)), (17, .int .i64 s)] J, G⟩) hk ⟨_, _, hO, St.hav _ ⟨rfl, rfl, rfl, rfl, rfl, rfl, rfl, rfl, trivial⟩⟩ ?_
    rintro x3 _ y2 ⟨J, G, hO, rfl⟩ hk hx2
    refine wpL_sq ?_
    refine wpL_rg ?_
    refine pBi ?_
    refine pE ?_
    refine gn ?_
    refine wpL_sq ?_
    refine wpL_cd (b := decide (x3 < (aB1.length : Int))) (fun hb => ?_) (fun hb => ?_)
    · replace hk := ct hb hk
      refine wpL_sk ?_
      refine gn ?_
      refine wpL_sq ?_
      refine wpL_bl ?_
      refine wpL_sq ?_
      refine wpL_rg ?_
      obtain ⟨c4, hc4, hk⟩ := bs hk
      refine pX hc4 tE26 tZ3 ?_
      refine pLp (.int _ _) (rd1 (off := 0) hc4 tA3) ?_
      refine pA (.int _ _) ?_
      refine pE ?_
      refine gn ?_
      refine wpL_sq ?_
      refine wpL_rg ?_
      refine pM (.int _ _) ?_
      refine pM (.int _ _) ?_
      refine pBi ?_
      refine pE ?_
      refine gn ?_
      refine wpL_cd (b := (c2 == c4)) (fun hb => ?_) (fun hb => ?_)
      · replace hk := ct hb hk
        refine wpL_sq ?_
        refine wpL_rg ?_
        refine pA (.bool _) ?_
        refine pE ?_
        refine gn ?_
        refine wpL_rt ?_
        refine br (gr (gr (br (br (gr (gr (br (gr ?_))))))))
        replace hk := lx hx2 hk
        replace hk := lx hx1 hk
        replace hk := Option.some.inj hk; subst hk; exact fin0 hO
      · replace hk := cf hb hk
        refine wpL_sk ?_
        refine bn (gn ?_)
        refine wpL_rg ?_
        refine pBi ?_
        refine pM (.int _ _) ?_
        refine pE ?_
        refine gn ?_
        cases hk; exact ⟨_, rfl, _, _, hO, St.hav _ ⟨rfl, rfl, rfl, rfl, rfl, rfl, rfl, rfl, trivial⟩⟩
    · replace hk := cf hb hk
      refine wpL_ex ?_
      refine ge (ge (be (bn (gn ?_))))
      replace hk := lx hx2 hk
      refine wpL_rg ?_
      refine pBi ?_
      refine pM (.int _ _) ?_
      refine pE ?_
      refine gn ?_
      cases hk; exact ⟨_, rfl, _, _, hO, St.hav _ ⟨rfl, rfl, rfl, rfl, trivial⟩⟩
  · replace hk := cf hb hk
    refine wpL_ex ?_
    refine ge (ge (be (gn ?_)))
    replace hk := lx hx1 hk
    refine wpL_sq ?_
    refine wpL_rg ?_
    refine pA (.bool _) ?_
    refine pE ?_
    refine gn ?_
    refine wpL_rt ?_
    replace hk := Option.some.inj hk; subst hk; exact fin0 hO
/-- spec.l17way -/
def f168_L2 (aP0 : Plan) (aW1 : Way) (x13 : Int) (c14 : Turn) : Int → Option (Int ⊕ (Int ⊕ Bool)) := fun s =>
  (bif decide (s < (aW1.Flanks.length : Int)) then ((getI aW1.Flanks s).bind fun c17 => (bif (c14.Switch == c17.Switch) then (((some false).map Sum.inr).map Sum.inr) else some (.inl (w64 (s + (1:Int)))))) else (((getI aP0.Switches c14.Switch).bind fun c19 => ((f169 ([c19] : List Int) aW1.Sections).bind fun v20 => (bif !v20 then ((some false).map Sum.inr) else some (.inl (w64 (x13 + (1:Int))))))).map Sum.inr))
def f168_L1 (aP0 : Plan) (aW1 : Way) : Int → Option (Int ⊕ Bool) := fun s =>
  (bif decide (s < (aW1.Lies.length : Int)) then ((getI aW1.Lies s).bind fun c14 => (loopO (f168_L2 aP0 aW1 s c14) ((0:Int)))) else (((f169 aW1.Over aW1.Sections).bind fun v21 => some (!v21)).map Sum.inr))
def f168 (aP0 : Plan) (aW1 : Way) : Option Bool :=
  ((bif ((aW1.Sections.length : Int) == (0:Int)) then some true else ((f267 aW1.Sections aP0.Sections).bind fun v4 => some (!v4))).bind fun t3 => ((bif t3 then some true else ((f267 aW1.Over aP0.Sections).bind fun v6 => some (!v6))).bind fun t5 => ((bif t5 then some true else ((f267 aW1.Near aP0.Sections).bind fun v8 => some (!v8))).bind fun t7 => ((bif t7 then some true else ((f268 aP0 aW1.Lies).bind fun v10 => some (!v10))).bind fun t9 => ((bif t9 then some true else ((f268 aP0 aW1.Flanks).bind fun v12 => some (!v12))).bind fun t11 => (bif t11 then some false else (loopO (f168_L1 aP0 aW1) ((0:Int)))))))))
theorem f168_run {aP0 : Plan} {aW1 : Way} {r : Bool} {l1 l2 l3 l4 l5 l6 l7 l8 : Nat} {H : Heap} {lk : Lk} (hk : f168 aP0 aW1 = some r) (hlk : 0 < lk.length := by simp) : runL Try.prog hh 168 [.agg [.int .i64 aP0.Sections, .lit l1 aP0.Switches.length (flat aP0.Switches), .lit l2 aP0.Ways.length (flat aP0.Ways), .lit l3 aP0.Bars.length (flat aP0.Bars), .int .i64 aP0.Hold], .agg [.lit l4 aW1.Sections.length (flat aW1.Sections), .lit l5 aW1.Lies.length (flat aW1.Lies), .lit l6 aW1.Flanks.length (flat aW1.Flanks), .lit l7 aW1.Over.length (flat aW1.Over), .lit l8 aW1.Near.length (flat aW1.Near)]] H lk = some (.bool r, H) := by
  refine run_start Try.func168 rfl Try.ntmps168 Try.results168 rfl rfl fun hO => ?_
  unfold f168 at hk
  refine wpL_sq ?_
  refine wpL_rg ?_
  refine pBox (cs := [_, _, _, _, _]) hO tZ81 (fun b1 G hO => ?_)
  refine pBox (cs := [_, _, _, _, _]) hO tZ218 (fun b2 G hO => ?_)
  refine pA (.bool _) ?_
  refine pE ?_
  refine gn ?_
  refine wpL_sq ?_
  refine wpL_sq ?_
  refine wpL_rg ?_
  refine pF tF218_0 ?_
  refine pLo hO 0 (.lit _ _ _) tA26 ?_
  refine pLen tS26 ?_
  refine pBi ?_
  refine pM (.bool _) ?_
  obtain ⟨t3, ht, hk⟩ := bs hk
  refine wpR_mid (l1 := [_, _, _, _, _, _, _]) (fun S' => ∃ J, S' = ⟨hav [(2, .ptr b1 0), (3, .ptr b2 0), (20, .bool t3)] J, G⟩) ?_ ?_
  · refine bc (b := ((aW1.Sections.length : Int) == (0:Int))) (fun hg1 => ?_) (fun hg1 => ?_)
    · replace hk := ct hg1 ht
      refine pGn hg1 ?_
      refine pGn hg1 ?_
      refine pGn hg1 ?_
      refine pGn hg1 ?_
      refine pGn hg1 ?_
      refine pGn hg1 ?_
      refine pPt hg1 (.bool _) ?_
      cases hk; exact pE ⟨_, St.hav _ ⟨rfl, rfl, rfl, trivial⟩⟩
    · replace hk := cf hg1 ht
      refine pGy hg1 ?_
      refine pF tF218_0 ?_
      refine pGy hg1 ?_
      refine pLo hO 0 (.lit _ _ _) tA26 ?_
      refine pGy hg1 ?_
      refine pF tF81_0 ?_
      refine pGy hg1 ?_
      refine pLo hO 1 (.int _ _) tA3 ?_
      refine pGy hg1 ?_
      obtain ⟨v4, hv4, hk⟩ := bs hk
      refine pCall (fun _ => f267_run hv4) ?_
      refine pGy hg1 ?_
      refine pU ?_
      refine pPf hg1 (.bool _) ?_
      cases hk; exact pE ⟨_, St.hav _ ⟨rfl, rfl, rfl, trivial⟩⟩
  · rintro _ ⟨J, rfl⟩
    refine pM (.bool _) ?_
    obtain ⟨t5, ht, hk⟩ := bs hk
    refine wpR_mid (l1 := [_, _, _, _, _, _, _]) (fun S' => ∃ J, S' = ⟨hav [(2, .ptr b1 0), (3, .ptr b2 0), (28, .bool t5)] J, G⟩) ?_ ?_
    · refine bc (b := t3) (fun hg1 => ?_) (fun hg1 => ?_)
      · replace hk := ct hg1 ht
        refine pGn hg1 ?_
        refine pGn hg1 ?_
        refine pGn hg1 ?_
        refine pGn hg1 ?_
        refine pGn hg1 ?_
        refine pGn hg1 ?_
        refine pPt hg1 (.bool _) ?_
        cases hk; exact pE ⟨_, St.hav _ ⟨rfl, rfl, rfl, trivial⟩⟩
      · replace hk := cf hg1 ht
        refine pGy hg1 ?_
        refine pF tF218_3 ?_
        refine pGy hg1 ?_
        refine pLo hO 0 (.lit _ _ _) tA26 ?_
        refine pGy hg1 ?_
        refine pF tF81_0 ?_
        refine pGy hg1 ?_
        refine pLo hO 1 (.int _ _) tA3 ?_
        refine pGy hg1 ?_
        obtain ⟨v6, hv6, hk⟩ := bs hk
        refine pCall (fun _ => f267_run hv6) ?_
        refine pGy hg1 ?_
        refine pU ?_
        refine pPf hg1 (.bool _) ?_
        cases hk; exact pE ⟨_, St.hav _ ⟨rfl, rfl, rfl, trivial⟩⟩
    · rintro _ ⟨J, rfl⟩
      refine pM (.bool _) ?_
      obtain ⟨t7, ht, hk⟩ := bs hk
      refine wpR_mid (l1 := [_, _, _, _, _, _, _]) (fun S' => ∃ J, S' = ⟨hav [(2, .ptr b1 0), (3, .ptr b2 0), (36, .bool t7)] J, G⟩) ?_ ?_
      · refine bc (b := t5) (fun hg1 => ?_) (fun hg1 => ?_)
        · replace hk := ct hg1 ht
          refine pGn hg1 ?_
          refine pGn hg1 ?_
          refine pGn hg1 ?_
          refine pGn hg1 ?_
          refine pGn hg1 ?_
          refine pGn hg1 ?_
          refine pPt hg1 (.bool _) ?_
          cases hk; exact pE ⟨_, St.hav _ ⟨rfl, rfl, rfl, trivial⟩⟩
        · replace hk := cf hg1 ht
          refine pGy hg1 ?_
          refine pF tF218_4 ?_
          refine pGy hg1 ?_
          refine pLo hO 0 (.lit _ _ _) tA26 ?_
          refine pGy hg1 ?_
          refine pF tF81_0 ?_
          refine pGy hg1 ?_
          refine pLo hO 1 (.int _ _) tA3 ?_
          refine pGy hg1 ?_
          obtain ⟨v8, hv8, hk⟩ := bs hk
          refine pCall (fun _ => f267_run hv8) ?_
          refine pGy hg1 ?_
          refine pU ?_
          refine pPf hg1 (.bool _) ?_
          cases hk; exact pE ⟨_, St.hav _ ⟨rfl, rfl, rfl, trivial⟩⟩
      · rintro _ ⟨J, rfl⟩
        refine pM (.bool _) ?_
        obtain ⟨t9, ht, hk⟩ := bs hk
        refine wpR_mid (l1 := [_, _, _, _, _, _]) (fun S' => ∃ J, S' = ⟨hav [(2, .ptr b1 0), (3, .ptr b2 0), (43, .bool t9)] J, G⟩) ?_ ?_
        · refine bc (b := t7) (fun hg1 => ?_) (fun hg1 => ?_)
          · replace hk := ct hg1 ht
            refine pGn hg1 ?_
            refine pGn hg1 ?_
            refine pGn hg1 ?_
            refine pGn hg1 ?_
            refine pGn hg1 ?_
            refine pPt hg1 (.bool _) ?_
            cases hk; exact pE ⟨_, St.hav _ ⟨rfl, rfl, rfl, trivial⟩⟩
          · replace hk := cf hg1 ht
            refine pGy hg1 ?_
            refine pLs hO 1 [_, _, _, _, _] tA81 tZ81 ?_
            refine pGy hg1 ?_
            refine pF tF218_1 ?_
            refine pGy hg1 ?_
            refine pLo hO 0 (.lit _ _ _) tA216 ?_
            refine pGy hg1 ?_
            obtain ⟨v10, hv10, hk⟩ := bs hk
            refine pCall (fun _ => f268_run hv10) ?_
            refine pGy hg1 ?_
            refine pU ?_
            refine pPf hg1 (.bool _) ?_
            cases hk; exact pE ⟨_, St.hav _ ⟨rfl, rfl, rfl, trivial⟩⟩
        · rintro _ ⟨J, rfl⟩
          refine pM (.bool _) ?_
          obtain ⟨t11, ht, hk⟩ := bs hk
          refine wpR_mid (l1 := [_, _, _, _, _, _]) (fun S' => ∃ J, S' = ⟨hav [(2, .ptr b1 0), (3, .ptr b2 0), (50, .bool t11)] J, G⟩) ?_ ?_
          · refine bc (b := t9) (fun hg1 => ?_) (fun hg1 => ?_)
            · replace hk := ct hg1 ht
              refine pGn hg1 ?_
              refine pGn hg1 ?_
              refine pGn hg1 ?_
              refine pGn hg1 ?_
              refine pGn hg1 ?_
              refine pPt hg1 (.bool _) ?_
              cases hk; exact pE ⟨_, St.hav _ ⟨rfl, rfl, rfl, trivial⟩⟩
            · replace hk := cf hg1 ht
              refine pGy hg1 ?_
              refine pLs hO 1 [_, _, _, _, _] tA81 tZ81 ?_
              refine pGy hg1 ?_
              refine pF tF218_2 ?_
              refine pGy hg1 ?_
              refine pLo hO 0 (.lit _ _ _) tA216 ?_
              refine pGy hg1 ?_
              obtain ⟨v12, hv12, hk⟩ := bs hk
              refine pCall (fun _ => f268_run hv12) ?_
              refine pGy hg1 ?_
              refine pU ?_
              refine pPf hg1 (.bool _) ?_
              cases hk; exact pE ⟨_, St.hav _ ⟨rfl, rfl, rfl, trivial⟩⟩
          · rintro _ ⟨J, rfl⟩
            refine pE ?_
            refine gn ?_
            refine wpL_cd (b := t11) (fun hb => ?_) (fun hb => ?_)
            · replace hk := ct hb hk
              refine wpL_sq ?_
              refine wpL_rg ?_
              refine pA (.bool _) ?_
              refine pE ?_
              refine gn ?_
              refine wpL_rt ?_
              refine gr ?_
              replace hk := Option.some.inj hk; subst hk; exact fin0 hO
            · replace hk := cf hb hk
              refine wpL_sk ?_
              refine gn ?_
              refine wpL_sq ?_
              refine wpL_sq ?_
              refine wpL_rg ?_
              refine pF tF218_1 ?_
              refine pLo hO 0 (.lit _ _ _) tA216 ?_
              refine pLen tS216 ?_
              refine pM (.int _ _) ?_
              refine pE ?_
              refine gn ?_
              refine wpL_bl ?_
              refine wpL_loopO (F := f168_L1 aP0 aW1) (fun s S' => ∃ (J : Nat → V) (G : Heap), Owns H G [.blk b2 (.cells 5 [.lit l4 aW1.Sections.length (flat aW1.Sections), .lit l5 aW1.Lies.length (flat aW1.Lies), .lit l6 aW1.Flanks.length (flat aW1.Flanks), .lit l7 aW1.Over.length (flat aW1.Over), .lit l8 aW1.Near.length (flat aW1.Near)]), .blk b1 (.cells 5 [.int .i64 aP0.Sections, .lit l1 aP0.Switches.length (flat aP0.Switches), .lit l2 aP0.Ways.length (flat aP0.Ways), .lit l3 aP0.Bars.length (flat aP0.Bars), .int .i64 aP0.Hold])] ∧ S' = ⟨hav [(2, .ptr b1 0), (3, .ptr b2 0), (52, .lit l5 aW1.Lies.length (flat aW1.Lies)), (53, .int .i64 (aW1.Lies.length : Int)), (54, .int .i64 s)] J, G⟩) hk ⟨_, _, hO, St.hav _ ⟨rfl, rfl, rfl, rfl, rfl, trivial⟩⟩ ?_
              rintro x13 _ y1 ⟨J, G, hO, rfl⟩ hk hx1
              refine wpL_sq ?_
              refine wpL_rg ?_
              refine pBi ?_
              refine pE ?_
              refine gn ?_
              refine wpL_sq ?_
              refine wpL_cd (b := decide (x13 < (aW1.Lies.length : Int))) (fun hb => ?_) (fun hb => ?_)
              · replace hk := ct hb hk
                refine wpL_sk ?_
                refine gn ?_
                refine wpL_sq ?_
                refine wpL_bl ?_
                refine wpL_sq ?_
                refine wpL_rg ?_
                obtain ⟨c14, hc14, hk⟩ := bs hk
                refine pX hc14 tE216 tZ307 ?_
                refine pLp (.agg [_, _]) (rd2 (off := 0) hc14 tA307 tZ307) ?_
                refine pNew hO tZ307 t0307 (fun b15 G hO => ?_)
                refine pSt (xs := [_, _]) hO 0 tZ307 rfl (fun G hO => ?_)
                refine pE ?_
                refine gn ?_
                refine wpL_sq ?_
                refine wpL_sq ?_
                refine wpL_rg ?_
                refine pF tF218_2 ?_
                refine pLo hO 1 (.lit _ _ _) tA216 ?_
                refine pLen tS216 ?_
                refine pM (.int _ _) ?_
                refine pE ?_
                refine gn ?_
                refine wpL_bl ?_
                refine wpL_loopO (F := f168_L2 aP0 aW1 x13 c14) (fun s S' => ∃ (J : Nat → V) (G : Heap), Owns H G [.blk b15 (.cells 2 [.int .i64 c14.Switch, .int .i64 c14.Lie]), .blk b2 (.cells 5 [.lit l4 aW1.Sections.length (flat aW1.Sections), .lit l5 aW1.Lies.length (flat aW1.Lies), .lit l6 aW1.Flanks.length (flat aW1.Flanks), .lit l7 aW1.Over.length (flat aW1.Over), .lit l8 aW1.Near.length (flat aW1.Near)]), .blk b1 (.cells 5 [.int .i64 aP0.Sections, .lit l1 aP0.Switches.length (flat aP0.Switches), .lit l2 aP0.Ways.length (flat aP0.Ways), .lit l3 aP0.Bars.length (flat aP0.Bars), .int .i64 aP0.Hold])] ∧ S' = ⟨hav [(2, .ptr b1 0), (3, .ptr b2 0), (6, .ptr b15 0), (52, .lit l5 aW1.Lies.length (flat aW1.Lies)), (53, .int .i64 (aW1.Lies.length : Int)), (54, .int .i64 x13), (59, .lit l6 aW1.Flanks.length (flat aW1.Flanks)), (60, .int .i64 (aW1.Flanks.length : Int)), (61, .int .i64 s)] J, G⟩) hk ⟨_, _, hO, St.hav _ ⟨rfl, rfl, rfl, rfl, rfl, rfl, rfl, rfl, rfl, trivial⟩⟩ ?_
                rintro x16 _ y2 ⟨J, G, hO, rfl⟩ hk hx2
                refine wpL_sq ?_
                refine wpL_rg ?_
                refine pBi ?_
                refine pE ?_
                refine gn ?_
                refine wpL_sq ?_
                refine wpL_cd (b := decide (x16 < (aW1.Flanks.length : Int))) (fun hb => ?_) (fun hb => ?_)
                · replace hk := ct hb hk
                  refine wpL_sk ?_
                  refine gn ?_
                  refine wpL_sq ?_
                  refine wpL_bl ?_
                  refine wpL_sq ?_
                  refine wpL_rg ?_
                  obtain ⟨c17, hc17, hk⟩ := bs hk
                  refine pX hc17 tE216 tZ307 ?_
                  refine pLp (.agg [_, _]) (rd2 (off := 0) hc17 tA307 tZ307) ?_
                  refine pNew hO tZ307 t0307 (fun b18 G hO => ?_)
                  refine pSt (xs := [_, _]) hO 0 tZ307 rfl (fun G hO => ?_)
                  refine pE ?_
                  refine gn ?_
                  refine wpL_sq ?_
                  refine wpL_rg ?_
                  refine pF tF307_0 ?_
                  refine pLo hO 1 (.int _ _) tA3 ?_
                  refine pF tF307_0 ?_
                  refine pLo hO 0 (.int _ _) tA3 ?_
                  refine pBi ?_
                  refine pE ?_
                  refine gn ?_
                  refine wpL_cd (b := (c14.Switch == c17.Switch)) (fun hb => ?_) (fun hb => ?_)
                  · replace hk := ct hb hk
                    refine wpL_sq ?_
                    refine wpL_rg ?_
                    refine pA (.bool _) ?_
                    refine pE ?_
                    refine gn ?_
                    refine wpL_rt ?_
                    refine br (gr (gr (br (gr (br (gr (gr (br (gr ?_)))))))))
                    replace hk := lx hx2 hk
                    replace hk := lx hx1 hk
                    replace hk := Option.some.inj hk; subst hk; exact fin0 hO
                  · replace hk := cf hb hk
                    refine wpL_sk ?_
                    refine bn (gn ?_)
                    refine wpL_rg ?_
                    refine pBi ?_
                    refine pM (.int _ _) ?_
                    refine pE ?_
                    refine gn ?_
                    cases hk; exact ⟨_, rfl, _, _, (Owns.pick hO [1, 2, 3] (by decide) rfl), St.hav _ ⟨rfl, rfl, rfl, rfl, rfl, rfl, rfl, rfl, rfl, trivial⟩⟩
                · replace hk := cf hb hk
                  refine wpL_ex ?_
                  refine ge (ge (be (gn ?_)))
                  replace hk := lx hx2 hk
                  refine wpL_sq ?_
                  refine wpL_drw [(0, true), (1, true), (2, true), (3, true), (4, true), (5, true), (6, true), (7, true), (8, true), (9, false), (10, false)] [_, _, _, _, _, _, _, _, _, _, _] (by decide +kernel) (by rfl) ?_
                  refine pF tF81_1 ?_
                  refine pLo hO 2 (.lit _ _ _) tA26 ?_
                  refine pF tF307_0 ?_
                  refine pLo hO 0 (.int _ _) tA3 ?_
                  obtain ⟨c19, hc19, hk⟩ := bs hk
                  refine pX hc19 tE26 tZ3 ?_
                  refine pLp (.int _ _) (rd1 (off := 0) hc19 tA3) ?_
                  refine pBs (ps := [(0, (.int _ _))]) ([c19] : List Int) tE26 tZ3 t03 (emb_cons (emb_int rfl _ _) (emb_nil)) ?_
                  refine pF tF218_0 ?_
                  refine pLo hO 1 (.lit _ _ _) tA26 ?_
                  obtain ⟨v20, hv20, hk⟩ := bs hk
                  refine pCall (fun _ => f169_run hv20) ?_ (h3 := (la_cons (ld_tl ([c19] : List Int) 6) (la_cons rfl la_nil)))
                  refine pU ?_
                  refine pE ?_
                  refine gn ?_
                  refine wpL_cd (b := !v20) (fun hb => ?_) (fun hb => ?_)
                  · replace hk := ct hb hk
                    refine wpL_sq ?_
                    refine wpL_rg ?_
                    refine pA (.bool _) ?_
                    refine pE ?_
                    refine gn ?_
                    refine wpL_rt ?_
                    refine br (gr (gr (br (gr ?_))))
                    replace hk := lx hx1 hk
                    replace hk := Option.some.inj hk; subst hk; exact fin0 hO
                  · replace hk := cf hb hk
                    refine wpL_sk ?_
                    refine bn (gn ?_)
                    refine wpL_rg ?_
                    refine pBi ?_
                    refine pM (.int _ _) ?_
                    refine pE ?_
                    refine gn ?_
                    cases hk; exact ⟨_, rfl, _, _, (Owns.pick hO [1, 2] (by decide) rfl), St.hav _ ⟨rfl, rfl, rfl, rfl, rfl, trivial⟩⟩
              · replace hk := cf hb hk
                refine wpL_ex ?_
                refine ge (ge (be (gn ?_)))
                replace hk := lx hx1 hk
                refine wpL_sq ?_
                refine wpL_rg ?_
                refine pF tF218_3 ?_
                refine pLo hO 0 (.lit _ _ _) tA26 ?_
                refine pF tF218_0 ?_
                refine pLo hO 0 (.lit _ _ _) tA26 ?_
                obtain ⟨v21, hv21, hk⟩ := bs hk
                refine pCall (fun _ => f169_run hv21) ?_
                refine pU ?_
                refine pA (.bool _) ?_
                refine pE ?_
                refine gn ?_
                refine wpL_rt ?_
                replace hk := Option.some.inj hk; subst hk; exact fin0 hO
/-- spec.PlanOk -/
def f52_L5 (aP0 : Plan) (x15 : Int) (c16 : List Bool) : Int → Option (Int ⊕ (Int ⊕ Fault)) := fun s =>
  (bif decide (s < (c16.length : Int)) then ((getI c16 s).bind fun c18 => ((getI aP0.Bars s).bind fun c19 => ((getI c19 x15).bind fun c20 => ((bif !(c18 == c20) then some true else ((bif ((x15 != s) && !c18) then ((getI aP0.Ways x15).bind fun c23 => ((getI aP0.Ways s).bind fun c24 => ((f169 c23.Sections c24.Sections).bind fun v25 => some v25))) else some false).bind fun t22 => some t22)).bind fun t21 => (bif t21 then (((some ({ Code := (5:Int), At := x15 } : Fault)).map Sum.inr).map Sum.inr) else some (.inl (w64 (s + (1:Int))))))))) else ((some (.inl (w64 (x15 + (1:Int))))).map Sum.inr))
def f52_L4 (aP0 : Plan) : Int → Option (Int ⊕ Fault) := fun s =>
  (bif decide (s < (aP0.Bars.length : Int)) then ((getI aP0.Bars s).bind fun c16 => (loopO (f52_L5 aP0 s c16) ((0:Int)))) else ((some ({ Code := 0, At := 0 } : Fault)).map Sum.inr))
def f52_L3 (aP0 : Plan) : Int → Option (Int ⊕ Fault) := fun s =>
  (bif decide (s < (aP0.Bars.length : Int)) then ((getI aP0.Bars s).bind fun c14 => (bif ((c14.length : Int) != (aP0.Ways.length : Int)) then ((some ({ Code := (4:Int), At := s } : Fault)).map Sum.inr) else some (.inl (w64 (s + (1:Int)))))) else ((loopO (f52_L4 aP0) ((0:Int))).map Sum.inr))
def f52_L2 (aP0 : Plan) : Int → Option (Int ⊕ Fault) := fun s =>
  (bif decide (s < (aP0.Ways.length : Int)) then ((getI aP0.Ways s).bind fun c10 => ((f168 aP0 c10).bind fun v12 => (bif !v12 then ((some ({ Code := (3:Int), At := s } : Fault)).map Sum.inr) else some (.inl (w64 (s + (1:Int))))))) else ((bif ((aP0.Bars.length : Int) != (aP0.Ways.length : Int)) then some ({ Code := (4:Int), At := 0 } : Fault) else (loopO (f52_L3 aP0) ((0:Int)))).map Sum.inr))
def f52_L1 (aP0 : Plan) : Int → Option (Int ⊕ Fault) := fun s =>
  (bif decide (s < (aP0.Switches.length : Int)) then ((getI aP0.Switches s).bind fun c7 => ((f167 c7 (0:Int) (w64 (aP0.Sections - (1:Int)))).bind fun v8 => (bif !v8 then ((some ({ Code := (2:Int), At := s } : Fault)).map Sum.inr) else some (.inl (w64 (s + (1:Int))))))) else ((loopO (f52_L2 aP0) ((0:Int))).map Sum.inr))
def f52 (aP0 : Plan) : Option Fault :=
  ((f167 aP0.Sections (1:Int) (60:Int)).bind fun v3 => ((bif ((!v3 || decide ((aP0.Switches.length : Int) > (40:Int))) || decide ((aP0.Ways.length : Int) > (100:Int))) then some true else ((f167 aP0.Hold (1:Int) (300:Int)).bind fun v5 => some (!v5))).bind fun t4 => (bif t4 then some ({ Code := (1:Int), At := 0 } : Fault) else (loopO (f52_L1 aP0) ((0:Int))))))
theorem f52_run {aP0 : Plan} {r : Fault} {l1 l2 l3 : Nat} {H : Heap} {lk : Lk} (hk : f52 aP0 = some r) (hlk : 0 < lk.length := by simp) : runL Try.prog hh 52 [.agg [.int .i64 aP0.Sections, .lit l1 aP0.Switches.length (flat aP0.Switches), .lit l2 aP0.Ways.length (flat aP0.Ways), .lit l3 aP0.Bars.length (flat aP0.Bars), .int .i64 aP0.Hold]] H lk = some (.agg [.int .i64 r.Code, .int .i64 r.At], H) := by
  refine run_start Try.func52 rfl Try.ntmps52 Try.results52 rfl rfl fun hO => ?_
  unfold f52 at hk
  refine wpL_sq ?_
  refine wpL_rg ?_
  refine pBox (cs := [_, _, _, _, _]) hO tZ81 (fun b1 G hO => ?_)
  refine pNew hO tZ77 t077 (fun b2 G hO => ?_)
  refine pE ?_
  refine gn ?_
  refine wpL_sq ?_
  refine wpL_sq ?_
  refine wpL_rg ?_
  refine pF tF81_0 ?_
  refine pLo hO 1 (.int _ _) tA3 ?_
  obtain ⟨v3, hv3, hk⟩ := bs hk
  refine pCall (fun _ => f167_run hv3) ?_
  refine pU ?_
  refine pM (.bool _) ?_
  refine wpR_mid (l1 := [_, _, _, _, _]) (fun S' => ∃ J, S' = ⟨hav [(1, .ptr b1 0), (2, .ptr b2 0), (22, .bool (!v3 || decide ((aP0.Switches.length : Int) > (40:Int))))] J, G⟩) ?_ ?_
  · refine bc (b := !v3) (fun hg1 => ?_) (fun hg1 => ?_)
    · refine pGn hg1 ?_
      refine pGn hg1 ?_
      refine pGn hg1 ?_
      refine pGn hg1 ?_
      refine pPt hg1 (.bool _) ?_
      exact pE ⟨_, St.hav _ ⟨rfl, rfl, by rw [hg1]; rfl, trivial⟩⟩
    · refine pGy hg1 ?_
      refine pF tF81_1 ?_
      refine pGy hg1 ?_
      refine pLo hO 1 (.lit _ _ _) tA26 ?_
      refine pGy hg1 ?_
      refine pLen tS26 ?_
      refine pGy hg1 ?_
      refine pBi ?_
      refine pPf hg1 (.bool _) ?_
      exact pE ⟨_, St.hav _ ⟨rfl, rfl, by rw [hg1]; rfl, trivial⟩⟩
  · rintro _ ⟨J, rfl⟩
    refine pM (.bool _) ?_
    refine wpR_mid (l1 := [_, _, _, _, _]) (fun S' => ∃ J, S' = ⟨hav [(1, .ptr b1 0), (2, .ptr b2 0), (28, .bool ((!v3 || decide ((aP0.Switches.length : Int) > (40:Int))) || decide ((aP0.Ways.length : Int) > (100:Int))))] J, G⟩) ?_ ?_
    · refine bc (b := (!v3 || decide ((aP0.Switches.length : Int) > (40:Int)))) (fun hg1 => ?_) (fun hg1 => ?_)
      · refine pGn hg1 ?_
        refine pGn hg1 ?_
        refine pGn hg1 ?_
        refine pGn hg1 ?_
        refine pPt hg1 (.bool _) ?_
        exact pE ⟨_, St.hav _ ⟨rfl, rfl, by rw [hg1]; rfl, trivial⟩⟩
      · refine pGy hg1 ?_
        refine pF tF81_2 ?_
        refine pGy hg1 ?_
        refine pLo hO 1 (.lit _ _ _) tA79 ?_
        refine pGy hg1 ?_
        refine pLen tS79 ?_
        refine pGy hg1 ?_
        refine pBi ?_
        refine pPf hg1 (.bool _) ?_
        exact pE ⟨_, St.hav _ ⟨rfl, rfl, by rw [hg1]; rfl, trivial⟩⟩
    · rintro _ ⟨J, rfl⟩
      refine pM (.bool _) ?_
      obtain ⟨t4, ht, hk⟩ := bs hk
      refine wpR_mid (l1 := [_, _, _, _, _]) (fun S' => ∃ J, S' = ⟨hav [(1, .ptr b1 0), (2, .ptr b2 0), (34, .bool t4)] J, G⟩) ?_ ?_
      · refine bc (b := ((!v3 || decide ((aP0.Switches.length : Int) > (40:Int))) || decide ((aP0.Ways.length : Int) > (100:Int)))) (fun hg1 => ?_) (fun hg1 => ?_)
        · replace hk := ct hg1 ht
          refine pGn hg1 ?_
          refine pGn hg1 ?_
          refine pGn hg1 ?_
          refine pGn hg1 ?_
          refine pPt hg1 (.bool _) ?_
          cases hk; exact pE ⟨_, St.hav _ ⟨rfl, rfl, rfl, trivial⟩⟩
        · replace hk := cf hg1 ht
          refine pGy hg1 ?_
          refine pF tF81_4 ?_
          refine pGy hg1 ?_
          refine pLo hO 1 (.int _ _) tA3 ?_
          refine pGy hg1 ?_
          obtain ⟨v5, hv5, hk⟩ := bs hk
          refine pCall (fun _ => f167_run hv5) ?_
          refine pGy hg1 ?_
          refine pU ?_
          refine pPf hg1 (.bool _) ?_
          cases hk; exact pE ⟨_, St.hav _ ⟨rfl, rfl, rfl, trivial⟩⟩
      · rintro _ ⟨J, rfl⟩
        refine pE ?_
        refine gn ?_
        refine wpL_cd (b := t4) (fun hb => ?_) (fun hb => ?_)
        · replace hk := ct hb hk
          refine wpL_sq ?_
          refine wpL_rg ?_
          refine pBd [_, _] t077 tP77 ?_
          refine pSt (xs := [_, _]) hO 0 tZ77 rfl (fun G hO => ?_)
          refine pE ?_
          refine gn ?_
          refine wpL_rt ?_
          refine gr ?_
          replace hk := Option.some.inj hk; subst hk; exact finZ hO (fz_agg (n := 2) (fz_c (fz_int _ _) (fz_c (fz_int _ _) (fz_n)))) (resS hO 0 [_, _] tA77 tZ77 resN)
        · replace hk := cf hb hk
          refine wpL_sk ?_
          refine gn ?_
          refine wpL_sq ?_
          refine wpL_sq ?_
          refine wpL_rg ?_
          refine pF tF81_1 ?_
          refine pLo hO 1 (.lit _ _ _) tA26 ?_
          refine pLen tS26 ?_
          refine pM (.int _ _) ?_
          refine pE ?_
          refine gn ?_
          refine wpL_bl ?_
          refine wpL_loopO (F := f52_L1 aP0) (fun s S' => ∃ (J : Nat → V) (G : Heap), Owns H G [.blk b2 (.cells 2 [.int .i64 0, .int .i64 0]), .blk b1 (.cells 5 [.int .i64 aP0.Sections, .lit l1 aP0.Switches.length (flat aP0.Switches), .lit l2 aP0.Ways.length (flat aP0.Ways), .lit l3 aP0.Bars.length (flat aP0.Bars), .int .i64 aP0.Hold])] ∧ S' = ⟨hav [(1, .ptr b1 0), (2, .ptr b2 0), (37, .lit l1 aP0.Switches.length (flat aP0.Switches)), (38, .int .i64 (aP0.Switches.length : Int)), (39, .int .i64 s)] J, G⟩) hk ⟨_, _, hO, St.hav _ ⟨rfl, rfl, rfl, rfl, rfl, trivial⟩⟩ ?_
          rintro x6 _ y1 ⟨J, G, hO, rfl⟩ hk hx1
          refine wpL_sq ?_
          refine wpL_rg ?_
          refine pBi ?_
          refine pE ?_
          refine gn ?_
          refine wpL_sq ?_
          refine wpL_cd (b := decide (x6 < (aP0.Switches.length : Int))) (fun hb => ?_) (fun hb => ?_)
          · replace hk := ct hb hk
            refine wpL_sk ?_
            refine gn ?_
            refine wpL_sq ?_
            refine wpL_bl ?_
            refine wpL_sq ?_
            refine wpL_rg ?_
            refine pM (.int _ _) ?_
            obtain ⟨c7, hc7, hk⟩ := bs hk
            refine pX hc7 tE26 tZ3 ?_
            refine pLp (.int _ _) (rd1 (off := 0) hc7 tA3) ?_
            refine pA (.int _ _) ?_
            refine pA (.int _ _) ?_
            refine pE ?_
            refine gn ?_
            refine wpL_sq ?_
            refine wpL_rg ?_
            refine pM (.int _ _) ?_
            refine pF tF81_0 ?_
            refine pLo hO 1 (.int _ _) tA3 ?_
            refine pBi ?_
            obtain ⟨v8, hv8, hk⟩ := bs hk
            refine pCall (fun _ => f167_run hv8) ?_
            refine pU ?_
            refine pE ?_
            refine gn ?_
            refine wpL_cd (b := !v8) (fun hb => ?_) (fun hb => ?_)
            · replace hk := ct hb hk
              refine wpL_sq ?_
              refine wpL_rg ?_
              refine pM (.int _ _) ?_
              refine pBd [_, _] t077 tP77 ?_
              refine pSt (xs := [_, _]) hO 0 tZ77 rfl (fun G hO => ?_)
              refine pE ?_
              refine gn ?_
              refine wpL_rt ?_
              refine br (gr (gr (br (gr ?_))))
              replace hk := lx hx1 hk
              replace hk := Option.some.inj hk; subst hk; exact finZ hO (fz_agg (n := 2) (fz_c (fz_int _ _) (fz_c (fz_int _ _) (fz_n)))) (resS hO 0 [_, _] tA77 tZ77 resN)
            · replace hk := cf hb hk
              refine wpL_sk ?_
              refine bn (gn ?_)
              refine wpL_rg ?_
              refine pBi ?_
              refine pM (.int _ _) ?_
              refine pE ?_
              refine gn ?_
              cases hk; exact ⟨_, rfl, _, _, hO, St.hav _ ⟨rfl, rfl, rfl, rfl, rfl, trivial⟩⟩
          · replace hk := cf hb hk
            refine wpL_ex ?_
            refine ge (ge (be (gn ?_)))
            replace hk := lx hx1 hk
            refine wpL_sq ?_
            refine wpL_sq ?_
            refine wpL_rg ?_
            refine pF tF81_2 ?_
            refine pLo hO 1 (.lit _ _ _) tA79 ?_
            refine pLen tS79 ?_
            refine pM (.int _ _) ?_
            refine pE ?_
            refine gn ?_
            refine wpL_bl ?_
            refine wpL_loopO (F := f52_L2 aP0) (fun s S' => ∃ (J : Nat → V) (G : Heap), Owns H G [.blk b2 (.cells 2 [.int .i64 0, .int .i64 0]), .blk b1 (.cells 5 [.int .i64 aP0.Sections, .lit l1 aP0.Switches.length (flat aP0.Switches), .lit l2 aP0.Ways.length (flat aP0.Ways), .lit l3 aP0.Bars.length (flat aP0.Bars), .int .i64 aP0.Hold])] ∧ S' = ⟨hav [(1, .ptr b1 0), (2, .ptr b2 0), (54, .lit l2 aP0.Ways.length (flat aP0.Ways)), (55, .int .i64 (aP0.Ways.length : Int)), (56, .int .i64 s)] J, G⟩) hk ⟨_, _, hO, St.hav _ ⟨rfl, rfl, rfl, rfl, rfl, trivial⟩⟩ ?_
            rintro x9 _ y1 ⟨J, G, hO, rfl⟩ hk hx1
            refine wpL_sq ?_
            refine wpL_rg ?_
            refine pBi ?_
            refine pE ?_
            refine gn ?_
            refine wpL_sq ?_
            refine wpL_cd (b := decide (x9 < (aP0.Ways.length : Int))) (fun hb => ?_) (fun hb => ?_)
            · replace hk := ct hb hk
              refine wpL_sk ?_
              refine gn ?_
              refine wpL_sq ?_
              refine wpL_bl ?_
              refine wpL_sq ?_
              refine wpL_rg ?_
              refine pM (.int _ _) ?_
              obtain ⟨c10, hc10, hk⟩ := bs hk
              refine pX hc10 tE79 tZ218 ?_
              refine pLp (.agg [_, _, _, _, _]) (rd2 (off := 0) hc10 tA218 tZ218) ?_
              refine pNew hO tZ218 t0218 (fun b11 G hO => ?_)
              refine pA (.int _ _) ?_
              refine pSt (xs := [_, _, _, _, _]) hO 0 tZ218 rfl (fun G hO => ?_)
              refine pE ?_
              refine gn ?_
              refine wpL_sq ?_
              refine wpL_rg ?_
              refine pLs hO 2 [_, _, _, _, _] tA81 tZ81 ?_
              refine pLs hO 0 [_, _, _, _, _] tA218 tZ218 ?_
              obtain ⟨v12, hv12, hk⟩ := bs hk
              refine pCall (fun _ => f168_run hv12) ?_
              refine pU ?_
              refine pE ?_
              refine gn ?_
              refine wpL_cd (b := !v12) (fun hb => ?_) (fun hb => ?_)
              · replace hk := ct hb hk
                refine wpL_sq ?_
                refine wpL_rg ?_
                refine pM (.int _ _) ?_
                refine pBd [_, _] t077 tP77 ?_
                refine pSt (xs := [_, _]) hO 1 tZ77 rfl (fun G hO => ?_)
                refine pE ?_
                refine gn ?_
                refine wpL_rt ?_
                refine br (gr (gr (br (gr ?_))))
                replace hk := lx hx1 hk
                replace hk := Option.some.inj hk; subst hk; exact finZ hO (fz_agg (n := 2) (fz_c (fz_int _ _) (fz_c (fz_int _ _) (fz_n)))) (resS hO 1 [_, _] tA77 tZ77 resN)
              · replace hk := cf hb hk
                refine wpL_sk ?_
                refine bn (gn ?_)
                refine wpL_rg ?_
                refine pBi ?_
                refine pM (.int _ _) ?_
                refine pE ?_
                refine gn ?_
                cases hk; exact ⟨_, rfl, _, _, (Owns.pick hO [1, 2] (by decide) rfl), St.hav _ ⟨rfl, rfl, rfl, rfl, rfl, trivial⟩⟩
            · replace hk := cf hb hk
              refine wpL_ex ?_
              refine ge (ge (be (gn ?_)))
              replace hk := lx hx1 hk
              refine wpL_sq ?_
              refine wpL_sq ?_
              refine wpL_rg ?_
              refine pF tF81_3 ?_
              refine pLo hO 1 (.lit _ _ _) tA45 ?_
              refine pLen tS45 ?_
              refine pF tF81_2 ?_
              refine pLo hO 1 (.lit _ _ _) tA79 ?_
              refine pLen tS79 ?_
              refine pBi ?_
              refine pE ?_
              refine gn ?_
              refine wpL_cd (b := ((aP0.Bars.length : Int) != (aP0.Ways.length : Int))) (fun hb => ?_) (fun hb => ?_)
              · replace hk := ct hb hk
                refine wpL_sq ?_
                refine wpL_rg ?_
                refine pBd [_, _] t077 tP77 ?_
                refine pSt (xs := [_, _]) hO 0 tZ77 rfl (fun G hO => ?_)
                refine pE ?_
                refine gn ?_
                refine wpL_rt ?_
                refine gr ?_
                replace hk := Option.some.inj hk; subst hk; exact finZ hO (fz_agg (n := 2) (fz_c (fz_int _ _) (fz_c (fz_int _ _) (fz_n)))) (resS hO 0 [_, _] tA77 tZ77 resN)
              · replace hk := cf hb hk
                refine wpL_sk ?_
                refine gn ?_
                refine wpL_sq ?_
                refine wpL_sq ?_
                refine wpL_rg ?_
                refine pF tF81_3 ?_
                refine pLo hO 1 (.lit _ _ _) tA45 ?_
                refine pLen tS45 ?_
                refine pM (.int _ _) ?_
                refine pE ?_
                refine gn ?_
                refine wpL_bl ?_
                refine wpL_loopO (F := f52_L3 aP0) (fun s S' => ∃ (J : Nat → V) (G : Heap), Owns H G [.blk b2 (.cells 2 [.int .i64 0, .int .i64 0]), .blk b1 (.cells 5 [.int .i64 aP0.Sections, .lit l1 aP0.Switches.length (flat aP0.Switches), .lit l2 aP0.Ways.length (flat aP0.Ways), .lit l3 aP0.Bars.length (flat aP0.Bars), .int .i64 aP0.Hold])] ∧ S' = ⟨hav [(1, .ptr b1 0), (2, .ptr b2 0), (77, .lit l3 aP0.Bars.length (flat aP0.Bars)), (78, .int .i64 (aP0.Bars.length : Int)), (79, .int .i64 s)] J, G⟩) hk ⟨_, _, hO, St.hav _ ⟨rfl, rfl, rfl, rfl, rfl, trivial⟩⟩ ?_
                rintro x13 _ y1 ⟨J, G, hO, rfl⟩ hk hx1
                refine wpL_sq ?_
                refine wpL_rg ?_
                refine pBi ?_
                refine pE ?_
                refine gn ?_
                refine wpL_sq ?_
                refine wpL_cd (b := decide (x13 < (aP0.Bars.length : Int))) (fun hb => ?_) (fun hb => ?_)
                · replace hk := ct hb hk
                  refine wpL_sk ?_
                  refine gn ?_
                  refine wpL_sq ?_
                  refine wpL_bl ?_
                  refine wpL_sq ?_
                  refine wpL_rg ?_
                  refine pM (.int _ _) ?_
                  obtain ⟨c14, hc14, hk⟩ := bs hk
                  refine pX hc14 tE45 tZ38 ?_
                  refine pLp (.lit _ _ _) (rd1 (off := 0) hc14 tA38) ?_
                  refine pA (.int _ _) ?_
                  refine pA (.lit _ _ _) ?_
                  refine pE ?_
                  refine gn ?_
                  refine wpL_sq ?_
                  refine wpL_rg ?_
                  refine pM (.lit _ _ _) ?_
                  refine pLen tS38 ?_
                  refine pF tF81_2 ?_
                  refine pLo hO 1 (.lit _ _ _) tA79 ?_
                  refine pLen tS79 ?_
                  refine pBi ?_
                  refine pE ?_
                  refine gn ?_
                  refine wpL_cd (b := ((c14.length : Int) != (aP0.Ways.length : Int))) (fun hb => ?_) (fun hb => ?_)
                  · replace hk := ct hb hk
                    refine wpL_sq ?_
                    refine wpL_rg ?_
                    refine pM (.int _ _) ?_
                    refine pBd [_, _] t077 tP77 ?_
                    refine pSt (xs := [_, _]) hO 0 tZ77 rfl (fun G hO => ?_)
                    refine pE ?_
                    refine gn ?_
                    refine wpL_rt ?_
                    refine br (gr (gr (br (gr ?_))))
                    replace hk := lx hx1 hk
                    replace hk := Option.some.inj hk; subst hk; exact finZ hO (fz_agg (n := 2) (fz_c (fz_int _ _) (fz_c (fz_int _ _) (fz_n)))) (resS hO 0 [_, _] tA77 tZ77 resN)
                  · replace hk := cf hb hk
                    refine wpL_sk ?_
                    refine bn (gn ?_)
                    refine wpL_rg ?_
                    refine pBi ?_
                    refine pM (.int _ _) ?_
                    refine pE ?_
                    refine gn ?_
                    cases hk; exact ⟨_, rfl, _, _, hO, St.hav _ ⟨rfl, rfl, rfl, rfl, rfl, trivial⟩⟩
                · replace hk := cf hb hk
                  refine wpL_ex ?_
                  refine ge (ge (be (gn ?_)))
                  replace hk := lx hx1 hk
                  refine wpL_sq ?_
                  refine wpL_sq ?_
                  refine wpL_rg ?_
                  refine pF tF81_3 ?_
                  refine pLo hO 1 (.lit _ _ _) tA45 ?_
                  refine pLen tS45 ?_
                  refine pM (.int _ _) ?_
                  refine pE ?_
                  refine gn ?_
                  refine wpL_bl ?_
                  refine wpL_loopO (F := f52_L4 aP0) (fun s S' => ∃ (J : Nat → V) (G : Heap), Owns H G [.blk b2 (.cells 2 [.int .i64 0, .int .i64 0]), .blk b1 (.cells 5 [.int .i64 aP0.Sections, .lit l1 aP0.Switches.length (flat aP0.Switches), .lit l2 aP0.Ways.length (flat aP0.Ways), .lit l3 aP0.Bars.length (flat aP0.Bars), .int .i64 aP0.Hold])] ∧ S' = ⟨hav [(1, .ptr b1 0), (2, .ptr b2 0), (94, .lit l3 aP0.Bars.length (flat aP0.Bars)), (95, .int .i64 (aP0.Bars.length : Int)), (96, .int .i64 s)] J, G⟩) hk ⟨_, _, hO, St.hav _ ⟨rfl, rfl, rfl, rfl, rfl, trivial⟩⟩ ?_
                  rintro x15 _ y1 ⟨J, G, hO, rfl⟩ hk hx1
                  refine wpL_sq ?_
                  refine wpL_rg ?_
                  refine pBi ?_
                  refine pE ?_
                  refine gn ?_
                  refine wpL_sq ?_
                  refine wpL_cd (b := decide (x15 < (aP0.Bars.length : Int))) (fun hb => ?_) (fun hb => ?_)
                  · replace hk := ct hb hk
                    refine wpL_sk ?_
                    refine gn ?_
                    refine wpL_sq ?_
                    refine wpL_bl ?_
                    refine wpL_sq ?_
                    refine wpL_rg ?_
                    refine pM (.int _ _) ?_
                    obtain ⟨c16, hc16, hk⟩ := bs hk
                    refine pX hc16 tE45 tZ38 ?_
                    refine pLp (.lit _ _ _) (rd1 (off := 0) hc16 tA38) ?_
                    refine pA (.int _ _) ?_
                    refine pA (.lit _ _ _) ?_
                    refine pE ?_
                    refine gn ?_
                    refine wpL_sq ?_
                    refine wpL_rg ?_
                    refine pM (.lit _ _ _) ?_
                    refine pLen tS38 ?_
                    refine pM (.int _ _) ?_
                    refine pE ?_
                    refine gn ?_
                    refine wpL_bl ?_
                    refine wpL_loopO (F := f52_L5 aP0 x15 c16) (fun s S' => ∃ (J : Nat → V) (G : Heap), Owns H G [.blk b2 (.cells 2 [.int .i64 0, .int .i64 0]), .blk b1 (.cells 5 [.int .i64 aP0.Sections, .lit l1 aP0.Switches.length (flat aP0.Switches), .lit l2 aP0.Ways.length (flat aP0.Ways), .lit l3 aP0.Bars.length (flat aP0.Bars), .int .i64 aP0.Hold])] ∧ S' = ⟨hav [(1, .ptr b1 0), (2, .ptr b2 0), (9, .int .i64 x15), (94, .lit l3 aP0.Bars.length (flat aP0.Bars)), (95, .int .i64 (aP0.Bars.length : Int)), (96, .int .i64 x15), (101, .lit 0 c16.length (flat c16)), (102, .int .i64 (c16.length : Int)), (103, .int .i64 s)] J, G⟩) hk ⟨_, _, hO, St.hav _ ⟨rfl, rfl, rfl, rfl, rfl, rfl, rfl, rfl, rfl, trivial⟩⟩ ?_
                    rintro x17 _ y2 ⟨J, G, hO, rfl⟩ hk hx2
                    refine wpL_sq ?_
                    refine wpL_rg ?_
                    refine pBi ?_
                    refine pE ?_
                    refine gn ?_
                    refine wpL_sq ?_
                    refine wpL_cd (b := decide (x17 < (c16.length : Int))) (fun hb => ?_) (fun hb => ?_)
                    · replace hk := ct hb hk
                      refine wpL_sk ?_
                      refine gn ?_
                      refine wpL_sq ?_
                      refine wpL_bl ?_
                      refine wpL_sq ?_
                      refine wpL_rg ?_
                      refine pM (.int _ _) ?_
                      obtain ⟨c18, hc18, hk⟩ := bs hk
                      refine pX hc18 tE38 tZ4 ?_
                      refine pLp (.bool _) (rd1 (off := 0) hc18 tA4) ?_
                      refine pA (.int _ _) ?_
                      refine pA (.bool _) ?_
                      refine pE ?_
                      refine gn ?_
                      refine wpL_sq ?_
                      refine wpL_drw [(0, true), (1, false), (2, true), (3, true), (4, false), (5, true), (6, true), (7, false), (8, true), (9, false), (10, false), (11, false), (12, false), (13, false), (14, false), (15, false), (16, false), (17, false), (18, false), (19, true), (20, true), (21, true), (22, true), (23, true), (24, true), (25, true), (26, true), (27, true), (28, true), (29, true), (30, true), (31, false), (32, false), (33, false)] [_, _, _, _, _, _, _, _, _, _, _, _, _, _, _, _, _, _, _, _, _, _, _, _, _, _, _, _, _, _, _, _, _, _] (by decide +kernel) (by rfl) ?_
                      refine pM (.bool _) ?_
                      refine pF tF81_3 ?_
                      refine pLo hO 1 (.lit _ _ _) tA45 ?_
                      refine pM (.int _ _) ?_
                      obtain ⟨c19, hc19, hk⟩ := bs hk
                      refine pX hc19 tE45 tZ38 ?_
                      refine pLp (.lit _ _ _) (rd1 (off := 0) hc19 tA38) ?_
                      refine pM (.int _ _) ?_
                      obtain ⟨c20, hc20, hk⟩ := bs hk
                      refine pX hc20 tE38 tZ4 ?_
                      refine pLp (.bool _) (rd1 (off := 0) hc20 tA4) ?_
                      refine pBn Try.underlying4 ?_
                      refine pM (.bool _) ?_
                      obtain ⟨t21, ht, hk⟩ := bs hk
                      refine wpR_mid (l1 := [_, _, _, _, _, _, _, _, _, _, _, _, _, _, _, _, _, _, _, _, _, _, _]) (fun S' => ∃ J, S' = ⟨hav [(1, .ptr b1 0), (2, .ptr b2 0), (9, .int .i64 x15), (94, .lit l3 aP0.Bars.length (flat aP0.Bars)), (95, .int .i64 (aP0.Bars.length : Int)), (96, .int .i64 x15), (101, .lit 0 c16.length (flat c16)), (102, .int .i64 (c16.length : Int)), (103, .int .i64 x17), (141, .bool t21)] J, G⟩) ?_ ?_
                      · refine bc (b := !(c18 == c20)) (fun hg1 => ?_) (fun hg1 => ?_)
                        · replace hk := ct hg1 ht
                          refine pGn hg1 ?_
                          refine pGn hg1 ?_
                          refine pGn hg1 ?_
                          refine pGn hg1 ?_
                          refine pGu ?_
                          refine pGu ?_
                          refine pGn hg1 ?_
                          refine pGn hg1 ?_
                          refine pGu ?_
                          refine pGu ?_
                          refine pGu ?_
                          refine pGu ?_
                          refine pGu ?_
                          refine pGu ?_
                          refine pGu ?_
                          refine pGu ?_
                          refine pGu ?_
                          refine pGu ?_
                          refine pGu ?_
                          refine pGu ?_
                          refine pGu ?_
                          refine pGn hg1 ?_
                          refine pPt hg1 (.bool _) ?_
                          cases hk; exact pE ⟨_, St.hav _ ⟨rfl, rfl, rfl, rfl, rfl, rfl, rfl, rfl, rfl, rfl, trivial⟩⟩
                        · replace hk := cf hg1 ht
                          refine pGy hg1 ?_
                          refine pM (.int _ _) ?_
                          refine pGy hg1 ?_
                          refine pM (.int _ _) ?_
                          refine pGy hg1 ?_
                          refine pBi ?_
                          refine pGy hg1 ?_
                          refine pM (.bool _) ?_
                          refine wpR_mid (l1 := [_, _, _]) (fun S' => ∃ J, S' = ⟨hav [(1, .ptr b1 0), (2, .ptr b2 0), (9, .int .i64 x15), (11, .int .i64 x17), (94, .lit l3 aP0.Bars.length (flat aP0.Bars)), (95, .int .i64 (aP0.Bars.length : Int)), (96, .int .i64 x15), (101, .lit 0 c16.length (flat c16)), (102, .int .i64 (c16.length : Int)), (103, .int .i64 x17), (118, .bool (!(c18 == c20))), (125, .bool ((x15 != x17) && !c18))] J, G⟩) ?_ ?_
                          · refine bc (b := (x15 != x17)) (fun hg2 => ?_) (fun hg2 => ?_)
                            · refine pGy hg2 ?_
                              refine pM (.bool _) ?_
                              refine pGy hg2 ?_
                              refine pU ?_
                              refine pGy hg1 ?_
                              refine pPt hg2 (.bool _) ?_
                              exact pE ⟨_, St.hav _ ⟨rfl, rfl, rfl, rfl, rfl, rfl, rfl, rfl, rfl, rfl, rfl, by rw [hg2]; rfl, trivial⟩⟩
                            · refine pGn hg2 ?_
                              refine pGn hg2 ?_
                              refine pGy hg1 ?_
                              refine pPf hg2 (.bool _) ?_
                              exact pE ⟨_, St.hav _ ⟨rfl, rfl, rfl, rfl, rfl, rfl, rfl, rfl, rfl, rfl, rfl, by rw [hg2]; rfl, trivial⟩⟩
                          · rintro _ ⟨J, rfl⟩
                            refine pGy hg1 ?_
                            refine pM (.bool _) ?_
                            obtain ⟨t22, ht, hk⟩ := bs hk
                            refine wpR_mid (l1 := [_, _, _, _, _, _, _, _, _, _, _, _, _, _]) (fun S' => ∃ J, S' = ⟨hav [(1, .ptr b1 0), (2, .ptr b2 0), (9, .int .i64 x15), (94, .lit l3 aP0.Bars.length (flat aP0.Bars)), (95, .int .i64 (aP0.Bars.length : Int)), (96, .int .i64 x15), (101, .lit 0 c16.length (flat c16)), (102, .int .i64 (c16.length : Int)), (103, .int .i64 x17), (118, .bool (!(c18 == c20))), (140, .bool t22)] J, G⟩) ?_ ?_
                            · refine bc (b := ((x15 != x17) && !c18)) (fun hg2 => ?_) (fun hg2 => ?_)
                              · replace hk := ct hg2 ht
                                refine pGy hg2 ?_
                                refine pF tF81_2 ?_
                                refine pGy hg2 ?_
                                refine pLo hO 1 (.lit _ _ _) tA79 ?_
                                refine pGy hg2 ?_
                                refine pM (.int _ _) ?_
                                refine pGy hg2 ?_
                                obtain ⟨c23, hc23, hk⟩ := bs hk
                                refine pX hc23 tE79 tZ218 ?_
                                refine pGy hg2 ?_
                                refine pF tF218_0 ?_
                                refine pGy hg2 ?_
                                refine pLp (.lit _ _ _) (rd1 (off := 0) hc23 tA26) ?_
                                refine pGy hg2 ?_
                                refine pF tF81_2 ?_
                                refine pGy hg2 ?_
                                refine pLo hO 1 (.lit _ _ _) tA79 ?_
                                refine pGy hg2 ?_
                                refine pM (.int _ _) ?_
                                refine pGy hg2 ?_
                                obtain ⟨c24, hc24, hk⟩ := bs hk
                                refine pX hc24 tE79 tZ218 ?_
                                refine pGy hg2 ?_
                                refine pF tF218_0 ?_
                                refine pGy hg2 ?_
                                refine pLp (.lit _ _ _) (rd1 (off := 0) hc24 tA26) ?_
                                refine pGy hg2 ?_
                                obtain ⟨v25, hv25, hk⟩ := bs hk
                                refine pCall (fun _ => f169_run hv25) ?_
                                refine pGy hg1 ?_
                                refine pPt hg2 (.bool _) ?_
                                cases hk; exact pE ⟨_, St.hav _ ⟨rfl, rfl, rfl, rfl, rfl, rfl, rfl, rfl, rfl, rfl, rfl, trivial⟩⟩
                              · replace hk := cf hg2 ht
                                refine pGn hg2 ?_
                                refine pGn hg2 ?_
                                refine pGn hg2 ?_
                                refine pGn hg2 ?_
                                refine pGn hg2 ?_
                                refine pGn hg2 ?_
                                refine pGn hg2 ?_
                                refine pGn hg2 ?_
                                refine pGn hg2 ?_
                                refine pGn hg2 ?_
                                refine pGn hg2 ?_
                                refine pGn hg2 ?_
                                refine pGn hg2 ?_
                                refine pGy hg1 ?_
                                refine pPf hg2 (.bool _) ?_
                                cases hk; exact pE ⟨_, St.hav _ ⟨rfl, rfl, rfl, rfl, rfl, rfl, rfl, rfl, rfl, rfl, rfl, trivial⟩⟩
                            · rintro _ ⟨J, rfl⟩
                              refine pPf hg1 (.bool _) ?_
                              cases hk; exact pE ⟨_, St.hav _ ⟨rfl, rfl, rfl, rfl, rfl, rfl, rfl, rfl, rfl, rfl, trivial⟩⟩
                      · rintro _ ⟨J, rfl⟩
                        refine pE ?_
                        refine gn ?_
                        refine wpL_cd (b := t21) (fun hb => ?_) (fun hb => ?_)
                        · replace hk := ct hb hk
                          refine wpL_sq ?_
                          refine wpL_rg ?_
                          refine pM (.int _ _) ?_
                          refine pBd [_, _] t077 tP77 ?_
                          refine pSt (xs := [_, _]) hO 0 tZ77 rfl (fun G hO => ?_)
                          refine pE ?_
                          refine gn ?_
                          refine wpL_rt ?_
                          refine br (gr (gr (br (br (gr (gr (br (gr ?_))))))))
                          replace hk := lx hx2 hk
                          replace hk := lx hx1 hk
                          replace hk := Option.some.inj hk; subst hk; exact finZ hO (fz_agg (n := 2) (fz_c (fz_int _ _) (fz_c (fz_int _ _) (fz_n)))) (resS hO 0 [_, _] tA77 tZ77 resN)
                        · replace hk := cf hb hk
                          refine wpL_sk ?_
                          refine bn (gn ?_)
                          refine wpL_rg ?_
                          refine pBi ?_
                          refine pM (.int _ _) ?_
                          refine pE ?_
                          refine gn ?_
                          cases hk; exact ⟨_, rfl, _, _, hO, St.hav _ ⟨rfl, rfl, rfl, rfl, rfl, rfl, rfl, rfl, rfl, trivial⟩⟩
                    · replace hk := cf hb hk
                      refine wpL_ex ?_
                      refine ge (ge (be (bn (gn ?_))))
                      replace hk := lx hx2 hk
                      refine wpL_rg ?_
                      refine pBi ?_
                      refine pM (.int _ _) ?_
                      refine pE ?_
                      refine gn ?_
                      cases hk; exact ⟨_, rfl, _, _, hO, St.hav _ ⟨rfl, rfl, rfl, rfl, rfl, trivial⟩⟩
                  · replace hk := cf hb hk
                    refine wpL_ex ?_
                    refine ge (ge (be (gn ?_)))
                    replace hk := lx hx1 hk
                    refine wpL_sq ?_
                    refine wpL_rg ?_
                    refine pBd [_, _] t077 tP77 ?_
                    refine pSt (xs := [_, _]) hO 0 tZ77 rfl (fun G hO => ?_)
                    refine pE ?_
                    refine gn ?_
                    refine wpL_rt ?_
                    replace hk := Option.some.inj hk; subst hk; exact finZ hO (fz_agg (n := 2) (fz_c (fz_int _ _) (fz_c (fz_int _ _) (fz_n)))) (resS hO 0 [_, _] tA77 tZ77 resN)
/-- impl.within -/
def f171 (aX0 : Int) (aLo1 : Int) (aHi2 : Int) : Option Bool :=
  some (decide (aX0 ≥ aLo1) && decide (aX0 ≤ aHi2))
theorem f171_run {aX0 : Int} {aLo1 : Int} {aHi2 : Int} {r : Bool} {H : Heap} {lk : Lk} (hk : f171 aX0 aLo1 aHi2 = some r) (hlk : 0 < lk.length := by simp) : runL Try.prog hh 171 [.int .i64 aX0, .int .i64 aLo1, .int .i64 aHi2] H lk = some (.bool r, H) := by
  refine run_start Try.func171 rfl Try.ntmps171 Try.results171 rfl rfl fun hO => ?_
  unfold f171 at hk
  refine wpL_sq ?_
  refine wpL_rg ?_
  refine pA (.bool _) ?_
  refine pE ?_
  refine gn ?_
  refine wpL_sq ?_
  refine wpL_rg ?_
  refine pM (.int _ _) ?_
  refine pM (.int _ _) ?_
  refine pBi ?_
  refine pM (.bool _) ?_
  refine wpR_mid (l1 := [_, _, _, _]) (fun S' => ∃ J, S' = ⟨hav [(14, .bool (decide (aX0 ≥ aLo1) && decide (aX0 ≤ aHi2)))] J, H⟩) ?_ ?_
  · refine bc (b := decide (aX0 ≥ aLo1)) (fun hg1 => ?_) (fun hg1 => ?_)
    · refine pGy hg1 ?_
      refine pM (.int _ _) ?_
      refine pGy hg1 ?_
      refine pM (.int _ _) ?_
      refine pGy hg1 ?_
      refine pBi ?_
      refine pPt hg1 (.bool _) ?_
      exact pE ⟨_, St.hav _ ⟨by rw [hg1]; rfl, trivial⟩⟩
    · refine pGn hg1 ?_
      refine pGn hg1 ?_
      refine pGn hg1 ?_
      refine pPf hg1 (.bool _) ?_
      exact pE ⟨_, St.hav _ ⟨by rw [hg1]; rfl, trivial⟩⟩
  · rintro _ ⟨J, rfl⟩
    refine pA (.bool _) ?_
    refine pE ?_
    refine gn ?_
    refine wpL_rt ?_
    replace hk := Option.some.inj hk; subst hk; exact fin0 hO
/-- slices.Index[[]int,int] -/
def f260_L1 (aS0 : List Int) (aV1 : Int) : Int → Option (Int ⊕ Int) := fun s =>
  (bif decide (s < (aS0.length : Int)) then ((getI aS0 s).bind fun c2 => (bif (aV1 == c2) then ((some s).map Sum.inr) else some (.inl (w64 (s + (1:Int)))))) else ((some (-1:Int)).map Sum.inr))
def f260 (aS0 : List Int) (aV1 : Int) : Option Int :=
  (loopO (f260_L1 aS0 aV1) ((0:Int)))
theorem f260_run {aS0 : List Int} {aV1 : Int} {r : Int} {l1 : Nat} {H : Heap} {lk : Lk} (hk : f260 aS0 aV1 = some r) (hlk : 0 < lk.length := by simp) : runL Try.prog hh 260 [.lit l1 aS0.length (flat aS0), .int .i64 aV1] H lk = some (.int .i64 r, H) := by
  refine run_start Try.func260 rfl Try.ntmps260 Try.results260 rfl rfl fun hO => ?_
  unfold f260 at hk
  refine wpL_sq ?_
  refine wpL_rg ?_
  refine pA (.int _ _) ?_
  refine pE ?_
  refine gn ?_
  refine wpL_sq ?_
  refine wpL_sq ?_
  refine wpL_rg ?_
  refine pM (.lit _ _ _) ?_
  refine pLen tS26 ?_
  refine pM (.int _ _) ?_
  refine pE ?_
  refine gn ?_
  refine wpL_bl ?_
  refine wpL_loopO (F := f260_L1 aS0 aV1) (fun s S' => ∃ (J : Nat → V) (G : Heap), Owns H G [] ∧ S' = ⟨hav [(0, .lit l1 aS0.length (flat aS0)), (1, .int .i64 aV1), (7, .int .i64 (aS0.length : Int)), (8, .int .i64 s)] J, G⟩) hk ⟨_, _, hO, St.hav _ ⟨rfl, rfl, rfl, rfl, trivial⟩⟩ ?_
  rintro x1 _ y1 ⟨J, G, hO, rfl⟩ hk hx1
  refine wpL_sq ?_
  refine wpL_rg ?_
  refine pBi ?_
  refine pE ?_
  refine gn ?_
  refine wpL_sq ?_
  refine wpL_cd (b := decide (x1 < (aS0.length : Int))) (fun hb => ?_) (fun hb => ?_)
  · replace hk := ct hb hk
    refine wpL_sk ?_
    refine gn ?_
    refine wpL_sq ?_
    refine wpL_bl ?_
    refine wpL_sq ?_
    refine wpL_rg ?_
    refine pM (.int _ _) ?_
    refine pA (.int _ _) ?_
    refine pE ?_
    refine gn ?_
    refine wpL_sq ?_
    refine wpL_rg ?_
    refine pM (.int _ _) ?_
    refine pM (.lit _ _ _) ?_
    refine pM (.int _ _) ?_
    obtain ⟨c2, hc2, hk⟩ := bs hk
    refine pX hc2 tE26 tZ3 ?_
    refine pLp (.int _ _) (rd1 (off := 0) hc2 tA3) ?_
    refine pBi ?_
    refine pE ?_
    refine gn ?_
    refine wpL_cd (b := (aV1 == c2)) (fun hb => ?_) (fun hb => ?_)
    · replace hk := ct hb hk
      refine wpL_sq ?_
      refine wpL_rg ?_
      refine pM (.int _ _) ?_
      refine pA (.int _ _) ?_
      refine pE ?_
      refine gn ?_
      refine wpL_rt ?_
      refine br (gr (gr (br (gr ?_))))
      replace hk := lx hx1 hk
      replace hk := Option.some.inj hk; subst hk; exact fin0 hO
    · replace hk := cf hb hk
      refine wpL_sk ?_
      refine bn (gn ?_)
      refine wpL_rg ?_
      refine pBi ?_
      refine pM (.int _ _) ?_
      refine pE ?_
      refine gn ?_
      cases hk; exact ⟨_, rfl, _, _, hO, St.hav _ ⟨rfl, rfl, rfl, rfl, trivial⟩⟩
  · replace hk := cf hb hk
    refine wpL_ex ?_
    refine ge (ge (be (gn ?_)))
    replace hk := lx hx1 hk
    refine wpL_sq ?_
    refine wpL_rg ?_
    refine pA (.int _ _) ?_
    refine pE ?_
    refine gn ?_
    refine wpL_rt ?_
    replace hk := Option.some.inj hk; subst hk; exact fin0 hO
/-- slices.Contains[[]int,int] -/
def f161 (aS0 : List Int) (aV1 : Int) : Option Bool :=
  ((f260 aS0 aV1).bind fun v1 => some (decide (v1 ≥ (0:Int))))
theorem f161_run {aS0 : List Int} {aV1 : Int} {r : Bool} {l1 : Nat} {H : Heap} {lk : Lk} (hk : f161 aS0 aV1 = some r) (hlk : 0 < lk.length := by simp) : runL Try.prog hh 161 [.lit l1 aS0.length (flat aS0), .int .i64 aV1] H lk = some (.bool r, H) := by
  refine run_start Try.func161 rfl Try.ntmps161 Try.results161 rfl rfl fun hO => ?_
  unfold f161 at hk
  refine wpL_sq ?_
  refine wpL_rg ?_
  refine pA (.bool _) ?_
  refine pE ?_
  refine gn ?_
  refine wpL_sq ?_
  refine wpL_rg ?_
  refine pM (.lit _ _ _) ?_
  refine pM (.int _ _) ?_
  obtain ⟨v1, hv1, hk⟩ := bs hk
  refine pCall (fun _ => f260_run hv1) ?_
  refine pBi ?_
  refine pA (.bool _) ?_
  refine pE ?_
  refine gn ?_
  refine wpL_rt ?_
  replace hk := Option.some.inj hk; subst hk; exact fin0 hO
/-- impl.sections -/
def f270_L1 (aL0 : List Int) (aN1 : Int) : Int → Option (Int ⊕ Bool) := fun s =>
  (bif decide (s < (aL0.length : Int)) then ((getI aL0 s).bind fun c2 => ((f171 c2 (0:Int) (w64 (aN1 - (1:Int)))).bind fun v3 => ((bif !v3 then some true else ((subB aL0 (0:Int) s).bind fun y5 => ((f161 y5 c2).bind fun v6 => some v6))).bind fun t4 => (bif t4 then ((some false).map Sum.inr) else some (.inl (w64 (s + (1:Int)))))))) else ((some (decide ((aL0.length : Int) ≤ (30:Int)))).map Sum.inr))
def f270 (aL0 : List Int) (aN1 : Int) : Option Bool :=
  (loopO (f270_L1 aL0 aN1) ((0:Int)))
theorem f270_run {aL0 : List Int} {aN1 : Int} {r : Bool} {l1 : Nat} {H : Heap} {lk : Lk} (hk : f270 aL0 aN1 = some r) (hlk : 0 < lk.length := by simp) : runL Try.prog hh 270 [.lit l1 aL0.length (flat aL0), .int .i64 aN1] H lk = some (.bool r, H) := by
  refine run_start Try.func270 rfl Try.ntmps270 Try.results270 rfl rfl fun hO => ?_
  unfold f270 at hk
  refine wpL_sq ?_
  refine wpL_rg ?_
  refine pA (.bool _) ?_
  refine pE ?_
  refine gn ?_
  refine wpL_sq ?_
  refine wpL_sq ?_
  refine wpL_rg ?_
  refine pM (.lit _ _ _) ?_
  refine pLen tS26 ?_
  refine pM (.int _ _) ?_
  refine pE ?_
  refine gn ?_
  refine wpL_bl ?_
  refine wpL_loopO (F := f270_L1 aL0 aN1) (fun s S' => ∃ (J : Nat → V) (G : Heap), Owns H G [] ∧ S' = ⟨hav [(0, .lit l1 aL0.length (flat aL0)), (1, .int .i64 aN1), (7, .lit l1 aL0.length (flat aL0)), (8, .int .i64 (aL0.length : Int)), (9, .int .i64 s)] J, G⟩) hk ⟨_, _, hO, St.hav _ ⟨rfl, rfl, rfl, rfl, rfl, trivial⟩⟩ ?_
  rintro x1 _ y1 ⟨J, G, hO, rfl⟩ hk hx1
  refine wpL_sq ?_
  refine wpL_rg ?_
  refine pBi ?_
  refine pE ?_
  refine gn ?_
  refine wpL_sq ?_
  refine wpL_cd (b := decide (x1 < (aL0.length : Int))) (fun hb => ?_) (fun hb => ?_)
  · replace hk := ct hb hk
    refine wpL_sk ?_
    refine gn ?_
    refine wpL_sq ?_
    refine wpL_bl ?_
    refine wpL_sq ?_
    refine wpL_rg ?_
    refine pM (.int _ _) ?_
    obtain ⟨c2, hc2, hk⟩ := bs hk
    refine pX hc2 tE26 tZ3 ?_
    refine pLp (.int _ _) (rd1 (off := 0) hc2 tA3) ?_
    refine pA (.int _ _) ?_
    refine pA (.int _ _) ?_
    refine pE ?_
    refine gn ?_
    refine wpL_sq ?_
    refine wpL_rg ?_
    refine pM (.int _ _) ?_
    refine pM (.int _ _) ?_
    refine pBi ?_
    obtain ⟨v3, hv3, hk⟩ := bs hk
    refine pCall (fun _ => f171_run hv3) ?_
    refine pU ?_
    refine pM (.bool _) ?_
    obtain ⟨t4, ht, hk⟩ := bs hk
    refine wpR_mid (l1 := [_, _, _, _, _, _]) (fun S' => ∃ J, S' = ⟨hav [(0, .lit l1 aL0.length (flat aL0)), (1, .int .i64 aN1), (7, .lit l1 aL0.length (flat aL0)), (8, .int .i64 (aL0.length : Int)), (9, .int .i64 x1), (25, .bool t4)] J, G⟩) ?_ ?_
    · refine bc (b := !v3) (fun hg1 => ?_) (fun hg1 => ?_)
      · replace hk := ct hg1 ht
        refine pGn hg1 ?_
        refine pGn hg1 ?_
        refine pGn hg1 ?_
        refine pGn hg1 ?_
        refine pGn hg1 ?_
        refine pPt hg1 (.bool _) ?_
        cases hk; exact pE ⟨_, St.hav _ ⟨rfl, rfl, rfl, rfl, rfl, rfl, trivial⟩⟩
      · replace hk := cf hg1 ht
        refine pGy hg1 ?_
        refine pM (.lit _ _ _) ?_
        refine pGy hg1 ?_
        refine pM (.int _ _) ?_
        refine pGy hg1 ?_
        obtain ⟨y5, hy5, hk⟩ := bs hk
        refine pSlH hy5 tE26 tZ3 ?_
        refine pGy hg1 ?_
        refine pM (.int _ _) ?_
        refine pGy hg1 ?_
        obtain ⟨v6, hv6, hk⟩ := bs hk
        refine pCall (fun _ => f161_run hv6) ?_
        refine pPf hg1 (.bool _) ?_
        cases hk; exact pE ⟨_, St.hav _ ⟨rfl, rfl, rfl, rfl, rfl, rfl, trivial⟩⟩
    · rintro _ ⟨J, rfl⟩
      refine pE ?_
      refine gn ?_
      refine wpL_cd (b := t4) (fun hb => ?_) (fun hb => ?_)
      · replace hk := ct hb hk
        refine wpL_sq ?_
        refine wpL_rg ?_
        refine pA (.bool _) ?_
        refine pE ?_
        refine gn ?_
        refine wpL_rt ?_
        refine br (gr (gr (br (gr ?_))))
        replace hk := lx hx1 hk
        replace hk := Option.some.inj hk; subst hk; exact fin0 hO
      · replace hk := cf hb hk
        refine wpL_sk ?_
        refine bn (gn ?_)
        refine wpL_rg ?_
        refine pBi ?_
        refine pM (.int _ _) ?_
        refine pE ?_
        refine gn ?_
        cases hk; exact ⟨_, rfl, _, _, hO, St.hav _ ⟨rfl, rfl, rfl, rfl, rfl, trivial⟩⟩
  · replace hk := cf hb hk
    refine wpL_ex ?_
    refine ge (ge (be (gn ?_)))
    replace hk := lx hx1 hk
    refine wpL_sq ?_
    refine wpL_rg ?_
    refine pM (.lit _ _ _) ?_
    refine pLen tS26 ?_
    refine pBi ?_
    refine pA (.bool _) ?_
    refine pE ?_
    refine gn ?_
    refine wpL_rt ?_
    replace hk := Option.some.inj hk; subst hk; exact fin0 hO
/-- impl.common$1 -/
def f273 (aX0 : Int) (aA1 : List Int) : Option Bool :=
  ((f161 aA1 aX0).bind fun v1 => some v1)
theorem f273_run {aX0 : Int} {aA1 : List Int} {r : Bool} {l1 : Nat} {H : Heap} {lk : Lk} {q0 : Nat} (hk : f273 aX0 aA1 = some r) (hq0 : H[q0]? = some (.cells 1 [.lit l1 aA1.length (flat aA1)])) (hlk : 0 < lk.length := by simp) : runL Try.prog hh 273 [.int .i64 aX0, .ptr q0 0] H lk = some (.bool r, H) := by
  refine run_start Try.func273 rfl Try.ntmps273 Try.results273 rfl rfl fun hO => ?_
  unfold f273 at hk
  refine wpL_sq ?_
  refine wpL_rg ?_
  refine pA (.bool _) ?_
  refine pE ?_
  refine gn ?_
  refine wpL_sq ?_
  refine wpL_rg ?_
  refine pLf (.lit _ _ _) hO hq0 tA26 ?_
  refine pM (.int _ _) ?_
  obtain ⟨v1, hv1, hk⟩ := bs hk
  refine pCall (fun _ => f161_run hv1) ?_
  refine pA (.bool _) ?_
  refine pE ?_
  refine gn ?_
  refine wpL_rt ?_
  replace hk := Option.some.inj hk; subst hk; exact fin0 hO
/-- slices.IndexFunc[[]int,int] -/
def f326c273_L1 (aS0 : List Int) (aC1_0 : List Int) : Int → Option (Int ⊕ Int) := fun s =>
  (bif decide (s < (aS0.length : Int)) then ((getI aS0 s).bind fun c2 => ((f273 c2 aC1_0).bind fun v3 => (bif v3 then ((some s).map Sum.inr) else some (.inl (w64 (s + (1:Int))))))) else ((some (-1:Int)).map Sum.inr))
def f326c273 (aS0 : List Int) (aC1_0 : List Int) : Option Int :=
  (loopO (f326c273_L1 aS0 aC1_0) ((0:Int)))
theorem f326c273_run {aS0 : List Int} {aC1_0 : List Int} {r : Int} {l1 l2 : Nat} {H : Heap} {lk : Lk} {q0 : Nat} (hk : f326c273 aS0 aC1_0 = some r) (hq0 : H[q0]? = some (.cells 1 [.lit l2 aC1_0.length (flat aC1_0)])) (hlk : 0 < lk.length := by simp) : runL Try.prog hh 326 [.lit l1 aS0.length (flat aS0), .fn 273 [.ptr q0 0]] H lk = some (.int .i64 r, H) := by
  refine run_start Try.func326 rfl Try.ntmps326 Try.results326 rfl rfl fun hO => ?_
  unfold f326c273 at hk
  refine wpL_sq ?_
  refine wpL_rg ?_
  refine pA (.int _ _) ?_
  refine pE ?_
  refine gn ?_
  refine wpL_sq ?_
  refine wpL_sq ?_
  refine wpL_rg ?_
  refine pM (.lit _ _ _) ?_
  refine pLen tS26 ?_
  refine pM (.int _ _) ?_
  refine pE ?_
  refine gn ?_
  refine wpL_bl ?_
  refine wpL_loopO (F := f326c273_L1 aS0 aC1_0) (fun s S' => ∃ (J : Nat → V) (G : Heap), Owns H G [] ∧ S' = ⟨hav [(0, .lit l1 aS0.length (flat aS0)), (1, .fn 273 [.ptr q0 0]), (7, .int .i64 (aS0.length : Int)), (8, .int .i64 s)] J, G⟩) hk ⟨_, _, hO, St.hav _ ⟨rfl, rfl, rfl, rfl, trivial⟩⟩ ?_
  rintro x1 _ y1 ⟨J, G, hO, rfl⟩ hk hx1
  refine wpL_sq ?_
  refine wpL_rg ?_
  refine pBi ?_
  refine pE ?_
  refine gn ?_
  refine wpL_sq ?_
  refine wpL_cd (b := decide (x1 < (aS0.length : Int))) (fun hb => ?_) (fun hb => ?_)
  · replace hk := ct hb hk
    refine wpL_sk ?_
    refine gn ?_
    refine wpL_sq ?_
    refine wpL_bl ?_
    refine wpL_sq ?_
    refine wpL_rg ?_
    refine pM (.int _ _) ?_
    refine pA (.int _ _) ?_
    refine pE ?_
    refine gn ?_
    refine wpL_sq ?_
    refine wpL_rg ?_
    refine pM (.fn _ _) ?_
    refine pM (.lit _ _ _) ?_
    refine pM (.int _ _) ?_
    obtain ⟨c2, hc2, hk⟩ := bs hk
    refine pX hc2 tE26 tZ3 ?_
    refine pLp (.int _ _) (rd1 (off := 0) hc2 tA3) ?_
    obtain ⟨v3, hv3, hk⟩ := bs hk
    refine pCall (fun _ => f273_run hv3 (own_for hO hq0)) ?_
    refine pE ?_
    refine gn ?_
    refine wpL_cd (b := v3) (fun hb => ?_) (fun hb => ?_)
    · replace hk := ct hb hk
      refine wpL_sq ?_
      refine wpL_rg ?_
      refine pM (.int _ _) ?_
      refine pA (.int _ _) ?_
      refine pE ?_
      refine gn ?_
      refine wpL_rt ?_
      refine br (gr (gr (br (gr ?_))))
      replace hk := lx hx1 hk
      replace hk := Option.some.inj hk; subst hk; exact fin0 hO
    · replace hk := cf hb hk
      refine wpL_sk ?_
      refine bn (gn ?_)
      refine wpL_rg ?_
      refine pBi ?_
      refine pM (.int _ _) ?_
      refine pE ?_
      refine gn ?_
      cases hk; exact ⟨_, rfl, _, _, hO, St.hav _ ⟨rfl, rfl, rfl, rfl, trivial⟩⟩
  · replace hk := cf hb hk
    refine wpL_ex ?_
    refine ge (ge (be (gn ?_)))
    replace hk := lx hx1 hk
    refine wpL_sq ?_
    refine wpL_rg ?_
    refine pA (.int _ _) ?_
    refine pE ?_
    refine gn ?_
    refine wpL_rt ?_
    replace hk := Option.some.inj hk; subst hk; exact fin0 hO
/-- slices.ContainsFunc[[]int,int] -/
def f272c273 (aS0 : List Int) (aC1_0 : List Int) : Option Bool :=
  ((f326c273 aS0 aC1_0).bind fun v1 => some (decide (v1 ≥ (0:Int))))
theorem f272c273_run {aS0 : List Int} {aC1_0 : List Int} {r : Bool} {l1 l2 : Nat} {H : Heap} {lk : Lk} {q0 : Nat} (hk : f272c273 aS0 aC1_0 = some r) (hq0 : H[q0]? = some (.cells 1 [.lit l2 aC1_0.length (flat aC1_0)])) (hlk : 0 < lk.length := by simp) : runL Try.prog hh 272 [.lit l1 aS0.length (flat aS0), .fn 273 [.ptr q0 0]] H lk = some (.bool r, H) := by
  refine run_start Try.func272 rfl Try.ntmps272 Try.results272 rfl rfl fun hO => ?_
  unfold f272c273 at hk
  refine wpL_sq ?_
  refine wpL_rg ?_
  refine pA (.bool _) ?_
  refine pE ?_
  refine gn ?_
  refine wpL_sq ?_
  refine wpL_rg ?_
  refine pM (.lit _ _ _) ?_
  refine pM (.fn _ _) ?_
  obtain ⟨v1, hv1, hk⟩ := bs hk
  refine pCall (fun _ => f326c273_run hv1 (own_for hO hq0)) ?_
  refine pBi ?_
  refine pA (.bool _) ?_
  refine pE ?_
  refine gn ?_
  refine wpL_rt ?_
  replace hk := Option.some.inj hk; subst hk; exact fin0 hO
/-- impl.common -/
def f173 (aA0 : List Int) (aB1 : List Int) : Option Bool :=
  ((f272c273 aA0 aB1).bind fun v2 => some v2)
theorem f173_run {aA0 : List Int} {aB1 : List Int} {r : Bool} {l1 l2 : Nat} {H : Heap} {lk : Lk} (hk : f173 aA0 aB1 = some r) (hlk : 0 < lk.length := by simp) : runL Try.prog hh 173 [.lit l1 aA0.length (flat aA0), .lit l2 aB1.length (flat aB1)] H lk = some (.bool r, H) := by
  refine run_start Try.func173 rfl Try.ntmps173 Try.results173 rfl rfl fun hO => ?_
  unfold f173 at hk
  refine wpL_sq ?_
  refine wpL_rg ?_
  refine pBox (cs := [_]) hO tZ26 (fun b1 G hO => ?_)
  refine pA (.bool _) ?_
  refine pE ?_
  refine gn ?_
  refine wpL_sq ?_
  refine wpL_rg ?_
  refine pM (.lit _ _ _) ?_
  refine pFn (vs := [_]) ?_
  obtain ⟨v2, hv2, hk⟩ := bs hk
  refine pCall (fun _ => f272c273_run hv2 (hO.get (k := 0) rfl).1) ?_
  refine pA (.bool _) ?_
  refine pE ?_
  refine gn ?_
  refine wpL_rt ?_
  replace hk := Option.some.inj hk; subst hk; exact fin0 hO
/-- impl.wayOk -/
def f172_L2 (aP0 : Plan) (aW1 : Way) : Int → Option (Int ⊕ Bool) := fun s =>
  (bif decide (s < (aW1.Lies.length : Int)) then ((getI aW1.Lies s).bind fun c24 => ((getI aP0.Switches c24.Switch).bind fun c26 => ((f161 aW1.Sections c26).bind fun v27 => (bif !v27 then ((some false).map Sum.inr) else some (.inl (w64 (s + (1:Int)))))))) else (((f173 aW1.Sections aW1.Over).bind fun v28 => some (!v28)).map Sum.inr))
def f172_L1 (aP0 : Plan) (aW1 : Way) (z12 : List Turn) : ((List (Int × Bool)) × (List Turn) × Int) → Option (((List (Int × Bool)) × (List Turn) × Int) ⊕ Bool) := fun s =>
  (bif decide (s.2.2 < (z12.length : Int)) then ((getI s.2.1 s.2.2).bind fun c17 => ((f171 c17.Switch (0:Int) (w64 ((aP0.Switches.length : Int) - (1:Int)))).bind fun v20 => ((bif !v20 then some true else ((f171 c17.Lie (1:Int) (2:Int)).bind fun v22 => some (!v22))).bind fun t21 => (bif (t21 || (mget c17.Switch s.1 false)) then ((some false).map Sum.inr) else some (.inl (mset c17.Switch true s.1, s.2.1, w64 (s.2.2 + (1:Int)))))))) else ((loopO (f172_L2 aP0 aW1) ((0:Int))).map Sum.inr))
def f172 (aP0 : Plan) (aW1 : Way) : Option Bool :=
  ((bif ((aW1.Sections.length : Int) == (0:Int)) then some true else ((f270 aW1.Sections aP0.Sections).bind fun v4 => some (!v4))).bind fun t3 => ((bif t3 then some true else ((f270 aW1.Over aP0.Sections).bind fun v6 => some (!v6))).bind fun t5 => ((bif t5 then some true else ((f270 aW1.Near aP0.Sections).bind fun v8 => some (!v8))).bind fun t7 => (bif ((t7 || decide ((aW1.Lies.length : Int) > (30:Int))) || decide ((aW1.Flanks.length : Int) > (30:Int))) then some false else ((appB 16 ([] : List Turn) aW1.Lies).bind fun z10 => ((appB 16 z10 aW1.Flanks).bind fun z12 => (loopO (f172_L1 aP0 aW1 z12) (([] : List (Int × Bool)), z12, (0:Int)))))))))
theorem f172_run {aP0 : Plan} {aW1 : Way} {r : Bool} {l1 l2 l3 l4 l5 l6 l7 l8 : Nat} {H : Heap} {lk : Lk} (hk : f172 aP0 aW1 = some r) (hlk : 0 < lk.length := by simp) : runL Try.prog hh 172 [.agg [.int .i64 aP0.Sections, .lit l1 aP0.Switches.length (flat aP0.Switches), .lit l2 aP0.Ways.length (flat aP0.Ways), .lit l3 aP0.Bars.length (flat aP0.Bars), .int .i64 aP0.Hold], .agg [.lit l4 aW1.Sections.length (flat aW1.Sections), .lit l5 aW1.Lies.length (flat aW1.Lies), .lit l6 aW1.Flanks.length (flat aW1.Flanks), .lit l7 aW1.Over.length (flat aW1.Over), .lit l8 aW1.Near.length (flat aW1.Near)]] H lk = some (.bool r, H) := by
  refine run_start Try.func172 rfl Try.ntmps172 Try.results172 rfl rfl fun hO => ?_
  unfold f172 at hk
  refine wpL_sq ?_
  refine wpL_rg ?_
  refine pBox (cs := [_, _, _, _, _]) hO tZ81 (fun b1 G hO => ?_)
  refine pBox (cs := [_, _, _, _, _]) hO tZ218 (fun b2 G hO => ?_)
  refine pA (.bool _) ?_
  refine pE ?_
  refine gn ?_
  refine wpL_sq ?_
  refine wpL_sq ?_
  refine wpL_rg ?_
  refine pF tF218_0 ?_
  refine pLo hO 0 (.lit _ _ _) tA26 ?_
  refine pLen tS26 ?_
  refine pBi ?_
  refine pM (.bool _) ?_
  obtain ⟨t3, ht, hk⟩ := bs hk
  refine wpR_mid (l1 := [_, _, _, _, _, _, _]) (fun S' => ∃ J, S' = ⟨hav [(2, .ptr b1 0), (3, .ptr b2 0), (21, .bool t3)] J, G⟩) ?_ ?_
  · refine bc (b := ((aW1.Sections.length : Int) == (0:Int))) (fun hg1 => ?_) (fun hg1 => ?_)
    · replace hk := ct hg1 ht
      refine pGn hg1 ?_
      refine pGn hg1 ?_
      refine pGn hg1 ?_
      refine pGn hg1 ?_
      refine pGn hg1 ?_
      refine pGn hg1 ?_
      refine pPt hg1 (.bool _) ?_
      cases hk; exact pE ⟨_, St.hav _ ⟨rfl, rfl, rfl, trivial⟩⟩
    · replace hk := cf hg1 ht
      refine pGy hg1 ?_
      refine pF tF218_0 ?_
      refine pGy hg1 ?_
      refine pLo hO 0 (.lit _ _ _) tA26 ?_
      refine pGy hg1 ?_
      refine pF tF81_0 ?_
      refine pGy hg1 ?_
      refine pLo hO 1 (.int _ _) tA3 ?_
      refine pGy hg1 ?_
      obtain ⟨v4, hv4, hk⟩ := bs hk
      refine pCall (fun _ => f270_run hv4) ?_
      refine pGy hg1 ?_
      refine pU ?_
      refine pPf hg1 (.bool _) ?_
      cases hk; exact pE ⟨_, St.hav _ ⟨rfl, rfl, rfl, trivial⟩⟩
  · rintro _ ⟨J, rfl⟩
    refine pM (.bool _) ?_
    obtain ⟨t5, ht, hk⟩ := bs hk
    refine wpR_mid (l1 := [_, _, _, _, _, _, _]) (fun S' => ∃ J, S' = ⟨hav [(2, .ptr b1 0), (3, .ptr b2 0), (29, .bool t5)] J, G⟩) ?_ ?_
    · refine bc (b := t3) (fun hg1 => ?_) (fun hg1 => ?_)
      · replace hk := ct hg1 ht
        refine pGn hg1 ?_
        refine pGn hg1 ?_
        refine pGn hg1 ?_
        refine pGn hg1 ?_
        refine pGn hg1 ?_
        refine pGn hg1 ?_
        refine pPt hg1 (.bool _) ?_
        cases hk; exact pE ⟨_, St.hav _ ⟨rfl, rfl, rfl, trivial⟩⟩
      · replace hk := cf hg1 ht
        refine pGy hg1 ?_
        refine pF tF218_3 ?_
        refine pGy hg1 ?_
        refine pLo hO 0 (.lit _ _ _) tA26 ?_
        refine pGy hg1 ?_
        refine pF tF81_0 ?_
        refine pGy hg1 ?_
        refine pLo hO 1 (.int _ _) tA3 ?_
        refine pGy hg1 ?_
        obtain ⟨v6, hv6, hk⟩ := bs hk
        refine pCall (fun _ => f270_run hv6) ?_
        refine pGy hg1 ?_
        refine pU ?_
        refine pPf hg1 (.bool _) ?_
        cases hk; exact pE ⟨_, St.hav _ ⟨rfl, rfl, rfl, trivial⟩⟩
    · rintro _ ⟨J, rfl⟩
      refine pM (.bool _) ?_
      obtain ⟨t7, ht, hk⟩ := bs hk
      refine wpR_mid (l1 := [_, _, _, _, _, _, _]) (fun S' => ∃ J, S' = ⟨hav [(2, .ptr b1 0), (3, .ptr b2 0), (37, .bool t7)] J, G⟩) ?_ ?_
      · refine bc (b := t5) (fun hg1 => ?_) (fun hg1 => ?_)
        · replace hk := ct hg1 ht
          refine pGn hg1 ?_
          refine pGn hg1 ?_
          refine pGn hg1 ?_
          refine pGn hg1 ?_
          refine pGn hg1 ?_
          refine pGn hg1 ?_
          refine pPt hg1 (.bool _) ?_
          cases hk; exact pE ⟨_, St.hav _ ⟨rfl, rfl, rfl, trivial⟩⟩
        · replace hk := cf hg1 ht
          refine pGy hg1 ?_
          refine pF tF218_4 ?_
          refine pGy hg1 ?_
          refine pLo hO 0 (.lit _ _ _) tA26 ?_
          refine pGy hg1 ?_
          refine pF tF81_0 ?_
          refine pGy hg1 ?_
          refine pLo hO 1 (.int _ _) tA3 ?_
          refine pGy hg1 ?_
          obtain ⟨v8, hv8, hk⟩ := bs hk
          refine pCall (fun _ => f270_run hv8) ?_
          refine pGy hg1 ?_
          refine pU ?_
          refine pPf hg1 (.bool _) ?_
          cases hk; exact pE ⟨_, St.hav _ ⟨rfl, rfl, rfl, trivial⟩⟩
      · rintro _ ⟨J, rfl⟩
        refine pM (.bool _) ?_
        refine wpR_mid (l1 := [_, _, _, _, _]) (fun S' => ∃ J, S' = ⟨hav [(2, .ptr b1 0), (3, .ptr b2 0), (43, .bool (t7 || decide ((aW1.Lies.length : Int) > (30:Int))))] J, G⟩) ?_ ?_
        · refine bc (b := t7) (fun hg1 => ?_) (fun hg1 => ?_)
          · refine pGn hg1 ?_
            refine pGn hg1 ?_
            refine pGn hg1 ?_
            refine pGn hg1 ?_
            refine pPt hg1 (.bool _) ?_
            exact pE ⟨_, St.hav _ ⟨rfl, rfl, by rw [hg1]; rfl, trivial⟩⟩
          · refine pGy hg1 ?_
            refine pF tF218_1 ?_
            refine pGy hg1 ?_
            refine pLo hO 0 (.lit _ _ _) tA216 ?_
            refine pGy hg1 ?_
            refine pLen tS216 ?_
            refine pGy hg1 ?_
            refine pBi ?_
            refine pPf hg1 (.bool _) ?_
            exact pE ⟨_, St.hav _ ⟨rfl, rfl, by rw [hg1]; rfl, trivial⟩⟩
        · rintro _ ⟨J, rfl⟩
          refine pM (.bool _) ?_
          refine wpR_mid (l1 := [_, _, _, _, _]) (fun S' => ∃ J, S' = ⟨hav [(2, .ptr b1 0), (3, .ptr b2 0), (49, .bool ((t7 || decide ((aW1.Lies.length : Int) > (30:Int))) || decide ((aW1.Flanks.length : Int) > (30:Int))))] J, G⟩) ?_ ?_
          · refine bc (b := (t7 || decide ((aW1.Lies.length : Int) > (30:Int)))) (fun hg1 => ?_) (fun hg1 => ?_)
            · refine pGn hg1 ?_
              refine pGn hg1 ?_
              refine pGn hg1 ?_
              refine pGn hg1 ?_
              refine pPt hg1 (.bool _) ?_
              exact pE ⟨_, St.hav _ ⟨rfl, rfl, by rw [hg1]; rfl, trivial⟩⟩
            · refine pGy hg1 ?_
              refine pF tF218_2 ?_
              refine pGy hg1 ?_
              refine pLo hO 0 (.lit _ _ _) tA216 ?_
              refine pGy hg1 ?_
              refine pLen tS216 ?_
              refine pGy hg1 ?_
              refine pBi ?_
              refine pPf hg1 (.bool _) ?_
              exact pE ⟨_, St.hav _ ⟨rfl, rfl, by rw [hg1]; rfl, trivial⟩⟩
          · rintro _ ⟨J, rfl⟩
            refine pE ?_
            refine gn ?_
            refine wpL_cd (b := ((t7 || decide ((aW1.Lies.length : Int) > (30:Int))) || decide ((aW1.Flanks.length : Int) > (30:Int)))) (fun hb => ?_) (fun hb => ?_)
            · replace hk := ct hb hk
              refine wpL_sq ?_
              refine wpL_rg ?_
              refine pA (.bool _) ?_
              refine pE ?_
              refine gn ?_
              refine wpL_rt ?_
              refine gr ?_
              replace hk := Option.some.inj hk; subst hk; exact fin0 hO
            · replace hk := cf hb hk
              refine wpL_sk ?_
              refine gn ?_
              refine wpL_sq ?_
              refine wpL_rg ?_
              refine pMm Int Bool hO (fun b9 G hO => ?_)
              refine pA (.mref _) ?_
              refine pE ?_
              refine gn ?_
              refine wpL_sq ?_
              refine wpL_sq ?_
              refine wpL_drw [(0, true), (1, true), (3, true), (4, true), (7, true), (2, true), (5, false), (6, false)] [_, _, _, _, _, _, _, _] (by decide +kernel) (by rfl) ?_
              refine pF tF218_1 ?_
              refine pLo hO 1 (.lit _ _ _) tA216 ?_
              refine pF tF218_2 ?_
              refine pLo hO 1 (.lit _ _ _) tA216 ?_
              refine pM (.int _ _) ?_
              obtain ⟨z10, hz10, hk⟩ := bs hk
              refine pClone (xs := aW1.Lies) hO hz10 Try.func271 tC271 tE216 tZ307 tB307 t0307 (fun o10 G hO => ?_)
              obtain ⟨z12, hz12, hk⟩ := bs hk
              refine pAp (xs := z10) hO 0 hz12 (bears_lit _ aW1.Flanks) tE216 tZ307 tB307 t0307 tE216 rfl (fun o12 G hO => ?_)
              refine pLenO (bears_own hO (j := 0) rfl) tS216 ?_
              refine pE ?_
              refine gn ?_
              refine wpL_bl ?_
              refine wpL_loopO (F := f172_L1 aP0 aW1 z12) (fun s S' => ∃ (o14 : V) (J : Nat → V) (G : Heap), Owns H G [.blk b9 (.mp (kvs s.1)), .blk b2 (.cells 5 [.lit l4 aW1.Sections.length (flat aW1.Sections), .lit l5 aW1.Lies.length (flat aW1.Lies), .lit l6 aW1.Flanks.length (flat aW1.Flanks), .lit l7 aW1.Over.length (flat aW1.Over), .lit l8 aW1.Near.length (flat aW1.Near)]), .blk b1 (.cells 5 [.int .i64 aP0.Sections, .lit l1 aP0.Switches.length (flat aP0.Switches), .lit l2 aP0.Ways.length (flat aP0.Ways), .lit l3 aP0.Bars.length (flat aP0.Bars), .int .i64 aP0.Hold]), .own o14 lk.length 2 s.2.1.length (flat s.2.1)] ∧ S' = ⟨hav [(2, .ptr b1 0), (3, .ptr b2 0), (5, .mref b9), (56, o14), (57, .int .i64 (z12.length : Int)), (58, .int .i64 s.2.2)] J, G⟩) hk ⟨o12, _, _, (Owns.pick hO [1, 2, 3, 0] (by decide) rfl), St.hav _ ⟨rfl, rfl, rfl, rfl, rfl, rfl, trivial⟩⟩ ?_
              rintro ⟨x13, x14, x16⟩ _ y1 ⟨o14, J, G, hO, rfl⟩ hk hx1
              refine wpL_sq ?_
              refine wpL_rg ?_
              refine pBi ?_
              refine pE ?_
              refine gn ?_
              refine wpL_sq ?_
              refine wpL_cd (b := decide (x16 < (z12.length : Int))) (fun hb => ?_) (fun hb => ?_)
              · replace hk := ct hb hk
                refine wpL_sk ?_
                refine gn ?_
                refine wpL_sq ?_
                refine wpL_bl ?_
                refine wpL_sq ?_
                refine wpL_rg ?_
                obtain ⟨c17, hc17, hk⟩ := bs hk
                refine pXo hO 3 hc17 tE216 tZ307 (fun lv18 => ?_)
                refine pLp (.agg [_, _]) (rd2 (off := 0) hc17 tA307 tZ307) ?_
                refine pNew hO tZ307 t0307 (fun b19 G hO => ?_)
                refine pSt (xs := [_, _]) hO 0 tZ307 rfl (fun G hO => ?_)
                refine pE ?_
                refine gn ?_
                refine wpL_sq ?_
                refine wpL_sq ?_
                refine wpL_rg ?_
                refine pF tF307_0 ?_
                refine pLo hO 0 (.int _ _) tA3 ?_
                refine pF tF81_1 ?_
                refine pLo hO 3 (.lit _ _ _) tA26 ?_
                refine pLen tS26 ?_
                refine pBi ?_
                obtain ⟨v20, hv20, hk⟩ := bs hk
                refine pCall (fun _ => f171_run hv20) ?_
                refine pU ?_
                refine pM (.bool _) ?_
                obtain ⟨t21, ht, hk⟩ := bs hk
                refine wpR_mid (l1 := [_, _, _, _, _]) (fun S' => ∃ J, S' = ⟨hav [(2, .ptr b1 0), (3, .ptr b2 0), (5, .mref b9), (7, .ptr b19 0), (56, o14), (57, .int .i64 (z12.length : Int)), (58, .int .i64 x16), (75, .bool t21)] J, G⟩) ?_ ?_
                · refine bc (b := !v20) (fun hg1 => ?_) (fun hg1 => ?_)
                  · replace hk := ct hg1 ht
                    refine pGn hg1 ?_
                    refine pGn hg1 ?_
                    refine pGn hg1 ?_
                    refine pGn hg1 ?_
                    refine pPt hg1 (.bool _) ?_
                    cases hk; exact pE ⟨_, St.hav _ ⟨rfl, rfl, rfl, rfl, rfl, rfl, rfl, rfl, trivial⟩⟩
                  · replace hk := cf hg1 ht
                    refine pGy hg1 ?_
                    refine pF tF307_1 ?_
                    refine pGy hg1 ?_
                    refine pLo hO 0 (.int _ _) tA3 ?_
                    refine pGy hg1 ?_
                    obtain ⟨v22, hv22, hk⟩ := bs hk
                    refine pCall (fun _ => f171_run hv22) ?_
                    refine pGy hg1 ?_
                    refine pU ?_
                    refine pPf hg1 (.bool _) ?_
                    cases hk; exact pE ⟨_, St.hav _ ⟨rfl, rfl, rfl, rfl, rfl, rfl, rfl, rfl, trivial⟩⟩
                · rintro _ ⟨J, rfl⟩
                  refine pM (.bool _) ?_
                  refine wpR_mid (l1 := [_, _, _, _, _]) (fun S' => ∃ J, S' = ⟨hav [(2, .ptr b1 0), (3, .ptr b2 0), (5, .mref b9), (7, .ptr b19 0), (56, o14), (57, .int .i64 (z12.length : Int)), (58, .int .i64 x16), (81, .bool (t21 || (mget c17.Switch x13 false)))] J, G⟩) ?_ ?_
                  · refine bc (b := t21) (fun hg1 => ?_) (fun hg1 => ?_)
                    · refine pGn hg1 ?_
                      refine pGn hg1 ?_
                      refine pGn hg1 ?_
                      refine pGn hg1 ?_
                      refine pPt hg1 (.bool _) ?_
                      exact pE ⟨_, St.hav _ ⟨rfl, rfl, rfl, rfl, rfl, rfl, rfl, by rw [hg1]; rfl, trivial⟩⟩
                    · refine pGy hg1 ?_
                      refine pM (.mref _) ?_
                      refine pGy hg1 ?_
                      refine pF tF307_0 ?_
                      refine pGy hg1 ?_
                      refine pLo hO 0 (.int _ _) tA3 ?_
                      refine pGy hg1 ?_
                      refine pLk c17.Switch (false : Bool) (hO.get (k := 1) rfl).1 tM309 fit_int tY4 ?_
                      refine pPf hg1 (.bool _) ?_
                      exact pE ⟨_, St.hav _ ⟨rfl, rfl, rfl, rfl, rfl, rfl, rfl, by rw [hg1]; rfl, trivial⟩⟩
                  · rintro _ ⟨J, rfl⟩
                    refine pE ?_
                    refine gn ?_
                    refine wpL_cd (b := (t21 || (mget c17.Switch x13 false))) (fun hb => ?_) (fun hb => ?_)
                    · replace hk := ct hb hk
                      refine wpL_sq ?_
                      refine wpL_rg ?_
                      refine pA (.bool _) ?_
                      refine pE ?_
                      refine gn ?_
                      refine wpL_rt ?_
                      refine gr (br (gr (gr (br (gr ?_)))))
                      replace hk := lx hx1 hk
                      replace hk := Option.some.inj hk; subst hk; exact fin0 hO
                    · replace hk := cf hb hk
                      refine wpL_sk ?_
                      refine gn ?_
                      refine wpL_rg ?_
                      refine pM (.mref _) ?_
                      refine pF tF307_0 ?_
                      refine pLo hO 0 (.int _ _) tA3 ?_
                      refine pUp hO 1 c17.Switch true tM309 fit_int rfl (fun G hO => ?_)
                      refine pE ?_
                      refine bn (gn ?_)
                      refine wpL_rg ?_
                      refine pBi ?_
                      refine pM (.int _ _) ?_
                      refine pE ?_
                      refine gn ?_
                      cases hk; exact ⟨_, rfl, o14, _, _, (Owns.pick hO [1, 2, 3, 4] (by decide) rfl), St.hav _ ⟨rfl, rfl, rfl, rfl, rfl, rfl, trivial⟩⟩
              · replace hk := cf hb hk
                refine wpL_ex ?_
                refine ge (ge (be (gn ?_)))
                replace hk := lx hx1 hk
                refine wpL_sq ?_
                refine wpL_sq ?_
                refine wpL_rg ?_
                refine pF tF218_1 ?_
                refine pLo hO 1 (.lit _ _ _) tA216 ?_
                refine pLen tS216 ?_
                refine pM (.int _ _) ?_
                refine pE ?_
                refine gn ?_
                refine wpL_bl ?_
                refine wpL_loopO (F := f172_L2 aP0 aW1) (fun s S' => ∃ (J : Nat → V) (G : Heap), Owns H G [.blk b2 (.cells 5 [.lit l4 aW1.Sections.length (flat aW1.Sections), .lit l5 aW1.Lies.length (flat aW1.Lies), .lit l6 aW1.Flanks.length (flat aW1.Flanks), .lit l7 aW1.Over.length (flat aW1.Over), .lit l8 aW1.Near.length (flat aW1.Near)]), .blk b1 (.cells 5 [.int .i64 aP0.Sections, .lit l1 aP0.Switches.length (flat aP0.Switches), .lit l2 aP0.Ways.length (flat aP0.Ways), .lit l3 aP0.Bars.length (flat aP0.Bars), .int .i64 aP0.Hold])] ∧ S' = ⟨hav [(2, .ptr b1 0), (3, .ptr b2 0), (87, .lit l5 aW1.Lies.length (flat aW1.Lies)), (88, .int .i64 (aW1.Lies.length : Int)), (89, .int .i64 s)] J, G⟩) hk ⟨_, _, (Owns.pick hO [1, 2] (by decide) rfl), St.hav _ ⟨rfl, rfl, rfl, rfl, rfl, trivial⟩⟩ ?_
                rintro x23 _ y1 ⟨J, G, hO, rfl⟩ hk hx1
                refine wpL_sq ?_
                refine wpL_rg ?_
                refine pBi ?_
                refine pE ?_
                refine gn ?_
                refine wpL_sq ?_
                refine wpL_cd (b := decide (x23 < (aW1.Lies.length : Int))) (fun hb => ?_) (fun hb => ?_)
                · replace hk := ct hb hk
                  refine wpL_sk ?_
                  refine gn ?_
                  refine wpL_sq ?_
                  refine wpL_bl ?_
                  refine wpL_sq ?_
                  refine wpL_rg ?_
                  obtain ⟨c24, hc24, hk⟩ := bs hk
                  refine pX hc24 tE216 tZ307 ?_
                  refine pLp (.agg [_, _]) (rd2 (off := 0) hc24 tA307 tZ307) ?_
                  refine pNew hO tZ307 t0307 (fun b25 G hO => ?_)
                  refine pSt (xs := [_, _]) hO 0 tZ307 rfl (fun G hO => ?_)
                  refine pE ?_
                  refine gn ?_
                  refine wpL_sq ?_
                  refine wpL_drw [(0, true), (1, true), (2, true), (3, true), (4, true), (5, true), (6, true), (7, true), (8, false), (9, false)] [_, _, _, _, _, _, _, _, _, _] (by decide +kernel) (by rfl) ?_
                  refine pF tF218_0 ?_
                  refine pLo hO 1 (.lit _ _ _) tA26 ?_
                  refine pF tF81_1 ?_
                  refine pLo hO 2 (.lit _ _ _) tA26 ?_
                  refine pF tF307_0 ?_
                  refine pLo hO 0 (.int _ _) tA3 ?_
                  obtain ⟨c26, hc26, hk⟩ := bs hk
                  refine pX hc26 tE26 tZ3 ?_
                  refine pLp (.int _ _) (rd1 (off := 0) hc26 tA3) ?_
                  obtain ⟨v27, hv27, hk⟩ := bs hk
                  refine pCall (fun _ => f161_run hv27) ?_
                  refine pU ?_
                  refine pE ?_
                  refine gn ?_
                  refine wpL_cd (b := !v27) (fun hb => ?_) (fun hb => ?_)
                  · replace hk := ct hb hk
                    refine wpL_sq ?_
                    refine wpL_rg ?_
                    refine pA (.bool _) ?_
                    refine pE ?_
                    refine gn ?_
                    refine wpL_rt ?_
                    refine br (gr (gr (br (gr ?_))))
                    replace hk := lx hx1 hk
                    replace hk := Option.some.inj hk; subst hk; exact fin0 hO
                  · replace hk := cf hb hk
                    refine wpL_sk ?_
                    refine bn (gn ?_)
                    refine wpL_rg ?_
                    refine pBi ?_
                    refine pM (.int _ _) ?_
                    refine pE ?_
                    refine gn ?_
                    cases hk; exact ⟨_, rfl, _, _, (Owns.pick hO [1, 2] (by decide) rfl), St.hav _ ⟨rfl, rfl, rfl, rfl, rfl, trivial⟩⟩
                · replace hk := cf hb hk
                  refine wpL_ex ?_
                  refine ge (ge (be (gn ?_)))
                  replace hk := lx hx1 hk
                  refine wpL_sq ?_
                  refine wpL_rg ?_
                  refine pF tF218_0 ?_
                  refine pLo hO 0 (.lit _ _ _) tA26 ?_
                  refine pF tF218_3 ?_
                  refine pLo hO 0 (.lit _ _ _) tA26 ?_
                  obtain ⟨v28, hv28, hk⟩ := bs hk
                  refine pCall (fun _ => f173_run hv28) ?_
                  refine pU ?_
                  refine pA (.bool _) ?_
                  refine pE ?_
                  refine gn ?_
                  refine wpL_rt ?_
                  replace hk := Option.some.inj hk; subst hk; exact fin0 hO
/-- impl.PlanOk -/
def f54_L5 (aP0 : Plan) (x15 : Int) : Int → Option (Int ⊕ (Int ⊕ Fault)) := fun s =>
  (bif decide (s < (aP0.Ways.length : Int)) then ((getI aP0.Bars x15).bind fun c17 => ((getI c17 s).bind fun c18 => ((getI aP0.Bars s).bind fun c19 => ((getI c19 x15).bind fun c20 => ((bif !(c18 == c20) then some true else ((bif (x15 != s) then ((getI aP0.Bars x15).bind fun c23 => ((getI c23 s).bind fun c24 => some (!c24))) else some false).bind fun t22 => ((bif t22 then ((getI aP0.Ways x15).bind fun c26 => ((getI aP0.Ways s).bind fun c27 => ((f173 c26.Sections c27.Sections).bind fun v28 => some v28))) else some false).bind fun t25 => some t25))).bind fun t21 => (bif t21 then (((some ({ Code := (5:Int), At := x15 } : Fault)).map Sum.inr).map Sum.inr) else some (.inl (w64 (s + (1:Int)))))))))) else ((some (.inl (w64 (x15 + (1:Int))))).map Sum.inr))
def f54_L4 (aP0 : Plan) : Int → Option (Int ⊕ Fault) := fun s =>
  (bif decide (s < (aP0.Ways.length : Int)) then (loopO (f54_L5 aP0 s) ((0:Int))) else ((some ({ Code := 0, At := 0 } : Fault)).map Sum.inr))
def f54_L3 (aP0 : Plan) : Int → Option (Int ⊕ Fault) := fun s =>
  (bif decide (s < (aP0.Bars.length : Int)) then ((getI aP0.Bars s).bind fun c14 => (bif ((c14.length : Int) != (aP0.Ways.length : Int)) then ((some ({ Code := (4:Int), At := s } : Fault)).map Sum.inr) else some (.inl (w64 (s + (1:Int)))))) else ((loopO (f54_L4 aP0) ((0:Int))).map Sum.inr))
def f54_L2 (aP0 : Plan) : Int → Option (Int ⊕ Fault) := fun s =>
  (bif decide (s < (aP0.Ways.length : Int)) then ((getI aP0.Ways s).bind fun c10 => ((f172 aP0 c10).bind fun v12 => (bif !v12 then ((some ({ Code := (3:Int), At := s } : Fault)).map Sum.inr) else some (.inl (w64 (s + (1:Int))))))) else ((bif ((aP0.Bars.length : Int) != (aP0.Ways.length : Int)) then some ({ Code := (4:Int), At := (0:Int) } : Fault) else (loopO (f54_L3 aP0) ((0:Int)))).map Sum.inr))
def f54_L1 (aP0 : Plan) : Int → Option (Int ⊕ Fault) := fun s =>
  (bif decide (s < (aP0.Switches.length : Int)) then ((getI aP0.Switches s).bind fun c7 => ((f171 c7 (0:Int) (w64 (aP0.Sections - (1:Int)))).bind fun v8 => (bif !v8 then ((some ({ Code := (2:Int), At := s } : Fault)).map Sum.inr) else some (.inl (w64 (s + (1:Int))))))) else ((loopO (f54_L2 aP0) ((0:Int))).map Sum.inr))
def f54 (aP0 : Plan) : Option Fault :=
  ((f171 aP0.Sections (1:Int) (60:Int)).bind fun v3 => ((bif !v3 then some true else ((f171 aP0.Hold (1:Int) (300:Int)).bind fun v5 => some (!v5))).bind fun t4 => (bif ((t4 || decide ((aP0.Switches.length : Int) > (40:Int))) || decide ((aP0.Ways.length : Int) > (100:Int))) then some ({ Code := (1:Int), At := (0:Int) } : Fault) else (loopO (f54_L1 aP0) ((0:Int))))))
theorem f54_run {aP0 : Plan} {r : Fault} {l1 l2 l3 : Nat} {H : Heap} {lk : Lk} (hk : f54 aP0 = some r) (hlk : 0 < lk.length := by simp) : runL Try.prog hh 54 [.agg [.int .i64 aP0.Sections, .lit l1 aP0.Switches.length (flat aP0.Switches), .lit l2 aP0.Ways.length (flat aP0.Ways), .lit l3 aP0.Bars.length (flat aP0.Bars), .int .i64 aP0.Hold]] H lk = some (.agg [.int .i64 r.Code, .int .i64 r.At], H) := by
  refine run_start Try.func54 rfl Try.ntmps54 Try.results54 rfl rfl fun hO => ?_
  unfold f54 at hk
  refine wpL_sq ?_
  refine wpL_rg ?_
  refine pBox (cs := [_, _, _, _, _]) hO tZ81 (fun b1 G hO => ?_)
  refine pNew hO tZ77 t077 (fun b2 G hO => ?_)
  refine pE ?_
  refine gn ?_
  refine wpL_sq ?_
  refine wpL_sq ?_
  refine wpL_rg ?_
  refine pF tF81_0 ?_
  refine pLo hO 1 (.int _ _) tA3 ?_
  obtain ⟨v3, hv3, hk⟩ := bs hk
  refine pCall (fun _ => f171_run hv3) ?_
  refine pU ?_
  refine pM (.bool _) ?_
  obtain ⟨t4, ht, hk⟩ := bs hk
  refine wpR_mid (l1 := [_, _, _, _, _]) (fun S' => ∃ J, S' = ⟨hav [(1, .ptr b1 0), (2, .ptr b2 0), (20, .bool t4)] J, G⟩) ?_ ?_
  · refine bc (b := !v3) (fun hg1 => ?_) (fun hg1 => ?_)
    · replace hk := ct hg1 ht
      refine pGn hg1 ?_
      refine pGn hg1 ?_
      refine pGn hg1 ?_
      refine pGn hg1 ?_
      refine pPt hg1 (.bool _) ?_
      cases hk; exact pE ⟨_, St.hav _ ⟨rfl, rfl, rfl, trivial⟩⟩
    · replace hk := cf hg1 ht
      refine pGy hg1 ?_
      refine pF tF81_4 ?_
      refine pGy hg1 ?_
      refine pLo hO 1 (.int _ _) tA3 ?_
      refine pGy hg1 ?_
      obtain ⟨v5, hv5, hk⟩ := bs hk
      refine pCall (fun _ => f171_run hv5) ?_
      refine pGy hg1 ?_
      refine pU ?_
      refine pPf hg1 (.bool _) ?_
      cases hk; exact pE ⟨_, St.hav _ ⟨rfl, rfl, rfl, trivial⟩⟩
  · rintro _ ⟨J, rfl⟩
    refine pM (.bool _) ?_
    refine wpR_mid (l1 := [_, _, _, _, _]) (fun S' => ∃ J, S' = ⟨hav [(1, .ptr b1 0), (2, .ptr b2 0), (26, .bool (t4 || decide ((aP0.Switches.length : Int) > (40:Int))))] J, G⟩) ?_ ?_
    · refine bc (b := t4) (fun hg1 => ?_) (fun hg1 => ?_)
      · refine pGn hg1 ?_
        refine pGn hg1 ?_
        refine pGn hg1 ?_
        refine pGn hg1 ?_
        refine pPt hg1 (.bool _) ?_
        exact pE ⟨_, St.hav _ ⟨rfl, rfl, by rw [hg1]; rfl, trivial⟩⟩
      · refine pGy hg1 ?_
        refine pF tF81_1 ?_
        refine pGy hg1 ?_
        refine pLo hO 1 (.lit _ _ _) tA26 ?_
        refine pGy hg1 ?_
        refine pLen tS26 ?_
        refine pGy hg1 ?_
        refine pBi ?_
        refine pPf hg1 (.bool _) ?_
        exact pE ⟨_, St.hav _ ⟨rfl, rfl, by rw [hg1]; rfl, trivial⟩⟩
    · rintro _ ⟨J, rfl⟩
      refine pM (.bool _) ?_
      refine wpR_mid (l1 := [_, _, _, _, _]) (fun S' => ∃ J, S' = ⟨hav [(1, .ptr b1 0), (2, .ptr b2 0), (32, .bool ((t4 || decide ((aP0.Switches.length : Int) > (40:Int))) || decide ((aP0.Ways.length : Int) > (100:Int))))] J, G⟩) ?_ ?_
      · refine bc (b := (t4 || decide ((aP0.Switches.length : Int) > (40:Int)))) (fun hg1 => ?_) (fun hg1 => ?_)
        · refine pGn hg1 ?_
          refine pGn hg1 ?_
          refine pGn hg1 ?_
          refine pGn hg1 ?_
          refine pPt hg1 (.bool _) ?_
          exact pE ⟨_, St.hav _ ⟨rfl, rfl, by rw [hg1]; rfl, trivial⟩⟩
        · refine pGy hg1 ?_
          refine pF tF81_2 ?_
          refine pGy hg1 ?_
          refine pLo hO 1 (.lit _ _ _) tA79 ?_
          refine pGy hg1 ?_
          refine pLen tS79 ?_
          refine pGy hg1 ?_
          refine pBi ?_
          refine pPf hg1 (.bool _) ?_
          exact pE ⟨_, St.hav _ ⟨rfl, rfl, by rw [hg1]; rfl, trivial⟩⟩
      · rintro _ ⟨J, rfl⟩
        refine pE ?_
        refine gn ?_
        refine wpL_cd (b := ((t4 || decide ((aP0.Switches.length : Int) > (40:Int))) || decide ((aP0.Ways.length : Int) > (100:Int)))) (fun hb => ?_) (fun hb => ?_)
        · replace hk := ct hb hk
          refine wpL_sq ?_
          refine wpL_rg ?_
          refine pBd [_, _] t077 tP77 ?_
          refine pSt (xs := [_, _]) hO 0 tZ77 rfl (fun G hO => ?_)
          refine pE ?_
          refine gn ?_
          refine wpL_rt ?_
          refine gr ?_
          replace hk := Option.some.inj hk; subst hk; exact finZ hO (fz_agg (n := 2) (fz_c (fz_int _ _) (fz_c (fz_int _ _) (fz_n)))) (resS hO 0 [_, _] tA77 tZ77 resN)
        · replace hk := cf hb hk
          refine wpL_sk ?_
          refine gn ?_
          refine wpL_sq ?_
          refine wpL_sq ?_
          refine wpL_rg ?_
          refine pF tF81_1 ?_
          refine pLo hO 1 (.lit _ _ _) tA26 ?_
          refine pLen tS26 ?_
          refine pM (.int _ _) ?_
          refine pE ?_
          refine gn ?_
          refine wpL_bl ?_
          refine wpL_loopO (F := f54_L1 aP0) (fun s S' => ∃ (J : Nat → V) (G : Heap), Owns H G [.blk b2 (.cells 2 [.int .i64 0, .int .i64 0]), .blk b1 (.cells 5 [.int .i64 aP0.Sections, .lit l1 aP0.Switches.length (flat aP0.Switches), .lit l2 aP0.Ways.length (flat aP0.Ways), .lit l3 aP0.Bars.length (flat aP0.Bars), .int .i64 aP0.Hold])] ∧ S' = ⟨hav [(1, .ptr b1 0), (2, .ptr b2 0), (35, .lit l1 aP0.Switches.length (flat aP0.Switches)), (36, .int .i64 (aP0.Switches.length : Int)), (37, .int .i64 s)] J, G⟩) hk ⟨_, _, hO, St.hav _ ⟨rfl, rfl, rfl, rfl, rfl, trivial⟩⟩ ?_
          rintro x6 _ y1 ⟨J, G, hO, rfl⟩ hk hx1
          refine wpL_sq ?_
          refine wpL_rg ?_
          refine pBi ?_
          refine pE ?_
          refine gn ?_
          refine wpL_sq ?_
          refine wpL_cd (b := decide (x6 < (aP0.Switches.length : Int))) (fun hb => ?_) (fun hb => ?_)
          · replace hk := ct hb hk
            refine wpL_sk ?_
            refine gn ?_
            refine wpL_sq ?_
            refine wpL_bl ?_
            refine wpL_sq ?_
            refine wpL_rg ?_
            refine pM (.int _ _) ?_
            obtain ⟨c7, hc7, hk⟩ := bs hk
            refine pX hc7 tE26 tZ3 ?_
            refine pLp (.int _ _) (rd1 (off := 0) hc7 tA3) ?_
            refine pA (.int _ _) ?_
            refine pA (.int _ _) ?_
            refine pE ?_
            refine gn ?_
            refine wpL_sq ?_
            refine wpL_rg ?_
            refine pM (.int _ _) ?_
            refine pF tF81_0 ?_
            refine pLo hO 1 (.int _ _) tA3 ?_
            refine pBi ?_
            obtain ⟨v8, hv8, hk⟩ := bs hk
            refine pCall (fun _ => f171_run hv8) ?_
            refine pU ?_
            refine pE ?_
            refine gn ?_
            refine wpL_cd (b := !v8) (fun hb => ?_) (fun hb => ?_)
            · replace hk := ct hb hk
              refine wpL_sq ?_
              refine wpL_rg ?_
              refine pM (.int _ _) ?_
              refine pBd [_, _] t077 tP77 ?_
              refine pSt (xs := [_, _]) hO 0 tZ77 rfl (fun G hO => ?_)
              refine pE ?_
              refine gn ?_
              refine wpL_rt ?_
              refine br (gr (gr (br (gr ?_))))
              replace hk := lx hx1 hk
              replace hk := Option.some.inj hk; subst hk; exact finZ hO (fz_agg (n := 2) (fz_c (fz_int _ _) (fz_c (fz_int _ _) (fz_n)))) (resS hO 0 [_, _] tA77 tZ77 resN)
            · replace hk := cf hb hk
              refine wpL_sk ?_
              refine bn (gn ?_)
              refine wpL_rg ?_
              refine pBi ?_
              refine pM (.int _ _) ?_
              refine pE ?_
              refine gn ?_
              cases hk; exact ⟨_, rfl, _, _, hO, St.hav _ ⟨rfl, rfl, rfl, rfl, rfl, trivial⟩⟩
          · replace hk := cf hb hk
            refine wpL_ex ?_
            refine ge (ge (be (gn ?_)))
            replace hk := lx hx1 hk
            refine wpL_sq ?_
            refine wpL_sq ?_
            refine wpL_rg ?_
            refine pF tF81_2 ?_
            refine pLo hO 1 (.lit _ _ _) tA79 ?_
            refine pLen tS79 ?_
            refine pM (.int _ _) ?_
            refine pE ?_
            refine gn ?_
            refine wpL_bl ?_
            refine wpL_loopO (F := f54_L2 aP0) (fun s S' => ∃ (J : Nat → V) (G : Heap), Owns H G [.blk b2 (.cells 2 [.int .i64 0, .int .i64 0]), .blk b1 (.cells 5 [.int .i64 aP0.Sections, .lit l1 aP0.Switches.length (flat aP0.Switches), .lit l2 aP0.Ways.length (flat aP0.Ways), .lit l3 aP0.Bars.length (flat aP0.Bars), .int .i64 aP0.Hold])] ∧ S' = ⟨hav [(1, .ptr b1 0), (2, .ptr b2 0), (52, .lit l2 aP0.Ways.length (flat aP0.Ways)), (53, .int .i64 (aP0.Ways.length : Int)), (54, .int .i64 s)] J, G⟩) hk ⟨_, _, hO, St.hav _ ⟨rfl, rfl, rfl, rfl, rfl, trivial⟩⟩ ?_
            rintro x9 _ y1 ⟨J, G, hO, rfl⟩ hk hx1
            refine wpL_sq ?_
            refine wpL_rg ?_
            refine pBi ?_
            refine pE ?_
            refine gn ?_
            refine wpL_sq ?_
            refine wpL_cd (b := decide (x9 < (aP0.Ways.length : Int))) (fun hb => ?_) (fun hb => ?_)
            · replace hk := ct hb hk
              refine wpL_sk ?_
              refine gn ?_
              refine wpL_sq ?_
              refine wpL_bl ?_
              refine wpL_sq ?_
              refine wpL_rg ?_
              refine pM (.int _ _) ?_
              obtain ⟨c10, hc10, hk⟩ := bs hk
              refine pX hc10 tE79 tZ218 ?_
              refine pLp (.agg [_, _, _, _, _]) (rd2 (off := 0) hc10 tA218 tZ218) ?_
              refine pNew hO tZ218 t0218 (fun b11 G hO => ?_)
              refine pA (.int _ _) ?_
              refine pSt (xs := [_, _, _, _, _]) hO 0 tZ218 rfl (fun G hO => ?_)
              refine pE ?_
              refine gn ?_
              refine wpL_sq ?_
              refine wpL_rg ?_
              refine pLs hO 2 [_, _, _, _, _] tA81 tZ81 ?_
              refine pLs hO 0 [_, _, _, _, _] tA218 tZ218 ?_
              obtain ⟨v12, hv12, hk⟩ := bs hk
              refine pCall (fun _ => f172_run hv12) ?_
              refine pU ?_
              refine pE ?_
              refine gn ?_
              refine wpL_cd (b := !v12) (fun hb => ?_) (fun hb => ?_)
              · replace hk := ct hb hk
                refine wpL_sq ?_
                refine wpL_rg ?_
                refine pM (.int _ _) ?_
                refine pBd [_, _] t077 tP77 ?_
                refine pSt (xs := [_, _]) hO 1 tZ77 rfl (fun G hO => ?_)
                refine pE ?_
                refine gn ?_
                refine wpL_rt ?_
                refine br (gr (gr (br (gr ?_))))
                replace hk := lx hx1 hk
                replace hk := Option.some.inj hk; subst hk; exact finZ hO (fz_agg (n := 2) (fz_c (fz_int _ _) (fz_c (fz_int _ _) (fz_n)))) (resS hO 1 [_, _] tA77 tZ77 resN)
              · replace hk := cf hb hk
                refine wpL_sk ?_
                refine bn (gn ?_)
                refine wpL_rg ?_
                refine pBi ?_
                refine pM (.int _ _) ?_
                refine pE ?_
                refine gn ?_
                cases hk; exact ⟨_, rfl, _, _, (Owns.pick hO [1, 2] (by decide) rfl), St.hav _ ⟨rfl, rfl, rfl, rfl, rfl, trivial⟩⟩
            · replace hk := cf hb hk
              refine wpL_ex ?_
              refine ge (ge (be (gn ?_)))
              replace hk := lx hx1 hk
              refine wpL_sq ?_
              refine wpL_sq ?_
              refine wpL_rg ?_
              refine pF tF81_3 ?_
              refine pLo hO 1 (.lit _ _ _) tA45 ?_
              refine pLen tS45 ?_
              refine pF tF81_2 ?_
              refine pLo hO 1 (.lit _ _ _) tA79 ?_
              refine pLen tS79 ?_
              refine pBi ?_
              refine pE ?_
              refine gn ?_
              refine wpL_cd (b := ((aP0.Bars.length : Int) != (aP0.Ways.length : Int))) (fun hb => ?_) (fun hb => ?_)
              · replace hk := ct hb hk
                refine wpL_sq ?_
                refine wpL_rg ?_
                refine pBd [_, _] t077 tP77 ?_
                refine pSt (xs := [_, _]) hO 0 tZ77 rfl (fun G hO => ?_)
                refine pE ?_
                refine gn ?_
                refine wpL_rt ?_
                refine gr ?_
                replace hk := Option.some.inj hk; subst hk; exact finZ hO (fz_agg (n := 2) (fz_c (fz_int _ _) (fz_c (fz_int _ _) (fz_n)))) (resS hO 0 [_, _] tA77 tZ77 resN)
              · replace hk := cf hb hk
                refine wpL_sk ?_
                refine gn ?_
                refine wpL_sq ?_
                refine wpL_sq ?_
                refine wpL_rg ?_
                refine pF tF81_3 ?_
                refine pLo hO 1 (.lit _ _ _) tA45 ?_
                refine pLen tS45 ?_
                refine pM (.int _ _) ?_
                refine pE ?_
                refine gn ?_
                refine wpL_bl ?_
                refine wpL_loopO (F := f54_L3 aP0) (fun s S' => ∃ (J : Nat → V) (G : Heap), Owns H G [.blk b2 (.cells 2 [.int .i64 0, .int .i64 0]), .blk b1 (.cells 5 [.int .i64 aP0.Sections, .lit l1 aP0.Switches.length (flat aP0.Switches), .lit l2 aP0.Ways.length (flat aP0.Ways), .lit l3 aP0.Bars.length (flat aP0.Bars), .int .i64 aP0.Hold])] ∧ S' = ⟨hav [(1, .ptr b1 0), (2, .ptr b2 0), (75, .lit l3 aP0.Bars.length (flat aP0.Bars)), (76, .int .i64 (aP0.Bars.length : Int)), (77, .int .i64 s)] J, G⟩) hk ⟨_, _, hO, St.hav _ ⟨rfl, rfl, rfl, rfl, rfl, trivial⟩⟩ ?_
                rintro x13 _ y1 ⟨J, G, hO, rfl⟩ hk hx1
                refine wpL_sq ?_
                refine wpL_rg ?_
                refine pBi ?_
                refine pE ?_
                refine gn ?_
                refine wpL_sq ?_
                refine wpL_cd (b := decide (x13 < (aP0.Bars.length : Int))) (fun hb => ?_) (fun hb => ?_)
                · replace hk := ct hb hk
                  refine wpL_sk ?_
                  refine gn ?_
                  refine wpL_sq ?_
                  refine wpL_bl ?_
                  refine wpL_sq ?_
                  refine wpL_rg ?_
                  refine pM (.int _ _) ?_
                  obtain ⟨c14, hc14, hk⟩ := bs hk
                  refine pX hc14 tE45 tZ38 ?_
                  refine pLp (.lit _ _ _) (rd1 (off := 0) hc14 tA38) ?_
                  refine pA (.int _ _) ?_
                  refine pA (.lit _ _ _) ?_
                  refine pE ?_
                  refine gn ?_
                  refine wpL_sq ?_
                  refine wpL_rg ?_
                  refine pM (.lit _ _ _) ?_
                  refine pLen tS38 ?_
                  refine pF tF81_2 ?_
                  refine pLo hO 1 (.lit _ _ _) tA79 ?_
                  refine pLen tS79 ?_
                  refine pBi ?_
                  refine pE ?_
                  refine gn ?_
                  refine wpL_cd (b := ((c14.length : Int) != (aP0.Ways.length : Int))) (fun hb => ?_) (fun hb => ?_)
                  · replace hk := ct hb hk
                    refine wpL_sq ?_
                    refine wpL_rg ?_
                    refine pM (.int _ _) ?_
                    refine pBd [_, _] t077 tP77 ?_
                    refine pSt (xs := [_, _]) hO 0 tZ77 rfl (fun G hO => ?_)
                    refine pE ?_
                    refine gn ?_
                    refine wpL_rt ?_
                    refine br (gr (gr (br (gr ?_))))
                    replace hk := lx hx1 hk
                    replace hk := Option.some.inj hk; subst hk; exact finZ hO (fz_agg (n := 2) (fz_c (fz_int _ _) (fz_c (fz_int _ _) (fz_n)))) (resS hO 0 [_, _] tA77 tZ77 resN)
                  · replace hk := cf hb hk
                    refine wpL_sk ?_
                    refine bn (gn ?_)
                    refine wpL_rg ?_
                    refine pBi ?_
                    refine pM (.int _ _) ?_
                    refine pE ?_
                    refine gn ?_
                    cases hk; exact ⟨_, rfl, _, _, hO, St.hav _ ⟨rfl, rfl, rfl, rfl, rfl, trivial⟩⟩
                · replace hk := cf hb hk
                  refine wpL_ex ?_
                  refine ge (ge (be (gn ?_)))
                  replace hk := lx hx1 hk
                  refine wpL_sq ?_
                  refine wpL_sq ?_
                  refine wpL_rg ?_
                  refine pF tF81_2 ?_
                  refine pLo hO 1 (.lit _ _ _) tA79 ?_
                  refine pLen tS79 ?_
                  refine pM (.int _ _) ?_
                  refine pE ?_
                  refine gn ?_
                  refine wpL_bl ?_
                  refine wpL_loopO (F := f54_L4 aP0) (fun s S' => ∃ (J : Nat → V) (G : Heap), Owns H G [.blk b2 (.cells 2 [.int .i64 0, .int .i64 0]), .blk b1 (.cells 5 [.int .i64 aP0.Sections, .lit l1 aP0.Switches.length (flat aP0.Switches), .lit l2 aP0.Ways.length (flat aP0.Ways), .lit l3 aP0.Bars.length (flat aP0.Bars), .int .i64 aP0.Hold])] ∧ S' = ⟨hav [(1, .ptr b1 0), (2, .ptr b2 0), (93, .int .i64 (aP0.Ways.length : Int)), (94, .int .i64 s)] J, G⟩) hk ⟨_, _, hO, St.hav _ ⟨rfl, rfl, rfl, rfl, trivial⟩⟩ ?_
                  rintro x15 _ y1 ⟨J, G, hO, rfl⟩ hk hx1
                  refine wpL_sq ?_
                  refine wpL_rg ?_
                  refine pBi ?_
                  refine pE ?_
                  refine gn ?_
                  refine wpL_sq ?_
                  refine wpL_cd (b := decide (x15 < (aP0.Ways.length : Int))) (fun hb => ?_) (fun hb => ?_)
                  · replace hk := ct hb hk
                    refine wpL_sk ?_
                    refine gn ?_
                    refine wpL_sq ?_
                    refine wpL_bl ?_
                    refine wpL_sq ?_
                    refine wpL_rg ?_
                    refine pM (.int _ _) ?_
                    refine pA (.int _ _) ?_
                    refine pE ?_
                    refine gn ?_
                    refine wpL_sq ?_
                    refine wpL_rg ?_
                    refine pF tF81_2 ?_
                    refine pLo hO 1 (.lit _ _ _) tA79 ?_
                    refine pLen tS79 ?_
                    refine pM (.int _ _) ?_
                    refine pE ?_
                    refine gn ?_
                    refine wpL_bl ?_
                    refine wpL_loopO (F := f54_L5 aP0 x15) (fun s S' => ∃ (J : Nat → V) (G : Heap), Owns H G [.blk b2 (.cells 2 [.int .i64 0, .int .i64 0]), .blk b1 (.cells 5 [.int .i64 aP0.Sections, .lit l1 aP0.Switches.length (flat aP0.Switches), .lit l2 aP0.Ways.length (flat aP0.Ways), .lit l3 aP0.Bars.length (flat aP0.Bars), .int .i64 aP0.Hold])] ∧ S' = ⟨hav [(1, .ptr b1 0), (2, .ptr b2 0), (9, .int .i64 x15), (93, .int .i64 (aP0.Ways.length : Int)), (94, .int .i64 x15), (99, .int .i64 (aP0.Ways.length : Int)), (100, .int .i64 s)] J, G⟩) hk ⟨_, _, hO, St.hav _ ⟨rfl, rfl, rfl, rfl, rfl, rfl, rfl, trivial⟩⟩ ?_
                    rintro x16 _ y2 ⟨J, G, hO, rfl⟩ hk hx2
                    refine wpL_sq ?_
                    refine wpL_rg ?_
                    refine pBi ?_
                    refine pE ?_
                    refine gn ?_
                    refine wpL_sq ?_
                    refine wpL_cd (b := decide (x16 < (aP0.Ways.length : Int))) (fun hb => ?_) (fun hb => ?_)
                    · replace hk := ct hb hk
                      refine wpL_sk ?_
                      refine gn ?_
                      refine wpL_sq ?_
                      refine wpL_bl ?_
                      refine wpL_sq ?_
                      refine wpL_rg ?_
                      refine pM (.int _ _) ?_
                      refine pA (.int _ _) ?_
                      refine pE ?_
                      refine gn ?_
                      refine wpL_sq ?_
                      refine wpL_drw [(0, true), (1, true), (2, true), (3, true), (4, true), (5, true), (6, true), (7, true), (8, true), (9, true), (10, true), (11, true), (12, true), (13, true), (14, true), (15, true), (16, false), (17, false), (18, false), (19, false), (20, false), (21, false), (22, false), (23, true), (24, true), (25, false), (26, true), (27, true), (28, false), (29, true), (30, false), (31, false), (32, false), (33, true), (34, true), (35, true), (36, true), (37, true), (38, true), (39, true), (40, true), (41, true), (42, true), (43, true), (44, true), (45, false), (46, false), (47, false)] [_, _, _, _, _, _, _, _, _, _, _, _, _, _, _, _, _, _, _, _, _, _, _, _, _, _, _, _, _, _, _, _, _, _, _, _, _, _, _, _, _, _, _, _, _, _, _, _] (by decide +kernel) (by rfl) ?_
                      refine pF tF81_3 ?_
                      refine pLo hO 1 (.lit _ _ _) tA45 ?_
                      refine pM (.int _ _) ?_
                      obtain ⟨c17, hc17, hk⟩ := bs hk
                      refine pX hc17 tE45 tZ38 ?_
                      refine pLp (.lit _ _ _) (rd1 (off := 0) hc17 tA38) ?_
                      refine pM (.int _ _) ?_
                      obtain ⟨c18, hc18, hk⟩ := bs hk
                      refine pX hc18 tE38 tZ4 ?_
                      refine pLp (.bool _) (rd1 (off := 0) hc18 tA4) ?_
                      refine pF tF81_3 ?_
                      refine pLo hO 1 (.lit _ _ _) tA45 ?_
                      refine pM (.int _ _) ?_
                      obtain ⟨c19, hc19, hk⟩ := bs hk
                      refine pX hc19 tE45 tZ38 ?_
                      refine pLp (.lit _ _ _) (rd1 (off := 0) hc19 tA38) ?_
                      refine pM (.int _ _) ?_
                      obtain ⟨c20, hc20, hk⟩ := bs hk
                      refine pX hc20 tE38 tZ4 ?_
                      refine pLp (.bool _) (rd1 (off := 0) hc20 tA4) ?_
                      refine pBn Try.underlying4 ?_
                      refine pM (.bool _) ?_
                      obtain ⟨t21, ht, hk⟩ := bs hk
                      refine wpR_mid (l1 := [_, _, _, _, _, _, _, _, _, _, _, _, _, _, _, _, _, _, _, _, _, _, _, _, _, _, _, _, _, _]) (fun S' => ∃ J, S' = ⟨hav [(1, .ptr b1 0), (2, .ptr b2 0), (9, .int .i64 x15), (93, .int .i64 (aP0.Ways.length : Int)), (94, .int .i64 x15), (99, .int .i64 (aP0.Ways.length : Int)), (100, .int .i64 x16), (150, .bool t21)] J, G⟩) ?_ ?_
                      · refine bc (b := !(c18 == c20)) (fun hg1 => ?_) (fun hg1 => ?_)
                        · replace hk := ct hg1 ht
                          refine pGn hg1 ?_
                          refine pGn hg1 ?_
                          refine pGn hg1 ?_
                          refine pGn hg1 ?_
                          refine pGu ?_
                          refine pGu ?_
                          refine pGu ?_
                          refine pGu ?_
                          refine pGu ?_
                          refine pGu ?_
                          refine pGu ?_
                          refine pGu ?_
                          refine pGu ?_
                          refine pGn hg1 ?_
                          refine pGn hg1 ?_
                          refine pGu ?_
                          refine pGu ?_
                          refine pGu ?_
                          refine pGu ?_
                          refine pGu ?_
                          refine pGu ?_
                          refine pGu ?_
                          refine pGu ?_
                          refine pGu ?_
                          refine pGu ?_
                          refine pGu ?_
                          refine pGu ?_
                          refine pGu ?_
                          refine pGn hg1 ?_
                          refine pPt hg1 (.bool _) ?_
                          cases hk; exact pE ⟨_, St.hav _ ⟨rfl, rfl, rfl, rfl, rfl, rfl, rfl, rfl, trivial⟩⟩
                        · replace hk := cf hg1 ht
                          refine pGy hg1 ?_
                          refine pM (.int _ _) ?_
                          refine pGy hg1 ?_
                          refine pM (.int _ _) ?_
                          refine pGy hg1 ?_
                          refine pBi ?_
                          refine pGy hg1 ?_
                          refine pM (.bool _) ?_
                          obtain ⟨t22, ht, hk⟩ := bs hk
                          refine wpR_mid (l1 := [_, _, _, _, _, _, _, _, _, _]) (fun S' => ∃ J, S' = ⟨hav [(1, .ptr b1 0), (2, .ptr b2 0), (9, .int .i64 x15), (10, .int .i64 x16), (93, .int .i64 (aP0.Ways.length : Int)), (94, .int .i64 x15), (99, .int .i64 (aP0.Ways.length : Int)), (100, .int .i64 x16), (120, .bool (!(c18 == c20))), (134, .bool t22)] J, G⟩) ?_ ?_
                          · refine bc (b := (x15 != x16)) (fun hg2 => ?_) (fun hg2 => ?_)
                            · replace hk := ct hg2 ht
                              refine pGy hg2 ?_
                              refine pF tF81_3 ?_
                              refine pGy hg2 ?_
                              refine pLo hO 1 (.lit _ _ _) tA45 ?_
                              refine pGy hg2 ?_
                              refine pM (.int _ _) ?_
                              refine pGy hg2 ?_
                              obtain ⟨c23, hc23, hk⟩ := bs hk
                              refine pX hc23 tE45 tZ38 ?_
                              refine pGy hg2 ?_
                              refine pLp (.lit _ _ _) (rd1 (off := 0) hc23 tA38) ?_
                              refine pGy hg2 ?_
                              refine pM (.int _ _) ?_
                              refine pGy hg2 ?_
                              obtain ⟨c24, hc24, hk⟩ := bs hk
                              refine pX hc24 tE38 tZ4 ?_
                              refine pGy hg2 ?_
                              refine pLp (.bool _) (rd1 (off := 0) hc24 tA4) ?_
                              refine pGy hg2 ?_
                              refine pU ?_
                              refine pGy hg1 ?_
                              refine pPt hg2 (.bool _) ?_
                              cases hk; exact pE ⟨_, St.hav _ ⟨rfl, rfl, rfl, rfl, rfl, rfl, rfl, rfl, rfl, rfl, trivial⟩⟩
                            · replace hk := cf hg2 ht
                              refine pGn hg2 ?_
                              refine pGn hg2 ?_
                              refine pGn hg2 ?_
                              refine pGn hg2 ?_
                              refine pGn hg2 ?_
                              refine pGn hg2 ?_
                              refine pGn hg2 ?_
                              refine pGn hg2 ?_
                              refine pGn hg2 ?_
                              refine pGy hg1 ?_
                              refine pPf hg2 (.bool _) ?_
                              cases hk; exact pE ⟨_, St.hav _ ⟨rfl, rfl, rfl, rfl, rfl, rfl, rfl, rfl, rfl, rfl, trivial⟩⟩
                          · rintro _ ⟨J, rfl⟩
                            refine pGy hg1 ?_
                            refine pM (.bool _) ?_
                            obtain ⟨t25, ht, hk⟩ := bs hk
                            refine wpR_mid (l1 := [_, _, _, _, _, _, _, _, _, _, _, _, _, _]) (fun S' => ∃ J, S' = ⟨hav [(1, .ptr b1 0), (2, .ptr b2 0), (9, .int .i64 x15), (93, .int .i64 (aP0.Ways.length : Int)), (94, .int .i64 x15), (99, .int .i64 (aP0.Ways.length : Int)), (100, .int .i64 x16), (120, .bool (!(c18 == c20))), (149, .bool t25)] J, G⟩) ?_ ?_
                            · refine bc (b := t22) (fun hg2 => ?_) (fun hg2 => ?_)
                              · replace hk := ct hg2 ht
                                refine pGy hg2 ?_
                                refine pF tF81_2 ?_
                                refine pGy hg2 ?_
                                refine pLo hO 1 (.lit _ _ _) tA79 ?_
                                refine pGy hg2 ?_
                                refine pM (.int _ _) ?_
                                refine pGy hg2 ?_
                                obtain ⟨c26, hc26, hk⟩ := bs hk
                                refine pX hc26 tE79 tZ218 ?_
                                refine pGy hg2 ?_
                                refine pF tF218_0 ?_
                                refine pGy hg2 ?_
                                refine pLp (.lit _ _ _) (rd1 (off := 0) hc26 tA26) ?_
                                refine pGy hg2 ?_
                                refine pF tF81_2 ?_
                                refine pGy hg2 ?_
                                refine pLo hO 1 (.lit _ _ _) tA79 ?_
                                refine pGy hg2 ?_
                                refine pM (.int _ _) ?_
                                refine pGy hg2 ?_
                                obtain ⟨c27, hc27, hk⟩ := bs hk
                                refine pX hc27 tE79 tZ218 ?_
                                refine pGy hg2 ?_
                                refine pF tF218_0 ?_
                                refine pGy hg2 ?_
                                refine pLp (.lit _ _ _) (rd1 (off := 0) hc27 tA26) ?_
                                refine pGy hg2 ?_
                                obtain ⟨v28, hv28, hk⟩ := bs hk
                                refine pCall (fun _ => f173_run hv28) ?_
                                refine pGy hg1 ?_
                                refine pPt hg2 (.bool _) ?_
                                cases hk; exact pE ⟨_, St.hav _ ⟨rfl, rfl, rfl, rfl, rfl, rfl, rfl, rfl, rfl, trivial⟩⟩
                              · replace hk := cf hg2 ht
                                refine pGn hg2 ?_
                                refine pGn hg2 ?_
                                refine pGn hg2 ?_
                                refine pGn hg2 ?_
                                refine pGn hg2 ?_
                                refine pGn hg2 ?_
                                refine pGn hg2 ?_
                                refine pGn hg2 ?_
                                refine pGn hg2 ?_
                                refine pGn hg2 ?_
                                refine pGn hg2 ?_
                                refine pGn hg2 ?_
                                refine pGn hg2 ?_
                                refine pGy hg1 ?_
                                refine pPf hg2 (.bool _) ?_
                                cases hk; exact pE ⟨_, St.hav _ ⟨rfl, rfl, rfl, rfl, rfl, rfl, rfl, rfl, rfl, trivial⟩⟩
                            · rintro _ ⟨J, rfl⟩
                              refine pPf hg1 (.bool _) ?_
                              cases hk; exact pE ⟨_, St.hav _ ⟨rfl, rfl, rfl, rfl, rfl, rfl, rfl, rfl, trivial⟩⟩
                      · rintro _ ⟨J, rfl⟩
                        refine pE ?_
                        refine gn ?_
                        refine wpL_cd (b := t21) (fun hb => ?_) (fun hb => ?_)
                        · replace hk := ct hb hk
                          refine wpL_sq ?_
                          refine wpL_rg ?_
                          refine pM (.int _ _) ?_
                          refine pBd [_, _] t077 tP77 ?_
                          refine pSt (xs := [_, _]) hO 0 tZ77 rfl (fun G hO => ?_)
                          refine pE ?_
                          refine gn ?_
                          refine wpL_rt ?_
                          refine br (gr (gr (br (br (gr (gr (br (gr ?_))))))))
                          replace hk := lx hx2 hk
                          replace hk := lx hx1 hk
                          replace hk := Option.some.inj hk; subst hk; exact finZ hO (fz_agg (n := 2) (fz_c (fz_int _ _) (fz_c (fz_int _ _) (fz_n)))) (resS hO 0 [_, _] tA77 tZ77 resN)
                        · replace hk := cf hb hk
                          refine wpL_sk ?_
                          refine bn (gn ?_)
                          refine wpL_rg ?_
                          refine pBi ?_
                          refine pM (.int _ _) ?_
                          refine pE ?_
                          refine gn ?_
                          cases hk; exact ⟨_, rfl, _, _, hO, St.hav _ ⟨rfl, rfl, rfl, rfl, rfl, rfl, rfl, trivial⟩⟩
                    · replace hk := cf hb hk
                      refine wpL_ex ?_
                      refine ge (ge (be (bn (gn ?_))))
                      replace hk := lx hx2 hk
                      refine wpL_rg ?_
                      refine pBi ?_
                      refine pM (.int _ _) ?_
                      refine pE ?_
                      refine gn ?_
                      cases hk; exact ⟨_, rfl, _, _, hO, St.hav _ ⟨rfl, rfl, rfl, rfl, trivial⟩⟩
                  · replace hk := cf hb hk
                    refine wpL_ex ?_
                    refine ge (ge (be (gn ?_)))
                    replace hk := lx hx1 hk
                    refine wpL_sq ?_
                    refine wpL_rg ?_
                    refine pBd [_, _] t077 tP77 ?_
                    refine pSt (xs := [_, _]) hO 0 tZ77 rfl (fun G hO => ?_)
                    refine pE ?_
                    refine gn ?_
                    refine wpL_rt ?_
                    replace hk := Option.some.inj hk; subst hk; exact finZ hO (fz_agg (n := 2) (fz_c (fz_int _ _) (fz_c (fz_int _ _) (fz_n)))) (resS hO 0 [_, _] tA77 tZ77 resN)
/-- laws.eqFault -/
def f55 (aA0 : Fault) (aB1 : Fault) : Option Bool :=
  (bif (aA0.Code != aB1.Code) then some false else (bif (aA0.At != aB1.At) then some false else some true))
theorem f55_run {aA0 : Fault} {aB1 : Fault} {r : Bool} {H : Heap} {lk : Lk} (hk : f55 aA0 aB1 = some r) (hlk : 0 < lk.length := by simp) : runL Try.prog hh 55 [.agg [.int .i64 aA0.Code, .int .i64 aA0.At], .agg [.int .i64 aB1.Code, .int .i64 aB1.At]] H lk = some (.bool r, H) := by
  refine run_start Try.func55 rfl Try.ntmps55 Try.results55 rfl rfl fun hO => ?_
  unfold f55 at hk
  refine wpL_sq ?_
  refine wpL_rg ?_
  refine pBox (cs := [_, _]) hO tZ77 (fun b1 G hO => ?_)
  refine pBox (cs := [_, _]) hO tZ77 (fun b2 G hO => ?_)
  refine pA (.bool _) ?_
  refine pE ?_
  refine gn ?_
  refine wpL_sq ?_
  refine wpL_sq ?_
  refine wpL_rg ?_
  refine pF tF77_0 ?_
  refine pLo hO 1 (.int _ _) tA3 ?_
  refine pF tF77_0 ?_
  refine pLo hO 0 (.int _ _) tA3 ?_
  refine pBi ?_
  refine pE ?_
  refine gn ?_
  refine wpL_cd (b := (aA0.Code != aB1.Code)) (fun hb => ?_) (fun hb => ?_)
  · replace hk := ct hb hk
    refine wpL_sq ?_
    refine wpL_rg ?_
    refine pA (.bool _) ?_
    refine pE ?_
    refine gn ?_
    refine wpL_rt ?_
    refine gr ?_
    replace hk := Option.some.inj hk; subst hk; exact fin0 hO
  · replace hk := cf hb hk
    refine wpL_sk ?_
    refine gn ?_
    refine wpL_sq ?_
    refine wpL_sq ?_
    refine wpL_rg ?_
    refine pF tF77_1 ?_
    refine pLo hO 1 (.int _ _) tA3 ?_
    refine pF tF77_1 ?_
    refine pLo hO 0 (.int _ _) tA3 ?_
    refine pBi ?_
    refine pE ?_
    refine gn ?_
    refine wpL_cd (b := (aA0.At != aB1.At)) (fun hb => ?_) (fun hb => ?_)
    · replace hk := ct hb hk
      refine wpL_sq ?_
      refine wpL_rg ?_
      refine pA (.bool _) ?_
      refine pE ?_
      refine gn ?_
      refine wpL_rt ?_
      refine gr ?_
      replace hk := Option.some.inj hk; subst hk; exact fin0 hO
    · replace hk := cf hb hk
      refine wpL_sk ?_
      refine gn ?_
      refine wpL_sq ?_
      refine wpL_rg ?_
      refine pA (.bool _) ?_
      refine pE ?_
      refine gn ?_
      refine wpL_rt ?_
      replace hk := Option.some.inj hk; subst hk; exact fin0 hO
/-- laws.eqIntS -/
def f28_L1 (aA0 : List Int) (aB1 : List Int) : Int → Option (Int ⊕ Bool) := fun s =>
  (bif decide (s < (aA0.length : Int)) then ((getI aA0 s).bind fun c2 => ((getI aB1 s).bind fun c3 => (bif (c2 != c3) then ((some false).map Sum.inr) else some (.inl (w64 (s + (1:Int))))))) else ((some true).map Sum.inr))
def f28 (aA0 : List Int) (aB1 : List Int) : Option Bool :=
  (bif ((aA0.length : Int) != (aB1.length : Int)) then some false else (loopO (f28_L1 aA0 aB1) ((0:Int))))
theorem f28_run {aA0 : List Int} {aB1 : List Int} {r : Bool} {l1 l2 : Nat} {H : Heap} {lk : Lk} (hk : f28 aA0 aB1 = some r) (hlk : 0 < lk.length := by simp) : runL Try.prog hh 28 [.lit l1 aA0.length (flat aA0), .lit l2 aB1.length (flat aB1)] H lk = some (.bool r, H) := by
  refine run_start Try.func28 rfl Try.ntmps28 Try.results28 rfl rfl fun hO => ?_
  unfold f28 at hk
  refine wpL_sq ?_
  refine wpL_rg ?_
  refine pA (.bool _) ?_
  refine pE ?_
  refine gn ?_
  refine wpL_sq ?_
  refine wpL_sq ?_
  refine wpL_rg ?_
  refine pM (.lit _ _ _) ?_
  refine pLen tS26 ?_
  refine pM (.lit _ _ _) ?_
  refine pLen tS26 ?_
  refine pBi ?_
  refine pE ?_
  refine gn ?_
  refine wpL_cd (b := ((aA0.length : Int) != (aB1.length : Int))) (fun hb => ?_) (fun hb => ?_)
  · replace hk := ct hb hk
    refine wpL_sq ?_
    refine wpL_rg ?_
    refine pA (.bool _) ?_
    refine pE ?_
    refine gn ?_
    refine wpL_rt ?_
    refine gr ?_
    replace hk := Option.some.inj hk; subst hk; exact fin0 hO
  · replace hk := cf hb hk
    refine wpL_sk ?_
    refine gn ?_
    refine wpL_sq ?_
    refine wpL_sq ?_
    refine wpL_rg ?_
    refine pA (.int _ _) ?_
    refine pE ?_
    refine gn ?_
    refine wpL_bl ?_
    refine wpL_loopO (F := f28_L1 aA0 aB1) (fun s S' => ∃ (J : Nat → V) (G : Heap), Owns H G [] ∧ S' = ⟨hav [(0, .lit l1 aA0.length (flat aA0)), (1, .lit l2 aB1.length (flat aB1)), (5, .int .i64 s)] J, G⟩) hk ⟨_, _, hO, St.hav _ ⟨rfl, rfl, rfl, trivial⟩⟩ ?_
    rintro x1 _ y1 ⟨J, G, hO, rfl⟩ hk hx1
    refine wpL_sq ?_
    refine wpL_sq ?_
    refine wpL_rg ?_
    refine pM (.int _ _) ?_
    refine pM (.lit _ _ _) ?_
    refine pLen tS26 ?_
    refine pBi ?_
    refine pE ?_
    refine gn ?_
    refine wpL_cd (b := decide (x1 < (aA0.length : Int))) (fun hb => ?_) (fun hb => ?_)
    · replace hk := ct hb hk
      refine wpL_sk ?_
      refine gn ?_
      refine wpL_sq ?_
      refine wpL_bl ?_
      refine wpL_sq ?_
      refine wpL_drw [(0, true), (1, true), (2, true), (3, true), (4, true), (5, true), (6, true), (7, true), (8, false)] [_, _, _, _, _, _, _, _, _] (by decide +kernel) (by rfl) ?_
      refine pM (.lit _ _ _) ?_
      refine pM (.int _ _) ?_
      obtain ⟨c2, hc2, hk⟩ := bs hk
      refine pX hc2 tE26 tZ3 ?_
      refine pLp (.int _ _) (rd1 (off := 0) hc2 tA3) ?_
      refine pM (.lit _ _ _) ?_
      refine pM (.int _ _) ?_
      obtain ⟨c3, hc3, hk⟩ := bs hk
      refine pX hc3 tE26 tZ3 ?_
      refine pLp (.int _ _) (rd1 (off := 0) hc3 tA3) ?_
      refine pBi ?_
      refine pE ?_
      refine gn ?_
      refine wpL_cd (b := (c2 != c3)) (fun hb => ?_) (fun hb => ?_)
      · replace hk := ct hb hk
        refine wpL_sq ?_
        refine wpL_rg ?_
        refine pA (.bool _) ?_
        refine pE ?_
        refine gn ?_
        refine wpL_rt ?_
        refine br (gr (gr (br (gr ?_))))
        replace hk := lx hx1 hk
        replace hk := Option.some.inj hk; subst hk; exact fin0 hO
      · replace hk := cf hb hk
        refine wpL_sk ?_
        refine bn (gn ?_)
        refine wpL_rg ?_
        refine pM (.int _ _) ?_
        refine pBi ?_
        refine pA (.int _ _) ?_
        refine pE ?_
        refine gn ?_
        cases hk; exact ⟨_, rfl, _, _, hO, St.hav _ ⟨rfl, rfl, rfl, trivial⟩⟩
    · replace hk := cf hb hk
      refine wpL_ex ?_
      refine ge (ge (be (gn ?_)))
      replace hk := lx hx1 hk
      refine wpL_sq ?_
      refine wpL_rg ?_
      refine pA (.bool _) ?_
      refine pE ?_
      refine gn ?_
      refine wpL_rt ?_
      replace hk := Option.some.inj hk; subst hk; exact fin0 hO
/-- laws.eqTurn -/
def f351 (aA0 : Turn) (aB1 : Turn) : Option Bool :=
  (bif (aA0.Switch != aB1.Switch) then some false else (bif (aA0.Lie != aB1.Lie) then some false else some true))
theorem f351_run {aA0 : Turn} {aB1 : Turn} {r : Bool} {H : Heap} {lk : Lk} (hk : f351 aA0 aB1 = some r) (hlk : 0 < lk.length := by simp) : runL Try.prog hh 351 [.agg [.int .i64 aA0.Switch, .int .i64 aA0.Lie], .agg [.int .i64 aB1.Switch, .int .i64 aB1.Lie]] H lk = some (.bool r, H) := by
  refine run_start Try.func351 rfl Try.ntmps351 Try.results351 rfl rfl fun hO => ?_
  unfold f351 at hk
  refine wpL_sq ?_
  refine wpL_rg ?_
  refine pBox (cs := [_, _]) hO tZ307 (fun b1 G hO => ?_)
  refine pBox (cs := [_, _]) hO tZ307 (fun b2 G hO => ?_)
  refine pA (.bool _) ?_
  refine pE ?_
  refine gn ?_
  refine wpL_sq ?_
  refine wpL_sq ?_
  refine wpL_rg ?_
  refine pF tF307_0 ?_
  refine pLo hO 1 (.int _ _) tA3 ?_
  refine pF tF307_0 ?_
  refine pLo hO 0 (.int _ _) tA3 ?_
  refine pBi ?_
  refine pE ?_
  refine gn ?_
  refine wpL_cd (b := (aA0.Switch != aB1.Switch)) (fun hb => ?_) (fun hb => ?_)
  · replace hk := ct hb hk
    refine wpL_sq ?_
    refine wpL_rg ?_
    refine pA (.bool _) ?_
    refine pE ?_
    refine gn ?_
    refine wpL_rt ?_
    refine gr ?_
    replace hk := Option.some.inj hk; subst hk; exact fin0 hO
  · replace hk := cf hb hk
    refine wpL_sk ?_
    refine gn ?_
    refine wpL_sq ?_
    refine wpL_sq ?_
    refine wpL_rg ?_
    refine pF tF307_1 ?_
    refine pLo hO 1 (.int _ _) tA3 ?_
    refine pF tF307_1 ?_
    refine pLo hO 0 (.int _ _) tA3 ?_
    refine pBi ?_
    refine pE ?_
    refine gn ?_
    refine wpL_cd (b := (aA0.Lie != aB1.Lie)) (fun hb => ?_) (fun hb => ?_)
    · replace hk := ct hb hk
      refine wpL_sq ?_
      refine wpL_rg ?_
      refine pA (.bool _) ?_
      refine pE ?_
      refine gn ?_
      refine wpL_rt ?_
      refine gr ?_
      replace hk := Option.some.inj hk; subst hk; exact fin0 hO
    · replace hk := cf hb hk
      refine wpL_sk ?_
      refine gn ?_
      refine wpL_sq ?_
      refine wpL_rg ?_
      refine pA (.bool _) ?_
      refine pE ?_
      refine gn ?_
      refine wpL_rt ?_
      replace hk := Option.some.inj hk; subst hk; exact fin0 hO
/-- laws.eqTurnS -/
def f327_L1 (aA0 : List Turn) (aB1 : List Turn) : Int → Option (Int ⊕ Bool) := fun s =>
  (bif decide (s < (aA0.length : Int)) then ((getI aA0 s).bind fun c2 => ((getI aB1 s).bind fun c3 => ((f351 c2 c3).bind fun v4 => (bif !v4 then ((some false).map Sum.inr) else some (.inl (w64 (s + (1:Int)))))))) else ((some true).map Sum.inr))
def f327 (aA0 : List Turn) (aB1 : List Turn) : Option Bool :=
  (bif ((aA0.length : Int) != (aB1.length : Int)) then some false else (loopO (f327_L1 aA0 aB1) ((0:Int))))
theorem f327_run {aA0 : List Turn} {aB1 : List Turn} {r : Bool} {l1 l2 : Nat} {H : Heap} {lk : Lk} (hk : f327 aA0 aB1 = some r) (hlk : 0 < lk.length := by simp) : runL Try.prog hh 327 [.lit l1 aA0.length (flat aA0), .lit l2 aB1.length (flat aB1)] H lk = some (.bool r, H) := by
  refine run_start Try.func327 rfl Try.ntmps327 Try.results327 rfl rfl fun hO => ?_
  unfold f327 at hk
  refine wpL_sq ?_
  refine wpL_rg ?_
  refine pA (.bool _) ?_
  refine pE ?_
  refine gn ?_
  refine wpL_sq ?_
  refine wpL_sq ?_
  refine wpL_rg ?_
  refine pM (.lit _ _ _) ?_
  refine pLen tS216 ?_
  refine pM (.lit _ _ _) ?_
  refine pLen tS216 ?_
  refine pBi ?_
  refine pE ?_
  refine gn ?_
  refine wpL_cd (b := ((aA0.length : Int) != (aB1.length : Int))) (fun hb => ?_) (fun hb => ?_)
  · replace hk := ct hb hk
    refine wpL_sq ?_
    refine wpL_rg ?_
    refine pA (.bool _) ?_
    refine pE ?_
    refine gn ?_
    refine wpL_rt ?_
    refine gr ?_
    replace hk := Option.some.inj hk; subst hk; exact fin0 hO
  · replace hk := cf hb hk
    refine wpL_sk ?_
    refine gn ?_
    refine wpL_sq ?_
    refine wpL_sq ?_
    refine wpL_rg ?_
    refine pA (.int _ _) ?_
    refine pE ?_
    refine gn ?_
    refine wpL_bl ?_
    refine wpL_loopO (F := f327_L1 aA0 aB1) (fun s S' => ∃ (J : Nat → V) (G : Heap), Owns H G [] ∧ S' = ⟨hav [(0, .lit l1 aA0.length (flat aA0)), (1, .lit l2 aB1.length (flat aB1)), (5, .int .i64 s)] J, G⟩) hk ⟨_, _, hO, St.hav _ ⟨rfl, rfl, rfl, trivial⟩⟩ ?_
    rintro x1 _ y1 ⟨J, G, hO, rfl⟩ hk hx1
    refine wpL_sq ?_
    refine wpL_sq ?_
    refine wpL_rg ?_
    refine pM (.int _ _) ?_
    refine pM (.lit _ _ _) ?_
    refine pLen tS216 ?_
    refine pBi ?_
    refine pE ?_
    refine gn ?_
    refine wpL_cd (b := decide (x1 < (aA0.length : Int))) (fun hb => ?_) (fun hb => ?_)
    · replace hk := ct hb hk
      refine wpL_sk ?_
      refine gn ?_
      refine wpL_sq ?_
      refine wpL_bl ?_
      refine wpL_sq ?_
      refine wpL_drw [(0, true), (1, true), (2, true), (3, true), (4, true), (5, true), (6, true), (7, true), (8, false), (9, false)] [_, _, _, _, _, _, _, _, _, _] (by decide +kernel) (by rfl) ?_
      refine pM (.lit _ _ _) ?_
      refine pM (.int _ _) ?_
      obtain ⟨c2, hc2, hk⟩ := bs hk
      refine pX hc2 tE216 tZ307 ?_
      refine pLp (.agg [_, _]) (rd2 (off := 0) hc2 tA307 tZ307) ?_
      refine pM (.lit _ _ _) ?_
      refine pM (.int _ _) ?_
      obtain ⟨c3, hc3, hk⟩ := bs hk
      refine pX hc3 tE216 tZ307 ?_
      refine pLp (.agg [_, _]) (rd2 (off := 0) hc3 tA307 tZ307) ?_
      obtain ⟨v4, hv4, hk⟩ := bs hk
      refine pCall (fun _ => f351_run hv4) ?_
      refine pU ?_
      refine pE ?_
      refine gn ?_
      refine wpL_cd (b := !v4) (fun hb => ?_) (fun hb => ?_)
      · replace hk := ct hb hk
        refine wpL_sq ?_
        refine wpL_rg ?_
        refine pA (.bool _) ?_
        refine pE ?_
        refine gn ?_
        refine wpL_rt ?_
        refine br (gr (gr (br (gr ?_))))
        replace hk := lx hx1 hk
        replace hk := Option.some.inj hk; subst hk; exact fin0 hO
      · replace hk := cf hb hk
        refine wpL_sk ?_
        refine bn (gn ?_)
        refine wpL_rg ?_
        refine pM (.int _ _) ?_
        refine pBi ?_
        refine pA (.int _ _) ?_
        refine pE ?_
        refine gn ?_
        cases hk; exact ⟨_, rfl, _, _, hO, St.hav _ ⟨rfl, rfl, rfl, trivial⟩⟩
    · replace hk := cf hb hk
      refine wpL_ex ?_
      refine ge (ge (be (gn ?_)))
      replace hk := lx hx1 hk
      refine wpL_sq ?_
      refine wpL_rg ?_
      refine pA (.bool _) ?_
      refine pE ?_
      refine gn ?_
      refine wpL_rt ?_
      replace hk := Option.some.inj hk; subst hk; exact fin0 hO
/-- laws.eqWay -/
def f274 (aA0 : Way) (aB1 : Way) : Option Bool :=
  ((f28 aA0.Sections aB1.Sections).bind fun v3 => (bif !v3 then some false else ((f327 aA0.Lies aB1.Lies).bind fun v4 => (bif !v4 then some false else ((f327 aA0.Flanks aB1.Flanks).bind fun v5 => (bif !v5 then some false else ((f28 aA0.Over aB1.Over).bind fun v6 => (bif !v6 then some false else ((f28 aA0.Near aB1.Near).bind fun v7 => (bif !v7 then some false else some true))))))))))
theorem f274_run {aA0 : Way} {aB1 : Way} {r : Bool} {l1 l2 l3 l4 l5 l6 l7 l8 l9 l10 : Nat} {H : Heap} {lk : Lk} (hk : f274 aA0 aB1 = some r) (hlk : 0 < lk.length := by simp) : runL Try.prog hh 274 [.agg [.lit l1 aA0.Sections.length (flat aA0.Sections), .lit l2 aA0.Lies.length (flat aA0.Lies), .lit l3 aA0.Flanks.length (flat aA0.Flanks), .lit l4 aA0.Over.length (flat aA0.Over), .lit l5 aA0.Near.length (flat aA0.Near)], .agg [.lit l6 aB1.Sections.length (flat aB1.Sections), .lit l7 aB1.Lies.length (flat aB1.Lies), .lit l8 aB1.Flanks.length (flat aB1.Flanks), .lit l9 aB1.Over.length (flat aB1.Over), .lit l10 aB1.Near.length (flat aB1.Near)]] H lk = some (.bool r, H) := by
  refine run_start Try.func274 rfl Try.ntmps274 Try.results274 rfl rfl fun hO => ?_
  unfold f274 at hk
  refine wpL_sq ?_
  refine wpL_rg ?_
  refine pBox (cs := [_, _, _, _, _]) hO tZ218 (fun b1 G hO => ?_)
  refine pBox (cs := [_, _, _, _, _]) hO tZ218 (fun b2 G hO => ?_)
  refine pA (.bool _) ?_
  refine pE ?_
  refine gn ?_
  refine wpL_sq ?_
  refine wpL_sq ?_
  refine wpL_rg ?_
  refine pF tF218_0 ?_
  refine pLo hO 1 (.lit _ _ _) tA26 ?_
  refine pF tF218_0 ?_
  refine pLo hO 0 (.lit _ _ _) tA26 ?_
  obtain ⟨v3, hv3, hk⟩ := bs hk
  refine pCall (fun _ => f28_run hv3) ?_
  refine pU ?_
  refine pE ?_
  refine gn ?_
  refine wpL_cd (b := !v3) (fun hb => ?_) (fun hb => ?_)
  · replace hk := ct hb hk
    refine wpL_sq ?_
    refine wpL_rg ?_
    refine pA (.bool _) ?_
    refine pE ?_
    refine gn ?_
    refine wpL_rt ?_
    refine gr ?_
    replace hk := Option.some.inj hk; subst hk; exact fin0 hO
  · replace hk := cf hb hk
    refine wpL_sk ?_
    refine gn ?_
    refine wpL_sq ?_
    refine wpL_sq ?_
    refine wpL_rg ?_
    refine pF tF218_1 ?_
    refine pLo hO 1 (.lit _ _ _) tA216 ?_
    refine pF tF218_1 ?_
    refine pLo hO 0 (.lit _ _ _) tA216 ?_
    obtain ⟨v4, hv4, hk⟩ := bs hk
    refine pCall (fun _ => f327_run hv4) ?_
    refine pU ?_
    refine pE ?_
    refine gn ?_
    refine wpL_cd (b := !v4) (fun hb => ?_) (fun hb => ?_)
    · replace hk := ct hb hk
      refine wpL_sq ?_
      refine wpL_rg ?_
      refine pA (.bool _) ?_
      refine pE ?_
      refine gn ?_
      refine wpL_rt ?_
      refine gr ?_
      replace hk := Option.some.inj hk; subst hk; exact fin0 hO
    · replace hk := cf hb hk
      refine wpL_sk ?_
      refine gn ?_
      refine wpL_sq ?_
      refine wpL_sq ?_
      refine wpL_rg ?_
      refine pF tF218_2 ?_
      refine pLo hO 1 (.lit _ _ _) tA216 ?_
      refine pF tF218_2 ?_
      refine pLo hO 0 (.lit _ _ _) tA216 ?_
      obtain ⟨v5, hv5, hk⟩ := bs hk
      refine pCall (fun _ => f327_run hv5) ?_
      refine pU ?_
      refine pE ?_
      refine gn ?_
      refine wpL_cd (b := !v5) (fun hb => ?_) (fun hb => ?_)
      · replace hk := ct hb hk
        refine wpL_sq ?_
        refine wpL_rg ?_
        refine pA (.bool _) ?_
        refine pE ?_
        refine gn ?_
        refine wpL_rt ?_
        refine gr ?_
        replace hk := Option.some.inj hk; subst hk; exact fin0 hO
      · replace hk := cf hb hk
        refine wpL_sk ?_
        refine gn ?_
        refine wpL_sq ?_
        refine wpL_sq ?_
        refine wpL_rg ?_
        refine pF tF218_3 ?_
        refine pLo hO 1 (.lit _ _ _) tA26 ?_
        refine pF tF218_3 ?_
        refine pLo hO 0 (.lit _ _ _) tA26 ?_
        obtain ⟨v6, hv6, hk⟩ := bs hk
        refine pCall (fun _ => f28_run hv6) ?_
        refine pU ?_
        refine pE ?_
        refine gn ?_
        refine wpL_cd (b := !v6) (fun hb => ?_) (fun hb => ?_)
        · replace hk := ct hb hk
          refine wpL_sq ?_
          refine wpL_rg ?_
          refine pA (.bool _) ?_
          refine pE ?_
          refine gn ?_
          refine wpL_rt ?_
          refine gr ?_
          replace hk := Option.some.inj hk; subst hk; exact fin0 hO
        · replace hk := cf hb hk
          refine wpL_sk ?_
          refine gn ?_
          refine wpL_sq ?_
          refine wpL_sq ?_
          refine wpL_rg ?_
          refine pF tF218_4 ?_
          refine pLo hO 1 (.lit _ _ _) tA26 ?_
          refine pF tF218_4 ?_
          refine pLo hO 0 (.lit _ _ _) tA26 ?_
          obtain ⟨v7, hv7, hk⟩ := bs hk
          refine pCall (fun _ => f28_run hv7) ?_
          refine pU ?_
          refine pE ?_
          refine gn ?_
          refine wpL_cd (b := !v7) (fun hb => ?_) (fun hb => ?_)
          · replace hk := ct hb hk
            refine wpL_sq ?_
            refine wpL_rg ?_
            refine pA (.bool _) ?_
            refine pE ?_
            refine gn ?_
            refine wpL_rt ?_
            refine gr ?_
            replace hk := Option.some.inj hk; subst hk; exact fin0 hO
          · replace hk := cf hb hk
            refine wpL_sk ?_
            refine gn ?_
            refine wpL_sq ?_
            refine wpL_rg ?_
            refine pA (.bool _) ?_
            refine pE ?_
            refine gn ?_
            refine wpL_rt ?_
            replace hk := Option.some.inj hk; subst hk; exact fin0 hO
/-- laws.eqWayS -/
def f174_L1 (aA0 : List Way) (aB1 : List Way) : Int → Option (Int ⊕ Bool) := fun s =>
  (bif decide (s < (aA0.length : Int)) then ((getI aA0 s).bind fun c2 => ((getI aB1 s).bind fun c3 => ((f274 c2 c3).bind fun v4 => (bif !v4 then ((some false).map Sum.inr) else some (.inl (w64 (s + (1:Int)))))))) else ((some true).map Sum.inr))
def f174 (aA0 : List Way) (aB1 : List Way) : Option Bool :=
  (bif ((aA0.length : Int) != (aB1.length : Int)) then some false else (loopO (f174_L1 aA0 aB1) ((0:Int))))
theorem f174_run {aA0 : List Way} {aB1 : List Way} {r : Bool} {l1 l2 : Nat} {H : Heap} {lk : Lk} (hk : f174 aA0 aB1 = some r) (hlk : 0 < lk.length := by simp) : runL Try.prog hh 174 [.lit l1 aA0.length (flat aA0), .lit l2 aB1.length (flat aB1)] H lk = some (.bool r, H) := by
  refine run_start Try.func174 rfl Try.ntmps174 Try.results174 rfl rfl fun hO => ?_
  unfold f174 at hk
  refine wpL_sq ?_
  refine wpL_rg ?_
  refine pA (.bool _) ?_
  refine pE ?_
  refine gn ?_
  refine wpL_sq ?_
  refine wpL_sq ?_
  refine wpL_rg ?_
  refine pM (.lit _ _ _) ?_
  refine pLen tS79 ?_
  refine pM (.lit _ _ _) ?_
  refine pLen tS79 ?_
  refine pBi ?_
  refine pE ?_
  refine gn ?_
  refine wpL_cd (b := ((aA0.length : Int) != (aB1.length : Int))) (fun hb => ?_) (fun hb => ?_)
  · replace hk := ct hb hk
    refine wpL_sq ?_
    refine wpL_rg ?_
    refine pA (.bool _) ?_
    refine pE ?_
    refine gn ?_
    refine wpL_rt ?_
    refine gr ?_
    replace hk := Option.some.inj hk; subst hk; exact fin0 hO
  · replace hk := cf hb hk
    refine wpL_sk ?_
    refine gn ?_
    refine wpL_sq ?_
    refine wpL_sq ?_
    refine wpL_rg ?_
    refine pA (.int _ _) ?_
    refine pE ?_
    refine gn ?_
    refine wpL_bl ?_
    refine wpL_loopO (F := f174_L1 aA0 aB1) (fun s S' => ∃ (J : Nat → V) (G : Heap), Owns H G [] ∧ S' = ⟨hav [(0, .lit l1 aA0.length (flat aA0)), (1, .lit l2 aB1.length (flat aB1)), (5, .int .i64 s)] J, G⟩) hk ⟨_, _, hO, St.hav _ ⟨rfl, rfl, rfl, trivial⟩⟩ ?_
    rintro x1 _ y1 ⟨J, G, hO, rfl⟩ hk hx1
    refine wpL_sq ?_
    refine wpL_sq ?_
    refine wpL_rg ?_
    refine pM (.int _ _) ?_
    refine pM (.lit _ _ _) ?_
    refine pLen tS79 ?_
    refine pBi ?_
    refine pE ?_
    refine gn ?_
    refine wpL_cd (b := decide (x1 < (aA0.length : Int))) (fun hb => ?_) (fun hb => ?_)
    · replace hk := ct hb hk
      refine wpL_sk ?_
      refine gn ?_
      refine wpL_sq ?_
      refine wpL_bl ?_
      refine wpL_sq ?_
      refine wpL_drw [(0, true), (1, true), (2, true), (3, true), (4, true), (5, true), (6, true), (7, true), (8, false), (9, false)] [_, _, _, _, _, _, _, _, _, _] (by decide +kernel) (by rfl) ?_
      refine pM (.lit _ _ _) ?_
      refine pM (.int _ _) ?_
      obtain ⟨c2, hc2, hk⟩ := bs hk
      refine pX hc2 tE79 tZ218 ?_
      refine pLp (.agg [_, _, _, _, _]) (rd2 (off := 0) hc2 tA218 tZ218) ?_
      refine pM (.lit _ _ _) ?_
      refine pM (.int _ _) ?_
      obtain ⟨c3, hc3, hk⟩ := bs hk
      refine pX hc3 tE79 tZ218 ?_
      refine pLp (.agg [_, _, _, _, _]) (rd2 (off := 0) hc3 tA218 tZ218) ?_
      obtain ⟨v4, hv4, hk⟩ := bs hk
      refine pCall (fun _ => f274_run hv4) ?_
      refine pU ?_
      refine pE ?_
      refine gn ?_
      refine wpL_cd (b := !v4) (fun hb => ?_) (fun hb => ?_)
      · replace hk := ct hb hk
        refine wpL_sq ?_
        refine wpL_rg ?_
        refine pA (.bool _) ?_
        refine pE ?_
        refine gn ?_
        refine wpL_rt ?_
        refine br (gr (gr (br (gr ?_))))
        replace hk := lx hx1 hk
        replace hk := Option.some.inj hk; subst hk; exact fin0 hO
      · replace hk := cf hb hk
        refine wpL_sk ?_
        refine bn (gn ?_)
        refine wpL_rg ?_
        refine pM (.int _ _) ?_
        refine pBi ?_
        refine pA (.int _ _) ?_
        refine pE ?_
        refine gn ?_
        cases hk; exact ⟨_, rfl, _, _, hO, St.hav _ ⟨rfl, rfl, rfl, trivial⟩⟩
    · replace hk := cf hb hk
      refine wpL_ex ?_
      refine ge (ge (be (gn ?_)))
      replace hk := lx hx1 hk
      refine wpL_sq ?_
      refine wpL_rg ?_
      refine pA (.bool _) ?_
      refine pE ?_
      refine gn ?_
      refine wpL_rt ?_
      replace hk := Option.some.inj hk; subst hk; exact fin0 hO
/-- laws.eqBoolS -/
def f133_L1 (aA0 : List Bool) (aB1 : List Bool) : Int → Option (Int ⊕ Bool) := fun s =>
  (bif decide (s < (aA0.length : Int)) then ((getI aA0 s).bind fun c2 => ((getI aB1 s).bind fun c3 => (bif !(c2 == c3) then ((some false).map Sum.inr) else some (.inl (w64 (s + (1:Int))))))) else ((some true).map Sum.inr))
def f133 (aA0 : List Bool) (aB1 : List Bool) : Option Bool :=
  (bif ((aA0.length : Int) != (aB1.length : Int)) then some false else (loopO (f133_L1 aA0 aB1) ((0:Int))))
theorem f133_run {aA0 : List Bool} {aB1 : List Bool} {r : Bool} {l1 l2 : Nat} {H : Heap} {lk : Lk} (hk : f133 aA0 aB1 = some r) (hlk : 0 < lk.length := by simp) : runL Try.prog hh 133 [.lit l1 aA0.length (flat aA0), .lit l2 aB1.length (flat aB1)] H lk = some (.bool r, H) := by
  refine run_start Try.func133 rfl Try.ntmps133 Try.results133 rfl rfl fun hO => ?_
  unfold f133 at hk
  refine wpL_sq ?_
  refine wpL_rg ?_
  refine pA (.bool _) ?_
  refine pE ?_
  refine gn ?_
  refine wpL_sq ?_
  refine wpL_sq ?_
  refine wpL_rg ?_
  refine pM (.lit _ _ _) ?_
  refine pLen tS38 ?_
  refine pM (.lit _ _ _) ?_
  refine pLen tS38 ?_
  refine pBi ?_
  refine pE ?_
  refine gn ?_
  refine wpL_cd (b := ((aA0.length : Int) != (aB1.length : Int))) (fun hb => ?_) (fun hb => ?_)
  · replace hk := ct hb hk
    refine wpL_sq ?_
    refine wpL_rg ?_
    refine pA (.bool _) ?_
    refine pE ?_
    refine gn ?_
    refine wpL_rt ?_
    refine gr ?_
    replace hk := Option.some.inj hk; subst hk; exact fin0 hO
  · replace hk := cf hb hk
    refine wpL_sk ?_
    refine gn ?_
    refine wpL_sq ?_
    refine wpL_sq ?_
    refine wpL_rg ?_
    refine pA (.int _ _) ?_
    refine pE ?_
    refine gn ?_
    refine wpL_bl ?_
    refine wpL_loopO (F := f133_L1 aA0 aB1) (fun s S' => ∃ (J : Nat → V) (G : Heap), Owns H G [] ∧ S' = ⟨hav [(0, .lit l1 aA0.length (flat aA0)), (1, .lit l2 aB1.length (flat aB1)), (5, .int .i64 s)] J, G⟩) hk ⟨_, _, hO, St.hav _ ⟨rfl, rfl, rfl, trivial⟩⟩ ?_
    rintro x1 _ y1 ⟨J, G, hO, rfl⟩ hk hx1
    refine wpL_sq ?_
    refine wpL_sq ?_
    refine wpL_rg ?_
    refine pM (.int _ _) ?_
    refine pM (.lit _ _ _) ?_
    refine pLen tS38 ?_
    refine pBi ?_
    refine pE ?_
    refine gn ?_
    refine wpL_cd (b := decide (x1 < (aA0.length : Int))) (fun hb => ?_) (fun hb => ?_)
    · replace hk := ct hb hk
      refine wpL_sk ?_
      refine gn ?_
      refine wpL_sq ?_
      refine wpL_bl ?_
      refine wpL_sq ?_
      refine wpL_drw [(0, true), (1, true), (2, true), (3, true), (4, true), (5, true), (6, true), (7, true), (8, false)] [_, _, _, _, _, _, _, _, _] (by decide +kernel) (by rfl) ?_
      refine pM (.lit _ _ _) ?_
      refine pM (.int _ _) ?_
      obtain ⟨c2, hc2, hk⟩ := bs hk
      refine pX hc2 tE38 tZ4 ?_
      refine pLp (.bool _) (rd1 (off := 0) hc2 tA4) ?_
      refine pM (.lit _ _ _) ?_
      refine pM (.int _ _) ?_
      obtain ⟨c3, hc3, hk⟩ := bs hk
      refine pX hc3 tE38 tZ4 ?_
      refine pLp (.bool _) (rd1 (off := 0) hc3 tA4) ?_
      refine pBn Try.underlying4 ?_
      refine pE ?_
      refine gn ?_
      refine wpL_cd (b := !(c2 == c3)) (fun hb => ?_) (fun hb => ?_)
      · replace hk := ct hb hk
        refine wpL_sq ?_
        refine wpL_rg ?_
        refine pA (.bool _) ?_
        refine pE ?_
        refine gn ?_
        refine wpL_rt ?_
        refine br (gr (gr (br (gr ?_))))
        replace hk := lx hx1 hk
        replace hk := Option.some.inj hk; subst hk; exact fin0 hO
      · replace hk := cf hb hk
        refine wpL_sk ?_
        refine bn (gn ?_)
        refine wpL_rg ?_
        refine pM (.int _ _) ?_
        refine pBi ?_
        refine pA (.int _ _) ?_
        refine pE ?_
        refine gn ?_
        cases hk; exact ⟨_, rfl, _, _, hO, St.hav _ ⟨rfl, rfl, rfl, trivial⟩⟩
    · replace hk := cf hb hk
      refine wpL_ex ?_
      refine ge (ge (be (gn ?_)))
      replace hk := lx hx1 hk
      refine wpL_sq ?_
      refine wpL_rg ?_
      refine pA (.bool _) ?_
      refine pE ?_
      refine gn ?_
      refine wpL_rt ?_
      replace hk := Option.some.inj hk; subst hk; exact fin0 hO
/-- laws.eqBoolSS -/
def f148_L1 (aA0 : List (List Bool)) (aB1 : List (List Bool)) : Int → Option (Int ⊕ Bool) := fun s =>
  (bif decide (s < (aA0.length : Int)) then ((getI aA0 s).bind fun c2 => ((getI aB1 s).bind fun c3 => ((f133 c2 c3).bind fun v4 => (bif !v4 then ((some false).map Sum.inr) else some (.inl (w64 (s + (1:Int)))))))) else ((some true).map Sum.inr))
def f148 (aA0 : List (List Bool)) (aB1 : List (List Bool)) : Option Bool :=
  (bif ((aA0.length : Int) != (aB1.length : Int)) then some false else (loopO (f148_L1 aA0 aB1) ((0:Int))))
theorem f148_run {aA0 : List (List Bool)} {aB1 : List (List Bool)} {r : Bool} {l1 l2 : Nat} {H : Heap} {lk : Lk} (hk : f148 aA0 aB1 = some r) (hlk : 0 < lk.length := by simp) : runL Try.prog hh 148 [.lit l1 aA0.length (flat aA0), .lit l2 aB1.length (flat aB1)] H lk = some (.bool r, H) := by
  refine run_start Try.func148 rfl Try.ntmps148 Try.results148 rfl rfl fun hO => ?_
  unfold f148 at hk
  refine wpL_sq ?_
  refine wpL_rg ?_
  refine pA (.bool _) ?_
  refine pE ?_
  refine gn ?_
  refine wpL_sq ?_
  refine wpL_sq ?_
  refine wpL_rg ?_
  refine pM (.lit _ _ _) ?_
  refine pLen tS45 ?_
  refine pM (.lit _ _ _) ?_
  refine pLen tS45 ?_
  refine pBi ?_
  refine pE ?_
  refine gn ?_
  refine wpL_cd (b := ((aA0.length : Int) != (aB1.length : Int))) (fun hb => ?_) (fun hb => ?_)
  · replace hk := ct hb hk
    refine wpL_sq ?_
    refine wpL_rg ?_
    refine pA (.bool _) ?_
    refine pE ?_
    refine gn ?_
    refine wpL_rt ?_
    refine gr ?_
    replace hk := Option.some.inj hk; subst hk; exact fin0 hO
  · replace hk := cf hb hk
    refine wpL_sk ?_
    refine gn ?_
    refine wpL_sq ?_
    refine wpL_sq ?_
    refine wpL_rg ?_
    refine pA (.int _ _) ?_
    refine pE ?_
    refine gn ?_
    refine wpL_bl ?_
    refine wpL_loopO (F := f148_L1 aA0 aB1) (fun s S' => ∃ (J : Nat → V) (G : Heap), Owns H G [] ∧ S' = ⟨hav [(0, .lit l1 aA0.length (flat aA0)), (1, .lit l2 aB1.length (flat aB1)), (5, .int .i64 s)] J, G⟩) hk ⟨_, _, hO, St.hav _ ⟨rfl, rfl, rfl, trivial⟩⟩ ?_
    rintro x1 _ y1 ⟨J, G, hO, rfl⟩ hk hx1
    refine wpL_sq ?_
    refine wpL_sq ?_
    refine wpL_rg ?_
    refine pM (.int _ _) ?_
    refine pM (.lit _ _ _) ?_
    refine pLen tS45 ?_
    refine pBi ?_
    refine pE ?_
    refine gn ?_
    refine wpL_cd (b := decide (x1 < (aA0.length : Int))) (fun hb => ?_) (fun hb => ?_)
    · replace hk := ct hb hk
      refine wpL_sk ?_
      refine gn ?_
      refine wpL_sq ?_
      refine wpL_bl ?_
      refine wpL_sq ?_
      refine wpL_drw [(0, true), (1, true), (2, true), (3, true), (4, true), (5, true), (6, true), (7, true), (8, false), (9, false)] [_, _, _, _, _, _, _, _, _, _] (by decide +kernel) (by rfl) ?_
      refine pM (.lit _ _ _) ?_
      refine pM (.int _ _) ?_
      obtain ⟨c2, hc2, hk⟩ := bs hk
      refine pX hc2 tE45 tZ38 ?_
      refine pLp (.lit _ _ _) (rd1 (off := 0) hc2 tA38) ?_
      refine pM (.lit _ _ _) ?_
      refine pM (.int _ _) ?_
      obtain ⟨c3, hc3, hk⟩ := bs hk
      refine pX hc3 tE45 tZ38 ?_
      refine pLp (.lit _ _ _) (rd1 (off := 0) hc3 tA38) ?_
      obtain ⟨v4, hv4, hk⟩ := bs hk
      refine pCall (fun _ => f133_run hv4) ?_
      refine pU ?_
      refine pE ?_
      refine gn ?_
      refine wpL_cd (b := !v4) (fun hb => ?_) (fun hb => ?_)
      · replace hk := ct hb hk
        refine wpL_sq ?_
        refine wpL_rg ?_
        refine pA (.bool _) ?_
        refine pE ?_
        refine gn ?_
        refine wpL_rt ?_
        refine br (gr (gr (br (gr ?_))))
        replace hk := lx hx1 hk
        replace hk := Option.some.inj hk; subst hk; exact fin0 hO
      · replace hk := cf hb hk
        refine wpL_sk ?_
        refine bn (gn ?_)
        refine wpL_rg ?_
        refine pM (.int _ _) ?_
        refine pBi ?_
        refine pA (.int _ _) ?_
        refine pE ?_
        refine gn ?_
        cases hk; exact ⟨_, rfl, _, _, hO, St.hav _ ⟨rfl, rfl, rfl, trivial⟩⟩
    · replace hk := cf hb hk
      refine wpL_ex ?_
      refine ge (ge (be (gn ?_)))
      replace hk := lx hx1 hk
      refine wpL_sq ?_
      refine wpL_rg ?_
      refine pA (.bool _) ?_
      refine pE ?_
      refine gn ?_
      refine wpL_rt ?_
      replace hk := Option.some.inj hk; subst hk; exact fin0 hO
/-- laws.eqPlan -/
def f56 (aA0 : Plan) (aB1 : Plan) : Option Bool :=
  (bif (aA0.Sections != aB1.Sections) then some false else ((f28 aA0.Switches aB1.Switches).bind fun v3 => (bif !v3 then some false else ((f174 aA0.Ways aB1.Ways).bind fun v4 => (bif !v4 then some false else ((f148 aA0.Bars aB1.Bars).bind fun v5 => (bif !v5 then some false else (bif (aA0.Hold != aB1.Hold) then some false else some true))))))))
theorem f56_run {aA0 : Plan} {aB1 : Plan} {r : Bool} {l1 l2 l3 l4 l5 l6 : Nat} {H : Heap} {lk : Lk} (hk : f56 aA0 aB1 = some r) (hlk : 0 < lk.length := by simp) : runL Try.prog hh 56 [.agg [.int .i64 aA0.Sections, .lit l1 aA0.Switches.length (flat aA0.Switches), .lit l2 aA0.Ways.length (flat aA0.Ways), .lit l3 aA0.Bars.length (flat aA0.Bars), .int .i64 aA0.Hold], .agg [.int .i64 aB1.Sections, .lit l4 aB1.Switches.length (flat aB1.Switches), .lit l5 aB1.Ways.length (flat aB1.Ways), .lit l6 aB1.Bars.length (flat aB1.Bars), .int .i64 aB1.Hold]] H lk = some (.bool r, H) := by
  refine run_start Try.func56 rfl Try.ntmps56 Try.results56 rfl rfl fun hO => ?_
  unfold f56 at hk
  refine wpL_sq ?_
  refine wpL_rg ?_
  refine pBox (cs := [_, _, _, _, _]) hO tZ81 (fun b1 G hO => ?_)
  refine pBox (cs := [_, _, _, _, _]) hO tZ81 (fun b2 G hO => ?_)
  refine pA (.bool _) ?_
  refine pE ?_
  refine gn ?_
  refine wpL_sq ?_
  refine wpL_sq ?_
  refine wpL_rg ?_
  refine pF tF81_0 ?_
  refine pLo hO 1 (.int _ _) tA3 ?_
  refine pF tF81_0 ?_
  refine pLo hO 0 (.int _ _) tA3 ?_
  refine pBi ?_
  refine pE ?_
  refine gn ?_
  refine wpL_cd (b := (aA0.Sections != aB1.Sections)) (fun hb => ?_) (fun hb => ?_)
  · replace hk := ct hb hk
    refine wpL_sq ?_
    refine wpL_rg ?_
    refine pA (.bool _) ?_
    refine pE ?_
    refine gn ?_
    refine wpL_rt ?_
    refine gr ?_
    replace hk := Option.some.inj hk; subst hk; exact fin0 hO
  · replace hk := cf hb hk
    refine wpL_sk ?_
    refine gn ?_
    refine wpL_sq ?_
    refine wpL_sq ?_
    refine wpL_rg ?_
    refine pF tF81_1 ?_
    refine pLo hO 1 (.lit _ _ _) tA26 ?_
    refine pF tF81_1 ?_
    refine pLo hO 0 (.lit _ _ _) tA26 ?_
    obtain ⟨v3, hv3, hk⟩ := bs hk
    refine pCall (fun _ => f28_run hv3) ?_
    refine pU ?_
    refine pE ?_
    refine gn ?_
    refine wpL_cd (b := !v3) (fun hb => ?_) (fun hb => ?_)
    · replace hk := ct hb hk
      refine wpL_sq ?_
      refine wpL_rg ?_
      refine pA (.bool _) ?_
      refine pE ?_
      refine gn ?_
      refine wpL_rt ?_
      refine gr ?_
      replace hk := Option.some.inj hk; subst hk; exact fin0 hO
    · replace hk := cf hb hk
      refine wpL_sk ?_
      refine gn ?_
      refine wpL_sq ?_
      refine wpL_sq ?_
      refine wpL_rg ?_
      refine pF tF81_2 ?_
      refine pLo hO 1 (.lit _ _ _) tA79 ?_
      refine pF tF81_2 ?_
      refine pLo hO 0 (.lit _ _ _) tA79 ?_
      obtain ⟨v4, hv4, hk⟩ := bs hk
      refine pCall (fun _ => f174_run hv4) ?_
      refine pU ?_
      refine pE ?_
      refine gn ?_
      refine wpL_cd (b := !v4) (fun hb => ?_) (fun hb => ?_)
      · replace hk := ct hb hk
        refine wpL_sq ?_
        refine wpL_rg ?_
        refine pA (.bool _) ?_
        refine pE ?_
        refine gn ?_
        refine wpL_rt ?_
        refine gr ?_
        replace hk := Option.some.inj hk; subst hk; exact fin0 hO
      · replace hk := cf hb hk
        refine wpL_sk ?_
        refine gn ?_
        refine wpL_sq ?_
        refine wpL_sq ?_
        refine wpL_rg ?_
        refine pF tF81_3 ?_
        refine pLo hO 1 (.lit _ _ _) tA45 ?_
        refine pF tF81_3 ?_
        refine pLo hO 0 (.lit _ _ _) tA45 ?_
        obtain ⟨v5, hv5, hk⟩ := bs hk
        refine pCall (fun _ => f148_run hv5) ?_
        refine pU ?_
        refine pE ?_
        refine gn ?_
        refine wpL_cd (b := !v5) (fun hb => ?_) (fun hb => ?_)
        · replace hk := ct hb hk
          refine wpL_sq ?_
          refine wpL_rg ?_
          refine pA (.bool _) ?_
          refine pE ?_
          refine gn ?_
          refine wpL_rt ?_
          refine gr ?_
          replace hk := Option.some.inj hk; subst hk; exact fin0 hO
        · replace hk := cf hb hk
          refine wpL_sk ?_
          refine gn ?_
          refine wpL_sq ?_
          refine wpL_sq ?_
          refine wpL_rg ?_
          refine pF tF81_4 ?_
          refine pLo hO 1 (.int _ _) tA3 ?_
          refine pF tF81_4 ?_
          refine pLo hO 0 (.int _ _) tA3 ?_
          refine pBi ?_
          refine pE ?_
          refine gn ?_
          refine wpL_cd (b := (aA0.Hold != aB1.Hold)) (fun hb => ?_) (fun hb => ?_)
          · replace hk := ct hb hk
            refine wpL_sq ?_
            refine wpL_rg ?_
            refine pA (.bool _) ?_
            refine pE ?_
            refine gn ?_
            refine wpL_rt ?_
            refine gr ?_
            replace hk := Option.some.inj hk; subst hk; exact fin0 hO
          · replace hk := cf hb hk
            refine wpL_sk ?_
            refine gn ?_
            refine wpL_sq ?_
            refine wpL_rg ?_
            refine pA (.bool _) ?_
            refine pE ?_
            refine gn ?_
            refine wpL_rt ?_
            replace hk := Option.some.inj hk; subst hk; exact fin0 hO
/-- laws.FnExactPlanOk -/
def f8 (aAP0 : Plan) : Option Bool :=
  ((f51 aAP0 (1048576:Int)).bind fun v2 => (bif decide (v2 < (0:Int)) then some true else ((f53 aAP0).bind fun v3 => ((f52 v3).bind fun v4 => ((f53 aAP0).bind fun v6 => ((f54 v6).bind fun v8 => ((f55 v8 v4).bind fun v10 => (bif !v10 then some false else ((f53 aAP0).bind fun v11 => ((f56 v6 v11).bind fun v12 => (bif !v12 then some false else some true)))))))))))
theorem f8_run {aAP0 : Plan} {r : Bool} {l1 l2 l3 : Nat} {H : Heap} {lk : Lk} (hk : f8 aAP0 = some r) (hlk : 0 < lk.length := by simp) : runL Try.prog hh 8 [.agg [.int .i64 aAP0.Sections, .lit l1 aAP0.Switches.length (flat aAP0.Switches), .lit l2 aAP0.Ways.length (flat aAP0.Ways), .lit l3 aAP0.Bars.length (flat aAP0.Bars), .int .i64 aAP0.Hold]] H lk = some (.bool r, H) := by
  refine run_start Try.func8 rfl Try.ntmps8 Try.results8 rfl rfl fun hO => ?_
  unfold f8 at hk
  refine wpL_sq ?_
  refine wpL_rg ?_
  refine pBox (cs := [_, _, _, _, _]) hO tZ74 (fun b1 G hO => ?_)
  refine pA (.bool _) ?_
  refine pE ?_
  refine gn ?_
  refine wpL_sq ?_
  refine wpL_rg ?_
  refine pA (.int _ _) ?_
  refine pE ?_
  refine gn ?_
  refine wpL_sq ?_
  refine wpL_rg ?_
  refine pLs hO 0 [_, _, _, _, _] tA74 tZ74 ?_
  refine pM (.int _ _) ?_
  obtain ⟨v2, hv2, hk⟩ := bs hk
  refine pCall (fun _ => f51_run hv2) ?_
  refine pA (.int _ _) ?_
  refine pE ?_
  refine gn ?_
  refine wpL_sq ?_
  refine wpL_sq ?_
  refine wpL_rg ?_
  refine pM (.int _ _) ?_
  refine pBi ?_
  refine pE ?_
  refine gn ?_
  refine wpL_cd (b := decide (v2 < (0:Int))) (fun hb => ?_) (fun hb => ?_)
  · replace hk := ct hb hk
    refine wpL_sq ?_
    refine wpL_rg ?_
    refine pA (.bool _) ?_
    refine pE ?_
    refine gn ?_
    refine wpL_rt ?_
    refine gr ?_
    replace hk := Option.some.inj hk; subst hk; exact fin0 hO
  · replace hk := cf hb hk
    refine wpL_sk ?_
    refine gn ?_
    refine wpL_sq ?_
    refine wpL_rg ?_
    refine pLs hO 0 [_, _, _, _, _] tA74 tZ74 ?_
    obtain ⟨v3, hv3, hk⟩ := bs hk
    refine pCall (fun _ => f53_run hv3) ?_
    obtain ⟨v4, hv4, hk⟩ := bs hk
    refine pCall (fun _ => f52_run hv4) ?_
    refine pNew hO tZ77 t077 (fun b5 G hO => ?_)
    refine pSt (xs := [_, _]) hO 0 tZ77 rfl (fun G hO => ?_)
    refine pE ?_
    refine gn ?_
    refine wpL_sq ?_
    refine wpL_rg ?_
    refine pLs hO 1 [_, _, _, _, _] tA74 tZ74 ?_
    obtain ⟨v6, hv6, hk⟩ := bs hk
    refine pCall (fun _ => f53_run hv6) ?_
    refine pNew hO tZ81 t081 (fun b7 G hO => ?_)
    refine pSt (xs := [_, _, _, _, _]) hO 0 tZ81 rfl (fun G hO => ?_)
    refine pE ?_
    refine gn ?_
    refine wpL_sq ?_
    refine wpL_rg ?_
    refine pLs hO 0 [_, _, _, _, _] tA81 tZ81 ?_
    obtain ⟨v8, hv8, hk⟩ := bs hk
    refine pCall (fun _ => f54_run hv8) ?_
    refine pNew hO tZ77 t077 (fun b9 G hO => ?_)
    refine pSt (xs := [_, _]) hO 0 tZ77 rfl (fun G hO => ?_)
    refine pE ?_
    refine gn ?_
    refine wpL_sq ?_
    refine wpL_sq ?_
    refine wpL_rg ?_
    refine pLs hO 0 [_, _] tA77 tZ77 ?_
    refine pLs hO 2 [_, _] tA77 tZ77 ?_
    obtain ⟨v10, hv10, hk⟩ := bs hk
    refine pCall (fun _ => f55_run hv10) ?_
    refine pU ?_
    refine pE ?_
    refine gn ?_
    refine wpL_cd (b := !v10) (fun hb => ?_) (fun hb => ?_)
    · replace hk := ct hb hk
      refine wpL_sq ?_
      refine wpL_rg ?_
      refine pA (.bool _) ?_
      refine pE ?_
      refine gn ?_
      refine wpL_rt ?_
      refine gr ?_
      replace hk := Option.some.inj hk; subst hk; exact fin0 hO
    · replace hk := cf hb hk
      refine wpL_sk ?_
      refine gn ?_
      refine wpL_sq ?_
      refine wpL_sq ?_
      refine wpL_drw [(0, true), (1, true), (2, true), (3, false), (4, false)] [_, _, _, _, _] (by decide +kernel) (by rfl) ?_
      refine pLs hO 1 [_, _, _, _, _] tA81 tZ81 ?_
      refine pLs hO 3 [_, _, _, _, _] tA74 tZ74 ?_
      obtain ⟨v11, hv11, hk⟩ := bs hk
      refine pCall (fun _ => f53_run hv11) ?_
      obtain ⟨v12, hv12, hk⟩ := bs hk
      refine pCall (fun _ => f56_run hv12) ?_
      refine pU ?_
      refine pE ?_
      refine gn ?_
      refine wpL_cd (b := !v12) (fun hb => ?_) (fun hb => ?_)
      · replace hk := ct hb hk
        refine wpL_sq ?_
        refine wpL_rg ?_
        refine pA (.bool _) ?_
        refine pE ?_
        refine gn ?_
        refine wpL_rt ?_
        refine gr ?_
        replace hk := Option.some.inj hk; subst hk; exact fin0 hO
      · replace hk := cf hb hk
        refine wpL_sk ?_
        refine gn ?_
        refine wpL_sq ?_
        refine wpL_rg ?_
        refine pA (.bool _) ?_
        refine pE ?_
        refine gn ?_
        refine wpL_rt ?_
        replace hk := Option.some.inj hk; subst hk; exact fin0 hO
end
end Go.Proofs.Ytkfekjcahepfnaa.K
