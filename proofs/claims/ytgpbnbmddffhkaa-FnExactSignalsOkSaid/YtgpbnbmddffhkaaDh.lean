/-
  The functions that FnExactSignalsOk reaches, as typed Lean functions, and that the interpreter computes them. No conditions.
-/
import Derived.Test.YtgpbnbmddffhkaaKw
import Derived.Test.YtgpbnbmddffhkaaProg
set_option linter.unusedVariables false
set_option linter.unusedSimpArgs false
set_option maxRecDepth 100000
namespace Go.Proofs.Ytgpbnbmddffhkaa.K
noncomputable section
def hh : Hints := { modes := fun _ => [], thaw := fun _ => false, grow := fun _ => false, keep := fun _ => false }
structure Piece where
  Name : ByteArray
  Len : Int
  Speed : Int
  Brake : Int
instance : GoT Piece := ⟨4, by decide, fun x => GoT.enc x.Name ++ (GoT.enc x.Len ++ (GoT.enc x.Speed ++ (GoT.enc x.Brake))), fun x => by simp only [List.length_append, GoT.len]; rfl, fun x => by simp only [cleanL_append, GoT.clean]; rfl, fun x => by simp only [List.all_append, GoT.cell]; rfl⟩
structure End where
  Piece : Int
  Side : Int
  deriving DecidableEq
instance : GoT End := ⟨2, by decide, fun x => GoT.enc x.Piece ++ (GoT.enc x.Side), fun x => by simp only [List.length_append, GoT.len]; rfl, fun x => by simp only [cleanL_append, GoT.clean]; rfl, fun x => by simp only [List.all_append, GoT.cell]; rfl⟩
instance : GoP End := ⟨fun x => .agg (GoT.enc x), fun _ => rfl⟩
theorem fitEndK : KeyFit (.many [.i, .i]) End := fun a b => by
  have h : eqKey (.many [.i, .i]) (GoP.pv a) (GoP.pv b) = some ((a.Piece == b.Piece) && ((a.Side == b.Side) && (true))) := by
    show (if (GoT.enc a).length = 2 ∧ (GoT.enc b).length = 2 then eqCells _ (GoT.enc a) (GoT.enc b) else none) = _
    rw [if_pos ⟨GoT.len a, GoT.len b⟩]
    exact eqc (eqi _ _ _) (eqc (eqi _ _ _) (rfl))
  rw [h]
  congr 1
  cases a; cases b
  rw [Bool.eq_iff_iff]
  simp
structure Joint where
  Kind : Int
  Name : ByteArray
  Ends : List End
instance : GoT Joint := ⟨3, by decide, fun x => GoT.enc x.Kind ++ (GoT.enc x.Name ++ (GoT.enc x.Ends)), fun x => by simp only [List.length_append, GoT.len]; rfl, fun x => by simp only [cleanL_append, GoT.clean]; rfl, fun x => by simp only [List.all_append, GoT.cell]; rfl⟩
structure Net where
  Pieces : List Piece
  Joints : List Joint
instance : GoT Net := ⟨2, by decide, fun x => GoT.enc x.Pieces ++ (GoT.enc x.Joints), fun x => by simp only [List.length_append, GoT.len]; rfl, fun x => by simp only [cleanL_append, GoT.clean]; rfl, fun x => by simp only [List.all_append, GoT.cell]; rfl⟩
structure Signal where
  Name : ByteArray
  Piece : Int
  At : Int
  Way : Int
instance : GoT Signal := ⟨4, by decide, fun x => GoT.enc x.Name ++ (GoT.enc x.Piece ++ (GoT.enc x.At ++ (GoT.enc x.Way))), fun x => by simp only [List.length_append, GoT.len]; rfl, fun x => by simp only [cleanL_append, GoT.clean]; rfl, fun x => by simp only [List.all_append, GoT.cell]; rfl⟩
structure Fault where
  Code : Int
  At : Int
instance : GoT Fault := ⟨2, by decide, fun x => GoT.enc x.Code ++ (GoT.enc x.At), fun x => by simp only [List.length_append, GoT.len]; rfl, fun x => by simp only [cleanL_append, GoT.clean]; rfl, fun x => by simp only [List.all_append, GoT.cell]; rfl⟩
theorem tZ46 : szOf Try.prog 46 = some 2 := by rfl
theorem tA46 : aggT Try.prog 46 = some true := by rfl
theorem tF46_0 : fieldOff Try.prog 46 0 = some 0 := by rfl
theorem tA43 : aggT Try.prog 43 = some false := by rfl
theorem tS43 : strT Try.prog 43 = some false := by rfl
theorem tE43 : elemT Try.prog 43 = some 236 := by rfl
theorem tZ236 : szOf Try.prog 236 = some 4 := by rfl
theorem tA236 : aggT Try.prog 236 = some true := by rfl
theorem tF236_0 : fieldOff Try.prog 236 0 = some 0 := by rfl
theorem tA9 : aggT Try.prog 9 = some false := by rfl
theorem tS9 : strT Try.prog 9 = some true := by rfl
theorem tF46_1 : fieldOff Try.prog 46 1 = some 1 := by rfl
theorem tA44 : aggT Try.prog 44 = some false := by rfl
theorem tS44 : strT Try.prog 44 = some false := by rfl
theorem tE44 : elemT Try.prog 44 = some 240 := by rfl
theorem tZ240 : szOf Try.prog 240 = some 3 := by rfl
theorem tA240 : aggT Try.prog 240 = some true := by rfl
theorem tF240_1 : fieldOff Try.prog 240 1 = some 1 := by rfl
theorem tF240_2 : fieldOff Try.prog 240 2 = some 2 := by rfl
theorem tA238 : aggT Try.prog 238 = some false := by rfl
theorem tS238 : strT Try.prog 238 = some false := by rfl
theorem tS93 : strT Try.prog 93 = some false := by rfl
theorem tE93 : elemT Try.prog 93 = some 203 := by rfl
theorem tZ203 : szOf Try.prog 203 = some 4 := by rfl
theorem tA203 : aggT Try.prog 203 = some true := by rfl
theorem tF203_0 : fieldOff Try.prog 203 0 = some 0 := by rfl
theorem tZ54 : szOf Try.prog 54 = some 2 := by rfl
theorem t054 : zeroOf Try.prog 54 = some [(.tl 0 []), (.tl 0 [])] := by rfl
theorem tE51 : elemT Try.prog 51 = some 157 := by rfl
theorem tZ157 : szOf Try.prog 157 = some 4 := by rfl
theorem tB157 : bytesOf Try.prog 157 = some 40 := by rfl
theorem t0157 : zeroOf Try.prog 157 = some [.str ByteArray.empty, .int .i64 0, .int .i64 0, .int .i64 0] := by rfl
theorem tF157_0 : fieldOff Try.prog 157 0 = some 0 := by rfl
theorem tZ9 : szOf Try.prog 9 = some 1 := by rfl
theorem tF236_1 : fieldOff Try.prog 236 1 = some 1 := by rfl
theorem tA3 : aggT Try.prog 3 = some false := by rfl
theorem tF157_1 : fieldOff Try.prog 157 1 = some 1 := by rfl
theorem tZ3 : szOf Try.prog 3 = some 1 := by rfl
theorem tF236_2 : fieldOff Try.prog 236 2 = some 2 := by rfl
theorem tF157_2 : fieldOff Try.prog 157 2 = some 2 := by rfl
theorem tF236_3 : fieldOff Try.prog 236 3 = some 3 := by rfl
theorem tF157_3 : fieldOff Try.prog 157 3 = some 3 := by rfl
theorem tA157 : aggT Try.prog 157 = some true := by rfl
theorem tF54_0 : fieldOff Try.prog 54 0 = some 0 := by rfl
theorem tZ51 : szOf Try.prog 51 = some 1 := by rfl
theorem tE52 : elemT Try.prog 52 = some 169 := by rfl
theorem tZ169 : szOf Try.prog 169 = some 3 := by rfl
theorem tB169 : bytesOf Try.prog 169 = some 48 := by rfl
theorem t0169 : zeroOf Try.prog 169 = some [.int .i64 0, .str ByteArray.empty, (.tl 0 [])] := by rfl
theorem tF240_0 : fieldOff Try.prog 240 0 = some 0 := by rfl
theorem tF169_0 : fieldOff Try.prog 169 0 = some 0 := by rfl
theorem tF169_1 : fieldOff Try.prog 169 1 = some 1 := by rfl
theorem tE167 : elemT Try.prog 167 = some 162 := by rfl
theorem tZ162 : szOf Try.prog 162 = some 2 := by rfl
theorem tB162 : bytesOf Try.prog 162 = some 16 := by rfl
theorem t0162 : zeroOf Try.prog 162 = some [.int .i64 0, .int .i64 0] := by rfl
theorem tE238 : elemT Try.prog 238 = some 321 := by rfl
theorem tZ321 : szOf Try.prog 321 = some 2 := by rfl
theorem tA321 : aggT Try.prog 321 = some true := by rfl
theorem tF321_0 : fieldOff Try.prog 321 0 = some 0 := by rfl
theorem tF162_0 : fieldOff Try.prog 162 0 = some 0 := by rfl
theorem tF321_1 : fieldOff Try.prog 321 1 = some 1 := by rfl
theorem tF162_1 : fieldOff Try.prog 162 1 = some 1 := by rfl
theorem tA162 : aggT Try.prog 162 = some true := by rfl
theorem tF169_2 : fieldOff Try.prog 169 2 = some 2 := by rfl
theorem tZ167 : szOf Try.prog 167 = some 1 := by rfl
theorem tA169 : aggT Try.prog 169 = some true := by rfl
theorem tF54_1 : fieldOff Try.prog 54 1 = some 1 := by rfl
theorem tZ52 : szOf Try.prog 52 = some 1 := by rfl
theorem tA54 : aggT Try.prog 54 = some true := by rfl
theorem tE96 : elemT Try.prog 96 = some 204 := by rfl
theorem tZ204 : szOf Try.prog 204 = some 4 := by rfl
theorem tB204 : bytesOf Try.prog 204 = some 40 := by rfl
theorem t0204 : zeroOf Try.prog 204 = some [.str ByteArray.empty, .int .i64 0, .int .i64 0, .int .i64 0] := by rfl
theorem tF204_0 : fieldOff Try.prog 204 0 = some 0 := by rfl
theorem tF203_1 : fieldOff Try.prog 203 1 = some 1 := by rfl
theorem tF204_1 : fieldOff Try.prog 204 1 = some 1 := by rfl
theorem tF203_2 : fieldOff Try.prog 203 2 = some 2 := by rfl
theorem tF204_2 : fieldOff Try.prog 204 2 = some 2 := by rfl
theorem tF203_3 : fieldOff Try.prog 203 3 = some 3 := by rfl
theorem tF204_3 : fieldOff Try.prog 204 3 = some 3 := by rfl
theorem tA204 : aggT Try.prog 204 = some true := by rfl
theorem tZ49 : szOf Try.prog 49 = some 2 := by rfl
theorem t049 : zeroOf Try.prog 49 = some [.int .i64 0, .int .i64 0] := by rfl
theorem tA51 : aggT Try.prog 51 = some false := by rfl
theorem tS51 : strT Try.prog 51 = some false := by rfl
theorem tA52 : aggT Try.prog 52 = some false := by rfl
theorem tS52 : strT Try.prog 52 = some false := by rfl
theorem tP49 : placesK Try.prog 49 = some [(0, 1), (1, 1)] := by rfl
theorem tA49 : aggT Try.prog 49 = some true := by rfl
theorem tA167 : aggT Try.prog 167 = some false := by rfl
theorem tS167 : strT Try.prog 167 = some false := by rfl
theorem tP162 : placesK Try.prog 162 = some [(0, 1), (1, 1)] := by rfl
theorem tG162 : flatT Try.prog 162 = some [.i, .i] := by decide +kernel
theorem tF49_0 : fieldOff Try.prog 49 0 = some 0 := by rfl
theorem tS96 : strT Try.prog 96 = some false := by rfl
theorem tM165 : mapK Try.prog 165 = some (.one .s, 4) := by decide +kernel
theorem tY4 : zero1 Try.prog 4 = some (GoP.pv (false : Bool)) := by rfl
theorem tM170 : mapK Try.prog 170 = some (.many [.i, .i], 3) := by decide +kernel
theorem tY3 : zero1 Try.prog 3 = some (GoP.pv (0 : Int)) := by rfl
theorem tG49 : flatT Try.prog 49 = some [.i, .i] := by decide +kernel
theorem tF49_1 : fieldOff Try.prog 49 1 = some 1 := by rfl
/-- laws.szPiece -/
def f166 (aA0 : Piece) (aLeft1 : Int) : Option Int :=
  (bif decide ((w64 (aLeft1 - (aA0.Name.size : Int))) < (0:Int)) then some (-1:Int) else some (w64 (aLeft1 - (aA0.Name.size : Int))))
theorem f166_run {aA0 : Piece} {aLeft1 : Int} {r : Int} {H : Heap} {lk : Lk} (hk : f166 aA0 aLeft1 = some r) (hlk : 0 < lk.length := by simp) : runL Try.prog hh 166 [.agg [.str aA0.Name, .int .i64 aA0.Len, .int .i64 aA0.Speed, .int .i64 aA0.Brake], .int .i64 aLeft1] H lk = some (.int .i64 r, H) := by
  refine run_start Try.func166 rfl Try.ntmps166 Try.results166 rfl rfl fun hO => ?_
  unfold f166 at hk
  refine wpL_sq ?_
  refine wpL_rg ?_
  refine pBox (cs := [_, _, _, _]) hO tZ236 (fun b1 G hO => ?_)
  refine pA (.int _ _) ?_
  refine pE ?_
  refine gn ?_
  refine wpL_sq ?_
  refine wpL_rg ?_
  refine pM (.int _ _) ?_
  refine pF tF236_0 ?_
  refine pLo hO 0 (.str _) tA9 ?_
  refine pLen tS9 ?_
  refine pBi ?_
  refine pA (.int _ _) ?_
  refine pE ?_
  refine gn ?_
  refine wpL_sq ?_
  refine wpL_sq ?_
  refine wpL_rg ?_
  refine pM (.int _ _) ?_
  refine pBi ?_
  refine pE ?_
  refine gn ?_
  refine wpL_cd (b := decide ((w64 (aLeft1 - (aA0.Name.size : Int))) < (0:Int))) (fun hb => ?_) (fun hb => ?_)
  · replace hk := ct hb hk
    refine wpL_sq ?_
    refine wpL_rg ?_
    refine pA (.int _ _) ?_
    refine pE ?_
    refine gn ?_
    refine wpL_rt ?_
    refine gr ?_
    cases hk; exact fin0 hO
  · replace hk := cf hb hk
    refine wpL_sk ?_
    refine gn ?_
    refine wpL_sq ?_
    refine wpL_rg ?_
    refine pM (.int _ _) ?_
    refine pA (.int _ _) ?_
    refine pE ?_
    refine gn ?_
    refine wpL_rt ?_
    cases hk; exact fin0 hO
/-- laws.szPieceS -/
def f84_L1 (aA0 : List Piece) : (Int × Int) → Option ((Int × Int) ⊕ Int) := fun s =>
  (bif decide (s.2 < (aA0.length : Int)) then ((getI aA0 s.2).bind fun c3 => ((f166 c3 s.1).bind fun v4 => (bif decide (v4 < (0:Int)) then ((some (-1:Int)).map Sum.inr) else some (.inl (v4, w64 (s.2 + (1:Int))))))) else ((some s.1).map Sum.inr))
def f84 (aA0 : List Piece) (aLeft1 : Int) : Option Int :=
  (bif decide ((w64 (aLeft1 - (aA0.length : Int))) < (0:Int)) then some (-1:Int) else (loopO (f84_L1 aA0) (w64 (aLeft1 - (aA0.length : Int)), (0:Int))))
theorem f84_run {aA0 : List Piece} {aLeft1 : Int} {r : Int} {l1 : Nat} {H : Heap} {lk : Lk} (hk : f84 aA0 aLeft1 = some r) (hlk : 0 < lk.length := by simp) : runL Try.prog hh 84 [.lit l1 aA0.length (flat aA0), .int .i64 aLeft1] H lk = some (.int .i64 r, H) := by
  refine run_start Try.func84 rfl Try.ntmps84 Try.results84 rfl rfl fun hO => ?_
  unfold f84 at hk
  refine wpL_sq ?_
  refine wpL_rg ?_
  refine pA (.int _ _) ?_
  refine pE ?_
  refine gn ?_
  refine wpL_sq ?_
  refine wpL_rg ?_
  refine pM (.int _ _) ?_
  refine pM (.lit _ _ _) ?_
  refine pLen tS43 ?_
  refine pBi ?_
  refine pA (.int _ _) ?_
  refine pE ?_
  refine gn ?_
  refine wpL_sq ?_
  refine wpL_sq ?_
  refine wpL_rg ?_
  refine pM (.int _ _) ?_
  refine pBi ?_
  refine pE ?_
  refine gn ?_
  refine wpL_cd (b := decide ((w64 (aLeft1 - (aA0.length : Int))) < (0:Int))) (fun hb => ?_) (fun hb => ?_)
  · replace hk := ct hb hk
    refine wpL_sq ?_
    refine wpL_rg ?_
    refine pA (.int _ _) ?_
    refine pE ?_
    refine gn ?_
    refine wpL_rt ?_
    refine gr ?_
    cases hk; exact fin0 hO
  · replace hk := cf hb hk
    refine wpL_sk ?_
    refine gn ?_
    refine wpL_sq ?_
    refine wpL_sq ?_
    refine wpL_rg ?_
    refine pA (.int _ _) ?_
    refine pE ?_
    refine gn ?_
    refine wpL_bl ?_
    refine wpL_loopO (F := f84_L1 aA0) (fun s S' => ∃ (J : Nat → V) (G : Heap), Owns H G [] ∧ S' = ⟨hav [(0, .lit l1 aA0.length (flat aA0)), (1, .int .i64 s.1), (5, .int .i64 s.2)] J, G⟩) hk ⟨_, _, hO, St.hav _ ⟨rfl, rfl, rfl, trivial⟩⟩ ?_
    rintro ⟨x1, x2⟩ _ y1 ⟨J, G, hO, rfl⟩ hk hx1
    refine wpL_sq ?_
    refine wpL_sq ?_
    refine wpL_rg ?_
    refine pM (.int _ _) ?_
    refine pM (.lit _ _ _) ?_
    refine pLen tS43 ?_
    refine pBi ?_
    refine pE ?_
    refine gn ?_
    refine wpL_cd (b := decide (x2 < (aA0.length : Int))) (fun hb => ?_) (fun hb => ?_)
    · replace hk := ct hb hk
      refine wpL_sk ?_
      refine gn ?_
      refine wpL_sq ?_
      refine wpL_bl ?_
      refine wpL_sq ?_
      refine wpL_rg ?_
      refine pM (.lit _ _ _) ?_
      refine pM (.int _ _) ?_
      obtain ⟨c3, hc3, hk⟩ := bs hk
      refine pX hc3 tE43 tZ236 ?_
      refine pLp (.agg [_, _, _, _]) (rd2 (off := 0) hc3 tA236 tZ236) ?_
      refine pM (.int _ _) ?_
      obtain ⟨v4, hv4, hk⟩ := bs hk
      refine pCall (fun _ => f166_run hv4) ?_
      refine pA (.int _ _) ?_
      refine pE ?_
      refine gn ?_
      refine wpL_sq ?_
      refine wpL_rg ?_
      refine pM (.int _ _) ?_
      refine pBi ?_
      refine pE ?_
      refine gn ?_
      refine wpL_cd (b := decide (v4 < (0:Int))) (fun hb => ?_) (fun hb => ?_)
      · replace hk := ct hb hk
        refine wpL_sq ?_
        refine wpL_rg ?_
        refine pA (.int _ _) ?_
        refine pE ?_
        refine gn ?_
        refine wpL_rt ?_
        refine br (gr (gr (br (gr ?_))))
        replace hk := lx hx1 hk
        cases hk; exact fin0 hO
      · replace hk := cf hb hk
        refine wpL_sk ?_
        refine bn (gn ?_)
        refine wpL_rg ?_
        refine pM (.int _ _) ?_
        refine pBi ?_
        refine pA (.int _ _) ?_
        refine pE ?_
        refine gn ?_
        cases hk; exact ⟨_, rfl, _, _, hO, St.hav _ ⟨rfl, rfl, rfl, trivial⟩⟩
    · replace hk := cf hb hk
      refine wpL_ex ?_
      refine ge (ge (be (gn ?_)))
      replace hk := lx hx1 hk
      refine wpL_sq ?_
      refine wpL_rg ?_
      refine pM (.int _ _) ?_
      refine pA (.int _ _) ?_
      refine pE ?_
      refine gn ?_
      refine wpL_rt ?_
      cases hk; exact fin0 hO
/-- laws.szEndS -/
def f221 (aA0 : List End) (aLeft1 : Int) : Option Int :=
  (bif decide ((w64 (aLeft1 - (aA0.length : Int))) < (0:Int)) then some (-1:Int) else some (w64 (aLeft1 - (aA0.length : Int))))
theorem f221_run {aA0 : List End} {aLeft1 : Int} {r : Int} {l1 : Nat} {H : Heap} {lk : Lk} (hk : f221 aA0 aLeft1 = some r) (hlk : 0 < lk.length := by simp) : runL Try.prog hh 221 [.lit l1 aA0.length (flat aA0), .int .i64 aLeft1] H lk = some (.int .i64 r, H) := by
  refine run_start Try.func221 rfl Try.ntmps221 Try.results221 rfl rfl fun hO => ?_
  unfold f221 at hk
  refine wpL_sq ?_
  refine wpL_rg ?_
  refine pA (.int _ _) ?_
  refine pE ?_
  refine gn ?_
  refine wpL_sq ?_
  refine wpL_rg ?_
  refine pM (.int _ _) ?_
  refine pM (.lit _ _ _) ?_
  refine pLen tS238 ?_
  refine pBi ?_
  refine pA (.int _ _) ?_
  refine pE ?_
  refine gn ?_
  refine wpL_sq ?_
  refine wpL_sq ?_
  refine wpL_rg ?_
  refine pM (.int _ _) ?_
  refine pBi ?_
  refine pE ?_
  refine gn ?_
  refine wpL_cd (b := decide ((w64 (aLeft1 - (aA0.length : Int))) < (0:Int))) (fun hb => ?_) (fun hb => ?_)
  · replace hk := ct hb hk
    refine wpL_sq ?_
    refine wpL_rg ?_
    refine pA (.int _ _) ?_
    refine pE ?_
    refine gn ?_
    refine wpL_rt ?_
    refine gr ?_
    cases hk; exact fin0 hO
  · replace hk := cf hb hk
    refine wpL_sk ?_
    refine gn ?_
    refine wpL_sq ?_
    refine wpL_rg ?_
    refine pM (.int _ _) ?_
    refine pA (.int _ _) ?_
    refine pE ?_
    refine gn ?_
    refine wpL_rt ?_
    cases hk; exact fin0 hO
/-- laws.szJoint -/
def f167 (aA0 : Joint) (aLeft1 : Int) : Option Int :=
  (bif decide ((w64 (aLeft1 - (aA0.Name.size : Int))) < (0:Int)) then some (-1:Int) else ((f221 aA0.Ends (w64 (aLeft1 - (aA0.Name.size : Int)))).bind fun v2 => (bif decide (v2 < (0:Int)) then some (-1:Int) else some v2)))
theorem f167_run {aA0 : Joint} {aLeft1 : Int} {r : Int} {l1 : Nat} {H : Heap} {lk : Lk} (hk : f167 aA0 aLeft1 = some r) (hlk : 0 < lk.length := by simp) : runL Try.prog hh 167 [.agg [.int .i64 aA0.Kind, .str aA0.Name, .lit l1 aA0.Ends.length (flat aA0.Ends)], .int .i64 aLeft1] H lk = some (.int .i64 r, H) := by
  refine run_start Try.func167 rfl Try.ntmps167 Try.results167 rfl rfl fun hO => ?_
  unfold f167 at hk
  refine wpL_sq ?_
  refine wpL_rg ?_
  refine pBox (cs := [_, _, _]) hO tZ240 (fun b1 G hO => ?_)
  refine pA (.int _ _) ?_
  refine pE ?_
  refine gn ?_
  refine wpL_sq ?_
  refine wpL_rg ?_
  refine pM (.int _ _) ?_
  refine pF tF240_1 ?_
  refine pLo hO 0 (.str _) tA9 ?_
  refine pLen tS9 ?_
  refine pBi ?_
  refine pA (.int _ _) ?_
  refine pE ?_
  refine gn ?_
  refine wpL_sq ?_
  refine wpL_sq ?_
  refine wpL_rg ?_
  refine pM (.int _ _) ?_
  refine pBi ?_
  refine pE ?_
  refine gn ?_
  refine wpL_cd (b := decide ((w64 (aLeft1 - (aA0.Name.size : Int))) < (0:Int))) (fun hb => ?_) (fun hb => ?_)
  · replace hk := ct hb hk
    refine wpL_sq ?_
    refine wpL_rg ?_
    refine pA (.int _ _) ?_
    refine pE ?_
    refine gn ?_
    refine wpL_rt ?_
    refine gr ?_
    cases hk; exact fin0 hO
  · replace hk := cf hb hk
    refine wpL_sk ?_
    refine gn ?_
    refine wpL_sq ?_
    refine wpL_rg ?_
    refine pF tF240_2 ?_
    refine pLo hO 0 (.lit _ _ _) tA238 ?_
    refine pM (.int _ _) ?_
    obtain ⟨v2, hv2, hk⟩ := bs hk
    refine pCall (fun _ => f221_run hv2) ?_
    refine pA (.int _ _) ?_
    refine pE ?_
    refine gn ?_
    refine wpL_sq ?_
    refine wpL_sq ?_
    refine wpL_rg ?_
    refine pM (.int _ _) ?_
    refine pBi ?_
    refine pE ?_
    refine gn ?_
    refine wpL_cd (b := decide (v2 < (0:Int))) (fun hb => ?_) (fun hb => ?_)
    · replace hk := ct hb hk
      refine wpL_sq ?_
      refine wpL_rg ?_
      refine pA (.int _ _) ?_
      refine pE ?_
      refine gn ?_
      refine wpL_rt ?_
      refine gr ?_
      cases hk; exact fin0 hO
    · replace hk := cf hb hk
      refine wpL_sk ?_
      refine gn ?_
      refine wpL_sq ?_
      refine wpL_rg ?_
      refine pM (.int _ _) ?_
      refine pA (.int _ _) ?_
      refine pE ?_
      refine gn ?_
      refine wpL_rt ?_
      cases hk; exact fin0 hO
/-- laws.szJointS -/
def f85_L1 (aA0 : List Joint) : (Int × Int) → Option ((Int × Int) ⊕ Int) := fun s =>
  (bif decide (s.2 < (aA0.length : Int)) then ((getI aA0 s.2).bind fun c3 => ((f167 c3 s.1).bind fun v4 => (bif decide (v4 < (0:Int)) then ((some (-1:Int)).map Sum.inr) else some (.inl (v4, w64 (s.2 + (1:Int))))))) else ((some s.1).map Sum.inr))
def f85 (aA0 : List Joint) (aLeft1 : Int) : Option Int :=
  (bif decide ((w64 (aLeft1 - (aA0.length : Int))) < (0:Int)) then some (-1:Int) else (loopO (f85_L1 aA0) (w64 (aLeft1 - (aA0.length : Int)), (0:Int))))
theorem f85_run {aA0 : List Joint} {aLeft1 : Int} {r : Int} {l1 : Nat} {H : Heap} {lk : Lk} (hk : f85 aA0 aLeft1 = some r) (hlk : 0 < lk.length := by simp) : runL Try.prog hh 85 [.lit l1 aA0.length (flat aA0), .int .i64 aLeft1] H lk = some (.int .i64 r, H) := by
  refine run_start Try.func85 rfl Try.ntmps85 Try.results85 rfl rfl fun hO => ?_
  unfold f85 at hk
  refine wpL_sq ?_
  refine wpL_rg ?_
  refine pA (.int _ _) ?_
  refine pE ?_
  refine gn ?_
  refine wpL_sq ?_
  refine wpL_rg ?_
  refine pM (.int _ _) ?_
  refine pM (.lit _ _ _) ?_
  refine pLen tS44 ?_
  refine pBi ?_
  refine pA (.int _ _) ?_
  refine pE ?_
  refine gn ?_
  refine wpL_sq ?_
  refine wpL_sq ?_
  refine wpL_rg ?_
  refine pM (.int _ _) ?_
  refine pBi ?_
  refine pE ?_
  refine gn ?_
  refine wpL_cd (b := decide ((w64 (aLeft1 - (aA0.length : Int))) < (0:Int))) (fun hb => ?_) (fun hb => ?_)
  · replace hk := ct hb hk
    refine wpL_sq ?_
    refine wpL_rg ?_
    refine pA (.int _ _) ?_
    refine pE ?_
    refine gn ?_
    refine wpL_rt ?_
    refine gr ?_
    cases hk; exact fin0 hO
  · replace hk := cf hb hk
    refine wpL_sk ?_
    refine gn ?_
    refine wpL_sq ?_
    refine wpL_sq ?_
    refine wpL_rg ?_
    refine pA (.int _ _) ?_
    refine pE ?_
    refine gn ?_
    refine wpL_bl ?_
    refine wpL_loopO (F := f85_L1 aA0) (fun s S' => ∃ (J : Nat → V) (G : Heap), Owns H G [] ∧ S' = ⟨hav [(0, .lit l1 aA0.length (flat aA0)), (1, .int .i64 s.1), (5, .int .i64 s.2)] J, G⟩) hk ⟨_, _, hO, St.hav _ ⟨rfl, rfl, rfl, trivial⟩⟩ ?_
    rintro ⟨x1, x2⟩ _ y1 ⟨J, G, hO, rfl⟩ hk hx1
    refine wpL_sq ?_
    refine wpL_sq ?_
    refine wpL_rg ?_
    refine pM (.int _ _) ?_
    refine pM (.lit _ _ _) ?_
    refine pLen tS44 ?_
    refine pBi ?_
    refine pE ?_
    refine gn ?_
    refine wpL_cd (b := decide (x2 < (aA0.length : Int))) (fun hb => ?_) (fun hb => ?_)
    · replace hk := ct hb hk
      refine wpL_sk ?_
      refine gn ?_
      refine wpL_sq ?_
      refine wpL_bl ?_
      refine wpL_sq ?_
      refine wpL_rg ?_
      refine pM (.lit _ _ _) ?_
      refine pM (.int _ _) ?_
      obtain ⟨c3, hc3, hk⟩ := bs hk
      refine pX hc3 tE44 tZ240 ?_
      refine pLp (.agg [_, _, _]) (rd2 (off := 0) hc3 tA240 tZ240) ?_
      refine pM (.int _ _) ?_
      obtain ⟨v4, hv4, hk⟩ := bs hk
      refine pCall (fun _ => f167_run hv4) ?_
      refine pA (.int _ _) ?_
      refine pE ?_
      refine gn ?_
      refine wpL_sq ?_
      refine wpL_rg ?_
      refine pM (.int _ _) ?_
      refine pBi ?_
      refine pE ?_
      refine gn ?_
      refine wpL_cd (b := decide (v4 < (0:Int))) (fun hb => ?_) (fun hb => ?_)
      · replace hk := ct hb hk
        refine wpL_sq ?_
        refine wpL_rg ?_
        refine pA (.int _ _) ?_
        refine pE ?_
        refine gn ?_
        refine wpL_rt ?_
        refine br (gr (gr (br (gr ?_))))
        replace hk := lx hx1 hk
        cases hk; exact fin0 hO
      · replace hk := cf hb hk
        refine wpL_sk ?_
        refine bn (gn ?_)
        refine wpL_rg ?_
        refine pM (.int _ _) ?_
        refine pBi ?_
        refine pA (.int _ _) ?_
        refine pE ?_
        refine gn ?_
        cases hk; exact ⟨_, rfl, _, _, hO, St.hav _ ⟨rfl, rfl, rfl, trivial⟩⟩
    · replace hk := cf hb hk
      refine wpL_ex ?_
      refine ge (ge (be (gn ?_)))
      replace hk := lx hx1 hk
      refine wpL_sq ?_
      refine wpL_rg ?_
      refine pM (.int _ _) ?_
      refine pA (.int _ _) ?_
      refine pE ?_
      refine gn ?_
      refine wpL_rt ?_
      cases hk; exact fin0 hO
/-- laws.szNet -/
def f23 (aA0 : Net) (aLeft1 : Int) : Option Int :=
  ((f84 aA0.Pieces aLeft1).bind fun v2 => (bif decide (v2 < (0:Int)) then some (-1:Int) else ((f85 aA0.Joints v2).bind fun v3 => (bif decide (v3 < (0:Int)) then some (-1:Int) else some v3))))
theorem f23_run {aA0 : Net} {aLeft1 : Int} {r : Int} {l1 l2 : Nat} {H : Heap} {lk : Lk} (hk : f23 aA0 aLeft1 = some r) (hlk : 0 < lk.length := by simp) : runL Try.prog hh 23 [.agg [.lit l1 aA0.Pieces.length (flat aA0.Pieces), .lit l2 aA0.Joints.length (flat aA0.Joints)], .int .i64 aLeft1] H lk = some (.int .i64 r, H) := by
  refine run_start Try.func23 rfl Try.ntmps23 Try.results23 rfl rfl fun hO => ?_
  unfold f23 at hk
  refine wpL_sq ?_
  refine wpL_rg ?_
  refine pBox (cs := [_, _]) hO tZ46 (fun b1 G hO => ?_)
  refine pA (.int _ _) ?_
  refine pE ?_
  refine gn ?_
  refine wpL_sq ?_
  refine wpL_rg ?_
  refine pF tF46_0 ?_
  refine pLo hO 0 (.lit _ _ _) tA43 ?_
  refine pM (.int _ _) ?_
  obtain ⟨v2, hv2, hk⟩ := bs hk
  refine pCall (fun _ => f84_run hv2) ?_
  refine pA (.int _ _) ?_
  refine pE ?_
  refine gn ?_
  refine wpL_sq ?_
  refine wpL_sq ?_
  refine wpL_rg ?_
  refine pM (.int _ _) ?_
  refine pBi ?_
  refine pE ?_
  refine gn ?_
  refine wpL_cd (b := decide (v2 < (0:Int))) (fun hb => ?_) (fun hb => ?_)
  · replace hk := ct hb hk
    refine wpL_sq ?_
    refine wpL_rg ?_
    refine pA (.int _ _) ?_
    refine pE ?_
    refine gn ?_
    refine wpL_rt ?_
    refine gr ?_
    cases hk; exact fin0 hO
  · replace hk := cf hb hk
    refine wpL_sk ?_
    refine gn ?_
    refine wpL_sq ?_
    refine wpL_rg ?_
    refine pF tF46_1 ?_
    refine pLo hO 0 (.lit _ _ _) tA44 ?_
    refine pM (.int _ _) ?_
    obtain ⟨v3, hv3, hk⟩ := bs hk
    refine pCall (fun _ => f85_run hv3) ?_
    refine pA (.int _ _) ?_
    refine pE ?_
    refine gn ?_
    refine wpL_sq ?_
    refine wpL_sq ?_
    refine wpL_rg ?_
    refine pM (.int _ _) ?_
    refine pBi ?_
    refine pE ?_
    refine gn ?_
    refine wpL_cd (b := decide (v3 < (0:Int))) (fun hb => ?_) (fun hb => ?_)
    · replace hk := ct hb hk
      refine wpL_sq ?_
      refine wpL_rg ?_
      refine pA (.int _ _) ?_
      refine pE ?_
      refine gn ?_
      refine wpL_rt ?_
      refine gr ?_
      cases hk; exact fin0 hO
    · replace hk := cf hb hk
      refine wpL_sk ?_
      refine gn ?_
      refine wpL_sq ?_
      refine wpL_rg ?_
      refine pM (.int _ _) ?_
      refine pA (.int _ _) ?_
      refine pE ?_
      refine gn ?_
      refine wpL_rt ?_
      cases hk; exact fin0 hO
/-- laws.szSignal -/
def f130 (aA0 : Signal) (aLeft1 : Int) : Option Int :=
  (bif decide ((w64 (aLeft1 - (aA0.Name.size : Int))) < (0:Int)) then some (-1:Int) else some (w64 (aLeft1 - (aA0.Name.size : Int))))
theorem f130_run {aA0 : Signal} {aLeft1 : Int} {r : Int} {H : Heap} {lk : Lk} (hk : f130 aA0 aLeft1 = some r) (hlk : 0 < lk.length := by simp) : runL Try.prog hh 130 [.agg [.str aA0.Name, .int .i64 aA0.Piece, .int .i64 aA0.At, .int .i64 aA0.Way], .int .i64 aLeft1] H lk = some (.int .i64 r, H) := by
  refine run_start Try.func130 rfl Try.ntmps130 Try.results130 rfl rfl fun hO => ?_
  unfold f130 at hk
  refine wpL_sq ?_
  refine wpL_rg ?_
  refine pBox (cs := [_, _, _, _]) hO tZ203 (fun b1 G hO => ?_)
  refine pA (.int _ _) ?_
  refine pE ?_
  refine gn ?_
  refine wpL_sq ?_
  refine wpL_rg ?_
  refine pM (.int _ _) ?_
  refine pF tF203_0 ?_
  refine pLo hO 0 (.str _) tA9 ?_
  refine pLen tS9 ?_
  refine pBi ?_
  refine pA (.int _ _) ?_
  refine pE ?_
  refine gn ?_
  refine wpL_sq ?_
  refine wpL_sq ?_
  refine wpL_rg ?_
  refine pM (.int _ _) ?_
  refine pBi ?_
  refine pE ?_
  refine gn ?_
  refine wpL_cd (b := decide ((w64 (aLeft1 - (aA0.Name.size : Int))) < (0:Int))) (fun hb => ?_) (fun hb => ?_)
  · replace hk := ct hb hk
    refine wpL_sq ?_
    refine wpL_rg ?_
    refine pA (.int _ _) ?_
    refine pE ?_
    refine gn ?_
    refine wpL_rt ?_
    refine gr ?_
    cases hk; exact fin0 hO
  · replace hk := cf hb hk
    refine wpL_sk ?_
    refine gn ?_
    refine wpL_sq ?_
    refine wpL_rg ?_
    refine pM (.int _ _) ?_
    refine pA (.int _ _) ?_
    refine pE ?_
    refine gn ?_
    refine wpL_rt ?_
    cases hk; exact fin0 hO
/-- laws.szSignalS -/
def f43_L1 (aA0 : List Signal) : (Int × Int) → Option ((Int × Int) ⊕ Int) := fun s =>
  (bif decide (s.2 < (aA0.length : Int)) then ((getI aA0 s.2).bind fun c3 => ((f130 c3 s.1).bind fun v4 => (bif decide (v4 < (0:Int)) then ((some (-1:Int)).map Sum.inr) else some (.inl (v4, w64 (s.2 + (1:Int))))))) else ((some s.1).map Sum.inr))
def f43 (aA0 : List Signal) (aLeft1 : Int) : Option Int :=
  (bif decide ((w64 (aLeft1 - (aA0.length : Int))) < (0:Int)) then some (-1:Int) else (loopO (f43_L1 aA0) (w64 (aLeft1 - (aA0.length : Int)), (0:Int))))
theorem f43_run {aA0 : List Signal} {aLeft1 : Int} {r : Int} {l1 : Nat} {H : Heap} {lk : Lk} (hk : f43 aA0 aLeft1 = some r) (hlk : 0 < lk.length := by simp) : runL Try.prog hh 43 [.lit l1 aA0.length (flat aA0), .int .i64 aLeft1] H lk = some (.int .i64 r, H) := by
  refine run_start Try.func43 rfl Try.ntmps43 Try.results43 rfl rfl fun hO => ?_
  unfold f43 at hk
  refine wpL_sq ?_
  refine wpL_rg ?_
  refine pA (.int _ _) ?_
  refine pE ?_
  refine gn ?_
  refine wpL_sq ?_
  refine wpL_rg ?_
  refine pM (.int _ _) ?_
  refine pM (.lit _ _ _) ?_
  refine pLen tS93 ?_
  refine pBi ?_
  refine pA (.int _ _) ?_
  refine pE ?_
  refine gn ?_
  refine wpL_sq ?_
  refine wpL_sq ?_
  refine wpL_rg ?_
  refine pM (.int _ _) ?_
  refine pBi ?_
  refine pE ?_
  refine gn ?_
  refine wpL_cd (b := decide ((w64 (aLeft1 - (aA0.length : Int))) < (0:Int))) (fun hb => ?_) (fun hb => ?_)
  · replace hk := ct hb hk
    refine wpL_sq ?_
    refine wpL_rg ?_
    refine pA (.int _ _) ?_
    refine pE ?_
    refine gn ?_
    refine wpL_rt ?_
    refine gr ?_
    cases hk; exact fin0 hO
  · replace hk := cf hb hk
    refine wpL_sk ?_
    refine gn ?_
    refine wpL_sq ?_
    refine wpL_sq ?_
    refine wpL_rg ?_
    refine pA (.int _ _) ?_
    refine pE ?_
    refine gn ?_
    refine wpL_bl ?_
    refine wpL_loopO (F := f43_L1 aA0) (fun s S' => ∃ (J : Nat → V) (G : Heap), Owns H G [] ∧ S' = ⟨hav [(0, .lit l1 aA0.length (flat aA0)), (1, .int .i64 s.1), (5, .int .i64 s.2)] J, G⟩) hk ⟨_, _, hO, St.hav _ ⟨rfl, rfl, rfl, trivial⟩⟩ ?_
    rintro ⟨x1, x2⟩ _ y1 ⟨J, G, hO, rfl⟩ hk hx1
    refine wpL_sq ?_
    refine wpL_sq ?_
    refine wpL_rg ?_
    refine pM (.int _ _) ?_
    refine pM (.lit _ _ _) ?_
    refine pLen tS93 ?_
    refine pBi ?_
    refine pE ?_
    refine gn ?_
    refine wpL_cd (b := decide (x2 < (aA0.length : Int))) (fun hb => ?_) (fun hb => ?_)
    · replace hk := ct hb hk
      refine wpL_sk ?_
      refine gn ?_
      refine wpL_sq ?_
      refine wpL_bl ?_
      refine wpL_sq ?_
      refine wpL_rg ?_
      refine pM (.lit _ _ _) ?_
      refine pM (.int _ _) ?_
      obtain ⟨c3, hc3, hk⟩ := bs hk
      refine pX hc3 tE93 tZ203 ?_
      refine pLp (.agg [_, _, _, _]) (rd2 (off := 0) hc3 tA203 tZ203) ?_
      refine pM (.int _ _) ?_
      obtain ⟨v4, hv4, hk⟩ := bs hk
      refine pCall (fun _ => f130_run hv4) ?_
      refine pA (.int _ _) ?_
      refine pE ?_
      refine gn ?_
      refine wpL_sq ?_
      refine wpL_rg ?_
      refine pM (.int _ _) ?_
      refine pBi ?_
      refine pE ?_
      refine gn ?_
      refine wpL_cd (b := decide (v4 < (0:Int))) (fun hb => ?_) (fun hb => ?_)
      · replace hk := ct hb hk
        refine wpL_sq ?_
        refine wpL_rg ?_
        refine pA (.int _ _) ?_
        refine pE ?_
        refine gn ?_
        refine wpL_rt ?_
        refine br (gr (gr (br (gr ?_))))
        replace hk := lx hx1 hk
        cases hk; exact fin0 hO
      · replace hk := cf hb hk
        refine wpL_sk ?_
        refine bn (gn ?_)
        refine wpL_rg ?_
        refine pM (.int _ _) ?_
        refine pBi ?_
        refine pA (.int _ _) ?_
        refine pE ?_
        refine gn ?_
        cases hk; exact ⟨_, rfl, _, _, hO, St.hav _ ⟨rfl, rfl, rfl, trivial⟩⟩
    · replace hk := cf hb hk
      refine wpL_ex ?_
      refine ge (ge (be (gn ?_)))
      replace hk := lx hx1 hk
      refine wpL_sq ?_
      refine wpL_rg ?_
      refine pM (.int _ _) ?_
      refine pA (.int _ _) ?_
      refine pE ?_
      refine gn ?_
      refine wpL_rt ?_
      cases hk; exact fin0 hO
/-- laws.toPiece -/
def f169 (aA0 : Piece) : Option Piece :=
  some aA0
theorem f169_run {aA0 : Piece} {r : Piece} {H : Heap} {lk : Lk} (hk : f169 aA0 = some r) (hlk : 0 < lk.length := by simp) : runL Try.prog hh 169 [.agg [.str aA0.Name, .int .i64 aA0.Len, .int .i64 aA0.Speed, .int .i64 aA0.Brake]] H lk = some (.agg [.str r.Name, .int .i64 r.Len, .int .i64 r.Speed, .int .i64 r.Brake], H) := by
  refine run_start Try.func169 rfl Try.ntmps169 Try.results169 rfl rfl fun hO => ?_
  unfold f169 at hk
  refine wpL_sq ?_
  refine wpL_rg ?_
  refine pBox (cs := [_, _, _, _]) hO tZ236 (fun b1 G hO => ?_)
  refine pNew hO tZ157 t0157 (fun b2 G hO => ?_)
  refine pE ?_
  refine gn ?_
  refine wpL_sq ?_
  refine wpL_rg ?_
  refine pNew hO tZ157 t0157 (fun b3 G hO => ?_)
  refine pE ?_
  refine gn ?_
  refine wpL_sq ?_
  refine wpL_rg ?_
  refine pF tF236_0 ?_
  refine pLo hO 2 (.str _) tA9 ?_
  refine pF tF157_0 ?_
  refine pSt (xs := [_]) hO 0 tZ9 rfl (fun G hO => ?_)
  refine pE ?_
  refine gn ?_
  refine wpL_sq ?_
  refine wpL_rg ?_
  refine pF tF236_1 ?_
  refine pLo hO 2 (.int _ _) tA3 ?_
  refine pF tF157_1 ?_
  refine pSt (xs := [_]) hO 0 tZ3 rfl (fun G hO => ?_)
  refine pE ?_
  refine gn ?_
  refine wpL_sq ?_
  refine wpL_rg ?_
  refine pF tF236_2 ?_
  refine pLo hO 2 (.int _ _) tA3 ?_
  refine pF tF157_2 ?_
  refine pSt (xs := [_]) hO 0 tZ3 rfl (fun G hO => ?_)
  refine pE ?_
  refine gn ?_
  refine wpL_sq ?_
  refine wpL_rg ?_
  refine pF tF236_3 ?_
  refine pLo hO 2 (.int _ _) tA3 ?_
  refine pF tF157_3 ?_
  refine pSt (xs := [_]) hO 0 tZ3 rfl (fun G hO => ?_)
  refine pE ?_
  refine gn ?_
  refine wpL_sq ?_
  refine wpL_rg ?_
  refine pLs hO 0 [_, _, _, _] tA157 tZ157 ?_
  refine pSt (xs := [_, _, _, _]) hO 1 tZ157 rfl (fun G hO => ?_)
  refine pE ?_
  refine gn ?_
  refine wpL_rt ?_
  cases hk; exact finZ hO (fz_agg (n := 2) (fz_c (fz_str _) (fz_c (fz_int _ _) (fz_c (fz_int _ _) (fz_c (fz_int _ _) (fz_n)))))) (resS hO 1 [_, _, _, _] tA157 tZ157 resN)
/-- laws.toPieceS -/
def f90_L1 (aA0 : List Piece) : ((List Piece) × Int) → Option (((List Piece) × Int) ⊕ (List Piece)) := fun s =>
  (bif decide (s.2 < (aA0.length : Int)) then ((getI aA0 s.2).bind fun c5 => ((f169 c5).bind fun v6 => ((getI s.1 s.2).bind fun c7 => some (.inl (s.1.set s.2.toNat v6, w64 (s.2 + (1:Int))))))) else ((some s.1).map Sum.inr))
def f90 (aA0 : List Piece) : Option (List Piece) :=
  ((makeB 40 (aA0.length : Int)).bind fun m1 => (loopO (f90_L1 aA0) (List.replicate m1 (⟨ByteArray.empty, 0, 0, 0⟩ : Piece), (0:Int))))
theorem f90_run {aA0 : List Piece} {r : (List Piece)} {l1 : Nat} {H : Heap} {lk : Lk} (hk : f90 aA0 = some r) (hlk : 0 < lk.length := by simp) : runL Try.prog hh 90 [.lit l1 aA0.length (flat aA0)] H lk = some (.lit 0 r.length (flat r), H) := by
  refine run_start Try.func90 rfl Try.ntmps90 Try.results90 rfl rfl fun hO => ?_
  unfold f90 at hk
  refine wpL_sq ?_
  refine wpL_rg ?_
  refine pA (.tl 0 []) ?_
  refine pE ?_
  refine gn ?_
  refine wpL_sq ?_
  refine wpL_rg ?_
  refine pM (.lit _ _ _) ?_
  refine pLen tS43 ?_
  obtain ⟨m1, hm1, hk⟩ := bs hk
  refine pMk hO hm1 (⟨ByteArray.empty, 0, 0, 0⟩ : Piece) tE51 tZ157 tB157 t0157 (fun b2 G hO => ?_)
  refine pA (.sl _ _ _) ?_
  refine pE ?_
  refine gn ?_
  refine wpL_sq ?_
  refine wpL_sq ?_
  refine wpL_rg ?_
  refine pA (.int _ _) ?_
  refine pE ?_
  refine gn ?_
  refine wpL_bl ?_
  refine wpL_loopO (F := f90_L1 aA0) (fun s S' => ∃ (J : Nat → V) (G : Heap), s.1.length = m1 ∧ Owns H G [.blk b2 (.cells 4 (flat s.1))] ∧ S' = ⟨hav [(0, .lit l1 aA0.length (flat aA0)), (3, .sl b2 0 m1), (4, .int .i64 s.2)] J, G⟩) hk ⟨_, _, List.length_replicate, hO, St.hav _ ⟨rfl, rfl, rfl, trivial⟩⟩ ?_
  rintro ⟨x3, x4⟩ _ y1 ⟨J, G, hl3, hO, rfl⟩ hk hx1
  refine wpL_sq ?_
  refine wpL_sq ?_
  refine wpL_rg ?_
  refine pM (.int _ _) ?_
  refine pM (.lit _ _ _) ?_
  refine pLen tS43 ?_
  refine pBi ?_
  refine pE ?_
  refine gn ?_
  refine wpL_cd (b := decide (x4 < (aA0.length : Int))) (fun hb => ?_) (fun hb => ?_)
  · replace hk := ct hb hk
    refine wpL_sk ?_
    refine gn ?_
    refine wpL_sq ?_
    refine wpL_bl ?_
    refine wpL_rg ?_
    refine pM (.sl _ _ _) ?_
    refine pM (.int _ _) ?_
    refine pM (.lit _ _ _) ?_
    refine pM (.int _ _) ?_
    obtain ⟨c5, hc5, hk⟩ := bs hk
    refine pX hc5 tE43 tZ236 ?_
    refine pLp (.agg [_, _, _, _]) (rd2 (off := 0) hc5 tA236 tZ236) ?_
    obtain ⟨v6, hv6, hk⟩ := bs hk
    refine pCall (fun _ => f169_run hv6) ?_
    obtain ⟨c7, hc7, hk⟩ := bs hk
    refine pXm hl3 hc7 tE51 tZ157 ?_
    refine pSm hO 0 hc7 tZ157 rfl v6 (.agg [_, _, _, _]) (fun G hO => ?_)
    refine pE ?_
    refine bn (gn ?_)
    refine wpL_rg ?_
    refine pM (.int _ _) ?_
    refine pBi ?_
    refine pA (.int _ _) ?_
    refine pE ?_
    refine gn ?_
    cases hk; exact ⟨_, rfl, _, _, (List.length_set.trans hl3), hO, St.hav _ ⟨rfl, rfl, rfl, trivial⟩⟩
  · replace hk := cf hb hk
    refine wpL_ex ?_
    refine ge (ge (be (gn ?_)))
    replace hk := lx hx1 hk
    refine wpL_sq ?_
    refine wpL_rg ?_
    refine pM (.sl _ _ _) ?_
    refine pA (.sl _ _ _) ?_
    refine pE ?_
    refine gn ?_
    refine wpL_rt ?_
    cases hk; exact finZ hO (fz_made (xs := x3) hl3 hlk 0) (resT (.sl _ _ _) resN)
/-- laws.toEnd -/
def f245 (aA0 : End) : Option End :=
  some aA0
theorem f245_run {aA0 : End} {r : End} {H : Heap} {lk : Lk} (hk : f245 aA0 = some r) (hlk : 0 < lk.length := by simp) : runL Try.prog hh 245 [.agg [.int .i64 aA0.Piece, .int .i64 aA0.Side]] H lk = some (.agg [.int .i64 r.Piece, .int .i64 r.Side], H) := by
  refine run_start Try.func245 rfl Try.ntmps245 Try.results245 rfl rfl fun hO => ?_
  unfold f245 at hk
  refine wpL_sq ?_
  refine wpL_rg ?_
  refine pBox (cs := [_, _]) hO tZ321 (fun b1 G hO => ?_)
  refine pNew hO tZ162 t0162 (fun b2 G hO => ?_)
  refine pE ?_
  refine gn ?_
  refine wpL_sq ?_
  refine wpL_rg ?_
  refine pNew hO tZ162 t0162 (fun b3 G hO => ?_)
  refine pE ?_
  refine gn ?_
  refine wpL_sq ?_
  refine wpL_rg ?_
  refine pF tF321_0 ?_
  refine pLo hO 2 (.int _ _) tA3 ?_
  refine pF tF162_0 ?_
  refine pSt (xs := [_]) hO 0 tZ3 rfl (fun G hO => ?_)
  refine pE ?_
  refine gn ?_
  refine wpL_sq ?_
  refine wpL_rg ?_
  refine pF tF321_1 ?_
  refine pLo hO 2 (.int _ _) tA3 ?_
  refine pF tF162_1 ?_
  refine pSt (xs := [_]) hO 0 tZ3 rfl (fun G hO => ?_)
  refine pE ?_
  refine gn ?_
  refine wpL_sq ?_
  refine wpL_rg ?_
  refine pLs hO 0 [_, _] tA162 tZ162 ?_
  refine pSt (xs := [_, _]) hO 1 tZ162 rfl (fun G hO => ?_)
  refine pE ?_
  refine gn ?_
  refine wpL_rt ?_
  cases hk; exact finZ hO (fz_agg (n := 2) (fz_c (fz_int _ _) (fz_c (fz_int _ _) (fz_n)))) (resS hO 1 [_, _] tA162 tZ162 resN)
/-- laws.toEndS -/
def f222_L1 (aA0 : List End) : ((List End) × Int) → Option (((List End) × Int) ⊕ (List End)) := fun s =>
  (bif decide (s.2 < (aA0.length : Int)) then ((getI aA0 s.2).bind fun c5 => ((f245 c5).bind fun v6 => ((getI s.1 s.2).bind fun c7 => some (.inl (s.1.set s.2.toNat v6, w64 (s.2 + (1:Int))))))) else ((some s.1).map Sum.inr))
def f222 (aA0 : List End) : Option (List End) :=
  ((makeB 16 (aA0.length : Int)).bind fun m1 => (loopO (f222_L1 aA0) (List.replicate m1 (⟨0, 0⟩ : End), (0:Int))))
theorem f222_run {aA0 : List End} {r : (List End)} {l1 : Nat} {H : Heap} {lk : Lk} (hk : f222 aA0 = some r) (hlk : 0 < lk.length := by simp) : runL Try.prog hh 222 [.lit l1 aA0.length (flat aA0)] H lk = some (.lit 0 r.length (flat r), H) := by
  refine run_start Try.func222 rfl Try.ntmps222 Try.results222 rfl rfl fun hO => ?_
  unfold f222 at hk
  refine wpL_sq ?_
  refine wpL_rg ?_
  refine pA (.tl 0 []) ?_
  refine pE ?_
  refine gn ?_
  refine wpL_sq ?_
  refine wpL_rg ?_
  refine pM (.lit _ _ _) ?_
  refine pLen tS238 ?_
  obtain ⟨m1, hm1, hk⟩ := bs hk
  refine pMk hO hm1 (⟨0, 0⟩ : End) tE167 tZ162 tB162 t0162 (fun b2 G hO => ?_)
  refine pA (.sl _ _ _) ?_
  refine pE ?_
  refine gn ?_
  refine wpL_sq ?_
  refine wpL_sq ?_
  refine wpL_rg ?_
  refine pA (.int _ _) ?_
  refine pE ?_
  refine gn ?_
  refine wpL_bl ?_
  refine wpL_loopO (F := f222_L1 aA0) (fun s S' => ∃ (J : Nat → V) (G : Heap), s.1.length = m1 ∧ Owns H G [.blk b2 (.cells 2 (flat s.1))] ∧ S' = ⟨hav [(0, .lit l1 aA0.length (flat aA0)), (3, .sl b2 0 m1), (4, .int .i64 s.2)] J, G⟩) hk ⟨_, _, List.length_replicate, hO, St.hav _ ⟨rfl, rfl, rfl, trivial⟩⟩ ?_
  rintro ⟨x3, x4⟩ _ y1 ⟨J, G, hl3, hO, rfl⟩ hk hx1
  refine wpL_sq ?_
  refine wpL_sq ?_
  refine wpL_rg ?_
  refine pM (.int _ _) ?_
  refine pM (.lit _ _ _) ?_
  refine pLen tS238 ?_
  refine pBi ?_
  refine pE ?_
  refine gn ?_
  refine wpL_cd (b := decide (x4 < (aA0.length : Int))) (fun hb => ?_) (fun hb => ?_)
  · replace hk := ct hb hk
    refine wpL_sk ?_
    refine gn ?_
    refine wpL_sq ?_
    refine wpL_bl ?_
    refine wpL_rg ?_
    refine pM (.sl _ _ _) ?_
    refine pM (.int _ _) ?_
    refine pM (.lit _ _ _) ?_
    refine pM (.int _ _) ?_
    obtain ⟨c5, hc5, hk⟩ := bs hk
    refine pX hc5 tE238 tZ321 ?_
    refine pLp (.agg [_, _]) (rd2 (off := 0) hc5 tA321 tZ321) ?_
    obtain ⟨v6, hv6, hk⟩ := bs hk
    refine pCall (fun _ => f245_run hv6) ?_
    obtain ⟨c7, hc7, hk⟩ := bs hk
    refine pXm hl3 hc7 tE167 tZ162 ?_
    refine pSm hO 0 hc7 tZ162 rfl v6 (.agg [_, _]) (fun G hO => ?_)
    refine pE ?_
    refine bn (gn ?_)
    refine wpL_rg ?_
    refine pM (.int _ _) ?_
    refine pBi ?_
    refine pA (.int _ _) ?_
    refine pE ?_
    refine gn ?_
    cases hk; exact ⟨_, rfl, _, _, (List.length_set.trans hl3), hO, St.hav _ ⟨rfl, rfl, rfl, trivial⟩⟩
  · replace hk := cf hb hk
    refine wpL_ex ?_
    refine ge (ge (be (gn ?_)))
    replace hk := lx hx1 hk
    refine wpL_sq ?_
    refine wpL_rg ?_
    refine pM (.sl _ _ _) ?_
    refine pA (.sl _ _ _) ?_
    refine pE ?_
    refine gn ?_
    refine wpL_rt ?_
    cases hk; exact finZ hO (fz_made (xs := x3) hl3 hlk 0) (resT (.sl _ _ _) resN)
/-- laws.toJoint -/
def f170 (aA0 : Joint) : Option Joint :=
  ((f222 aA0.Ends).bind fun v4 => some ({ Kind := aA0.Kind, Name := aA0.Name, Ends := v4 } : Joint))
theorem f170_run {aA0 : Joint} {r : Joint} {l1 : Nat} {H : Heap} {lk : Lk} (hk : f170 aA0 = some r) (hlk : 0 < lk.length := by simp) : runL Try.prog hh 170 [.agg [.int .i64 aA0.Kind, .str aA0.Name, .lit l1 aA0.Ends.length (flat aA0.Ends)]] H lk = some (.agg [.int .i64 r.Kind, .str r.Name, .lit 0 r.Ends.length (flat r.Ends)], H) := by
  refine run_start Try.func170 rfl Try.ntmps170 Try.results170 rfl rfl fun hO => ?_
  unfold f170 at hk
  refine wpL_sq ?_
  refine wpL_rg ?_
  refine pBox (cs := [_, _, _]) hO tZ240 (fun b1 G hO => ?_)
  refine pNew hO tZ169 t0169 (fun b2 G hO => ?_)
  refine pE ?_
  refine gn ?_
  refine wpL_sq ?_
  refine wpL_rg ?_
  refine pNew hO tZ169 t0169 (fun b3 G hO => ?_)
  refine pE ?_
  refine gn ?_
  refine wpL_sq ?_
  refine wpL_rg ?_
  refine pF tF240_0 ?_
  refine pLo hO 2 (.int _ _) tA3 ?_
  refine pF tF169_0 ?_
  refine pSt (xs := [_]) hO 0 tZ3 rfl (fun G hO => ?_)
  refine pE ?_
  refine gn ?_
  refine wpL_sq ?_
  refine wpL_rg ?_
  refine pF tF240_1 ?_
  refine pLo hO 2 (.str _) tA9 ?_
  refine pF tF169_1 ?_
  refine pSt (xs := [_]) hO 0 tZ9 rfl (fun G hO => ?_)
  refine pE ?_
  refine gn ?_
  refine wpL_sq ?_
  refine wpL_rg ?_
  refine pF tF240_2 ?_
  refine pLo hO 2 (.lit _ _ _) tA238 ?_
  obtain ⟨v4, hv4, hk⟩ := bs hk
  refine pCall (fun _ => f222_run hv4) ?_
  refine pF tF169_2 ?_
  refine pSt (xs := [_]) hO 0 tZ167 rfl (fun G hO => ?_)
  refine pE ?_
  refine gn ?_
  refine wpL_sq ?_
  refine wpL_rg ?_
  refine pLs hO 0 [_, _, _] tA169 tZ169 ?_
  refine pSt (xs := [_, _, _]) hO 1 tZ169 rfl (fun G hO => ?_)
  refine pE ?_
  refine gn ?_
  refine wpL_rt ?_
  cases hk; exact finZ hO (fz_agg (n := 2) (fz_c (fz_int _ _) (fz_c (fz_str _) (fz_c (fz_lit hlk v4) (fz_n))))) (resS hO 1 [_, _, _] tA169 tZ169 resN)
/-- laws.toJointS -/
def f91_L1 (aA0 : List Joint) : ((List Joint) × Int) → Option (((List Joint) × Int) ⊕ (List Joint)) := fun s =>
  (bif decide (s.2 < (aA0.length : Int)) then ((getI aA0 s.2).bind fun c5 => ((f170 c5).bind fun v6 => ((getI s.1 s.2).bind fun c7 => some (.inl (s.1.set s.2.toNat v6, w64 (s.2 + (1:Int))))))) else ((some s.1).map Sum.inr))
def f91 (aA0 : List Joint) : Option (List Joint) :=
  ((makeB 48 (aA0.length : Int)).bind fun m1 => (loopO (f91_L1 aA0) (List.replicate m1 (⟨0, ByteArray.empty, []⟩ : Joint), (0:Int))))
theorem f91_run {aA0 : List Joint} {r : (List Joint)} {l1 : Nat} {H : Heap} {lk : Lk} (hk : f91 aA0 = some r) (hlk : 0 < lk.length := by simp) : runL Try.prog hh 91 [.lit l1 aA0.length (flat aA0)] H lk = some (.lit 0 r.length (flat r), H) := by
  refine run_start Try.func91 rfl Try.ntmps91 Try.results91 rfl rfl fun hO => ?_
  unfold f91 at hk
  refine wpL_sq ?_
  refine wpL_rg ?_
  refine pA (.tl 0 []) ?_
  refine pE ?_
  refine gn ?_
  refine wpL_sq ?_
  refine wpL_rg ?_
  refine pM (.lit _ _ _) ?_
  refine pLen tS44 ?_
  obtain ⟨m1, hm1, hk⟩ := bs hk
  refine pMk hO hm1 (⟨0, ByteArray.empty, []⟩ : Joint) tE52 tZ169 tB169 t0169 (fun b2 G hO => ?_)
  refine pA (.sl _ _ _) ?_
  refine pE ?_
  refine gn ?_
  refine wpL_sq ?_
  refine wpL_sq ?_
  refine wpL_rg ?_
  refine pA (.int _ _) ?_
  refine pE ?_
  refine gn ?_
  refine wpL_bl ?_
  refine wpL_loopO (F := f91_L1 aA0) (fun s S' => ∃ (J : Nat → V) (G : Heap), s.1.length = m1 ∧ Owns H G [.blk b2 (.cells 3 (flat s.1))] ∧ S' = ⟨hav [(0, .lit l1 aA0.length (flat aA0)), (3, .sl b2 0 m1), (4, .int .i64 s.2)] J, G⟩) hk ⟨_, _, List.length_replicate, hO, St.hav _ ⟨rfl, rfl, rfl, trivial⟩⟩ ?_
  rintro ⟨x3, x4⟩ _ y1 ⟨J, G, hl3, hO, rfl⟩ hk hx1
  refine wpL_sq ?_
  refine wpL_sq ?_
  refine wpL_rg ?_
  refine pM (.int _ _) ?_
  refine pM (.lit _ _ _) ?_
  refine pLen tS44 ?_
  refine pBi ?_
  refine pE ?_
  refine gn ?_
  refine wpL_cd (b := decide (x4 < (aA0.length : Int))) (fun hb => ?_) (fun hb => ?_)
  · replace hk := ct hb hk
    refine wpL_sk ?_
    refine gn ?_
    refine wpL_sq ?_
    refine wpL_bl ?_
    refine wpL_rg ?_
    refine pM (.sl _ _ _) ?_
    refine pM (.int _ _) ?_
    refine pM (.lit _ _ _) ?_
    refine pM (.int _ _) ?_
    obtain ⟨c5, hc5, hk⟩ := bs hk
    refine pX hc5 tE44 tZ240 ?_
    refine pLp (.agg [_, _, _]) (rd2 (off := 0) hc5 tA240 tZ240) ?_
    obtain ⟨v6, hv6, hk⟩ := bs hk
    refine pCall (fun _ => f170_run hv6) ?_
    obtain ⟨c7, hc7, hk⟩ := bs hk
    refine pXm hl3 hc7 tE52 tZ169 ?_
    refine pSm hO 0 hc7 tZ169 rfl v6 (.agg [_, _, _]) (fun G hO => ?_)
    refine pE ?_
    refine bn (gn ?_)
    refine wpL_rg ?_
    refine pM (.int _ _) ?_
    refine pBi ?_
    refine pA (.int _ _) ?_
    refine pE ?_
    refine gn ?_
    cases hk; exact ⟨_, rfl, _, _, (List.length_set.trans hl3), hO, St.hav _ ⟨rfl, rfl, rfl, trivial⟩⟩
  · replace hk := cf hb hk
    refine wpL_ex ?_
    refine ge (ge (be (gn ?_)))
    replace hk := lx hx1 hk
    refine wpL_sq ?_
    refine wpL_rg ?_
    refine pM (.sl _ _ _) ?_
    refine pA (.sl _ _ _) ?_
    refine pE ?_
    refine gn ?_
    refine wpL_rt ?_
    cases hk; exact finZ hO (fz_made (xs := x3) hl3 hlk 0) (resT (.sl _ _ _) resN)
/-- laws.toNet -/
def f25 (aA0 : Net) : Option Net :=
  ((f90 aA0.Pieces).bind fun v4 => ((f91 aA0.Joints).bind fun v5 => some ({ Pieces := v4, Joints := v5 } : Net)))
theorem f25_run {aA0 : Net} {r : Net} {l1 l2 : Nat} {H : Heap} {lk : Lk} (hk : f25 aA0 = some r) (hlk : 0 < lk.length := by simp) : runL Try.prog hh 25 [.agg [.lit l1 aA0.Pieces.length (flat aA0.Pieces), .lit l2 aA0.Joints.length (flat aA0.Joints)]] H lk = some (.agg [.lit 0 r.Pieces.length (flat r.Pieces), .lit 0 r.Joints.length (flat r.Joints)], H) := by
  refine run_start Try.func25 rfl Try.ntmps25 Try.results25 rfl rfl fun hO => ?_
  unfold f25 at hk
  refine wpL_sq ?_
  refine wpL_rg ?_
  refine pBox (cs := [_, _]) hO tZ46 (fun b1 G hO => ?_)
  refine pNew hO tZ54 t054 (fun b2 G hO => ?_)
  refine pE ?_
  refine gn ?_
  refine wpL_sq ?_
  refine wpL_rg ?_
  refine pNew hO tZ54 t054 (fun b3 G hO => ?_)
  refine pE ?_
  refine gn ?_
  refine wpL_sq ?_
  refine wpL_rg ?_
  refine pF tF46_0 ?_
  refine pLo hO 2 (.lit _ _ _) tA43 ?_
  obtain ⟨v4, hv4, hk⟩ := bs hk
  refine pCall (fun _ => f90_run hv4) ?_
  refine pF tF54_0 ?_
  refine pSt (xs := [_]) hO 0 tZ51 rfl (fun G hO => ?_)
  refine pE ?_
  refine gn ?_
  refine wpL_sq ?_
  refine wpL_rg ?_
  refine pF tF46_1 ?_
  refine pLo hO 2 (.lit _ _ _) tA44 ?_
  obtain ⟨v5, hv5, hk⟩ := bs hk
  refine pCall (fun _ => f91_run hv5) ?_
  refine pF tF54_1 ?_
  refine pSt (xs := [_]) hO 0 tZ52 rfl (fun G hO => ?_)
  refine pE ?_
  refine gn ?_
  refine wpL_sq ?_
  refine wpL_rg ?_
  refine pLs hO 0 [_, _] tA54 tZ54 ?_
  refine pSt (xs := [_, _]) hO 1 tZ54 rfl (fun G hO => ?_)
  refine pE ?_
  refine gn ?_
  refine wpL_rt ?_
  cases hk; exact finZ hO (fz_agg (n := 2) (fz_c (fz_lit hlk v4) (fz_c (fz_lit hlk v5) (fz_n)))) (resS hO 1 [_, _] tA54 tZ54 resN)
/-- laws.toSignal -/
def f133 (aA0 : Signal) : Option Signal :=
  some aA0
theorem f133_run {aA0 : Signal} {r : Signal} {H : Heap} {lk : Lk} (hk : f133 aA0 = some r) (hlk : 0 < lk.length := by simp) : runL Try.prog hh 133 [.agg [.str aA0.Name, .int .i64 aA0.Piece, .int .i64 aA0.At, .int .i64 aA0.Way]] H lk = some (.agg [.str r.Name, .int .i64 r.Piece, .int .i64 r.At, .int .i64 r.Way], H) := by
  refine run_start Try.func133 rfl Try.ntmps133 Try.results133 rfl rfl fun hO => ?_
  unfold f133 at hk
  refine wpL_sq ?_
  refine wpL_rg ?_
  refine pBox (cs := [_, _, _, _]) hO tZ203 (fun b1 G hO => ?_)
  refine pNew hO tZ204 t0204 (fun b2 G hO => ?_)
  refine pE ?_
  refine gn ?_
  refine wpL_sq ?_
  refine wpL_rg ?_
  refine pNew hO tZ204 t0204 (fun b3 G hO => ?_)
  refine pE ?_
  refine gn ?_
  refine wpL_sq ?_
  refine wpL_rg ?_
  refine pF tF203_0 ?_
  refine pLo hO 2 (.str _) tA9 ?_
  refine pF tF204_0 ?_
  refine pSt (xs := [_]) hO 0 tZ9 rfl (fun G hO => ?_)
  refine pE ?_
  refine gn ?_
  refine wpL_sq ?_
  refine wpL_rg ?_
  refine pF tF203_1 ?_
  refine pLo hO 2 (.int _ _) tA3 ?_
  refine pF tF204_1 ?_
  refine pSt (xs := [_]) hO 0 tZ3 rfl (fun G hO => ?_)
  refine pE ?_
  refine gn ?_
  refine wpL_sq ?_
  refine wpL_rg ?_
  refine pF tF203_2 ?_
  refine pLo hO 2 (.int _ _) tA3 ?_
  refine pF tF204_2 ?_
  refine pSt (xs := [_]) hO 0 tZ3 rfl (fun G hO => ?_)
  refine pE ?_
  refine gn ?_
  refine wpL_sq ?_
  refine wpL_rg ?_
  refine pF tF203_3 ?_
  refine pLo hO 2 (.int _ _) tA3 ?_
  refine pF tF204_3 ?_
  refine pSt (xs := [_]) hO 0 tZ3 rfl (fun G hO => ?_)
  refine pE ?_
  refine gn ?_
  refine wpL_sq ?_
  refine wpL_rg ?_
  refine pLs hO 0 [_, _, _, _] tA204 tZ204 ?_
  refine pSt (xs := [_, _, _, _]) hO 1 tZ204 rfl (fun G hO => ?_)
  refine pE ?_
  refine gn ?_
  refine wpL_rt ?_
  cases hk; exact finZ hO (fz_agg (n := 2) (fz_c (fz_str _) (fz_c (fz_int _ _) (fz_c (fz_int _ _) (fz_c (fz_int _ _) (fz_n)))))) (resS hO 1 [_, _, _, _] tA204 tZ204 resN)
/-- laws.toSignalS -/
def f45_L1 (aA0 : List Signal) : ((List Signal) × Int) → Option (((List Signal) × Int) ⊕ (List Signal)) := fun s =>
  (bif decide (s.2 < (aA0.length : Int)) then ((getI aA0 s.2).bind fun c5 => ((f133 c5).bind fun v6 => ((getI s.1 s.2).bind fun c7 => some (.inl (s.1.set s.2.toNat v6, w64 (s.2 + (1:Int))))))) else ((some s.1).map Sum.inr))
def f45 (aA0 : List Signal) : Option (List Signal) :=
  ((makeB 40 (aA0.length : Int)).bind fun m1 => (loopO (f45_L1 aA0) (List.replicate m1 (⟨ByteArray.empty, 0, 0, 0⟩ : Signal), (0:Int))))
theorem f45_run {aA0 : List Signal} {r : (List Signal)} {l1 : Nat} {H : Heap} {lk : Lk} (hk : f45 aA0 = some r) (hlk : 0 < lk.length := by simp) : runL Try.prog hh 45 [.lit l1 aA0.length (flat aA0)] H lk = some (.lit 0 r.length (flat r), H) := by
  refine run_start Try.func45 rfl Try.ntmps45 Try.results45 rfl rfl fun hO => ?_
  unfold f45 at hk
  refine wpL_sq ?_
  refine wpL_rg ?_
  refine pA (.tl 0 []) ?_
  refine pE ?_
  refine gn ?_
  refine wpL_sq ?_
  refine wpL_rg ?_
  refine pM (.lit _ _ _) ?_
  refine pLen tS93 ?_
  obtain ⟨m1, hm1, hk⟩ := bs hk
  refine pMk hO hm1 (⟨ByteArray.empty, 0, 0, 0⟩ : Signal) tE96 tZ204 tB204 t0204 (fun b2 G hO => ?_)
  refine pA (.sl _ _ _) ?_
  refine pE ?_
  refine gn ?_
  refine wpL_sq ?_
  refine wpL_sq ?_
  refine wpL_rg ?_
  refine pA (.int _ _) ?_
  refine pE ?_
  refine gn ?_
  refine wpL_bl ?_
  refine wpL_loopO (F := f45_L1 aA0) (fun s S' => ∃ (J : Nat → V) (G : Heap), s.1.length = m1 ∧ Owns H G [.blk b2 (.cells 4 (flat s.1))] ∧ S' = ⟨hav [(0, .lit l1 aA0.length (flat aA0)), (3, .sl b2 0 m1), (4, .int .i64 s.2)] J, G⟩) hk ⟨_, _, List.length_replicate, hO, St.hav _ ⟨rfl, rfl, rfl, trivial⟩⟩ ?_
  rintro ⟨x3, x4⟩ _ y1 ⟨J, G, hl3, hO, rfl⟩ hk hx1
  refine wpL_sq ?_
  refine wpL_sq ?_
  refine wpL_rg ?_
  refine pM (.int _ _) ?_
  refine pM (.lit _ _ _) ?_
  refine pLen tS93 ?_
  refine pBi ?_
  refine pE ?_
  refine gn ?_
  refine wpL_cd (b := decide (x4 < (aA0.length : Int))) (fun hb => ?_) (fun hb => ?_)
  · replace hk := ct hb hk
    refine wpL_sk ?_
    refine gn ?_
    refine wpL_sq ?_
    refine wpL_bl ?_
    refine wpL_rg ?_
    refine pM (.sl _ _ _) ?_
    refine pM (.int _ _) ?_
    refine pM (.lit _ _ _) ?_
    refine pM (.int _ _) ?_
    obtain ⟨c5, hc5, hk⟩ := bs hk
    refine pX hc5 tE93 tZ203 ?_
    refine pLp (.agg [_, _, _, _]) (rd2 (off := 0) hc5 tA203 tZ203) ?_
    obtain ⟨v6, hv6, hk⟩ := bs hk
    refine pCall (fun _ => f133_run hv6) ?_
    obtain ⟨c7, hc7, hk⟩ := bs hk
    refine pXm hl3 hc7 tE96 tZ204 ?_
    refine pSm hO 0 hc7 tZ204 rfl v6 (.agg [_, _, _, _]) (fun G hO => ?_)
    refine pE ?_
    refine bn (gn ?_)
    refine wpL_rg ?_
    refine pM (.int _ _) ?_
    refine pBi ?_
    refine pA (.int _ _) ?_
    refine pE ?_
    refine gn ?_
    cases hk; exact ⟨_, rfl, _, _, (List.length_set.trans hl3), hO, St.hav _ ⟨rfl, rfl, rfl, trivial⟩⟩
  · replace hk := cf hb hk
    refine wpL_ex ?_
    refine ge (ge (be (gn ?_)))
    replace hk := lx hx1 hk
    refine wpL_sq ?_
    refine wpL_rg ?_
    refine pM (.sl _ _ _) ?_
    refine pA (.sl _ _ _) ?_
    refine pE ?_
    refine gn ?_
    refine wpL_rt ?_
    cases hk; exact finZ hO (fz_made (xs := x3) hl3 hlk 0) (resT (.sl _ _ _) resN)
/-- spec.l11name -/
def f86_L1 (aS0 : ByteArray) : Int → Option (Int ⊕ Bool) := fun s =>
  (bif decide (s < (aS0.size : Int)) then ((byteAt aS0 s).bind fun c2 => (bif !(((decide (c2 ≥ (97:Int)) && decide (c2 ≤ (122:Int))) || (decide (c2 ≥ (48:Int)) && decide (c2 ≤ (57:Int)))) || (c2 == (95:Int))) then ((some false).map Sum.inr) else some (.inl (w64 (s + (1:Int)))))) else ((some (decide ((aS0.size : Int) ≥ (1:Int)) && decide ((aS0.size : Int) ≤ (20:Int)))).map Sum.inr))
def f86 (aS0 : ByteArray) : Option Bool :=
  (loopO (f86_L1 aS0) ((0:Int)))
theorem f86_run {aS0 : ByteArray} {r : Bool} {H : Heap} {lk : Lk} (hk : f86 aS0 = some r) (hlk : 0 < lk.length := by simp) : runL Try.prog hh 86 [.str aS0] H lk = some (.bool r, H) := by
  refine run_start Try.func86 rfl Try.ntmps86 Try.results86 rfl rfl fun hO => ?_
  unfold f86 at hk
  refine wpL_sq ?_
  refine wpL_rg ?_
  refine pA (.bool _) ?_
  refine pE ?_
  refine gn ?_
  refine wpL_sq ?_
  refine wpL_sq ?_
  refine wpL_rg ?_
  refine pA (.int _ _) ?_
  refine pE ?_
  refine gn ?_
  refine wpL_bl ?_
  refine wpL_loopO (F := f86_L1 aS0) (fun s S' => ∃ (J : Nat → V) (G : Heap), Owns H G [] ∧ S' = ⟨hav [(0, .str aS0), (3, .int .i64 s)] J, G⟩) hk ⟨_, _, hO, St.hav _ ⟨rfl, rfl, trivial⟩⟩ ?_
  rintro x1 _ y1 ⟨J, G, hO, rfl⟩ hk hx1
  refine wpL_sq ?_
  refine wpL_sq ?_
  refine wpL_rg ?_
  refine pM (.int _ _) ?_
  refine pM (.str _) ?_
  refine pLen tS9 ?_
  refine pBi ?_
  refine pE ?_
  refine gn ?_
  refine wpL_cd (b := decide (x1 < (aS0.size : Int))) (fun hb => ?_) (fun hb => ?_)
  · replace hk := ct hb hk
    refine wpL_sk ?_
    refine gn ?_
    refine wpL_sq ?_
    refine wpL_bl ?_
    refine wpL_sq ?_
    refine wpL_rg ?_
    refine pM (.str _) ?_
    refine pM (.int _ _) ?_
    obtain ⟨c2, hc2, hk⟩ := bs hk
    refine pIx Try.underlying9 hc2 ?_
    refine pA (.int _ _) ?_
    refine pE ?_
    refine gn ?_
    refine wpL_sq ?_
    refine wpL_rg ?_
    refine pM (.int _ _) ?_
    refine pBi ?_
    refine pM (.bool _) ?_
    refine wpR_mid (l1 := [_, _, _]) (fun S' => ∃ J, S' = ⟨hav [(0, .str aS0), (3, .int .i64 x1), (4, .int .u8 c2), (19, .bool (decide (c2 ≥ (97:Int)) && decide (c2 ≤ (122:Int))))] J, G⟩) ?_ ?_
    · refine bc (b := decide (c2 ≥ (97:Int))) (fun hg1 => ?_) (fun hg1 => ?_)
      · refine pGy hg1 ?_
        refine pM (.int _ _) ?_
        refine pGy hg1 ?_
        refine pBi ?_
        refine pPt hg1 (.bool _) ?_
        exact pE ⟨_, St.hav _ ⟨rfl, rfl, rfl, by rw [hg1]; rfl, trivial⟩⟩
      · refine pGn hg1 ?_
        refine pGn hg1 ?_
        refine pPf hg1 (.bool _) ?_
        exact pE ⟨_, St.hav _ ⟨rfl, rfl, rfl, by rw [hg1]; rfl, trivial⟩⟩
    · rintro _ ⟨J, rfl⟩
      refine pM (.bool _) ?_
      refine wpR_mid (l1 := [_, _, _, _, _, _, _]) (fun S' => ∃ J, S' = ⟨hav [(0, .str aS0), (3, .int .i64 x1), (4, .int .u8 c2), (27, .bool ((decide (c2 ≥ (97:Int)) && decide (c2 ≤ (122:Int))) || (decide (c2 ≥ (48:Int)) && decide (c2 ≤ (57:Int)))))] J, G⟩) ?_ ?_
      · refine bc (b := (decide (c2 ≥ (97:Int)) && decide (c2 ≤ (122:Int)))) (fun hg1 => ?_) (fun hg1 => ?_)
        · refine pGn hg1 ?_
          refine pGn hg1 ?_
          refine pGn hg1 ?_
          refine pGu ?_
          refine pGu ?_
          refine pGn hg1 ?_
          refine pPt hg1 (.bool _) ?_
          exact pE ⟨_, St.hav _ ⟨rfl, rfl, rfl, by rw [hg1]; rfl, trivial⟩⟩
        · refine pGy hg1 ?_
          refine pM (.int _ _) ?_
          refine pGy hg1 ?_
          refine pBi ?_
          refine pGy hg1 ?_
          refine pM (.bool _) ?_
          refine wpR_mid (l1 := [_, _, _]) (fun S' => ∃ J, S' = ⟨hav [(0, .str aS0), (3, .int .i64 x1), (4, .int .u8 c2), (20, .bool (decide (c2 ≥ (97:Int)) && decide (c2 ≤ (122:Int)))), (26, .bool (decide (c2 ≥ (48:Int)) && decide (c2 ≤ (57:Int))))] J, G⟩) ?_ ?_
          · refine bc (b := decide (c2 ≥ (48:Int))) (fun hg2 => ?_) (fun hg2 => ?_)
            · refine pGy hg2 ?_
              refine pM (.int _ _) ?_
              refine pGy hg2 ?_
              refine pBi ?_
              refine pGy hg1 ?_
              refine pPt hg2 (.bool _) ?_
              exact pE ⟨_, St.hav _ ⟨rfl, rfl, rfl, rfl, by rw [hg2]; rfl, trivial⟩⟩
            · refine pGn hg2 ?_
              refine pGn hg2 ?_
              refine pGy hg1 ?_
              refine pPf hg2 (.bool _) ?_
              exact pE ⟨_, St.hav _ ⟨rfl, rfl, rfl, rfl, by rw [hg2]; rfl, trivial⟩⟩
          · rintro _ ⟨J, rfl⟩
            refine pPf hg1 (.bool _) ?_
            exact pE ⟨_, St.hav _ ⟨rfl, rfl, rfl, by rw [hg1]; rfl, trivial⟩⟩
      · rintro _ ⟨J, rfl⟩
        refine pM (.bool _) ?_
        refine wpR_mid (l1 := [_, _, _]) (fun S' => ∃ J, S' = ⟨hav [(0, .str aS0), (3, .int .i64 x1), (31, .bool (((decide (c2 ≥ (97:Int)) && decide (c2 ≤ (122:Int))) || (decide (c2 ≥ (48:Int)) && decide (c2 ≤ (57:Int)))) || (c2 == (95:Int))))] J, G⟩) ?_ ?_
        · refine bc (b := ((decide (c2 ≥ (97:Int)) && decide (c2 ≤ (122:Int))) || (decide (c2 ≥ (48:Int)) && decide (c2 ≤ (57:Int))))) (fun hg1 => ?_) (fun hg1 => ?_)
          · refine pGn hg1 ?_
            refine pGn hg1 ?_
            refine pPt hg1 (.bool _) ?_
            exact pE ⟨_, St.hav _ ⟨rfl, rfl, by rw [hg1]; rfl, trivial⟩⟩
          · refine pGy hg1 ?_
            refine pM (.int _ _) ?_
            refine pGy hg1 ?_
            refine pBi ?_
            refine pPf hg1 (.bool _) ?_
            exact pE ⟨_, St.hav _ ⟨rfl, rfl, by rw [hg1]; rfl, trivial⟩⟩
        · rintro _ ⟨J, rfl⟩
          refine pU ?_
          refine pE ?_
          refine gn ?_
          refine wpL_cd (b := !(((decide (c2 ≥ (97:Int)) && decide (c2 ≤ (122:Int))) || (decide (c2 ≥ (48:Int)) && decide (c2 ≤ (57:Int)))) || (c2 == (95:Int)))) (fun hb => ?_) (fun hb => ?_)
          · replace hk := ct hb hk
            refine wpL_sq ?_
            refine wpL_rg ?_
            refine pA (.bool _) ?_
            refine pE ?_
            refine gn ?_
            refine wpL_rt ?_
            refine br (gr (gr (br (gr ?_))))
            replace hk := lx hx1 hk
            cases hk; exact fin0 hO
          · replace hk := cf hb hk
            refine wpL_sk ?_
            refine bn (gn ?_)
            refine wpL_rg ?_
            refine pM (.int _ _) ?_
            refine pBi ?_
            refine pA (.int _ _) ?_
            refine pE ?_
            refine gn ?_
            cases hk; exact ⟨_, rfl, _, _, hO, St.hav _ ⟨rfl, rfl, trivial⟩⟩
  · replace hk := cf hb hk
    refine wpL_ex ?_
    refine ge (ge (be (gn ?_)))
    replace hk := lx hx1 hk
    refine wpL_sq ?_
    refine wpL_rg ?_
    refine pM (.str _) ?_
    refine pLen tS9 ?_
    refine pBi ?_
    refine pM (.bool _) ?_
    refine wpR_mid (l1 := [_, _, _, _]) (fun S' => ∃ J, S' = ⟨hav [(40, .bool (decide ((aS0.size : Int) ≥ (1:Int)) && decide ((aS0.size : Int) ≤ (20:Int))))] J, G⟩) ?_ ?_
    · refine bc (b := decide ((aS0.size : Int) ≥ (1:Int))) (fun hg1 => ?_) (fun hg1 => ?_)
      · refine pGy hg1 ?_
        refine pM (.str _) ?_
        refine pGy hg1 ?_
        refine pLen tS9 ?_
        refine pGy hg1 ?_
        refine pBi ?_
        refine pPt hg1 (.bool _) ?_
        exact pE ⟨_, St.hav _ ⟨by rw [hg1]; rfl, trivial⟩⟩
      · refine pGn hg1 ?_
        refine pGn hg1 ?_
        refine pGn hg1 ?_
        refine pPf hg1 (.bool _) ?_
        exact pE ⟨_, St.hav _ ⟨by rw [hg1]; rfl, trivial⟩⟩
    · rintro _ ⟨J, rfl⟩
      refine pA (.bool _) ?_
      refine pE ?_
      refine gn ?_
      refine wpL_rt ?_
      cases hk; exact fin0 hO
/-- spec.l11in -/
def f87 (aX0 : Int) (aA1 : Int) (aB2 : Int) : Option Bool :=
  some (decide (aX0 ≥ aA1) && decide (aX0 ≤ aB2))
theorem f87_run {aX0 : Int} {aA1 : Int} {aB2 : Int} {r : Bool} {H : Heap} {lk : Lk} (hk : f87 aX0 aA1 aB2 = some r) (hlk : 0 < lk.length := by simp) : runL Try.prog hh 87 [.int .i64 aX0, .int .i64 aA1, .int .i64 aB2] H lk = some (.bool r, H) := by
  refine run_start Try.func87 rfl Try.ntmps87 Try.results87 rfl rfl fun hO => ?_
  unfold f87 at hk
  refine wpL_sq ?_
  refine wpL_rg ?_
  refine pA (.bool _) ?_
  refine pE ?_
  refine gn ?_
  refine wpL_sq ?_
  refine wpL_rg ?_
  refine pM (.int _ _) ?_
  refine pM (.int _ _) ?_
  refine pBi ?_
  refine pM (.bool _) ?_
  refine wpR_mid (l1 := [_, _, _, _]) (fun S' => ∃ J, S' = ⟨hav [(14, .bool (decide (aX0 ≥ aA1) && decide (aX0 ≤ aB2)))] J, H⟩) ?_ ?_
  · refine bc (b := decide (aX0 ≥ aA1)) (fun hg1 => ?_) (fun hg1 => ?_)
    · refine pGy hg1 ?_
      refine pM (.int _ _) ?_
      refine pGy hg1 ?_
      refine pM (.int _ _) ?_
      refine pGy hg1 ?_
      refine pBi ?_
      refine pPt hg1 (.bool _) ?_
      exact pE ⟨_, St.hav _ ⟨by rw [hg1]; rfl, trivial⟩⟩
    · refine pGn hg1 ?_
      refine pGn hg1 ?_
      refine pGn hg1 ?_
      refine pPf hg1 (.bool _) ?_
      exact pE ⟨_, St.hav _ ⟨by rw [hg1]; rfl, trivial⟩⟩
  · rintro _ ⟨J, rfl⟩
    refine pA (.bool _) ?_
    refine pE ?_
    refine gn ?_
    refine wpL_rt ?_
    cases hk; exact fin0 hO
/-- spec.l11end -/
def f168 (aN0 : Net) (aE1 : End) : Option Bool :=
  ((f87 aE1.Piece (0:Int) (w64 ((aN0.Pieces.length : Int) - (1:Int)))).bind fun v3 => ((bif v3 then ((f87 aE1.Side (0:Int) (1:Int)).bind fun v5 => some v5) else some false).bind fun t4 => some t4))
theorem f168_run {aN0 : Net} {aE1 : End} {r : Bool} {l1 l2 : Nat} {H : Heap} {lk : Lk} (hk : f168 aN0 aE1 = some r) (hlk : 0 < lk.length := by simp) : runL Try.prog hh 168 [.agg [.lit l1 aN0.Pieces.length (flat aN0.Pieces), .lit l2 aN0.Joints.length (flat aN0.Joints)], .agg [.int .i64 aE1.Piece, .int .i64 aE1.Side]] H lk = some (.bool r, H) := by
  refine run_start Try.func168 rfl Try.ntmps168 Try.results168 rfl rfl fun hO => ?_
  unfold f168 at hk
  refine wpL_sq ?_
  refine wpL_rg ?_
  refine pBox (cs := [_, _]) hO tZ54 (fun b1 G hO => ?_)
  refine pBox (cs := [_, _]) hO tZ162 (fun b2 G hO => ?_)
  refine pA (.bool _) ?_
  refine pE ?_
  refine gn ?_
  refine wpL_sq ?_
  refine wpL_rg ?_
  refine pF tF162_0 ?_
  refine pLo hO 0 (.int _ _) tA3 ?_
  refine pF tF54_0 ?_
  refine pLo hO 1 (.lit _ _ _) tA51 ?_
  refine pLen tS51 ?_
  refine pBi ?_
  obtain ⟨v3, hv3, hk⟩ := bs hk
  refine pCall (fun _ => f87_run hv3) ?_
  refine pM (.bool _) ?_
  obtain ⟨t4, ht, hk⟩ := bs hk
  refine wpR_mid (l1 := [_, _, _, _]) (fun S' => ∃ J, S' = ⟨hav [(16, .bool t4)] J, G⟩) ?_ ?_
  · refine bc (b := v3) (fun hg1 => ?_) (fun hg1 => ?_)
    · replace hk := ct hg1 ht
      refine pGy hg1 ?_
      refine pF tF162_1 ?_
      refine pGy hg1 ?_
      refine pLo hO 0 (.int _ _) tA3 ?_
      refine pGy hg1 ?_
      obtain ⟨v5, hv5, hk⟩ := bs hk
      refine pCall (fun _ => f87_run hv5) ?_
      refine pPt hg1 (.bool _) ?_
      cases hk; exact pE ⟨_, St.hav _ ⟨rfl, trivial⟩⟩
    · replace hk := cf hg1 ht
      refine pGn hg1 ?_
      refine pGn hg1 ?_
      refine pGn hg1 ?_
      refine pPf hg1 (.bool _) ?_
      cases hk; exact pE ⟨_, St.hav _ ⟨rfl, trivial⟩⟩
  · rintro _ ⟨J, rfl⟩
    refine pA (.bool _) ?_
    refine pE ?_
    refine gn ?_
    refine wpL_rt ?_
    cases hk; exact fin0 hO
/-- spec.l11joint -/
def f88_L2 (aN0 : Net) (aI1 : Int) (c2 : Joint) : Int → Option (Int ⊕ Int) := fun s =>
  (bif decide (s < aI1) then ((getI aN0.Joints s).bind fun c11 => (bif (c11.Name.toList == c2.Name.toList) then ((some (4:Int)).map Sum.inr) else some (.inl (w64 (s + (1:Int)))))) else ((some (0:Int)).map Sum.inr))
def f88_L1 (aN0 : Net) (aI1 : Int) (c2 : Joint) : Int → Option (Int ⊕ Int) := fun s =>
  (bif decide (s < (c2.Ends.length : Int)) then ((getI c2.Ends s).bind fun c6 => ((f168 aN0 c6).bind fun v8 => (bif !v8 then ((some (3:Int)).map Sum.inr) else some (.inl (w64 (s + (1:Int))))))) else ((bif decide (c2.Kind < (3:Int)) then (bif !(c2.Name.toList == ({ data := #[] } : ByteArray).toList) then some (4:Int) else some (0:Int)) else ((f86 c2.Name).bind fun v9 => (bif !v9 then some (4:Int) else (loopO (f88_L2 aN0 aI1 c2) ((0:Int)))))).map Sum.inr))
def f88 (aN0 : Net) (aI1 : Int) : Option Int :=
  ((getI aN0.Joints aI1).bind fun c2 => ((f87 c2.Kind (1:Int) (4:Int)).bind fun v4 => (bif (!v4 || ((c2.Ends.length : Int) != c2.Kind)) then some (3:Int) else (loopO (f88_L1 aN0 aI1 c2) ((0:Int))))))
theorem f88_run {aN0 : Net} {aI1 : Int} {r : Int} {l1 l2 : Nat} {H : Heap} {lk : Lk} (hk : f88 aN0 aI1 = some r) (hlk : 0 < lk.length := by simp) : runL Try.prog hh 88 [.agg [.lit l1 aN0.Pieces.length (flat aN0.Pieces), .lit l2 aN0.Joints.length (flat aN0.Joints)], .int .i64 aI1] H lk = some (.int .i64 r, H) := by
  refine run_start Try.func88 rfl Try.ntmps88 Try.results88 rfl rfl fun hO => ?_
  unfold f88 at hk
  refine wpL_sq ?_
  refine wpL_rg ?_
  refine pBox (cs := [_, _]) hO tZ54 (fun b1 G hO => ?_)
  refine pA (.int _ _) ?_
  refine pE ?_
  refine gn ?_
  refine wpL_sq ?_
  refine wpL_rg ?_
  refine pF tF54_1 ?_
  refine pLo hO 0 (.lit _ _ _) tA52 ?_
  refine pM (.int _ _) ?_
  obtain ⟨c2, hc2, hk⟩ := bs hk
  refine pX hc2 tE52 tZ169 ?_
  refine pLp (.agg [_, _, _]) (rd2 (off := 0) hc2 tA169 tZ169) ?_
  refine pNew hO tZ169 t0169 (fun b3 G hO => ?_)
  refine pSt (xs := [_, _, _]) hO 0 tZ169 rfl (fun G hO => ?_)
  refine pE ?_
  refine gn ?_
  refine wpL_sq ?_
  refine wpL_sq ?_
  refine wpL_rg ?_
  refine pF tF169_0 ?_
  refine pLo hO 0 (.int _ _) tA3 ?_
  obtain ⟨v4, hv4, hk⟩ := bs hk
  refine pCall (fun _ => f87_run hv4) ?_
  refine pU ?_
  refine pM (.bool _) ?_
  refine wpR_mid (l1 := [_, _, _, _, _, _, _]) (fun S' => ∃ J, S' = ⟨hav [(1, .int .i64 aI1), (2, .ptr b1 0), (5, .ptr b3 0), (25, .bool (!v4 || ((c2.Ends.length : Int) != c2.Kind)))] J, G⟩) ?_ ?_
  · refine bc (b := !v4) (fun hg1 => ?_) (fun hg1 => ?_)
    · refine pGn hg1 ?_
      refine pGn hg1 ?_
      refine pGn hg1 ?_
      refine pGn hg1 ?_
      refine pGn hg1 ?_
      refine pGn hg1 ?_
      refine pPt hg1 (.bool _) ?_
      exact pE ⟨_, St.hav _ ⟨rfl, rfl, rfl, by rw [hg1]; rfl, trivial⟩⟩
    · refine pGy hg1 ?_
      refine pF tF169_2 ?_
      refine pGy hg1 ?_
      refine pLo hO 0 (.lit _ _ _) tA167 ?_
      refine pGy hg1 ?_
      refine pLen tS167 ?_
      refine pGy hg1 ?_
      refine pF tF169_0 ?_
      refine pGy hg1 ?_
      refine pLo hO 0 (.int _ _) tA3 ?_
      refine pGy hg1 ?_
      refine pBi ?_
      refine pPf hg1 (.bool _) ?_
      exact pE ⟨_, St.hav _ ⟨rfl, rfl, rfl, by rw [hg1]; rfl, trivial⟩⟩
  · rintro _ ⟨J, rfl⟩
    refine pE ?_
    refine gn ?_
    refine wpL_cd (b := (!v4 || ((c2.Ends.length : Int) != c2.Kind))) (fun hb => ?_) (fun hb => ?_)
    · replace hk := ct hb hk
      refine wpL_sq ?_
      refine wpL_rg ?_
      refine pA (.int _ _) ?_
      refine pE ?_
      refine gn ?_
      refine wpL_rt ?_
      refine gr ?_
      cases hk; exact fin0 hO
    · replace hk := cf hb hk
      refine wpL_sk ?_
      refine gn ?_
      refine wpL_sq ?_
      refine wpL_sq ?_
      refine wpL_rg ?_
      refine pF tF169_2 ?_
      refine pLo hO 0 (.lit _ _ _) tA167 ?_
      refine pLen tS167 ?_
      refine pM (.int _ _) ?_
      refine pE ?_
      refine gn ?_
      refine wpL_bl ?_
      refine wpL_loopO (F := f88_L1 aN0 aI1 c2) (fun s S' => ∃ (J : Nat → V) (G : Heap), Owns H G [.blk b3 (.cells 3 [.int .i64 c2.Kind, .str c2.Name, .lit 0 c2.Ends.length (flat c2.Ends)]), .blk b1 (.cells 2 [.lit l1 aN0.Pieces.length (flat aN0.Pieces), .lit l2 aN0.Joints.length (flat aN0.Joints)])] ∧ S' = ⟨hav [(1, .int .i64 aI1), (2, .ptr b1 0), (5, .ptr b3 0), (27, .lit 0 c2.Ends.length (flat c2.Ends)), (28, .int .i64 (c2.Ends.length : Int)), (29, .int .i64 s)] J, G⟩) hk ⟨_, _, hO, St.hav _ ⟨rfl, rfl, rfl, rfl, rfl, rfl, trivial⟩⟩ ?_
      rintro x5 _ y1 ⟨J, G, hO, rfl⟩ hk hx1
      refine wpL_sq ?_
      refine wpL_rg ?_
      refine pBi ?_
      refine pE ?_
      refine gn ?_
      refine wpL_sq ?_
      refine wpL_cd (b := decide (x5 < (c2.Ends.length : Int))) (fun hb => ?_) (fun hb => ?_)
      · replace hk := ct hb hk
        refine wpL_sk ?_
        refine gn ?_
        refine wpL_sq ?_
        refine wpL_bl ?_
        refine wpL_sq ?_
        refine wpL_rg ?_
        obtain ⟨c6, hc6, hk⟩ := bs hk
        refine pX hc6 tE167 tZ162 ?_
        refine pLp (.agg [_, _]) (rd2 (off := 0) hc6 tA162 tZ162) ?_
        refine pNew hO tZ162 t0162 (fun b7 G hO => ?_)
        refine pSt (xs := [_, _]) hO 0 tZ162 rfl (fun G hO => ?_)
        refine pE ?_
        refine gn ?_
        refine wpL_sq ?_
        refine wpL_rg ?_
        refine pLs hO 2 [_, _] tA54 tZ54 ?_
        refine pLs hO 0 [_, _] tA162 tZ162 ?_
        obtain ⟨v8, hv8, hk⟩ := bs hk
        refine pCall (fun _ => f168_run hv8) ?_
        refine pU ?_
        refine pE ?_
        refine gn ?_
        refine wpL_cd (b := !v8) (fun hb => ?_) (fun hb => ?_)
        · replace hk := ct hb hk
          refine wpL_sq ?_
          refine wpL_rg ?_
          refine pA (.int _ _) ?_
          refine pE ?_
          refine gn ?_
          refine wpL_rt ?_
          refine br (gr (gr (br (gr ?_))))
          replace hk := lx hx1 hk
          cases hk; exact fin0 hO
        · replace hk := cf hb hk
          refine wpL_sk ?_
          refine bn (gn ?_)
          refine wpL_rg ?_
          refine pBi ?_
          refine pM (.int _ _) ?_
          refine pE ?_
          refine gn ?_
          cases hk; exact ⟨_, rfl, _, _, (Owns.pick hO [1, 2] (by decide) rfl), St.hav _ ⟨rfl, rfl, rfl, rfl, rfl, rfl, trivial⟩⟩
      · replace hk := cf hb hk
        refine wpL_ex ?_
        refine ge (ge (be (gn ?_)))
        replace hk := lx hx1 hk
        refine wpL_sq ?_
        refine wpL_sq ?_
        refine wpL_rg ?_
        refine pF tF169_0 ?_
        refine pLo hO 0 (.int _ _) tA3 ?_
        refine pBi ?_
        refine pE ?_
        refine gn ?_
        refine wpL_cd (b := decide (c2.Kind < (3:Int))) (fun hb => ?_) (fun hb => ?_)
        · replace hk := ct hb hk
          refine wpL_sq ?_
          refine wpL_sq ?_
          refine wpL_rg ?_
          refine pF tF169_1 ?_
          refine pLo hO 0 (.str _) tA9 ?_
          refine pB (a := .str _) (b := .str _) ?_
          refine pE ?_
          refine gn ?_
          refine wpL_cd (b := !(c2.Name.toList == ({ data := #[] } : ByteArray).toList)) (fun hb => ?_) (fun hb => ?_)
          · replace hk := ct hb hk
            refine wpL_sq ?_
            refine wpL_rg ?_
            refine pA (.int _ _) ?_
            refine pE ?_
            refine gn ?_
            refine wpL_rt ?_
            refine gr (gr ?_)
            cases hk; exact fin0 hO
          · replace hk := cf hb hk
            refine wpL_sk ?_
            refine gn ?_
            refine wpL_sq ?_
            refine wpL_rg ?_
            refine pA (.int _ _) ?_
            refine pE ?_
            refine gn ?_
            refine wpL_rt ?_
            refine gr ?_
            cases hk; exact fin0 hO
        · replace hk := cf hb hk
          refine wpL_sk ?_
          refine gn ?_
          refine wpL_sq ?_
          refine wpL_sq ?_
          refine wpL_rg ?_
          refine pF tF169_1 ?_
          refine pLo hO 0 (.str _) tA9 ?_
          obtain ⟨v9, hv9, hk⟩ := bs hk
          refine pCall (fun _ => f86_run hv9) ?_
          refine pU ?_
          refine pE ?_
          refine gn ?_
          refine wpL_cd (b := !v9) (fun hb => ?_) (fun hb => ?_)
          · replace hk := ct hb hk
            refine wpL_sq ?_
            refine wpL_rg ?_
            refine pA (.int _ _) ?_
            refine pE ?_
            refine gn ?_
            refine wpL_rt ?_
            refine gr ?_
            cases hk; exact fin0 hO
          · replace hk := cf hb hk
            refine wpL_sk ?_
            refine gn ?_
            refine wpL_sq ?_
            refine wpL_sq ?_
            refine wpL_rg ?_
            refine pA (.int _ _) ?_
            refine pE ?_
            refine gn ?_
            refine wpL_bl ?_
            refine wpL_loopO (F := f88_L2 aN0 aI1 c2) (fun s S' => ∃ (J : Nat → V) (G : Heap), Owns H G [.blk b3 (.cells 3 [.int .i64 c2.Kind, .str c2.Name, .lit 0 c2.Ends.length (flat c2.Ends)]), .blk b1 (.cells 2 [.lit l1 aN0.Pieces.length (flat aN0.Pieces), .lit l2 aN0.Joints.length (flat aN0.Joints)])] ∧ S' = ⟨hav [(1, .int .i64 aI1), (2, .ptr b1 0), (5, .ptr b3 0), (8, .int .i64 s)] J, G⟩) hk ⟨_, _, hO, St.hav _ ⟨rfl, rfl, rfl, rfl, trivial⟩⟩ ?_
            rintro x10 _ y1 ⟨J, G, hO, rfl⟩ hk hx1
            refine wpL_sq ?_
            refine wpL_sq ?_
            refine wpL_rg ?_
            refine pM (.int _ _) ?_
            refine pM (.int _ _) ?_
            refine pBi ?_
            refine pE ?_
            refine gn ?_
            refine wpL_cd (b := decide (x10 < aI1)) (fun hb => ?_) (fun hb => ?_)
            · replace hk := ct hb hk
              refine wpL_sk ?_
              refine gn ?_
              refine wpL_sq ?_
              refine wpL_bl ?_
              refine wpL_sq ?_
              refine wpL_drw [(0, true), (1, true), (2, true), (3, true), (4, true), (5, true), (6, true), (7, true), (8, false)] [_, _, _, _, _, _, _, _, _] (by decide +kernel) (by rfl) ?_
              refine pF tF54_1 ?_
              refine pLo hO 1 (.lit _ _ _) tA52 ?_
              refine pM (.int _ _) ?_
              obtain ⟨c11, hc11, hk⟩ := bs hk
              refine pX hc11 tE52 tZ169 ?_
              refine pF tF169_1 ?_
              refine pLp (.str _) (rd1 (off := 1) hc11 tA9) ?_
              refine pF tF169_1 ?_
              refine pLo hO 0 (.str _) tA9 ?_
              refine pB (a := .str _) (b := .str _) ?_
              refine pE ?_
              refine gn ?_
              refine wpL_cd (b := (c11.Name.toList == c2.Name.toList)) (fun hb => ?_) (fun hb => ?_)
              · replace hk := ct hb hk
                refine wpL_sq ?_
                refine wpL_rg ?_
                refine pA (.int _ _) ?_
                refine pE ?_
                refine gn ?_
                refine wpL_rt ?_
                refine br (gr (gr (br (gr ?_))))
                replace hk := lx hx1 hk
                cases hk; exact fin0 hO
              · replace hk := cf hb hk
                refine wpL_sk ?_
                refine bn (gn ?_)
                refine wpL_rg ?_
                refine pM (.int _ _) ?_
                refine pBi ?_
                refine pA (.int _ _) ?_
                refine pE ?_
                refine gn ?_
                cases hk; exact ⟨_, rfl, _, _, hO, St.hav _ ⟨rfl, rfl, rfl, rfl, trivial⟩⟩
            · replace hk := cf hb hk
              refine wpL_ex ?_
              refine ge (ge (be (gn ?_)))
              replace hk := lx hx1 hk
              refine wpL_sq ?_
              refine wpL_rg ?_
              refine pA (.int _ _) ?_
              refine pE ?_
              refine gn ?_
              refine wpL_rt ?_
              cases hk; exact fin0 hO
/-- spec.l11uses -/
def f89_k3 (x8 : Int) (x9 : Int) : Option ((Int × Int) ⊕ ((Int × Int) ⊕ Int)) :=
  some (.inl (x9, w64 (x8 + (1:Int))))
def f89_L2 (aE1 : End) (x4 : Int) (c5 : Joint) : (Int × Int) → Option ((Int × Int) ⊕ ((Int × Int) ⊕ Int)) := fun s =>
  (bif decide (s.2 < (c5.Ends.length : Int)) then ((getI c5.Ends s.2).bind fun c10 => (bif ((c10.Piece == aE1.Piece) && ((c10.Side == aE1.Side) && true)) then (f89_k3 s.2 (w64 (s.1 + (1:Int)))) else (f89_k3 s.2 s.1))) else ((some (.inl (s.1, w64 (x4 + (1:Int))))).map Sum.inr))
def f89_L1 (aN0 : Net) (aE1 : End) : (Int × Int) → Option ((Int × Int) ⊕ Int) := fun s =>
  (bif decide (s.2 < (aN0.Joints.length : Int)) then ((getI aN0.Joints s.2).bind fun c5 => (loopO (f89_L2 aE1 s.2 c5) (s.1, (0:Int)))) else ((some s.1).map Sum.inr))
def f89 (aN0 : Net) (aE1 : End) : Option Int :=
  (loopO (f89_L1 aN0 aE1) ((0:Int), (0:Int)))
theorem f89_run {aN0 : Net} {aE1 : End} {r : Int} {l1 l2 : Nat} {H : Heap} {lk : Lk} (hk : f89 aN0 aE1 = some r) (hlk : 0 < lk.length := by simp) : runL Try.prog hh 89 [.agg [.lit l1 aN0.Pieces.length (flat aN0.Pieces), .lit l2 aN0.Joints.length (flat aN0.Joints)], .agg [.int .i64 aE1.Piece, .int .i64 aE1.Side]] H lk = some (.int .i64 r, H) := by
  refine run_start Try.func89 rfl Try.ntmps89 Try.results89 rfl rfl fun hO => ?_
  unfold f89 at hk
  refine wpL_sq ?_
  refine wpL_rg ?_
  refine pBox (cs := [_, _]) hO tZ54 (fun b1 G hO => ?_)
  refine pBox (cs := [_, _]) hO tZ162 (fun b2 G hO => ?_)
  refine pA (.int _ _) ?_
  refine pE ?_
  refine gn ?_
  refine wpL_sq ?_
  refine wpL_rg ?_
  refine pA (.int _ _) ?_
  refine pE ?_
  refine gn ?_
  refine wpL_sq ?_
  refine wpL_sq ?_
  refine wpL_rg ?_
  refine pF tF54_1 ?_
  refine pLo hO 1 (.lit _ _ _) tA52 ?_
  refine pLen tS52 ?_
  refine pM (.int _ _) ?_
  refine pE ?_
  refine gn ?_
  refine wpL_bl ?_
  refine wpL_loopO (F := f89_L1 aN0 aE1) (fun s S' => ∃ (J : Nat → V) (G : Heap), Owns H G [.blk b2 (.cells 2 [.int .i64 aE1.Piece, .int .i64 aE1.Side])] ∧ S' = ⟨hav [(3, .ptr b2 0), (5, .int .i64 s.1), (11, .lit l2 aN0.Joints.length (flat aN0.Joints)), (12, .int .i64 (aN0.Joints.length : Int)), (13, .int .i64 s.2)] J, G⟩) hk ⟨_, _, (Owns.pick hO [0] (by decide) rfl), St.hav _ ⟨rfl, rfl, rfl, rfl, rfl, trivial⟩⟩ ?_
  rintro ⟨x3, x4⟩ _ y1 ⟨J, G, hO, rfl⟩ hk hx1
  refine wpL_sq ?_
  refine wpL_rg ?_
  refine pBi ?_
  refine pE ?_
  refine gn ?_
  refine wpL_sq ?_
  refine wpL_cd (b := decide (x4 < (aN0.Joints.length : Int))) (fun hb => ?_) (fun hb => ?_)
  · replace hk := ct hb hk
    refine wpL_sk ?_
    refine gn ?_
    refine wpL_sq ?_
    refine wpL_bl ?_
    refine wpL_sq ?_
    refine wpL_rg ?_
    obtain ⟨c5, hc5, hk⟩ := bs hk
    refine pX hc5 tE52 tZ169 ?_
    refine pLp (.agg [_, _, _]) (rd2 (off := 0) hc5 tA169 tZ169) ?_
    refine pNew hO tZ169 t0169 (fun b6 G hO => ?_)
    refine pSt (xs := [_, _, _]) hO 0 tZ169 rfl (fun G hO => ?_)
    refine pE ?_
    refine gn ?_
    refine wpL_sq ?_
    refine wpL_rg ?_
    refine pF tF169_2 ?_
    refine pLo hO 0 (.lit _ _ _) tA167 ?_
    refine pLen tS167 ?_
    refine pM (.int _ _) ?_
    refine pE ?_
    refine gn ?_
    refine wpL_bl ?_
    refine wpL_loopO (F := f89_L2 aE1 x4 c5) (fun s S' => ∃ (J : Nat → V) (G : Heap), Owns H G [.blk b2 (.cells 2 [.int .i64 aE1.Piece, .int .i64 aE1.Side])] ∧ S' = ⟨hav [(3, .ptr b2 0), (5, .int .i64 s.1), (11, .lit l2 aN0.Joints.length (flat aN0.Joints)), (12, .int .i64 (aN0.Joints.length : Int)), (13, .int .i64 x4), (18, .lit 0 c5.Ends.length (flat c5.Ends)), (19, .int .i64 (c5.Ends.length : Int)), (20, .int .i64 s.2)] J, G⟩) hk ⟨_, _, (Owns.pick hO [1] (by decide) rfl), St.hav _ ⟨rfl, rfl, rfl, rfl, rfl, rfl, rfl, rfl, trivial⟩⟩ ?_
    rintro ⟨x7, x8⟩ _ y2 ⟨J, G, hO, rfl⟩ hk hx2
    refine wpL_sq ?_
    refine wpL_rg ?_
    refine pBi ?_
    refine pE ?_
    refine gn ?_
    refine wpL_sq ?_
    refine wpL_cd (b := decide (x8 < (c5.Ends.length : Int))) (fun hb => ?_) (fun hb => ?_)
    · replace hk := ct hb hk
      refine wpL_sk ?_
      refine gn ?_
      refine wpL_mid (fun S' => ∃ (x9 : Int) (J : Nat → V) (G : Heap), f89_k3 x8 x9 = some y2 ∧ Owns H G [.blk b2 (.cells 2 [.int .i64 aE1.Piece, .int .i64 aE1.Side])] ∧ S' = ⟨hav [(3, .ptr b2 0), (5, .int .i64 x9), (11, .lit l2 aN0.Joints.length (flat aN0.Joints)), (12, .int .i64 (aN0.Joints.length : Int)), (13, .int .i64 x4), (18, .lit 0 c5.Ends.length (flat c5.Ends)), (19, .int .i64 (c5.Ends.length : Int)), (20, .int .i64 x8)] J, G⟩) ?_ ?_
      · refine wpL_bl ?_
        refine wpL_sq ?_
        refine wpL_rg ?_
        obtain ⟨c10, hc10, hk⟩ := bs hk
        refine pX hc10 tE167 tZ162 ?_
        refine pLp (.agg [_, _]) (rd2 (off := 0) hc10 tA162 tZ162) ?_
        refine pNew hO tZ162 t0162 (fun b11 G hO => ?_)
        refine pSt (xs := [_, _]) hO 0 tZ162 rfl (fun G hO => ?_)
        refine pE ?_
        refine gn ?_
        refine wpL_sq ?_
        refine wpL_rg ?_
        refine pLs hO 0 [_, _] tA162 tZ162 ?_
        refine pLs hO 1 [_, _] tA162 tZ162 ?_
        refine pGq tG162 (eqc (eqi _ _ _) (eqc (eqi _ _ _) (rfl))) ?_
        refine pE ?_
        refine gn ?_
        refine wpL_cd (b := ((c10.Piece == aE1.Piece) && ((c10.Side == aE1.Side) && true))) (fun hb => ?_) (fun hb => ?_)
        · replace hk := ct hb hk
          refine wpL_rg ?_
          refine pM (.int _ _) ?_
          refine pBi ?_
          refine pA (.int _ _) ?_
          refine pE ?_
          refine bn (gn ?_)
          exact ⟨w64 (x7 + (1:Int)), _, _, hk, (Owns.pick hO [1] (by decide) rfl), St.hav _ ⟨rfl, rfl, rfl, rfl, rfl, rfl, rfl, rfl, trivial⟩⟩
        · replace hk := cf hb hk
          refine wpL_sk ?_
          refine bn (gn ?_)
          exact ⟨x7, _, _, hk, (Owns.pick hO [1] (by decide) rfl), St.hav _ ⟨rfl, rfl, rfl, rfl, rfl, rfl, rfl, rfl, trivial⟩⟩
      · rintro _ ⟨x9, J, G, hk, hO, rfl⟩
        refine wpL_rg ?_
        refine pBi ?_
        refine pM (.int _ _) ?_
        refine pE ?_
        refine gn ?_
        cases hk; exact ⟨_, rfl, _, _, hO, St.hav _ ⟨rfl, rfl, rfl, rfl, rfl, rfl, rfl, rfl, trivial⟩⟩
    · replace hk := cf hb hk
      refine wpL_ex ?_
      refine ge (ge (be (bn (gn ?_))))
      replace hk := lx hx2 hk
      refine wpL_rg ?_
      refine pBi ?_
      refine pM (.int _ _) ?_
      refine pE ?_
      refine gn ?_
      cases hk; exact ⟨_, rfl, _, _, hO, St.hav _ ⟨rfl, rfl, rfl, rfl, rfl, trivial⟩⟩
  · replace hk := cf hb hk
    refine wpL_ex ?_
    refine ge (ge (be (gn ?_)))
    replace hk := lx hx1 hk
    refine wpL_sq ?_
    refine wpL_rg ?_
    refine pM (.int _ _) ?_
    refine pA (.int _ _) ?_
    refine pE ?_
    refine gn ?_
    refine wpL_rt ?_
    cases hk; exact fin0 hO
/-- spec.NetOk -/
def f24_L2 (aN0 : Net) (x3 : Int) (c4 : Piece) : Int → Option (Int ⊕ (Int ⊕ Fault)) := fun s =>
  (bif decide (s < x3) then ((getI aN0.Pieces s).bind fun c14 => (bif (c14.Name.toList == c4.Name.toList) then (((some ({ Code := (2:Int), At := x3 } : Fault)).map Sum.inr).map Sum.inr) else some (.inl (w64 (s + (1:Int)))))) else ((some (.inl (w64 (x3 + (1:Int))))).map Sum.inr))
def f24_L4 (aN0 : Net) (x15 : Int) : Int → Option (Int ⊕ (Int ⊕ Fault)) := fun s =>
  (bif decide (s < (aN0.Joints.length : Int)) then ((f88 aN0 s).bind fun v17 => (bif (v17 == x15) then (((some ({ Code := x15, At := s } : Fault)).map Sum.inr).map Sum.inr) else some (.inl (w64 (s + (1:Int)))))) else ((some (.inl (w64 (x15 + (1:Int))))).map Sum.inr))
def f24_L6 (aN0 : Net) (x18 : Int) : Int → Option (Int ⊕ (Int ⊕ Fault)) := fun s =>
  (bif decide (s < (2:Int)) then ((f89 aN0 ({ Piece := x18, Side := s } : End)).bind fun v20 => (bif (v20 != (1:Int)) then (((some ({ Code := (5:Int), At := x18 } : Fault)).map Sum.inr).map Sum.inr) else some (.inl (w64 (s + (1:Int)))))) else ((some (.inl (w64 (x18 + (1:Int))))).map Sum.inr))
def f24_L5 (aN0 : Net) : Int → Option (Int ⊕ Fault) := fun s =>
  (bif decide (s < (aN0.Pieces.length : Int)) then (loopO (f24_L6 aN0 s) ((0:Int))) else ((some ({ Code := 0, At := 0 } : Fault)).map Sum.inr))
def f24_L3 (aN0 : Net) : Int → Option (Int ⊕ Fault) := fun s =>
  (bif decide (s ≤ (4:Int)) then (loopO (f24_L4 aN0 s) ((0:Int))) else ((loopO (f24_L5 aN0) ((0:Int))).map Sum.inr))
def f24_L1 (aN0 : Net) : Int → Option (Int ⊕ Fault) := fun s =>
  (bif decide (s < (aN0.Pieces.length : Int)) then ((getI aN0.Pieces s).bind fun c4 => ((f86 c4.Name).bind fun v6 => ((bif !v6 then some true else ((f87 c4.Len (1:Int) (10000000:Int)).bind fun v8 => some (!v8))).bind fun t7 => ((bif t7 then some true else ((f87 c4.Speed (1:Int) (10000:Int)).bind fun v10 => some (!v10))).bind fun t9 => ((bif t9 then some true else ((f87 c4.Brake (1:Int) (1000:Int)).bind fun v12 => some (!v12))).bind fun t11 => (bif t11 then ((some ({ Code := (2:Int), At := s } : Fault)).map Sum.inr) else (loopO (f24_L2 aN0 s c4) ((0:Int))))))))) else ((loopO (f24_L3 aN0) ((3:Int))).map Sum.inr))
def f24 (aN0 : Net) : Option Fault :=
  (bif ((((aN0.Pieces.length : Int) == (0:Int)) || decide ((aN0.Pieces.length : Int) > (100:Int))) || decide ((aN0.Joints.length : Int) > (120:Int))) then some ({ Code := (1:Int), At := 0 } : Fault) else (loopO (f24_L1 aN0) ((0:Int))))
theorem f24_run {aN0 : Net} {r : Fault} {l1 l2 : Nat} {H : Heap} {lk : Lk} (hk : f24 aN0 = some r) (hlk : 0 < lk.length := by simp) : runL Try.prog hh 24 [.agg [.lit l1 aN0.Pieces.length (flat aN0.Pieces), .lit l2 aN0.Joints.length (flat aN0.Joints)]] H lk = some (.agg [.int .i64 r.Code, .int .i64 r.At], H) := by
  refine run_start Try.func24 rfl Try.ntmps24 Try.results24 rfl rfl fun hO => ?_
  unfold f24 at hk
  refine wpL_sq ?_
  refine wpL_rg ?_
  refine pBox (cs := [_, _]) hO tZ54 (fun b1 G hO => ?_)
  refine pNew hO tZ49 t049 (fun b2 G hO => ?_)
  refine pE ?_
  refine gn ?_
  refine wpL_sq ?_
  refine wpL_sq ?_
  refine wpL_rg ?_
  refine pF tF54_0 ?_
  refine pLo hO 1 (.lit _ _ _) tA51 ?_
  refine pLen tS51 ?_
  refine pBi ?_
  refine pM (.bool _) ?_
  refine wpR_mid (l1 := [_, _, _, _, _]) (fun S' => ∃ J, S' = ⟨hav [(1, .ptr b1 0), (2, .ptr b2 0), (19, .bool (((aN0.Pieces.length : Int) == (0:Int)) || decide ((aN0.Pieces.length : Int) > (100:Int))))] J, G⟩) ?_ ?_
  · refine bc (b := ((aN0.Pieces.length : Int) == (0:Int))) (fun hg1 => ?_) (fun hg1 => ?_)
    · refine pGn hg1 ?_
      refine pGn hg1 ?_
      refine pGn hg1 ?_
      refine pGn hg1 ?_
      refine pPt hg1 (.bool _) ?_
      exact pE ⟨_, St.hav _ ⟨rfl, rfl, by rw [hg1]; rfl, trivial⟩⟩
    · refine pGy hg1 ?_
      refine pF tF54_0 ?_
      refine pGy hg1 ?_
      refine pLo hO 1 (.lit _ _ _) tA51 ?_
      refine pGy hg1 ?_
      refine pLen tS51 ?_
      refine pGy hg1 ?_
      refine pBi ?_
      refine pPf hg1 (.bool _) ?_
      exact pE ⟨_, St.hav _ ⟨rfl, rfl, by rw [hg1]; rfl, trivial⟩⟩
  · rintro _ ⟨J, rfl⟩
    refine pM (.bool _) ?_
    refine wpR_mid (l1 := [_, _, _, _, _]) (fun S' => ∃ J, S' = ⟨hav [(1, .ptr b1 0), (2, .ptr b2 0), (25, .bool ((((aN0.Pieces.length : Int) == (0:Int)) || decide ((aN0.Pieces.length : Int) > (100:Int))) || decide ((aN0.Joints.length : Int) > (120:Int))))] J, G⟩) ?_ ?_
    · refine bc (b := (((aN0.Pieces.length : Int) == (0:Int)) || decide ((aN0.Pieces.length : Int) > (100:Int)))) (fun hg1 => ?_) (fun hg1 => ?_)
      · refine pGn hg1 ?_
        refine pGn hg1 ?_
        refine pGn hg1 ?_
        refine pGn hg1 ?_
        refine pPt hg1 (.bool _) ?_
        exact pE ⟨_, St.hav _ ⟨rfl, rfl, by rw [hg1]; rfl, trivial⟩⟩
      · refine pGy hg1 ?_
        refine pF tF54_1 ?_
        refine pGy hg1 ?_
        refine pLo hO 1 (.lit _ _ _) tA52 ?_
        refine pGy hg1 ?_
        refine pLen tS52 ?_
        refine pGy hg1 ?_
        refine pBi ?_
        refine pPf hg1 (.bool _) ?_
        exact pE ⟨_, St.hav _ ⟨rfl, rfl, by rw [hg1]; rfl, trivial⟩⟩
    · rintro _ ⟨J, rfl⟩
      refine pE ?_
      refine gn ?_
      refine wpL_cd (b := ((((aN0.Pieces.length : Int) == (0:Int)) || decide ((aN0.Pieces.length : Int) > (100:Int))) || decide ((aN0.Joints.length : Int) > (120:Int)))) (fun hb => ?_) (fun hb => ?_)
      · replace hk := ct hb hk
        refine wpL_sq ?_
        refine wpL_rg ?_
        refine pBd [_, _] t049 tP49 ?_
        refine pSt (xs := [_, _]) hO 0 tZ49 rfl (fun G hO => ?_)
        refine pE ?_
        refine gn ?_
        refine wpL_rt ?_
        refine gr ?_
        cases hk; exact finZ hO (fz_agg (n := 2) (fz_c (fz_int _ _) (fz_c (fz_int _ _) (fz_n)))) (resS hO 0 [_, _] tA49 tZ49 resN)
      · replace hk := cf hb hk
        refine wpL_sk ?_
        refine gn ?_
        refine wpL_sq ?_
        refine wpL_sq ?_
        refine wpL_rg ?_
        refine pF tF54_0 ?_
        refine pLo hO 1 (.lit _ _ _) tA51 ?_
        refine pLen tS51 ?_
        refine pM (.int _ _) ?_
        refine pE ?_
        refine gn ?_
        refine wpL_bl ?_
        refine wpL_loopO (F := f24_L1 aN0) (fun s S' => ∃ (J : Nat → V) (G : Heap), Owns H G [.blk b2 (.cells 2 [.int .i64 0, .int .i64 0]), .blk b1 (.cells 2 [.lit l1 aN0.Pieces.length (flat aN0.Pieces), .lit l2 aN0.Joints.length (flat aN0.Joints)])] ∧ S' = ⟨hav [(1, .ptr b1 0), (2, .ptr b2 0), (28, .lit l1 aN0.Pieces.length (flat aN0.Pieces)), (29, .int .i64 (aN0.Pieces.length : Int)), (30, .int .i64 s)] J, G⟩) hk ⟨_, _, hO, St.hav _ ⟨rfl, rfl, rfl, rfl, rfl, trivial⟩⟩ ?_
        rintro x3 _ y1 ⟨J, G, hO, rfl⟩ hk hx1
        refine wpL_sq ?_
        refine wpL_rg ?_
        refine pBi ?_
        refine pE ?_
        refine gn ?_
        refine wpL_sq ?_
        refine wpL_cd (b := decide (x3 < (aN0.Pieces.length : Int))) (fun hb => ?_) (fun hb => ?_)
        · replace hk := ct hb hk
          refine wpL_sk ?_
          refine gn ?_
          refine wpL_sq ?_
          refine wpL_bl ?_
          refine wpL_sq ?_
          refine wpL_rg ?_
          refine pM (.int _ _) ?_
          obtain ⟨c4, hc4, hk⟩ := bs hk
          refine pX hc4 tE51 tZ157 ?_
          refine pLp (.agg [_, _, _, _]) (rd2 (off := 0) hc4 tA157 tZ157) ?_
          refine pNew hO tZ157 t0157 (fun b5 G hO => ?_)
          refine pA (.int _ _) ?_
          refine pSt (xs := [_, _, _, _]) hO 0 tZ157 rfl (fun G hO => ?_)
          refine pE ?_
          refine gn ?_
          refine wpL_sq ?_
          refine wpL_sq ?_
          refine wpL_rg ?_
          refine pF tF157_0 ?_
          refine pLo hO 0 (.str _) tA9 ?_
          obtain ⟨v6, hv6, hk⟩ := bs hk
          refine pCall (fun _ => f86_run hv6) ?_
          refine pU ?_
          refine pM (.bool _) ?_
          obtain ⟨t7, ht, hk⟩ := bs hk
          refine wpR_mid (l1 := [_, _, _, _, _]) (fun S' => ∃ J, S' = ⟨hav [(1, .ptr b1 0), (2, .ptr b2 0), (3, .int .i64 x3), (4, .ptr b5 0), (28, .lit l1 aN0.Pieces.length (flat aN0.Pieces)), (29, .int .i64 (aN0.Pieces.length : Int)), (30, .int .i64 x3), (44, .bool t7)] J, G⟩) ?_ ?_
          · refine bc (b := !v6) (fun hg1 => ?_) (fun hg1 => ?_)
            · replace hk := ct hg1 ht
              refine pGn hg1 ?_
              refine pGn hg1 ?_
              refine pGn hg1 ?_
              refine pGn hg1 ?_
              refine pPt hg1 (.bool _) ?_
              cases hk; exact pE ⟨_, St.hav _ ⟨rfl, rfl, rfl, rfl, rfl, rfl, rfl, rfl, trivial⟩⟩
            · replace hk := cf hg1 ht
              refine pGy hg1 ?_
              refine pF tF157_1 ?_
              refine pGy hg1 ?_
              refine pLo hO 0 (.int _ _) tA3 ?_
              refine pGy hg1 ?_
              obtain ⟨v8, hv8, hk⟩ := bs hk
              refine pCall (fun _ => f87_run hv8) ?_
              refine pGy hg1 ?_
              refine pU ?_
              refine pPf hg1 (.bool _) ?_
              cases hk; exact pE ⟨_, St.hav _ ⟨rfl, rfl, rfl, rfl, rfl, rfl, rfl, rfl, trivial⟩⟩
          · rintro _ ⟨J, rfl⟩
            refine pM (.bool _) ?_
            obtain ⟨t9, ht, hk⟩ := bs hk
            refine wpR_mid (l1 := [_, _, _, _, _]) (fun S' => ∃ J, S' = ⟨hav [(1, .ptr b1 0), (2, .ptr b2 0), (3, .int .i64 x3), (4, .ptr b5 0), (28, .lit l1 aN0.Pieces.length (flat aN0.Pieces)), (29, .int .i64 (aN0.Pieces.length : Int)), (30, .int .i64 x3), (50, .bool t9)] J, G⟩) ?_ ?_
            · refine bc (b := t7) (fun hg1 => ?_) (fun hg1 => ?_)
              · replace hk := ct hg1 ht
                refine pGn hg1 ?_
                refine pGn hg1 ?_
                refine pGn hg1 ?_
                refine pGn hg1 ?_
                refine pPt hg1 (.bool _) ?_
                cases hk; exact pE ⟨_, St.hav _ ⟨rfl, rfl, rfl, rfl, rfl, rfl, rfl, rfl, trivial⟩⟩
              · replace hk := cf hg1 ht
                refine pGy hg1 ?_
                refine pF tF157_2 ?_
                refine pGy hg1 ?_
                refine pLo hO 0 (.int _ _) tA3 ?_
                refine pGy hg1 ?_
                obtain ⟨v10, hv10, hk⟩ := bs hk
                refine pCall (fun _ => f87_run hv10) ?_
                refine pGy hg1 ?_
                refine pU ?_
                refine pPf hg1 (.bool _) ?_
                cases hk; exact pE ⟨_, St.hav _ ⟨rfl, rfl, rfl, rfl, rfl, rfl, rfl, rfl, trivial⟩⟩
            · rintro _ ⟨J, rfl⟩
              refine pM (.bool _) ?_
              obtain ⟨t11, ht, hk⟩ := bs hk
              refine wpR_mid (l1 := [_, _, _, _, _]) (fun S' => ∃ J, S' = ⟨hav [(1, .ptr b1 0), (2, .ptr b2 0), (3, .int .i64 x3), (4, .ptr b5 0), (28, .lit l1 aN0.Pieces.length (flat aN0.Pieces)), (29, .int .i64 (aN0.Pieces.length : Int)), (30, .int .i64 x3), (56, .bool t11)] J, G⟩) ?_ ?_
              · refine bc (b := t9) (fun hg1 => ?_) (fun hg1 => ?_)
                · replace hk := ct hg1 ht
                  refine pGn hg1 ?_
                  refine pGn hg1 ?_
                  refine pGn hg1 ?_
                  refine pGn hg1 ?_
                  refine pPt hg1 (.bool _) ?_
                  cases hk; exact pE ⟨_, St.hav _ ⟨rfl, rfl, rfl, rfl, rfl, rfl, rfl, rfl, trivial⟩⟩
                · replace hk := cf hg1 ht
                  refine pGy hg1 ?_
                  refine pF tF157_3 ?_
                  refine pGy hg1 ?_
                  refine pLo hO 0 (.int _ _) tA3 ?_
                  refine pGy hg1 ?_
                  obtain ⟨v12, hv12, hk⟩ := bs hk
                  refine pCall (fun _ => f87_run hv12) ?_
                  refine pGy hg1 ?_
                  refine pU ?_
                  refine pPf hg1 (.bool _) ?_
                  cases hk; exact pE ⟨_, St.hav _ ⟨rfl, rfl, rfl, rfl, rfl, rfl, rfl, rfl, trivial⟩⟩
              · rintro _ ⟨J, rfl⟩
                refine pE ?_
                refine gn ?_
                refine wpL_cd (b := t11) (fun hb => ?_) (fun hb => ?_)
                · replace hk := ct hb hk
                  refine wpL_sq ?_
                  refine wpL_rg ?_
                  refine pM (.int _ _) ?_
                  refine pBd [_, _] t049 tP49 ?_
                  refine pSt (xs := [_, _]) hO 1 tZ49 rfl (fun G hO => ?_)
                  refine pE ?_
                  refine gn ?_
                  refine wpL_rt ?_
                  refine gr (br (gr (gr (br (gr ?_)))))
                  replace hk := lx hx1 hk
                  cases hk; exact finZ hO (fz_agg (n := 2) (fz_c (fz_int _ _) (fz_c (fz_int _ _) (fz_n)))) (resS hO 1 [_, _] tA49 tZ49 resN)
                · replace hk := cf hb hk
                  refine wpL_sk ?_
                  refine gn ?_
                  refine wpL_sq ?_
                  refine wpL_rg ?_
                  refine pA (.int _ _) ?_
                  refine pE ?_
                  refine gn ?_
                  refine wpL_bl ?_
                  refine wpL_loopO (F := f24_L2 aN0 x3 c4) (fun s S' => ∃ (J : Nat → V) (G : Heap), Owns H G [.blk b5 (.cells 4 [.str c4.Name, .int .i64 c4.Len, .int .i64 c4.Speed, .int .i64 c4.Brake]), .blk b2 (.cells 2 [.int .i64 0, .int .i64 0]), .blk b1 (.cells 2 [.lit l1 aN0.Pieces.length (flat aN0.Pieces), .lit l2 aN0.Joints.length (flat aN0.Joints)])] ∧ S' = ⟨hav [(1, .ptr b1 0), (2, .ptr b2 0), (3, .int .i64 x3), (4, .ptr b5 0), (5, .int .i64 s), (28, .lit l1 aN0.Pieces.length (flat aN0.Pieces)), (29, .int .i64 (aN0.Pieces.length : Int)), (30, .int .i64 x3)] J, G⟩) hk ⟨_, _, hO, St.hav _ ⟨rfl, rfl, rfl, rfl, rfl, rfl, rfl, rfl, trivial⟩⟩ ?_
                  rintro x13 _ y2 ⟨J, G, hO, rfl⟩ hk hx2
                  refine wpL_sq ?_
                  refine wpL_sq ?_
                  refine wpL_rg ?_
                  refine pM (.int _ _) ?_
                  refine pM (.int _ _) ?_
                  refine pBi ?_
                  refine pE ?_
                  refine gn ?_
                  refine wpL_cd (b := decide (x13 < x3)) (fun hb => ?_) (fun hb => ?_)
                  · replace hk := ct hb hk
                    refine wpL_sk ?_
                    refine gn ?_
                    refine wpL_sq ?_
                    refine wpL_bl ?_
                    refine wpL_sq ?_
                    refine wpL_drw [(0, true), (1, true), (2, true), (3, true), (4, true), (5, true), (6, true), (7, true), (8, false)] [_, _, _, _, _, _, _, _, _] (by decide +kernel) (by rfl) ?_
                    refine pF tF54_0 ?_
                    refine pLo hO 2 (.lit _ _ _) tA51 ?_
                    refine pM (.int _ _) ?_
                    obtain ⟨c14, hc14, hk⟩ := bs hk
                    refine pX hc14 tE51 tZ157 ?_
                    refine pF tF157_0 ?_
                    refine pLp (.str _) (rd1 (off := 0) hc14 tA9) ?_
                    refine pF tF157_0 ?_
                    refine pLo hO 0 (.str _) tA9 ?_
                    refine pB (a := .str _) (b := .str _) ?_
                    refine pE ?_
                    refine gn ?_
                    refine wpL_cd (b := (c14.Name.toList == c4.Name.toList)) (fun hb => ?_) (fun hb => ?_)
                    · replace hk := ct hb hk
                      refine wpL_sq ?_
                      refine wpL_rg ?_
                      refine pM (.int _ _) ?_
                      refine pBd [_, _] t049 tP49 ?_
                      refine pSt (xs := [_, _]) hO 1 tZ49 rfl (fun G hO => ?_)
                      refine pE ?_
                      refine gn ?_
                      refine wpL_rt ?_
                      refine br (gr (gr (br (br (gr (gr (br (gr ?_))))))))
                      replace hk := lx hx2 hk
                      replace hk := lx hx1 hk
                      cases hk; exact finZ hO (fz_agg (n := 2) (fz_c (fz_int _ _) (fz_c (fz_int _ _) (fz_n)))) (resS hO 1 [_, _] tA49 tZ49 resN)
                    · replace hk := cf hb hk
                      refine wpL_sk ?_
                      refine bn (gn ?_)
                      refine wpL_rg ?_
                      refine pM (.int _ _) ?_
                      refine pBi ?_
                      refine pA (.int _ _) ?_
                      refine pE ?_
                      refine gn ?_
                      cases hk; exact ⟨_, rfl, _, _, hO, St.hav _ ⟨rfl, rfl, rfl, rfl, rfl, rfl, rfl, rfl, trivial⟩⟩
                  · replace hk := cf hb hk
                    refine wpL_ex ?_
                    refine ge (ge (be (bn (gn ?_))))
                    replace hk := lx hx2 hk
                    refine wpL_rg ?_
                    refine pBi ?_
                    refine pM (.int _ _) ?_
                    refine pE ?_
                    refine gn ?_
                    cases hk; exact ⟨_, rfl, _, _, (Owns.pick hO [1, 2] (by decide) rfl), St.hav _ ⟨rfl, rfl, rfl, rfl, rfl, trivial⟩⟩
        · replace hk := cf hb hk
          refine wpL_ex ?_
          refine ge (ge (be (gn ?_)))
          replace hk := lx hx1 hk
          refine wpL_sq ?_
          refine wpL_sq ?_
          refine wpL_rg ?_
          refine pA (.int _ _) ?_
          refine pE ?_
          refine gn ?_
          refine wpL_bl ?_
          refine wpL_loopO (F := f24_L3 aN0) (fun s S' => ∃ (J : Nat → V) (G : Heap), Owns H G [.blk b2 (.cells 2 [.int .i64 0, .int .i64 0]), .blk b1 (.cells 2 [.lit l1 aN0.Pieces.length (flat aN0.Pieces), .lit l2 aN0.Joints.length (flat aN0.Joints)])] ∧ S' = ⟨hav [(1, .ptr b1 0), (2, .ptr b2 0), (6, .int .i64 s)] J, G⟩) hk ⟨_, _, hO, St.hav _ ⟨rfl, rfl, rfl, trivial⟩⟩ ?_
          rintro x15 _ y1 ⟨J, G, hO, rfl⟩ hk hx1
          refine wpL_sq ?_
          refine wpL_sq ?_
          refine wpL_rg ?_
          refine pM (.int _ _) ?_
          refine pBi ?_
          refine pE ?_
          refine gn ?_
          refine wpL_cd (b := decide (x15 ≤ (4:Int))) (fun hb => ?_) (fun hb => ?_)
          · replace hk := ct hb hk
            refine wpL_sk ?_
            refine gn ?_
            refine wpL_sq ?_
            refine wpL_bl ?_
            refine wpL_sq ?_
            refine wpL_rg ?_
            refine pF tF54_1 ?_
            refine pLo hO 1 (.lit _ _ _) tA52 ?_
            refine pLen tS52 ?_
            refine pM (.int _ _) ?_
            refine pE ?_
            refine gn ?_
            refine wpL_bl ?_
            refine wpL_loopO (F := f24_L4 aN0 x15) (fun s S' => ∃ (J : Nat → V) (G : Heap), Owns H G [.blk b2 (.cells 2 [.int .i64 0, .int .i64 0]), .blk b1 (.cells 2 [.lit l1 aN0.Pieces.length (flat aN0.Pieces), .lit l2 aN0.Joints.length (flat aN0.Joints)])] ∧ S' = ⟨hav [(1, .ptr b1 0), (2, .ptr b2 0), (6, .int .i64 x15), (82, .int .i64 (aN0.Joints.length : Int)), (83, .int .i64 s)] J, G⟩) hk ⟨_, _, hO, St.hav _ ⟨rfl, rfl, rfl, rfl, rfl, trivial⟩⟩ ?_
            rintro x16 _ y2 ⟨J, G, hO, rfl⟩ hk hx2
            refine wpL_sq ?_
            refine wpL_rg ?_
            refine pBi ?_
            refine pE ?_
            refine gn ?_
            refine wpL_sq ?_
            refine wpL_cd (b := decide (x16 < (aN0.Joints.length : Int))) (fun hb => ?_) (fun hb => ?_)
            · replace hk := ct hb hk
              refine wpL_sk ?_
              refine gn ?_
              refine wpL_sq ?_
              refine wpL_bl ?_
              refine wpL_sq ?_
              refine wpL_rg ?_
              refine pM (.int _ _) ?_
              refine pA (.int _ _) ?_
              refine pE ?_
              refine gn ?_
              refine wpL_sq ?_
              refine wpL_rg ?_
              refine pLs hO 1 [_, _] tA54 tZ54 ?_
              refine pM (.int _ _) ?_
              obtain ⟨v17, hv17, hk⟩ := bs hk
              refine pCall (fun _ => f88_run hv17) ?_
              refine pM (.int _ _) ?_
              refine pBi ?_
              refine pE ?_
              refine gn ?_
              refine wpL_cd (b := (v17 == x15)) (fun hb => ?_) (fun hb => ?_)
              · replace hk := ct hb hk
                refine wpL_sq ?_
                refine wpL_rg ?_
                refine pM (.int _ _) ?_
                refine pM (.int _ _) ?_
                refine pBd [_, _] t049 tP49 ?_
                refine pSt (xs := [_, _]) hO 0 tZ49 rfl (fun G hO => ?_)
                refine pE ?_
                refine gn ?_
                refine wpL_rt ?_
                refine br (gr (gr (br (br (gr (gr (br (gr ?_))))))))
                replace hk := lx hx2 hk
                replace hk := lx hx1 hk
                cases hk; exact finZ hO (fz_agg (n := 2) (fz_c (fz_int _ _) (fz_c (fz_int _ _) (fz_n)))) (resS hO 0 [_, _] tA49 tZ49 resN)
              · replace hk := cf hb hk
                refine wpL_sk ?_
                refine bn (gn ?_)
                refine wpL_rg ?_
                refine pBi ?_
                refine pM (.int _ _) ?_
                refine pE ?_
                refine gn ?_
                cases hk; exact ⟨_, rfl, _, _, hO, St.hav _ ⟨rfl, rfl, rfl, rfl, rfl, trivial⟩⟩
            · replace hk := cf hb hk
              refine wpL_ex ?_
              refine ge (ge (be (bn (gn ?_))))
              replace hk := lx hx2 hk
              refine wpL_rg ?_
              refine pM (.int _ _) ?_
              refine pBi ?_
              refine pA (.int _ _) ?_
              refine pE ?_
              refine gn ?_
              cases hk; exact ⟨_, rfl, _, _, hO, St.hav _ ⟨rfl, rfl, rfl, trivial⟩⟩
          · replace hk := cf hb hk
            refine wpL_ex ?_
            refine ge (ge (be (gn ?_)))
            replace hk := lx hx1 hk
            refine wpL_sq ?_
            refine wpL_sq ?_
            refine wpL_rg ?_
            refine pF tF54_0 ?_
            refine pLo hO 1 (.lit _ _ _) tA51 ?_
            refine pLen tS51 ?_
            refine pM (.int _ _) ?_
            refine pE ?_
            refine gn ?_
            refine wpL_bl ?_
            refine wpL_loopO (F := f24_L5 aN0) (fun s S' => ∃ (J : Nat → V) (G : Heap), Owns H G [.blk b2 (.cells 2 [.int .i64 0, .int .i64 0]), .blk b1 (.cells 2 [.lit l1 aN0.Pieces.length (flat aN0.Pieces), .lit l2 aN0.Joints.length (flat aN0.Joints)])] ∧ S' = ⟨hav [(1, .ptr b1 0), (2, .ptr b2 0), (97, .int .i64 (aN0.Pieces.length : Int)), (98, .int .i64 s)] J, G⟩) hk ⟨_, _, hO, St.hav _ ⟨rfl, rfl, rfl, rfl, trivial⟩⟩ ?_
            rintro x18 _ y1 ⟨J, G, hO, rfl⟩ hk hx1
            refine wpL_sq ?_
            refine wpL_rg ?_
            refine pBi ?_
            refine pE ?_
            refine gn ?_
            refine wpL_sq ?_
            refine wpL_cd (b := decide (x18 < (aN0.Pieces.length : Int))) (fun hb => ?_) (fun hb => ?_)
            · replace hk := ct hb hk
              refine wpL_sk ?_
              refine gn ?_
              refine wpL_sq ?_
              refine wpL_bl ?_
              refine wpL_sq ?_
              refine wpL_rg ?_
              refine pM (.int _ _) ?_
              refine pA (.int _ _) ?_
              refine pE ?_
              refine gn ?_
              refine wpL_sq ?_
              refine wpL_rg ?_
              refine pA (.int _ _) ?_
              refine pE ?_
              refine gn ?_
              refine wpL_bl ?_
              refine wpL_loopO (F := f24_L6 aN0 x18) (fun s S' => ∃ (J : Nat → V) (G : Heap), Owns H G [.blk b2 (.cells 2 [.int .i64 0, .int .i64 0]), .blk b1 (.cells 2 [.lit l1 aN0.Pieces.length (flat aN0.Pieces), .lit l2 aN0.Joints.length (flat aN0.Joints)])] ∧ S' = ⟨hav [(1, .ptr b1 0), (2, .ptr b2 0), (8, .int .i64 x18), (9, .int .i64 s), (97, .int .i64 (aN0.Pieces.length : Int)), (98, .int .i64 x18)] J, G⟩) hk ⟨_, _, hO, St.hav _ ⟨rfl, rfl, rfl, rfl, rfl, rfl, trivial⟩⟩ ?_
              rintro x19 _ y2 ⟨J, G, hO, rfl⟩ hk hx2
              refine wpL_sq ?_
              refine wpL_sq ?_
              refine wpL_rg ?_
              refine pM (.int _ _) ?_
              refine pBi ?_
              refine pE ?_
              refine gn ?_
              refine wpL_cd (b := decide (x19 < (2:Int))) (fun hb => ?_) (fun hb => ?_)
              · replace hk := ct hb hk
                refine wpL_sk ?_
                refine gn ?_
                refine wpL_sq ?_
                refine wpL_bl ?_
                refine wpL_sq ?_
                refine wpL_rg ?_
                refine pLs hO 1 [_, _] tA54 tZ54 ?_
                refine pM (.int _ _) ?_
                refine pM (.int _ _) ?_
                refine pBd [_, _] t0162 tP162 ?_
                obtain ⟨v20, hv20, hk⟩ := bs hk
                refine pCall (fun _ => f89_run hv20) ?_
                refine pBi ?_
                refine pE ?_
                refine gn ?_
                refine wpL_cd (b := (v20 != (1:Int))) (fun hb => ?_) (fun hb => ?_)
                · replace hk := ct hb hk
                  refine wpL_sq ?_
                  refine wpL_rg ?_
                  refine pM (.int _ _) ?_
                  refine pBd [_, _] t049 tP49 ?_
                  refine pSt (xs := [_, _]) hO 0 tZ49 rfl (fun G hO => ?_)
                  refine pE ?_
                  refine gn ?_
                  refine wpL_rt ?_
                  refine br (gr (gr (br (br (gr (gr (br (gr ?_))))))))
                  replace hk := lx hx2 hk
                  replace hk := lx hx1 hk
                  cases hk; exact finZ hO (fz_agg (n := 2) (fz_c (fz_int _ _) (fz_c (fz_int _ _) (fz_n)))) (resS hO 0 [_, _] tA49 tZ49 resN)
                · replace hk := cf hb hk
                  refine wpL_sk ?_
                  refine bn (gn ?_)
                  refine wpL_rg ?_
                  refine pM (.int _ _) ?_
                  refine pBi ?_
                  refine pA (.int _ _) ?_
                  refine pE ?_
                  refine gn ?_
                  cases hk; exact ⟨_, rfl, _, _, hO, St.hav _ ⟨rfl, rfl, rfl, rfl, rfl, rfl, trivial⟩⟩
              · replace hk := cf hb hk
                refine wpL_ex ?_
                refine ge (ge (be (bn (gn ?_))))
                replace hk := lx hx2 hk
                refine wpL_rg ?_
                refine pBi ?_
                refine pM (.int _ _) ?_
                refine pE ?_
                refine gn ?_
                cases hk; exact ⟨_, rfl, _, _, hO, St.hav _ ⟨rfl, rfl, rfl, rfl, trivial⟩⟩
            · replace hk := cf hb hk
              refine wpL_ex ?_
              refine ge (ge (be (gn ?_)))
              replace hk := lx hx1 hk
              refine wpL_sq ?_
              refine wpL_rg ?_
              refine pBd [_, _] t049 tP49 ?_
              refine pSt (xs := [_, _]) hO 0 tZ49 rfl (fun G hO => ?_)
              refine pE ?_
              refine gn ?_
              refine wpL_rt ?_
              cases hk; exact finZ hO (fz_agg (n := 2) (fz_c (fz_int _ _) (fz_c (fz_int _ _) (fz_n)))) (resS hO 0 [_, _] tA49 tZ49 resN)
/-- spec.l11ok -/
def f131 (aN0 : Net) : Option Bool :=
  ((f24 aN0).bind fun v2 => some (v2.Code == (0:Int)))
theorem f131_run {aN0 : Net} {r : Bool} {l1 l2 : Nat} {H : Heap} {lk : Lk} (hk : f131 aN0 = some r) (hlk : 0 < lk.length := by simp) : runL Try.prog hh 131 [.agg [.lit l1 aN0.Pieces.length (flat aN0.Pieces), .lit l2 aN0.Joints.length (flat aN0.Joints)]] H lk = some (.bool r, H) := by
  refine run_start Try.func131 rfl Try.ntmps131 Try.results131 rfl rfl fun hO => ?_
  unfold f131 at hk
  refine wpL_sq ?_
  refine wpL_rg ?_
  refine pBox (cs := [_, _]) hO tZ54 (fun b1 G hO => ?_)
  refine pA (.bool _) ?_
  refine pE ?_
  refine gn ?_
  refine wpL_sq ?_
  refine wpL_rg ?_
  refine pLs hO 0 [_, _] tA54 tZ54 ?_
  obtain ⟨v2, hv2, hk⟩ := bs hk
  refine pCall (fun _ => f24_run hv2) ?_
  refine pNew hO tZ49 t049 (fun b3 G hO => ?_)
  refine pSt (xs := [_, _]) hO 0 tZ49 rfl (fun G hO => ?_)
  refine pE ?_
  refine gn ?_
  refine wpL_sq ?_
  refine wpL_rg ?_
  refine pF tF49_0 ?_
  refine pLo hO 0 (.int _ _) tA3 ?_
  refine pBi ?_
  refine pA (.bool _) ?_
  refine pE ?_
  refine gn ?_
  refine wpL_rt ?_
  cases hk; exact fin0 hO
/-- spec.l11before -/
def f132_L1 (aSignals0 : List Signal) (aI1 : Int) : Int → Option (Int ⊕ Bool) := fun s =>
  (bif decide (s < aI1) then ((getI aSignals0 s).bind fun c2 => ((getI aSignals0 aI1).bind fun c4 => (bif ((c2.Name.toList == c4.Name.toList) || (((c2.Piece == c4.Piece) && (c2.At == c4.At)) && (c2.Way == c4.Way))) then ((some true).map Sum.inr) else some (.inl (w64 (s + (1:Int))))))) else ((some false).map Sum.inr))
def f132 (aSignals0 : List Signal) (aI1 : Int) : Option Bool :=
  (loopO (f132_L1 aSignals0 aI1) ((0:Int)))
theorem f132_run {aSignals0 : List Signal} {aI1 : Int} {r : Bool} {l1 : Nat} {H : Heap} {lk : Lk} (hk : f132 aSignals0 aI1 = some r) (hlk : 0 < lk.length := by simp) : runL Try.prog hh 132 [.lit l1 aSignals0.length (flat aSignals0), .int .i64 aI1] H lk = some (.bool r, H) := by
  refine run_start Try.func132 rfl Try.ntmps132 Try.results132 rfl rfl fun hO => ?_
  unfold f132 at hk
  refine wpL_sq ?_
  refine wpL_rg ?_
  refine pA (.bool _) ?_
  refine pE ?_
  refine gn ?_
  refine wpL_sq ?_
  refine wpL_sq ?_
  refine wpL_rg ?_
  refine pA (.int _ _) ?_
  refine pE ?_
  refine gn ?_
  refine wpL_bl ?_
  refine wpL_loopO (F := f132_L1 aSignals0 aI1) (fun s S' => ∃ (J : Nat → V) (G : Heap), Owns H G [] ∧ S' = ⟨hav [(0, .lit l1 aSignals0.length (flat aSignals0)), (1, .int .i64 aI1), (5, .int .i64 s)] J, G⟩) hk ⟨_, _, hO, St.hav _ ⟨rfl, rfl, rfl, trivial⟩⟩ ?_
  rintro x1 _ y1 ⟨J, G, hO, rfl⟩ hk hx1
  refine wpL_sq ?_
  refine wpL_sq ?_
  refine wpL_rg ?_
  refine pM (.int _ _) ?_
  refine pM (.int _ _) ?_
  refine pBi ?_
  refine pE ?_
  refine gn ?_
  refine wpL_cd (b := decide (x1 < aI1)) (fun hb => ?_) (fun hb => ?_)
  · replace hk := ct hb hk
    refine wpL_sk ?_
    refine gn ?_
    refine wpL_sq ?_
    refine wpL_bl ?_
    refine wpL_sq ?_
    refine wpL_rg ?_
    refine pM (.lit _ _ _) ?_
    refine pM (.int _ _) ?_
    obtain ⟨c2, hc2, hk⟩ := bs hk
    refine pX hc2 tE96 tZ204 ?_
    refine pLp (.agg [_, _, _, _]) (rd2 (off := 0) hc2 tA204 tZ204) ?_
    refine pNew hO tZ204 t0204 (fun b3 G hO => ?_)
    refine pSt (xs := [_, _, _, _]) hO 0 tZ204 rfl (fun G hO => ?_)
    refine pE ?_
    refine gn ?_
    refine wpL_sq ?_
    refine wpL_rg ?_
    refine pM (.lit _ _ _) ?_
    refine pM (.int _ _) ?_
    obtain ⟨c4, hc4, hk⟩ := bs hk
    refine pX hc4 tE96 tZ204 ?_
    refine pLp (.agg [_, _, _, _]) (rd2 (off := 0) hc4 tA204 tZ204) ?_
    refine pNew hO tZ204 t0204 (fun b5 G hO => ?_)
    refine pSt (xs := [_, _, _, _]) hO 0 tZ204 rfl (fun G hO => ?_)
    refine pE ?_
    refine gn ?_
    refine wpL_sq ?_
    refine wpL_rg ?_
    refine pF tF204_0 ?_
    refine pLo hO 1 (.str _) tA9 ?_
    refine pF tF204_0 ?_
    refine pLo hO 0 (.str _) tA9 ?_
    refine pB (a := .str _) (b := .str _) ?_
    refine pM (.bool _) ?_
    refine wpR_mid (l1 := [_, _, _, _, _, _, _, _, _, _, _, _, _, _, _, _, _, _, _, _]) (fun S' => ∃ J, S' = ⟨hav [(0, .lit l1 aSignals0.length (flat aSignals0)), (1, .int .i64 aI1), (5, .int .i64 x1), (46, .bool ((c2.Name.toList == c4.Name.toList) || (((c2.Piece == c4.Piece) && (c2.At == c4.At)) && (c2.Way == c4.Way))))] J, G⟩) ?_ ?_
    · refine bc (b := (c2.Name.toList == c4.Name.toList)) (fun hg1 => ?_) (fun hg1 => ?_)
      · refine pGn hg1 ?_
        refine pGn hg1 ?_
        refine pGn hg1 ?_
        refine pGn hg1 ?_
        refine pGn hg1 ?_
        refine pGn hg1 ?_
        refine pGu ?_
        refine pGu ?_
        refine pGu ?_
        refine pGu ?_
        refine pGu ?_
        refine pGn hg1 ?_
        refine pGn hg1 ?_
        refine pGu ?_
        refine pGu ?_
        refine pGu ?_
        refine pGu ?_
        refine pGu ?_
        refine pGn hg1 ?_
        refine pPt hg1 (.bool _) ?_
        exact pE ⟨_, St.hav _ ⟨rfl, rfl, rfl, by rw [hg1]; rfl, trivial⟩⟩
      · refine pGy hg1 ?_
        refine pF tF204_1 ?_
        refine pGy hg1 ?_
        refine pLo hO 1 (.int _ _) tA3 ?_
        refine pGy hg1 ?_
        refine pF tF204_1 ?_
        refine pGy hg1 ?_
        refine pLo hO 0 (.int _ _) tA3 ?_
        refine pGy hg1 ?_
        refine pBi ?_
        refine pGy hg1 ?_
        refine pM (.bool _) ?_
        refine wpR_mid (l1 := [_, _, _, _, _, _]) (fun S' => ∃ J, S' = ⟨hav [(0, .lit l1 aSignals0.length (flat aSignals0)), (1, .int .i64 aI1), (5, .int .i64 x1), (6, .ptr b3 0), (7, .ptr b5 0), (26, .bool (c2.Name.toList == c4.Name.toList)), (38, .bool ((c2.Piece == c4.Piece) && (c2.At == c4.At)))] J, G⟩) ?_ ?_
        · refine bc (b := (c2.Piece == c4.Piece)) (fun hg2 => ?_) (fun hg2 => ?_)
          · refine pGy hg2 ?_
            refine pF tF204_2 ?_
            refine pGy hg2 ?_
            refine pLo hO 1 (.int _ _) tA3 ?_
            refine pGy hg2 ?_
            refine pF tF204_2 ?_
            refine pGy hg2 ?_
            refine pLo hO 0 (.int _ _) tA3 ?_
            refine pGy hg2 ?_
            refine pBi ?_
            refine pGy hg1 ?_
            refine pPt hg2 (.bool _) ?_
            exact pE ⟨_, St.hav _ ⟨rfl, rfl, rfl, rfl, rfl, rfl, by rw [hg2]; rfl, trivial⟩⟩
          · refine pGn hg2 ?_
            refine pGn hg2 ?_
            refine pGn hg2 ?_
            refine pGn hg2 ?_
            refine pGn hg2 ?_
            refine pGy hg1 ?_
            refine pPf hg2 (.bool _) ?_
            exact pE ⟨_, St.hav _ ⟨rfl, rfl, rfl, rfl, rfl, rfl, by rw [hg2]; rfl, trivial⟩⟩
        · rintro _ ⟨J, rfl⟩
          refine pGy hg1 ?_
          refine pM (.bool _) ?_
          refine wpR_mid (l1 := [_, _, _, _, _, _]) (fun S' => ∃ J, S' = ⟨hav [(0, .lit l1 aSignals0.length (flat aSignals0)), (1, .int .i64 aI1), (5, .int .i64 x1), (26, .bool (c2.Name.toList == c4.Name.toList)), (45, .bool (((c2.Piece == c4.Piece) && (c2.At == c4.At)) && (c2.Way == c4.Way)))] J, G⟩) ?_ ?_
          · refine bc (b := ((c2.Piece == c4.Piece) && (c2.At == c4.At))) (fun hg2 => ?_) (fun hg2 => ?_)
            · refine pGy hg2 ?_
              refine pF tF204_3 ?_
              refine pGy hg2 ?_
              refine pLo hO 1 (.int _ _) tA3 ?_
              refine pGy hg2 ?_
              refine pF tF204_3 ?_
              refine pGy hg2 ?_
              refine pLo hO 0 (.int _ _) tA3 ?_
              refine pGy hg2 ?_
              refine pBi ?_
              refine pGy hg1 ?_
              refine pPt hg2 (.bool _) ?_
              exact pE ⟨_, St.hav _ ⟨rfl, rfl, rfl, rfl, by rw [hg2]; rfl, trivial⟩⟩
            · refine pGn hg2 ?_
              refine pGn hg2 ?_
              refine pGn hg2 ?_
              refine pGn hg2 ?_
              refine pGn hg2 ?_
              refine pGy hg1 ?_
              refine pPf hg2 (.bool _) ?_
              exact pE ⟨_, St.hav _ ⟨rfl, rfl, rfl, rfl, by rw [hg2]; rfl, trivial⟩⟩
          · rintro _ ⟨J, rfl⟩
            refine pPf hg1 (.bool _) ?_
            exact pE ⟨_, St.hav _ ⟨rfl, rfl, rfl, by rw [hg1]; rfl, trivial⟩⟩
    · rintro _ ⟨J, rfl⟩
      refine pE ?_
      refine gn ?_
      refine wpL_cd (b := ((c2.Name.toList == c4.Name.toList) || (((c2.Piece == c4.Piece) && (c2.At == c4.At)) && (c2.Way == c4.Way)))) (fun hb => ?_) (fun hb => ?_)
      · replace hk := ct hb hk
        refine wpL_sq ?_
        refine wpL_rg ?_
        refine pA (.bool _) ?_
        refine pE ?_
        refine gn ?_
        refine wpL_rt ?_
        refine br (gr (gr (br (gr ?_))))
        replace hk := lx hx1 hk
        cases hk; exact fin0 hO
      · replace hk := cf hb hk
        refine wpL_sk ?_
        refine bn (gn ?_)
        refine wpL_rg ?_
        refine pM (.int _ _) ?_
        refine pBi ?_
        refine pA (.int _ _) ?_
        refine pE ?_
        refine gn ?_
        cases hk; exact ⟨_, rfl, _, _, (Owns.pick hO [] (by decide) rfl), St.hav _ ⟨rfl, rfl, rfl, trivial⟩⟩
  · replace hk := cf hb hk
    refine wpL_ex ?_
    refine ge (ge (be (gn ?_)))
    replace hk := lx hx1 hk
    refine wpL_sq ?_
    refine wpL_rg ?_
    refine pA (.bool _) ?_
    refine pE ?_
    refine gn ?_
    refine wpL_rt ?_
    cases hk; exact fin0 hO
/-- spec.SignalsOk -/
def f44_L2 (aSignals1 : List Signal) : Int → Option (Int ⊕ Fault) := fun s =>
  (bif decide (s < (aSignals1.length : Int)) then ((f132 aSignals1 s).bind fun v13 => (bif v13 then ((some ({ Code := (4:Int), At := s } : Fault)).map Sum.inr) else some (.inl (w64 (s + (1:Int)))))) else ((some ({ Code := 0, At := 0 } : Fault)).map Sum.inr))
def f44_L1 (aN0 : Net) (aSignals1 : List Signal) : Int → Option (Int ⊕ Fault) := fun s =>
  (bif decide (s < (aSignals1.length : Int)) then ((getI aSignals1 s).bind fun c5 => ((f86 c5.Name).bind fun v7 => ((bif !v7 then some true else ((f87 c5.Piece (0:Int) (w64 ((aN0.Pieces.length : Int) - (1:Int)))).bind fun v9 => some (!v9))).bind fun t8 => (bif (t8 || ((c5.Way != (1:Int)) && (c5.Way != (-1:Int)))) then ((some ({ Code := (3:Int), At := s } : Fault)).map Sum.inr) else ((getI aN0.Pieces c5.Piece).bind fun c10 => ((f87 c5.At (1:Int) (w64 (c10.Len - (1:Int)))).bind fun v11 => (bif !v11 then ((some ({ Code := (3:Int), At := s } : Fault)).map Sum.inr) else some (.inl (w64 (s + (1:Int))))))))))) else ((loopO (f44_L2 aSignals1) ((0:Int))).map Sum.inr))
def f44 (aN0 : Net) (aSignals1 : List Signal) : Option Fault :=
  ((f131 aN0).bind fun v3 => (bif !v3 then some ({ Code := (1:Int), At := 0 } : Fault) else (bif decide ((aSignals1.length : Int) > (60:Int)) then some ({ Code := (2:Int), At := 0 } : Fault) else (loopO (f44_L1 aN0 aSignals1) ((0:Int))))))
theorem f44_run {aN0 : Net} {aSignals1 : List Signal} {r : Fault} {l1 l2 l3 : Nat} {H : Heap} {lk : Lk} (hk : f44 aN0 aSignals1 = some r) (hlk : 0 < lk.length := by simp) : runL Try.prog hh 44 [.agg [.lit l1 aN0.Pieces.length (flat aN0.Pieces), .lit l2 aN0.Joints.length (flat aN0.Joints)], .lit l3 aSignals1.length (flat aSignals1)] H lk = some (.agg [.int .i64 r.Code, .int .i64 r.At], H) := by
  refine run_start Try.func44 rfl Try.ntmps44 Try.results44 rfl rfl fun hO => ?_
  unfold f44 at hk
  refine wpL_sq ?_
  refine wpL_rg ?_
  refine pBox (cs := [_, _]) hO tZ54 (fun b1 G hO => ?_)
  refine pNew hO tZ49 t049 (fun b2 G hO => ?_)
  refine pE ?_
  refine gn ?_
  refine wpL_sq ?_
  refine wpL_sq ?_
  refine wpL_rg ?_
  refine pLs hO 1 [_, _] tA54 tZ54 ?_
  obtain ⟨v3, hv3, hk⟩ := bs hk
  refine pCall (fun _ => f131_run hv3) ?_
  refine pU ?_
  refine pE ?_
  refine gn ?_
  refine wpL_cd (b := !v3) (fun hb => ?_) (fun hb => ?_)
  · replace hk := ct hb hk
    refine wpL_sq ?_
    refine wpL_rg ?_
    refine pBd [_, _] t049 tP49 ?_
    refine pSt (xs := [_, _]) hO 0 tZ49 rfl (fun G hO => ?_)
    refine pE ?_
    refine gn ?_
    refine wpL_rt ?_
    refine gr ?_
    cases hk; exact finZ hO (fz_agg (n := 2) (fz_c (fz_int _ _) (fz_c (fz_int _ _) (fz_n)))) (resS hO 0 [_, _] tA49 tZ49 resN)
  · replace hk := cf hb hk
    refine wpL_sk ?_
    refine gn ?_
    refine wpL_sq ?_
    refine wpL_sq ?_
    refine wpL_rg ?_
    refine pM (.lit _ _ _) ?_
    refine pLen tS96 ?_
    refine pBi ?_
    refine pE ?_
    refine gn ?_
    refine wpL_cd (b := decide ((aSignals1.length : Int) > (60:Int))) (fun hb => ?_) (fun hb => ?_)
    · replace hk := ct hb hk
      refine wpL_sq ?_
      refine wpL_rg ?_
      refine pBd [_, _] t049 tP49 ?_
      refine pSt (xs := [_, _]) hO 0 tZ49 rfl (fun G hO => ?_)
      refine pE ?_
      refine gn ?_
      refine wpL_rt ?_
      refine gr ?_
      cases hk; exact finZ hO (fz_agg (n := 2) (fz_c (fz_int _ _) (fz_c (fz_int _ _) (fz_n)))) (resS hO 0 [_, _] tA49 tZ49 resN)
    · replace hk := cf hb hk
      refine wpL_sk ?_
      refine gn ?_
      refine wpL_sq ?_
      refine wpL_sq ?_
      refine wpL_rg ?_
      refine pM (.lit _ _ _) ?_
      refine pLen tS96 ?_
      refine pM (.int _ _) ?_
      refine pE ?_
      refine gn ?_
      refine wpL_bl ?_
      refine wpL_loopO (F := f44_L1 aN0 aSignals1) (fun s S' => ∃ (J : Nat → V) (G : Heap), Owns H G [.blk b2 (.cells 2 [.int .i64 0, .int .i64 0]), .blk b1 (.cells 2 [.lit l1 aN0.Pieces.length (flat aN0.Pieces), .lit l2 aN0.Joints.length (flat aN0.Joints)])] ∧ S' = ⟨hav [(1, .lit l3 aSignals1.length (flat aSignals1)), (2, .ptr b1 0), (4, .ptr b2 0), (16, .lit l3 aSignals1.length (flat aSignals1)), (17, .int .i64 (aSignals1.length : Int)), (18, .int .i64 s)] J, G⟩) hk ⟨_, _, hO, St.hav _ ⟨rfl, rfl, rfl, rfl, rfl, rfl, trivial⟩⟩ ?_
      rintro x4 _ y1 ⟨J, G, hO, rfl⟩ hk hx1
      refine wpL_sq ?_
      refine wpL_rg ?_
      refine pBi ?_
      refine pE ?_
      refine gn ?_
      refine wpL_sq ?_
      refine wpL_cd (b := decide (x4 < (aSignals1.length : Int))) (fun hb => ?_) (fun hb => ?_)
      · replace hk := ct hb hk
        refine wpL_sk ?_
        refine gn ?_
        refine wpL_sq ?_
        refine wpL_bl ?_
        refine wpL_sq ?_
        refine wpL_rg ?_
        refine pM (.int _ _) ?_
        obtain ⟨c5, hc5, hk⟩ := bs hk
        refine pX hc5 tE96 tZ204 ?_
        refine pLp (.agg [_, _, _, _]) (rd2 (off := 0) hc5 tA204 tZ204) ?_
        refine pNew hO tZ204 t0204 (fun b6 G hO => ?_)
        refine pA (.int _ _) ?_
        refine pSt (xs := [_, _, _, _]) hO 0 tZ204 rfl (fun G hO => ?_)
        refine pE ?_
        refine gn ?_
        refine wpL_sq ?_
        refine wpL_sq ?_
        refine wpL_rg ?_
        refine pF tF204_0 ?_
        refine pLo hO 0 (.str _) tA9 ?_
        obtain ⟨v7, hv7, hk⟩ := bs hk
        refine pCall (fun _ => f86_run hv7) ?_
        refine pU ?_
        refine pM (.bool _) ?_
        obtain ⟨t8, ht, hk⟩ := bs hk
        refine wpR_mid (l1 := [_, _, _, _, _, _, _, _, _]) (fun S' => ∃ J, S' = ⟨hav [(1, .lit l3 aSignals1.length (flat aSignals1)), (2, .ptr b1 0), (4, .ptr b2 0), (5, .int .i64 x4), (6, .ptr b6 0), (16, .lit l3 aSignals1.length (flat aSignals1)), (17, .int .i64 (aSignals1.length : Int)), (18, .int .i64 x4), (36, .bool t8)] J, G⟩) ?_ ?_
        · refine bc (b := !v7) (fun hg1 => ?_) (fun hg1 => ?_)
          · replace hk := ct hg1 ht
            refine pGn hg1 ?_
            refine pGn hg1 ?_
            refine pGn hg1 ?_
            refine pGn hg1 ?_
            refine pGn hg1 ?_
            refine pGn hg1 ?_
            refine pGn hg1 ?_
            refine pGn hg1 ?_
            refine pPt hg1 (.bool _) ?_
            cases hk; exact pE ⟨_, St.hav _ ⟨rfl, rfl, rfl, rfl, rfl, rfl, rfl, rfl, rfl, trivial⟩⟩
          · replace hk := cf hg1 ht
            refine pGy hg1 ?_
            refine pF tF204_1 ?_
            refine pGy hg1 ?_
            refine pLo hO 0 (.int _ _) tA3 ?_
            refine pGy hg1 ?_
            refine pF tF54_0 ?_
            refine pGy hg1 ?_
            refine pLo hO 2 (.lit _ _ _) tA51 ?_
            refine pGy hg1 ?_
            refine pLen tS51 ?_
            refine pGy hg1 ?_
            refine pBi ?_
            refine pGy hg1 ?_
            obtain ⟨v9, hv9, hk⟩ := bs hk
            refine pCall (fun _ => f87_run hv9) ?_
            refine pGy hg1 ?_
            refine pU ?_
            refine pPf hg1 (.bool _) ?_
            cases hk; exact pE ⟨_, St.hav _ ⟨rfl, rfl, rfl, rfl, rfl, rfl, rfl, rfl, rfl, trivial⟩⟩
        · rintro _ ⟨J, rfl⟩
          refine pM (.bool _) ?_
          refine wpR_mid (l1 := [_, _, _, _, _, _, _, _, _]) (fun S' => ∃ J, S' = ⟨hav [(1, .lit l3 aSignals1.length (flat aSignals1)), (2, .ptr b1 0), (4, .ptr b2 0), (5, .int .i64 x4), (6, .ptr b6 0), (16, .lit l3 aSignals1.length (flat aSignals1)), (17, .int .i64 (aSignals1.length : Int)), (18, .int .i64 x4), (46, .bool (t8 || ((c5.Way != (1:Int)) && (c5.Way != (-1:Int)))))] J, G⟩) ?_ ?_
          · refine bc (b := t8) (fun hg1 => ?_) (fun hg1 => ?_)
            · refine pGn hg1 ?_
              refine pGn hg1 ?_
              refine pGn hg1 ?_
              refine pGn hg1 ?_
              refine pGu ?_
              refine pGu ?_
              refine pGu ?_
              refine pGn hg1 ?_
              refine pPt hg1 (.bool _) ?_
              exact pE ⟨_, St.hav _ ⟨rfl, rfl, rfl, rfl, rfl, rfl, rfl, rfl, by rw [hg1]; rfl, trivial⟩⟩
            · refine pGy hg1 ?_
              refine pF tF204_3 ?_
              refine pGy hg1 ?_
              refine pLo hO 0 (.int _ _) tA3 ?_
              refine pGy hg1 ?_
              refine pBi ?_
              refine pGy hg1 ?_
              refine pM (.bool _) ?_
              refine wpR_mid (l1 := [_, _, _, _]) (fun S' => ∃ J, S' = ⟨hav [(1, .lit l3 aSignals1.length (flat aSignals1)), (2, .ptr b1 0), (4, .ptr b2 0), (5, .int .i64 x4), (6, .ptr b6 0), (16, .lit l3 aSignals1.length (flat aSignals1)), (17, .int .i64 (aSignals1.length : Int)), (18, .int .i64 x4), (37, .bool t8), (45, .bool ((c5.Way != (1:Int)) && (c5.Way != (-1:Int))))] J, G⟩) ?_ ?_
              · refine bc (b := (c5.Way != (1:Int))) (fun hg2 => ?_) (fun hg2 => ?_)
                · refine pGy hg2 ?_
                  refine pF tF204_3 ?_
                  refine pGy hg2 ?_
                  refine pLo hO 0 (.int _ _) tA3 ?_
                  refine pGy hg2 ?_
                  refine pBi ?_
                  refine pGy hg1 ?_
                  refine pPt hg2 (.bool _) ?_
                  exact pE ⟨_, St.hav _ ⟨rfl, rfl, rfl, rfl, rfl, rfl, rfl, rfl, rfl, by rw [hg2]; rfl, trivial⟩⟩
                · refine pGn hg2 ?_
                  refine pGn hg2 ?_
                  refine pGn hg2 ?_
                  refine pGy hg1 ?_
                  refine pPf hg2 (.bool _) ?_
                  exact pE ⟨_, St.hav _ ⟨rfl, rfl, rfl, rfl, rfl, rfl, rfl, rfl, rfl, by rw [hg2]; rfl, trivial⟩⟩
              · rintro _ ⟨J, rfl⟩
                refine pPf hg1 (.bool _) ?_
                exact pE ⟨_, St.hav _ ⟨rfl, rfl, rfl, rfl, rfl, rfl, rfl, rfl, by rw [hg1]; rfl, trivial⟩⟩
          · rintro _ ⟨J, rfl⟩
            refine pE ?_
            refine gn ?_
            refine wpL_cd (b := (t8 || ((c5.Way != (1:Int)) && (c5.Way != (-1:Int))))) (fun hb => ?_) (fun hb => ?_)
            · replace hk := ct hb hk
              refine wpL_sq ?_
              refine wpL_rg ?_
              refine pM (.int _ _) ?_
              refine pBd [_, _] t049 tP49 ?_
              refine pSt (xs := [_, _]) hO 1 tZ49 rfl (fun G hO => ?_)
              refine pE ?_
              refine gn ?_
              refine wpL_rt ?_
              refine gr (br (gr (gr (br (gr ?_)))))
              replace hk := lx hx1 hk
              cases hk; exact finZ hO (fz_agg (n := 2) (fz_c (fz_int _ _) (fz_c (fz_int _ _) (fz_n)))) (resS hO 1 [_, _] tA49 tZ49 resN)
            · replace hk := cf hb hk
              refine wpL_sk ?_
              refine gn ?_
              refine wpL_sq ?_
              refine wpL_drw [(0, true), (1, true), (2, true), (3, true), (4, true), (5, true), (6, true), (7, true), (8, true), (9, true), (10, false), (11, false)] [_, _, _, _, _, _, _, _, _, _, _, _] (by decide +kernel) (by rfl) ?_
              refine pF tF204_2 ?_
              refine pLo hO 0 (.int _ _) tA3 ?_
              refine pF tF54_0 ?_
              refine pLo hO 2 (.lit _ _ _) tA51 ?_
              refine pF tF204_1 ?_
              refine pLo hO 0 (.int _ _) tA3 ?_
              obtain ⟨c10, hc10, hk⟩ := bs hk
              refine pX hc10 tE51 tZ157 ?_
              refine pF tF157_1 ?_
              refine pLp (.int _ _) (rd1 (off := 1) hc10 tA3) ?_
              refine pBi ?_
              obtain ⟨v11, hv11, hk⟩ := bs hk
              refine pCall (fun _ => f87_run hv11) ?_
              refine pU ?_
              refine pE ?_
              refine gn ?_
              refine wpL_cd (b := !v11) (fun hb => ?_) (fun hb => ?_)
              · replace hk := ct hb hk
                refine wpL_sq ?_
                refine wpL_rg ?_
                refine pM (.int _ _) ?_
                refine pBd [_, _] t049 tP49 ?_
                refine pSt (xs := [_, _]) hO 1 tZ49 rfl (fun G hO => ?_)
                refine pE ?_
                refine gn ?_
                refine wpL_rt ?_
                refine br (gr (gr (br (gr ?_))))
                replace hk := lx hx1 hk
                cases hk; exact finZ hO (fz_agg (n := 2) (fz_c (fz_int _ _) (fz_c (fz_int _ _) (fz_n)))) (resS hO 1 [_, _] tA49 tZ49 resN)
              · replace hk := cf hb hk
                refine wpL_sk ?_
                refine bn (gn ?_)
                refine wpL_rg ?_
                refine pBi ?_
                refine pM (.int _ _) ?_
                refine pE ?_
                refine gn ?_
                cases hk; exact ⟨_, rfl, _, _, (Owns.pick hO [1, 2] (by decide) rfl), St.hav _ ⟨rfl, rfl, rfl, rfl, rfl, rfl, trivial⟩⟩
      · replace hk := cf hb hk
        refine wpL_ex ?_
        refine ge (ge (be (gn ?_)))
        replace hk := lx hx1 hk
        refine wpL_sq ?_
        refine wpL_sq ?_
        refine wpL_rg ?_
        refine pM (.lit _ _ _) ?_
        refine pLen tS96 ?_
        refine pM (.int _ _) ?_
        refine pE ?_
        refine gn ?_
        refine wpL_bl ?_
        refine wpL_loopO (F := f44_L2 aSignals1) (fun s S' => ∃ (J : Nat → V) (G : Heap), Owns H G [.blk b2 (.cells 2 [.int .i64 0, .int .i64 0])] ∧ S' = ⟨hav [(1, .lit l3 aSignals1.length (flat aSignals1)), (4, .ptr b2 0), (65, .int .i64 (aSignals1.length : Int)), (66, .int .i64 s)] J, G⟩) hk ⟨_, _, (Owns.pick hO [0] (by decide) rfl), St.hav _ ⟨rfl, rfl, rfl, rfl, trivial⟩⟩ ?_
        rintro x12 _ y1 ⟨J, G, hO, rfl⟩ hk hx1
        refine wpL_sq ?_
        refine wpL_rg ?_
        refine pBi ?_
        refine pE ?_
        refine gn ?_
        refine wpL_sq ?_
        refine wpL_cd (b := decide (x12 < (aSignals1.length : Int))) (fun hb => ?_) (fun hb => ?_)
        · replace hk := ct hb hk
          refine wpL_sk ?_
          refine gn ?_
          refine wpL_sq ?_
          refine wpL_bl ?_
          refine wpL_sq ?_
          refine wpL_rg ?_
          refine pM (.int _ _) ?_
          refine pA (.int _ _) ?_
          refine pE ?_
          refine gn ?_
          refine wpL_sq ?_
          refine wpL_rg ?_
          refine pM (.lit _ _ _) ?_
          refine pM (.int _ _) ?_
          obtain ⟨v13, hv13, hk⟩ := bs hk
          refine pCall (fun _ => f132_run hv13) ?_
          refine pE ?_
          refine gn ?_
          refine wpL_cd (b := v13) (fun hb => ?_) (fun hb => ?_)
          · replace hk := ct hb hk
            refine wpL_sq ?_
            refine wpL_rg ?_
            refine pM (.int _ _) ?_
            refine pBd [_, _] t049 tP49 ?_
            refine pSt (xs := [_, _]) hO 0 tZ49 rfl (fun G hO => ?_)
            refine pE ?_
            refine gn ?_
            refine wpL_rt ?_
            refine br (gr (gr (br (gr ?_))))
            replace hk := lx hx1 hk
            cases hk; exact finZ hO (fz_agg (n := 2) (fz_c (fz_int _ _) (fz_c (fz_int _ _) (fz_n)))) (resS hO 0 [_, _] tA49 tZ49 resN)
          · replace hk := cf hb hk
            refine wpL_sk ?_
            refine bn (gn ?_)
            refine wpL_rg ?_
            refine pBi ?_
            refine pM (.int _ _) ?_
            refine pE ?_
            refine gn ?_
            cases hk; exact ⟨_, rfl, _, _, hO, St.hav _ ⟨rfl, rfl, rfl, rfl, trivial⟩⟩
        · replace hk := cf hb hk
          refine wpL_ex ?_
          refine ge (ge (be (gn ?_)))
          replace hk := lx hx1 hk
          refine wpL_sq ?_
          refine wpL_rg ?_
          refine pBd [_, _] t049 tP49 ?_
          refine pSt (xs := [_, _]) hO 0 tZ49 rfl (fun G hO => ?_)
          refine pE ?_
          refine gn ?_
          refine wpL_rt ?_
          cases hk; exact finZ hO (fz_agg (n := 2) (fz_c (fz_int _ _) (fz_c (fz_int _ _) (fz_n)))) (resS hO 0 [_, _] tA49 tZ49 resN)
/-- impl.named -/
def f93_L1 (aS0 : ByteArray) : Int → Option (Int ⊕ Bool) := fun s =>
  (bif decide (s < (aS0.size : Int)) then ((byteAt aS0 s).bind fun c2 => (bif !(((decide (c2 ≥ (97:Int)) && decide (c2 ≤ (122:Int))) || (decide (c2 ≥ (48:Int)) && decide (c2 ≤ (57:Int)))) || (c2 == (95:Int))) then ((some false).map Sum.inr) else some (.inl (w64 (s + (1:Int)))))) else ((some true).map Sum.inr))
def f93 (aS0 : ByteArray) : Option Bool :=
  (bif (decide ((aS0.size : Int) < (1:Int)) || decide ((aS0.size : Int) > (20:Int))) then some false else (loopO (f93_L1 aS0) ((0:Int))))
theorem f93_run {aS0 : ByteArray} {r : Bool} {H : Heap} {lk : Lk} (hk : f93 aS0 = some r) (hlk : 0 < lk.length := by simp) : runL Try.prog hh 93 [.str aS0] H lk = some (.bool r, H) := by
  refine run_start Try.func93 rfl Try.ntmps93 Try.results93 rfl rfl fun hO => ?_
  unfold f93 at hk
  refine wpL_sq ?_
  refine wpL_rg ?_
  refine pA (.bool _) ?_
  refine pE ?_
  refine gn ?_
  refine wpL_sq ?_
  refine wpL_sq ?_
  refine wpL_rg ?_
  refine pM (.str _) ?_
  refine pLen tS9 ?_
  refine pBi ?_
  refine pM (.bool _) ?_
  refine wpR_mid (l1 := [_, _, _, _]) (fun S' => ∃ J, S' = ⟨hav [(0, .str aS0), (12, .bool (decide ((aS0.size : Int) < (1:Int)) || decide ((aS0.size : Int) > (20:Int))))] J, H⟩) ?_ ?_
  · refine bc (b := decide ((aS0.size : Int) < (1:Int))) (fun hg1 => ?_) (fun hg1 => ?_)
    · refine pGn hg1 ?_
      refine pGn hg1 ?_
      refine pGn hg1 ?_
      refine pPt hg1 (.bool _) ?_
      exact pE ⟨_, St.hav _ ⟨rfl, by rw [hg1]; rfl, trivial⟩⟩
    · refine pGy hg1 ?_
      refine pM (.str _) ?_
      refine pGy hg1 ?_
      refine pLen tS9 ?_
      refine pGy hg1 ?_
      refine pBi ?_
      refine pPf hg1 (.bool _) ?_
      exact pE ⟨_, St.hav _ ⟨rfl, by rw [hg1]; rfl, trivial⟩⟩
  · rintro _ ⟨J, rfl⟩
    refine pE ?_
    refine gn ?_
    refine wpL_cd (b := (decide ((aS0.size : Int) < (1:Int)) || decide ((aS0.size : Int) > (20:Int)))) (fun hb => ?_) (fun hb => ?_)
    · replace hk := ct hb hk
      refine wpL_sq ?_
      refine wpL_rg ?_
      refine pA (.bool _) ?_
      refine pE ?_
      refine gn ?_
      refine wpL_rt ?_
      refine gr ?_
      cases hk; exact fin0 hO
    · replace hk := cf hb hk
      refine wpL_sk ?_
      refine gn ?_
      refine wpL_sq ?_
      refine wpL_sq ?_
      refine wpL_rg ?_
      refine pA (.int _ _) ?_
      refine pE ?_
      refine gn ?_
      refine wpL_bl ?_
      refine wpL_loopO (F := f93_L1 aS0) (fun s S' => ∃ (J : Nat → V) (G : Heap), Owns H G [] ∧ S' = ⟨hav [(0, .str aS0), (3, .int .i64 s)] J, G⟩) hk ⟨_, _, hO, St.hav _ ⟨rfl, rfl, trivial⟩⟩ ?_
      rintro x1 _ y1 ⟨J, G, hO, rfl⟩ hk hx1
      refine wpL_sq ?_
      refine wpL_sq ?_
      refine wpL_rg ?_
      refine pM (.int _ _) ?_
      refine pM (.str _) ?_
      refine pLen tS9 ?_
      refine pBi ?_
      refine pE ?_
      refine gn ?_
      refine wpL_cd (b := decide (x1 < (aS0.size : Int))) (fun hb => ?_) (fun hb => ?_)
      · replace hk := ct hb hk
        refine wpL_sk ?_
        refine gn ?_
        refine wpL_sq ?_
        refine wpL_bl ?_
        refine wpL_sq ?_
        refine wpL_rg ?_
        refine pM (.str _) ?_
        refine pM (.int _ _) ?_
        obtain ⟨c2, hc2, hk⟩ := bs hk
        refine pIx Try.underlying9 hc2 ?_
        refine pA (.int _ _) ?_
        refine pE ?_
        refine gn ?_
        refine wpL_sq ?_
        refine wpL_rg ?_
        refine pM (.int _ _) ?_
        refine pBi ?_
        refine pM (.bool _) ?_
        refine wpR_mid (l1 := [_, _, _]) (fun S' => ∃ J, S' = ⟨hav [(0, .str aS0), (3, .int .i64 x1), (4, .int .u8 c2), (27, .bool (decide (c2 ≥ (97:Int)) && decide (c2 ≤ (122:Int))))] J, G⟩) ?_ ?_
        · refine bc (b := decide (c2 ≥ (97:Int))) (fun hg1 => ?_) (fun hg1 => ?_)
          · refine pGy hg1 ?_
            refine pM (.int _ _) ?_
            refine pGy hg1 ?_
            refine pBi ?_
            refine pPt hg1 (.bool _) ?_
            exact pE ⟨_, St.hav _ ⟨rfl, rfl, rfl, by rw [hg1]; rfl, trivial⟩⟩
          · refine pGn hg1 ?_
            refine pGn hg1 ?_
            refine pPf hg1 (.bool _) ?_
            exact pE ⟨_, St.hav _ ⟨rfl, rfl, rfl, by rw [hg1]; rfl, trivial⟩⟩
        · rintro _ ⟨J, rfl⟩
          refine pM (.bool _) ?_
          refine wpR_mid (l1 := [_, _, _, _, _, _, _]) (fun S' => ∃ J, S' = ⟨hav [(0, .str aS0), (3, .int .i64 x1), (4, .int .u8 c2), (35, .bool ((decide (c2 ≥ (97:Int)) && decide (c2 ≤ (122:Int))) || (decide (c2 ≥ (48:Int)) && decide (c2 ≤ (57:Int)))))] J, G⟩) ?_ ?_
          · refine bc (b := (decide (c2 ≥ (97:Int)) && decide (c2 ≤ (122:Int)))) (fun hg1 => ?_) (fun hg1 => ?_)
            · refine pGn hg1 ?_
              refine pGn hg1 ?_
              refine pGn hg1 ?_
              refine pGu ?_
              refine pGu ?_
              refine pGn hg1 ?_
              refine pPt hg1 (.bool _) ?_
              exact pE ⟨_, St.hav _ ⟨rfl, rfl, rfl, by rw [hg1]; rfl, trivial⟩⟩
            · refine pGy hg1 ?_
              refine pM (.int _ _) ?_
              refine pGy hg1 ?_
              refine pBi ?_
              refine pGy hg1 ?_
              refine pM (.bool _) ?_
              refine wpR_mid (l1 := [_, _, _]) (fun S' => ∃ J, S' = ⟨hav [(0, .str aS0), (3, .int .i64 x1), (4, .int .u8 c2), (28, .bool (decide (c2 ≥ (97:Int)) && decide (c2 ≤ (122:Int)))), (34, .bool (decide (c2 ≥ (48:Int)) && decide (c2 ≤ (57:Int))))] J, G⟩) ?_ ?_
              · refine bc (b := decide (c2 ≥ (48:Int))) (fun hg2 => ?_) (fun hg2 => ?_)
                · refine pGy hg2 ?_
                  refine pM (.int _ _) ?_
                  refine pGy hg2 ?_
                  refine pBi ?_
                  refine pGy hg1 ?_
                  refine pPt hg2 (.bool _) ?_
                  exact pE ⟨_, St.hav _ ⟨rfl, rfl, rfl, rfl, by rw [hg2]; rfl, trivial⟩⟩
                · refine pGn hg2 ?_
                  refine pGn hg2 ?_
                  refine pGy hg1 ?_
                  refine pPf hg2 (.bool _) ?_
                  exact pE ⟨_, St.hav _ ⟨rfl, rfl, rfl, rfl, by rw [hg2]; rfl, trivial⟩⟩
              · rintro _ ⟨J, rfl⟩
                refine pPf hg1 (.bool _) ?_
                exact pE ⟨_, St.hav _ ⟨rfl, rfl, rfl, by rw [hg1]; rfl, trivial⟩⟩
          · rintro _ ⟨J, rfl⟩
            refine pM (.bool _) ?_
            refine wpR_mid (l1 := [_, _, _]) (fun S' => ∃ J, S' = ⟨hav [(0, .str aS0), (3, .int .i64 x1), (39, .bool (((decide (c2 ≥ (97:Int)) && decide (c2 ≤ (122:Int))) || (decide (c2 ≥ (48:Int)) && decide (c2 ≤ (57:Int)))) || (c2 == (95:Int))))] J, G⟩) ?_ ?_
            · refine bc (b := ((decide (c2 ≥ (97:Int)) && decide (c2 ≤ (122:Int))) || (decide (c2 ≥ (48:Int)) && decide (c2 ≤ (57:Int))))) (fun hg1 => ?_) (fun hg1 => ?_)
              · refine pGn hg1 ?_
                refine pGn hg1 ?_
                refine pPt hg1 (.bool _) ?_
                exact pE ⟨_, St.hav _ ⟨rfl, rfl, by rw [hg1]; rfl, trivial⟩⟩
              · refine pGy hg1 ?_
                refine pM (.int _ _) ?_
                refine pGy hg1 ?_
                refine pBi ?_
                refine pPf hg1 (.bool _) ?_
                exact pE ⟨_, St.hav _ ⟨rfl, rfl, by rw [hg1]; rfl, trivial⟩⟩
            · rintro _ ⟨J, rfl⟩
              refine pU ?_
              refine pE ?_
              refine gn ?_
              refine wpL_cd (b := !(((decide (c2 ≥ (97:Int)) && decide (c2 ≤ (122:Int))) || (decide (c2 ≥ (48:Int)) && decide (c2 ≤ (57:Int)))) || (c2 == (95:Int)))) (fun hb => ?_) (fun hb => ?_)
              · replace hk := ct hb hk
                refine wpL_sq ?_
                refine wpL_rg ?_
                refine pA (.bool _) ?_
                refine pE ?_
                refine gn ?_
                refine wpL_rt ?_
                refine br (gr (gr (br (gr ?_))))
                replace hk := lx hx1 hk
                cases hk; exact fin0 hO
              · replace hk := cf hb hk
                refine wpL_sk ?_
                refine bn (gn ?_)
                refine wpL_rg ?_
                refine pM (.int _ _) ?_
                refine pBi ?_
                refine pA (.int _ _) ?_
                refine pE ?_
                refine gn ?_
                cases hk; exact ⟨_, rfl, _, _, hO, St.hav _ ⟨rfl, rfl, trivial⟩⟩
      · replace hk := cf hb hk
        refine wpL_ex ?_
        refine ge (ge (be (gn ?_)))
        replace hk := lx hx1 hk
        refine wpL_sq ?_
        refine wpL_rg ?_
        refine pA (.bool _) ?_
        refine pE ?_
        refine gn ?_
        refine wpL_rt ?_
        cases hk; exact fin0 hO
/-- impl.pieceOk -/
def f92 (aP0 : Piece) : Option Bool :=
  ((f93 aP0.Name).bind fun v2 => some ((((((v2 && decide (aP0.Len ≥ (1:Int))) && decide (aP0.Len ≤ (10000000:Int))) && decide (aP0.Speed ≥ (1:Int))) && decide (aP0.Speed ≤ (10000:Int))) && decide (aP0.Brake ≥ (1:Int))) && decide (aP0.Brake ≤ (1000:Int))))
theorem f92_run {aP0 : Piece} {r : Bool} {H : Heap} {lk : Lk} (hk : f92 aP0 = some r) (hlk : 0 < lk.length := by simp) : runL Try.prog hh 92 [.agg [.str aP0.Name, .int .i64 aP0.Len, .int .i64 aP0.Speed, .int .i64 aP0.Brake]] H lk = some (.bool r, H) := by
  refine run_start Try.func92 rfl Try.ntmps92 Try.results92 rfl rfl fun hO => ?_
  unfold f92 at hk
  refine wpL_sq ?_
  refine wpL_rg ?_
  refine pBox (cs := [_, _, _, _]) hO tZ157 (fun b1 G hO => ?_)
  refine pA (.bool _) ?_
  refine pE ?_
  refine gn ?_
  refine wpL_sq ?_
  refine wpL_rg ?_
  refine pF tF157_0 ?_
  refine pLo hO 0 (.str _) tA9 ?_
  obtain ⟨v2, hv2, hk⟩ := bs hk
  refine pCall (fun _ => f93_run hv2) ?_
  refine pM (.bool _) ?_
  refine wpR_mid (l1 := [_, _, _, _]) (fun S' => ∃ J, S' = ⟨hav [(1, .ptr b1 0), (10, .bool (v2 && decide (aP0.Len ≥ (1:Int))))] J, G⟩) ?_ ?_
  · refine bc (b := v2) (fun hg1 => ?_) (fun hg1 => ?_)
    · refine pGy hg1 ?_
      refine pF tF157_1 ?_
      refine pGy hg1 ?_
      refine pLo hO 0 (.int _ _) tA3 ?_
      refine pGy hg1 ?_
      refine pBi ?_
      refine pPt hg1 (.bool _) ?_
      exact pE ⟨_, St.hav _ ⟨rfl, by rw [hg1]; rfl, trivial⟩⟩
    · refine pGn hg1 ?_
      refine pGn hg1 ?_
      refine pGn hg1 ?_
      refine pPf hg1 (.bool _) ?_
      exact pE ⟨_, St.hav _ ⟨rfl, by rw [hg1]; rfl, trivial⟩⟩
  · rintro _ ⟨J, rfl⟩
    refine pM (.bool _) ?_
    refine wpR_mid (l1 := [_, _, _, _]) (fun S' => ∃ J, S' = ⟨hav [(1, .ptr b1 0), (15, .bool ((v2 && decide (aP0.Len ≥ (1:Int))) && decide (aP0.Len ≤ (10000000:Int))))] J, G⟩) ?_ ?_
    · refine bc (b := (v2 && decide (aP0.Len ≥ (1:Int)))) (fun hg1 => ?_) (fun hg1 => ?_)
      · refine pGy hg1 ?_
        refine pF tF157_1 ?_
        refine pGy hg1 ?_
        refine pLo hO 0 (.int _ _) tA3 ?_
        refine pGy hg1 ?_
        refine pBi ?_
        refine pPt hg1 (.bool _) ?_
        exact pE ⟨_, St.hav _ ⟨rfl, by rw [hg1]; rfl, trivial⟩⟩
      · refine pGn hg1 ?_
        refine pGn hg1 ?_
        refine pGn hg1 ?_
        refine pPf hg1 (.bool _) ?_
        exact pE ⟨_, St.hav _ ⟨rfl, by rw [hg1]; rfl, trivial⟩⟩
    · rintro _ ⟨J, rfl⟩
      refine pM (.bool _) ?_
      refine wpR_mid (l1 := [_, _, _, _]) (fun S' => ∃ J, S' = ⟨hav [(1, .ptr b1 0), (20, .bool (((v2 && decide (aP0.Len ≥ (1:Int))) && decide (aP0.Len ≤ (10000000:Int))) && decide (aP0.Speed ≥ (1:Int))))] J, G⟩) ?_ ?_
      · refine bc (b := ((v2 && decide (aP0.Len ≥ (1:Int))) && decide (aP0.Len ≤ (10000000:Int)))) (fun hg1 => ?_) (fun hg1 => ?_)
        · refine pGy hg1 ?_
          refine pF tF157_2 ?_
          refine pGy hg1 ?_
          refine pLo hO 0 (.int _ _) tA3 ?_
          refine pGy hg1 ?_
          refine pBi ?_
          refine pPt hg1 (.bool _) ?_
          exact pE ⟨_, St.hav _ ⟨rfl, by rw [hg1]; rfl, trivial⟩⟩
        · refine pGn hg1 ?_
          refine pGn hg1 ?_
          refine pGn hg1 ?_
          refine pPf hg1 (.bool _) ?_
          exact pE ⟨_, St.hav _ ⟨rfl, by rw [hg1]; rfl, trivial⟩⟩
      · rintro _ ⟨J, rfl⟩
        refine pM (.bool _) ?_
        refine wpR_mid (l1 := [_, _, _, _]) (fun S' => ∃ J, S' = ⟨hav [(1, .ptr b1 0), (25, .bool ((((v2 && decide (aP0.Len ≥ (1:Int))) && decide (aP0.Len ≤ (10000000:Int))) && decide (aP0.Speed ≥ (1:Int))) && decide (aP0.Speed ≤ (10000:Int))))] J, G⟩) ?_ ?_
        · refine bc (b := (((v2 && decide (aP0.Len ≥ (1:Int))) && decide (aP0.Len ≤ (10000000:Int))) && decide (aP0.Speed ≥ (1:Int)))) (fun hg1 => ?_) (fun hg1 => ?_)
          · refine pGy hg1 ?_
            refine pF tF157_2 ?_
            refine pGy hg1 ?_
            refine pLo hO 0 (.int _ _) tA3 ?_
            refine pGy hg1 ?_
            refine pBi ?_
            refine pPt hg1 (.bool _) ?_
            exact pE ⟨_, St.hav _ ⟨rfl, by rw [hg1]; rfl, trivial⟩⟩
          · refine pGn hg1 ?_
            refine pGn hg1 ?_
            refine pGn hg1 ?_
            refine pPf hg1 (.bool _) ?_
            exact pE ⟨_, St.hav _ ⟨rfl, by rw [hg1]; rfl, trivial⟩⟩
        · rintro _ ⟨J, rfl⟩
          refine pM (.bool _) ?_
          refine wpR_mid (l1 := [_, _, _, _]) (fun S' => ∃ J, S' = ⟨hav [(1, .ptr b1 0), (30, .bool (((((v2 && decide (aP0.Len ≥ (1:Int))) && decide (aP0.Len ≤ (10000000:Int))) && decide (aP0.Speed ≥ (1:Int))) && decide (aP0.Speed ≤ (10000:Int))) && decide (aP0.Brake ≥ (1:Int))))] J, G⟩) ?_ ?_
          · refine bc (b := ((((v2 && decide (aP0.Len ≥ (1:Int))) && decide (aP0.Len ≤ (10000000:Int))) && decide (aP0.Speed ≥ (1:Int))) && decide (aP0.Speed ≤ (10000:Int)))) (fun hg1 => ?_) (fun hg1 => ?_)
            · refine pGy hg1 ?_
              refine pF tF157_3 ?_
              refine pGy hg1 ?_
              refine pLo hO 0 (.int _ _) tA3 ?_
              refine pGy hg1 ?_
              refine pBi ?_
              refine pPt hg1 (.bool _) ?_
              exact pE ⟨_, St.hav _ ⟨rfl, by rw [hg1]; rfl, trivial⟩⟩
            · refine pGn hg1 ?_
              refine pGn hg1 ?_
              refine pGn hg1 ?_
              refine pPf hg1 (.bool _) ?_
              exact pE ⟨_, St.hav _ ⟨rfl, by rw [hg1]; rfl, trivial⟩⟩
          · rintro _ ⟨J, rfl⟩
            refine pM (.bool _) ?_
            refine wpR_mid (l1 := [_, _, _, _]) (fun S' => ∃ J, S' = ⟨hav [(35, .bool ((((((v2 && decide (aP0.Len ≥ (1:Int))) && decide (aP0.Len ≤ (10000000:Int))) && decide (aP0.Speed ≥ (1:Int))) && decide (aP0.Speed ≤ (10000:Int))) && decide (aP0.Brake ≥ (1:Int))) && decide (aP0.Brake ≤ (1000:Int))))] J, G⟩) ?_ ?_
            · refine bc (b := (((((v2 && decide (aP0.Len ≥ (1:Int))) && decide (aP0.Len ≤ (10000000:Int))) && decide (aP0.Speed ≥ (1:Int))) && decide (aP0.Speed ≤ (10000:Int))) && decide (aP0.Brake ≥ (1:Int)))) (fun hg1 => ?_) (fun hg1 => ?_)
              · refine pGy hg1 ?_
                refine pF tF157_3 ?_
                refine pGy hg1 ?_
                refine pLo hO 0 (.int _ _) tA3 ?_
                refine pGy hg1 ?_
                refine pBi ?_
                refine pPt hg1 (.bool _) ?_
                exact pE ⟨_, St.hav _ ⟨by rw [hg1]; rfl, trivial⟩⟩
              · refine pGn hg1 ?_
                refine pGn hg1 ?_
                refine pGn hg1 ?_
                refine pPf hg1 (.bool _) ?_
                exact pE ⟨_, St.hav _ ⟨by rw [hg1]; rfl, trivial⟩⟩
            · rintro _ ⟨J, rfl⟩
              refine pA (.bool _) ?_
              refine pE ?_
              refine gn ?_
              refine wpL_rt ?_
              cases hk; exact fin0 hO
/-- impl.NetOk -/
def f26_L3 (aN0 : Net) (x9 : Int) (c10 : Joint) : Int → Option (Int ⊕ (Int ⊕ Fault)) := fun s =>
  (bif decide (s < (c10.Ends.length : Int)) then ((getI c10.Ends s).bind fun c13 => (bif (((decide (c13.Piece < (0:Int)) || decide (c13.Piece ≥ (aN0.Pieces.length : Int))) || decide (c13.Side < (0:Int))) || decide (c13.Side > (1:Int))) then (((some ({ Code := (3:Int), At := x9 } : Fault)).map Sum.inr).map Sum.inr) else some (.inl (w64 (s + (1:Int)))))) else ((some (.inl (w64 (x9 + (1:Int))))).map Sum.inr))
def f26_k5 (x17 : Int) (x18 : List (ByteArray × Bool)) : Option (((List (ByteArray × Bool)) × Int) ⊕ Fault) :=
  some (.inl (x18, w64 (x17 + (1:Int))))
def f26_L7 (x24 : Int) (c25 : Joint) : ((List (End × Int)) × Int) → Option (((List (End × Int)) × Int) ⊕ (((List (End × Int)) × Int) ⊕ Fault)) := fun s =>
  (bif decide (s.2 < (c25.Ends.length : Int)) then ((getI c25.Ends s.2).bind fun c29 => some (.inl (mset c29 (w64 ((mget c29 s.1 0) + (1:Int))) s.1, w64 (s.2 + (1:Int))))) else ((some (.inl (s.1, w64 (x24 + (1:Int))))).map Sum.inr))
def f26_L8 (aN0 : Net) (x23 : List (End × Int)) : Int → Option (Int ⊕ Fault) := fun s =>
  (bif decide (s < (aN0.Pieces.length : Int)) then (bif (((mget ({ Piece := s, Side := (0:Int) } : End) x23 0) != (1:Int)) || ((mget ({ Piece := s, Side := (1:Int) } : End) x23 0) != (1:Int))) then ((some ({ Code := (5:Int), At := s } : Fault)).map Sum.inr) else some (.inl (w64 (s + (1:Int))))) else ((some ({ Code := 0, At := 0 } : Fault)).map Sum.inr))
def f26_L6 (aN0 : Net) : ((List (End × Int)) × Int) → Option (((List (End × Int)) × Int) ⊕ Fault) := fun s =>
  (bif decide (s.2 < (aN0.Joints.length : Int)) then ((getI aN0.Joints s.2).bind fun c25 => (loopO (f26_L7 s.2 c25) (s.1, (0:Int)))) else ((loopO (f26_L8 aN0 s.1) ((0:Int))).map Sum.inr))
def f26_L4 (aN0 : Net) : ((List (ByteArray × Bool)) × Int) → Option (((List (ByteArray × Bool)) × Int) ⊕ Fault) := fun s =>
  (bif decide (s.2 < (aN0.Joints.length : Int)) then ((getI aN0.Joints s.2).bind fun c19 => (bif decide (c19.Kind ≤ (2:Int)) then (bif !(c19.Name.toList == ({ data := #[] } : ByteArray).toList) then ((some ({ Code := (4:Int), At := s.2 } : Fault)).map Sum.inr) else (f26_k5 s.2 s.1)) else ((f93 c19.Name).bind fun v21 => (bif (!v21 || (mget c19.Name s.1 false)) then ((some ({ Code := (4:Int), At := s.2 } : Fault)).map Sum.inr) else (f26_k5 s.2 (mset c19.Name true s.1)))))) else ((loopO (f26_L6 aN0) (([] : List (End × Int)), (0:Int))).map Sum.inr))
def f26_L2 (aN0 : Net) : Int → Option (Int ⊕ Fault) := fun s =>
  (bif decide (s < (aN0.Joints.length : Int)) then ((getI aN0.Joints s).bind fun c10 => (bif ((decide (c10.Kind < (1:Int)) || decide (c10.Kind > (4:Int))) || ((c10.Ends.length : Int) != c10.Kind)) then ((some ({ Code := (3:Int), At := s } : Fault)).map Sum.inr) else (loopO (f26_L3 aN0 s c10) ((0:Int))))) else ((loopO (f26_L4 aN0) (([] : List (ByteArray × Bool)), (0:Int))).map Sum.inr))
def f26_L1 (aN0 : Net) : ((List (ByteArray × Bool)) × Int) → Option (((List (ByteArray × Bool)) × Int) ⊕ Fault) := fun s =>
  (bif decide (s.2 < (aN0.Pieces.length : Int)) then ((getI aN0.Pieces s.2).bind fun c6 => ((f92 c6).bind fun v8 => (bif (!v8 || (mget c6.Name s.1 false)) then ((some ({ Code := (2:Int), At := s.2 } : Fault)).map Sum.inr) else some (.inl (mset c6.Name true s.1, w64 (s.2 + (1:Int))))))) else ((loopO (f26_L2 aN0) ((0:Int))).map Sum.inr))
def f26 (aN0 : Net) : Option Fault :=
  (bif ((((aN0.Pieces.length : Int) == (0:Int)) || decide ((aN0.Pieces.length : Int) > (100:Int))) || decide ((aN0.Joints.length : Int) > (120:Int))) then some ({ Code := (1:Int), At := (0:Int) } : Fault) else (loopO (f26_L1 aN0) (([] : List (ByteArray × Bool)), (0:Int))))
theorem f26_run {aN0 : Net} {r : Fault} {l1 l2 : Nat} {H : Heap} {lk : Lk} (hk : f26 aN0 = some r) (hlk : 0 < lk.length := by simp) : runL Try.prog hh 26 [.agg [.lit l1 aN0.Pieces.length (flat aN0.Pieces), .lit l2 aN0.Joints.length (flat aN0.Joints)]] H lk = some (.agg [.int .i64 r.Code, .int .i64 r.At], H) := by
  refine run_start Try.func26 rfl Try.ntmps26 Try.results26 rfl rfl fun hO => ?_
  unfold f26 at hk
  refine wpL_sq ?_
  refine wpL_rg ?_
  refine pBox (cs := [_, _]) hO tZ54 (fun b1 G hO => ?_)
  refine pNew hO tZ49 t049 (fun b2 G hO => ?_)
  refine pE ?_
  refine gn ?_
  refine wpL_sq ?_
  refine wpL_sq ?_
  refine wpL_rg ?_
  refine pF tF54_0 ?_
  refine pLo hO 1 (.lit _ _ _) tA51 ?_
  refine pLen tS51 ?_
  refine pBi ?_
  refine pM (.bool _) ?_
  refine wpR_mid (l1 := [_, _, _, _, _]) (fun S' => ∃ J, S' = ⟨hav [(1, .ptr b1 0), (2, .ptr b2 0), (27, .bool (((aN0.Pieces.length : Int) == (0:Int)) || decide ((aN0.Pieces.length : Int) > (100:Int))))] J, G⟩) ?_ ?_
  · refine bc (b := ((aN0.Pieces.length : Int) == (0:Int))) (fun hg1 => ?_) (fun hg1 => ?_)
    · refine pGn hg1 ?_
      refine pGn hg1 ?_
      refine pGn hg1 ?_
      refine pGn hg1 ?_
      refine pPt hg1 (.bool _) ?_
      exact pE ⟨_, St.hav _ ⟨rfl, rfl, by rw [hg1]; rfl, trivial⟩⟩
    · refine pGy hg1 ?_
      refine pF tF54_0 ?_
      refine pGy hg1 ?_
      refine pLo hO 1 (.lit _ _ _) tA51 ?_
      refine pGy hg1 ?_
      refine pLen tS51 ?_
      refine pGy hg1 ?_
      refine pBi ?_
      refine pPf hg1 (.bool _) ?_
      exact pE ⟨_, St.hav _ ⟨rfl, rfl, by rw [hg1]; rfl, trivial⟩⟩
  · rintro _ ⟨J, rfl⟩
    refine pM (.bool _) ?_
    refine wpR_mid (l1 := [_, _, _, _, _]) (fun S' => ∃ J, S' = ⟨hav [(1, .ptr b1 0), (2, .ptr b2 0), (33, .bool ((((aN0.Pieces.length : Int) == (0:Int)) || decide ((aN0.Pieces.length : Int) > (100:Int))) || decide ((aN0.Joints.length : Int) > (120:Int))))] J, G⟩) ?_ ?_
    · refine bc (b := (((aN0.Pieces.length : Int) == (0:Int)) || decide ((aN0.Pieces.length : Int) > (100:Int)))) (fun hg1 => ?_) (fun hg1 => ?_)
      · refine pGn hg1 ?_
        refine pGn hg1 ?_
        refine pGn hg1 ?_
        refine pGn hg1 ?_
        refine pPt hg1 (.bool _) ?_
        exact pE ⟨_, St.hav _ ⟨rfl, rfl, by rw [hg1]; rfl, trivial⟩⟩
      · refine pGy hg1 ?_
        refine pF tF54_1 ?_
        refine pGy hg1 ?_
        refine pLo hO 1 (.lit _ _ _) tA52 ?_
        refine pGy hg1 ?_
        refine pLen tS52 ?_
        refine pGy hg1 ?_
        refine pBi ?_
        refine pPf hg1 (.bool _) ?_
        exact pE ⟨_, St.hav _ ⟨rfl, rfl, by rw [hg1]; rfl, trivial⟩⟩
    · rintro _ ⟨J, rfl⟩
      refine pE ?_
      refine gn ?_
      refine wpL_cd (b := ((((aN0.Pieces.length : Int) == (0:Int)) || decide ((aN0.Pieces.length : Int) > (100:Int))) || decide ((aN0.Joints.length : Int) > (120:Int)))) (fun hb => ?_) (fun hb => ?_)
      · replace hk := ct hb hk
        refine wpL_sq ?_
        refine wpL_rg ?_
        refine pBd [_, _] t049 tP49 ?_
        refine pSt (xs := [_, _]) hO 0 tZ49 rfl (fun G hO => ?_)
        refine pE ?_
        refine gn ?_
        refine wpL_rt ?_
        refine gr ?_
        cases hk; exact finZ hO (fz_agg (n := 2) (fz_c (fz_int _ _) (fz_c (fz_int _ _) (fz_n)))) (resS hO 0 [_, _] tA49 tZ49 resN)
      · replace hk := cf hb hk
        refine wpL_sk ?_
        refine gn ?_
        refine wpL_sq ?_
        refine wpL_rg ?_
        refine pMm ByteArray Bool hO (fun b3 G hO => ?_)
        refine pA (.mref _) ?_
        refine pE ?_
        refine gn ?_
        refine wpL_sq ?_
        refine wpL_sq ?_
        refine wpL_rg ?_
        refine pF tF54_0 ?_
        refine pLo hO 2 (.lit _ _ _) tA51 ?_
        refine pLen tS51 ?_
        refine pM (.int _ _) ?_
        refine pE ?_
        refine gn ?_
        refine wpL_bl ?_
        refine wpL_loopO (F := f26_L1 aN0) (fun s S' => ∃ (J : Nat → V) (G : Heap), Owns H G [.blk b3 (.mp (kvs s.1)), .blk b2 (.cells 2 [.int .i64 0, .int .i64 0]), .blk b1 (.cells 2 [.lit l1 aN0.Pieces.length (flat aN0.Pieces), .lit l2 aN0.Joints.length (flat aN0.Joints)])] ∧ S' = ⟨hav [(1, .ptr b1 0), (2, .ptr b2 0), (3, .mref b3), (37, .lit l1 aN0.Pieces.length (flat aN0.Pieces)), (38, .int .i64 (aN0.Pieces.length : Int)), (39, .int .i64 s.2)] J, G⟩) hk ⟨_, _, hO, St.hav _ ⟨rfl, rfl, rfl, rfl, rfl, rfl, trivial⟩⟩ ?_
        rintro ⟨x4, x5⟩ _ y1 ⟨J, G, hO, rfl⟩ hk hx1
        refine wpL_sq ?_
        refine wpL_rg ?_
        refine pBi ?_
        refine pE ?_
        refine gn ?_
        refine wpL_sq ?_
        refine wpL_cd (b := decide (x5 < (aN0.Pieces.length : Int))) (fun hb => ?_) (fun hb => ?_)
        · replace hk := ct hb hk
          refine wpL_sk ?_
          refine gn ?_
          refine wpL_sq ?_
          refine wpL_bl ?_
          refine wpL_sq ?_
          refine wpL_rg ?_
          refine pM (.int _ _) ?_
          obtain ⟨c6, hc6, hk⟩ := bs hk
          refine pX hc6 tE51 tZ157 ?_
          refine pLp (.agg [_, _, _, _]) (rd2 (off := 0) hc6 tA157 tZ157) ?_
          refine pNew hO tZ157 t0157 (fun b7 G hO => ?_)
          refine pA (.int _ _) ?_
          refine pSt (xs := [_, _, _, _]) hO 0 tZ157 rfl (fun G hO => ?_)
          refine pE ?_
          refine gn ?_
          refine wpL_sq ?_
          refine wpL_sq ?_
          refine wpL_rg ?_
          refine pLs hO 0 [_, _, _, _] tA157 tZ157 ?_
          obtain ⟨v8, hv8, hk⟩ := bs hk
          refine pCall (fun _ => f92_run hv8) ?_
          refine pU ?_
          refine pM (.bool _) ?_
          refine wpR_mid (l1 := [_, _, _, _, _]) (fun S' => ∃ J, S' = ⟨hav [(1, .ptr b1 0), (2, .ptr b2 0), (3, .mref b3), (4, .int .i64 x5), (5, .ptr b7 0), (37, .lit l1 aN0.Pieces.length (flat aN0.Pieces)), (38, .int .i64 (aN0.Pieces.length : Int)), (39, .int .i64 x5), (52, .bool (!v8 || (mget c6.Name x4 false)))] J, G⟩) ?_ ?_
          · refine bc (b := !v8) (fun hg1 => ?_) (fun hg1 => ?_)
            · refine pGn hg1 ?_
              refine pGn hg1 ?_
              refine pGn hg1 ?_
              refine pGn hg1 ?_
              refine pPt hg1 (.bool _) ?_
              exact pE ⟨_, St.hav _ ⟨rfl, rfl, rfl, rfl, rfl, rfl, rfl, rfl, by rw [hg1]; rfl, trivial⟩⟩
            · refine pGy hg1 ?_
              refine pM (.mref _) ?_
              refine pGy hg1 ?_
              refine pF tF157_0 ?_
              refine pGy hg1 ?_
              refine pLo hO 0 (.str _) tA9 ?_
              refine pGy hg1 ?_
              refine pLk c6.Name (false : Bool) (hO.get (k := 1) rfl).1 tM165 fit_str tY4 ?_
              refine pPf hg1 (.bool _) ?_
              exact pE ⟨_, St.hav _ ⟨rfl, rfl, rfl, rfl, rfl, rfl, rfl, rfl, by rw [hg1]; rfl, trivial⟩⟩
          · rintro _ ⟨J, rfl⟩
            refine pE ?_
            refine gn ?_
            refine wpL_cd (b := (!v8 || (mget c6.Name x4 false))) (fun hb => ?_) (fun hb => ?_)
            · replace hk := ct hb hk
              refine wpL_sq ?_
              refine wpL_rg ?_
              refine pM (.int _ _) ?_
              refine pBd [_, _] t049 tP49 ?_
              refine pSt (xs := [_, _]) hO 2 tZ49 rfl (fun G hO => ?_)
              refine pE ?_
              refine gn ?_
              refine wpL_rt ?_
              refine gr (br (gr (gr (br (gr ?_)))))
              replace hk := lx hx1 hk
              cases hk; exact finZ hO (fz_agg (n := 2) (fz_c (fz_int _ _) (fz_c (fz_int _ _) (fz_n)))) (resS hO 2 [_, _] tA49 tZ49 resN)
            · replace hk := cf hb hk
              refine wpL_sk ?_
              refine gn ?_
              refine wpL_rg ?_
              refine pM (.mref _) ?_
              refine pF tF157_0 ?_
              refine pLo hO 0 (.str _) tA9 ?_
              refine pUp hO 1 c6.Name true tM165 fit_str rfl (fun G hO => ?_)
              refine pE ?_
              refine bn (gn ?_)
              refine wpL_rg ?_
              refine pBi ?_
              refine pM (.int _ _) ?_
              refine pE ?_
              refine gn ?_
              cases hk; exact ⟨_, rfl, _, _, (Owns.pick hO [1, 2, 3] (by decide) rfl), St.hav _ ⟨rfl, rfl, rfl, rfl, rfl, rfl, trivial⟩⟩
        · replace hk := cf hb hk
          refine wpL_ex ?_
          refine ge (ge (be (gn ?_)))
          replace hk := lx hx1 hk
          refine wpL_sq ?_
          refine wpL_sq ?_
          refine wpL_rg ?_
          refine pF tF54_1 ?_
          refine pLo hO 2 (.lit _ _ _) tA52 ?_
          refine pLen tS52 ?_
          refine pM (.int _ _) ?_
          refine pE ?_
          refine gn ?_
          refine wpL_bl ?_
          refine wpL_loopO (F := f26_L2 aN0) (fun s S' => ∃ (J : Nat → V) (G : Heap), Owns H G [.blk b2 (.cells 2 [.int .i64 0, .int .i64 0]), .blk b1 (.cells 2 [.lit l1 aN0.Pieces.length (flat aN0.Pieces), .lit l2 aN0.Joints.length (flat aN0.Joints)])] ∧ S' = ⟨hav [(1, .ptr b1 0), (2, .ptr b2 0), (60, .lit l2 aN0.Joints.length (flat aN0.Joints)), (61, .int .i64 (aN0.Joints.length : Int)), (62, .int .i64 s)] J, G⟩) hk ⟨_, _, (Owns.pick hO [1, 2] (by decide) rfl), St.hav _ ⟨rfl, rfl, rfl, rfl, rfl, trivial⟩⟩ ?_
          rintro x9 _ y1 ⟨J, G, hO, rfl⟩ hk hx1
          refine wpL_sq ?_
          refine wpL_rg ?_
          refine pBi ?_
          refine pE ?_
          refine gn ?_
          refine wpL_sq ?_
          refine wpL_cd (b := decide (x9 < (aN0.Joints.length : Int))) (fun hb => ?_) (fun hb => ?_)
          · replace hk := ct hb hk
            refine wpL_sk ?_
            refine gn ?_
            refine wpL_sq ?_
            refine wpL_bl ?_
            refine wpL_sq ?_
            refine wpL_rg ?_
            refine pM (.int _ _) ?_
            obtain ⟨c10, hc10, hk⟩ := bs hk
            refine pX hc10 tE52 tZ169 ?_
            refine pLp (.agg [_, _, _]) (rd2 (off := 0) hc10 tA169 tZ169) ?_
            refine pNew hO tZ169 t0169 (fun b11 G hO => ?_)
            refine pA (.int _ _) ?_
            refine pSt (xs := [_, _, _]) hO 0 tZ169 rfl (fun G hO => ?_)
            refine pE ?_
            refine gn ?_
            refine wpL_sq ?_
            refine wpL_sq ?_
            refine wpL_rg ?_
            refine pF tF169_0 ?_
            refine pLo hO 0 (.int _ _) tA3 ?_
            refine pBi ?_
            refine pM (.bool _) ?_
            refine wpR_mid (l1 := [_, _, _, _]) (fun S' => ∃ J, S' = ⟨hav [(1, .ptr b1 0), (2, .ptr b2 0), (6, .int .i64 x9), (7, .ptr b11 0), (60, .lit l2 aN0.Joints.length (flat aN0.Joints)), (61, .int .i64 (aN0.Joints.length : Int)), (62, .int .i64 x9), (74, .bool (decide (c10.Kind < (1:Int)) || decide (c10.Kind > (4:Int))))] J, G⟩) ?_ ?_
            · refine bc (b := decide (c10.Kind < (1:Int))) (fun hg1 => ?_) (fun hg1 => ?_)
              · refine pGn hg1 ?_
                refine pGn hg1 ?_
                refine pGn hg1 ?_
                refine pPt hg1 (.bool _) ?_
                exact pE ⟨_, St.hav _ ⟨rfl, rfl, rfl, rfl, rfl, rfl, rfl, by rw [hg1]; rfl, trivial⟩⟩
              · refine pGy hg1 ?_
                refine pF tF169_0 ?_
                refine pGy hg1 ?_
                refine pLo hO 0 (.int _ _) tA3 ?_
                refine pGy hg1 ?_
                refine pBi ?_
                refine pPf hg1 (.bool _) ?_
                exact pE ⟨_, St.hav _ ⟨rfl, rfl, rfl, rfl, rfl, rfl, rfl, by rw [hg1]; rfl, trivial⟩⟩
            · rintro _ ⟨J, rfl⟩
              refine pM (.bool _) ?_
              refine wpR_mid (l1 := [_, _, _, _, _, _, _]) (fun S' => ∃ J, S' = ⟨hav [(1, .ptr b1 0), (2, .ptr b2 0), (6, .int .i64 x9), (7, .ptr b11 0), (60, .lit l2 aN0.Joints.length (flat aN0.Joints)), (61, .int .i64 (aN0.Joints.length : Int)), (62, .int .i64 x9), (82, .bool ((decide (c10.Kind < (1:Int)) || decide (c10.Kind > (4:Int))) || ((c10.Ends.length : Int) != c10.Kind)))] J, G⟩) ?_ ?_
              · refine bc (b := (decide (c10.Kind < (1:Int)) || decide (c10.Kind > (4:Int)))) (fun hg1 => ?_) (fun hg1 => ?_)
                · refine pGn hg1 ?_
                  refine pGn hg1 ?_
                  refine pGn hg1 ?_
                  refine pGn hg1 ?_
                  refine pGn hg1 ?_
                  refine pGn hg1 ?_
                  refine pPt hg1 (.bool _) ?_
                  exact pE ⟨_, St.hav _ ⟨rfl, rfl, rfl, rfl, rfl, rfl, rfl, by rw [hg1]; rfl, trivial⟩⟩
                · refine pGy hg1 ?_
                  refine pF tF169_2 ?_
                  refine pGy hg1 ?_
                  refine pLo hO 0 (.lit _ _ _) tA167 ?_
                  refine pGy hg1 ?_
                  refine pLen tS167 ?_
                  refine pGy hg1 ?_
                  refine pF tF169_0 ?_
                  refine pGy hg1 ?_
                  refine pLo hO 0 (.int _ _) tA3 ?_
                  refine pGy hg1 ?_
                  refine pBi ?_
                  refine pPf hg1 (.bool _) ?_
                  exact pE ⟨_, St.hav _ ⟨rfl, rfl, rfl, rfl, rfl, rfl, rfl, by rw [hg1]; rfl, trivial⟩⟩
              · rintro _ ⟨J, rfl⟩
                refine pE ?_
                refine gn ?_
                refine wpL_cd (b := ((decide (c10.Kind < (1:Int)) || decide (c10.Kind > (4:Int))) || ((c10.Ends.length : Int) != c10.Kind))) (fun hb => ?_) (fun hb => ?_)
                · replace hk := ct hb hk
                  refine wpL_sq ?_
                  refine wpL_rg ?_
                  refine pM (.int _ _) ?_
                  refine pBd [_, _] t049 tP49 ?_
                  refine pSt (xs := [_, _]) hO 1 tZ49 rfl (fun G hO => ?_)
                  refine pE ?_
                  refine gn ?_
                  refine wpL_rt ?_
                  refine gr (br (gr (gr (br (gr ?_)))))
                  replace hk := lx hx1 hk
                  cases hk; exact finZ hO (fz_agg (n := 2) (fz_c (fz_int _ _) (fz_c (fz_int _ _) (fz_n)))) (resS hO 1 [_, _] tA49 tZ49 resN)
                · replace hk := cf hb hk
                  refine wpL_sk ?_
                  refine gn ?_
                  refine wpL_sq ?_
                  refine wpL_rg ?_
                  refine pF tF169_2 ?_
                  refine pLo hO 0 (.lit _ _ _) tA167 ?_
                  refine pLen tS167 ?_
                  refine pM (.int _ _) ?_
                  refine pE ?_
                  refine gn ?_
                  refine wpL_bl ?_
                  refine wpL_loopO (F := f26_L3 aN0 x9 c10) (fun s S' => ∃ (J : Nat → V) (G : Heap), Owns H G [.blk b2 (.cells 2 [.int .i64 0, .int .i64 0]), .blk b1 (.cells 2 [.lit l1 aN0.Pieces.length (flat aN0.Pieces), .lit l2 aN0.Joints.length (flat aN0.Joints)])] ∧ S' = ⟨hav [(1, .ptr b1 0), (2, .ptr b2 0), (6, .int .i64 x9), (60, .lit l2 aN0.Joints.length (flat aN0.Joints)), (61, .int .i64 (aN0.Joints.length : Int)), (62, .int .i64 x9), (86, .lit 0 c10.Ends.length (flat c10.Ends)), (87, .int .i64 (c10.Ends.length : Int)), (88, .int .i64 s)] J, G⟩) hk ⟨_, _, (Owns.pick hO [1, 2] (by decide) rfl), St.hav _ ⟨rfl, rfl, rfl, rfl, rfl, rfl, rfl, rfl, rfl, trivial⟩⟩ ?_
                  rintro x12 _ y2 ⟨J, G, hO, rfl⟩ hk hx2
                  refine wpL_sq ?_
                  refine wpL_rg ?_
                  refine pBi ?_
                  refine pE ?_
                  refine gn ?_
                  refine wpL_sq ?_
                  refine wpL_cd (b := decide (x12 < (c10.Ends.length : Int))) (fun hb => ?_) (fun hb => ?_)
                  · replace hk := ct hb hk
                    refine wpL_sk ?_
                    refine gn ?_
                    refine wpL_sq ?_
                    refine wpL_bl ?_
                    refine wpL_sq ?_
                    refine wpL_rg ?_
                    obtain ⟨c13, hc13, hk⟩ := bs hk
                    refine pX hc13 tE167 tZ162 ?_
                    refine pLp (.agg [_, _]) (rd2 (off := 0) hc13 tA162 tZ162) ?_
                    refine pNew hO tZ162 t0162 (fun b14 G hO => ?_)
                    refine pSt (xs := [_, _]) hO 0 tZ162 rfl (fun G hO => ?_)
                    refine pE ?_
                    refine gn ?_
                    refine wpL_sq ?_
                    refine wpL_rg ?_
                    refine pF tF162_0 ?_
                    refine pLo hO 0 (.int _ _) tA3 ?_
                    refine pBi ?_
                    refine pM (.bool _) ?_
                    refine wpR_mid (l1 := [_, _, _, _, _, _, _]) (fun S' => ∃ J, S' = ⟨hav [(1, .ptr b1 0), (2, .ptr b2 0), (6, .int .i64 x9), (9, .ptr b14 0), (60, .lit l2 aN0.Joints.length (flat aN0.Joints)), (61, .int .i64 (aN0.Joints.length : Int)), (62, .int .i64 x9), (86, .lit 0 c10.Ends.length (flat c10.Ends)), (87, .int .i64 (c10.Ends.length : Int)), (88, .int .i64 x12), (102, .bool (decide (c13.Piece < (0:Int)) || decide (c13.Piece ≥ (aN0.Pieces.length : Int))))] J, G⟩) ?_ ?_
                    · refine bc (b := decide (c13.Piece < (0:Int))) (fun hg1 => ?_) (fun hg1 => ?_)
                      · refine pGn hg1 ?_
                        refine pGn hg1 ?_
                        refine pGn hg1 ?_
                        refine pGn hg1 ?_
                        refine pGn hg1 ?_
                        refine pGn hg1 ?_
                        refine pPt hg1 (.bool _) ?_
                        exact pE ⟨_, St.hav _ ⟨rfl, rfl, rfl, rfl, rfl, rfl, rfl, rfl, rfl, rfl, by rw [hg1]; rfl, trivial⟩⟩
                      · refine pGy hg1 ?_
                        refine pF tF162_0 ?_
                        refine pGy hg1 ?_
                        refine pLo hO 0 (.int _ _) tA3 ?_
                        refine pGy hg1 ?_
                        refine pF tF54_0 ?_
                        refine pGy hg1 ?_
                        refine pLo hO 2 (.lit _ _ _) tA51 ?_
                        refine pGy hg1 ?_
                        refine pLen tS51 ?_
                        refine pGy hg1 ?_
                        refine pBi ?_
                        refine pPf hg1 (.bool _) ?_
                        exact pE ⟨_, St.hav _ ⟨rfl, rfl, rfl, rfl, rfl, rfl, rfl, rfl, rfl, rfl, by rw [hg1]; rfl, trivial⟩⟩
                    · rintro _ ⟨J, rfl⟩
                      refine pM (.bool _) ?_
                      refine wpR_mid (l1 := [_, _, _, _]) (fun S' => ∃ J, S' = ⟨hav [(1, .ptr b1 0), (2, .ptr b2 0), (6, .int .i64 x9), (9, .ptr b14 0), (60, .lit l2 aN0.Joints.length (flat aN0.Joints)), (61, .int .i64 (aN0.Joints.length : Int)), (62, .int .i64 x9), (86, .lit 0 c10.Ends.length (flat c10.Ends)), (87, .int .i64 (c10.Ends.length : Int)), (88, .int .i64 x12), (107, .bool ((decide (c13.Piece < (0:Int)) || decide (c13.Piece ≥ (aN0.Pieces.length : Int))) || decide (c13.Side < (0:Int))))] J, G⟩) ?_ ?_
                      · refine bc (b := (decide (c13.Piece < (0:Int)) || decide (c13.Piece ≥ (aN0.Pieces.length : Int)))) (fun hg1 => ?_) (fun hg1 => ?_)
                        · refine pGn hg1 ?_
                          refine pGn hg1 ?_
                          refine pGn hg1 ?_
                          refine pPt hg1 (.bool _) ?_
                          exact pE ⟨_, St.hav _ ⟨rfl, rfl, rfl, rfl, rfl, rfl, rfl, rfl, rfl, rfl, by rw [hg1]; rfl, trivial⟩⟩
                        · refine pGy hg1 ?_
                          refine pF tF162_1 ?_
                          refine pGy hg1 ?_
                          refine pLo hO 0 (.int _ _) tA3 ?_
                          refine pGy hg1 ?_
                          refine pBi ?_
                          refine pPf hg1 (.bool _) ?_
                          exact pE ⟨_, St.hav _ ⟨rfl, rfl, rfl, rfl, rfl, rfl, rfl, rfl, rfl, rfl, by rw [hg1]; rfl, trivial⟩⟩
                      · rintro _ ⟨J, rfl⟩
                        refine pM (.bool _) ?_
                        refine wpR_mid (l1 := [_, _, _, _]) (fun S' => ∃ J, S' = ⟨hav [(1, .ptr b1 0), (2, .ptr b2 0), (6, .int .i64 x9), (60, .lit l2 aN0.Joints.length (flat aN0.Joints)), (61, .int .i64 (aN0.Joints.length : Int)), (62, .int .i64 x9), (86, .lit 0 c10.Ends.length (flat c10.Ends)), (87, .int .i64 (c10.Ends.length : Int)), (88, .int .i64 x12), (112, .bool (((decide (c13.Piece < (0:Int)) || decide (c13.Piece ≥ (aN0.Pieces.length : Int))) || decide (c13.Side < (0:Int))) || decide (c13.Side > (1:Int))))] J, G⟩) ?_ ?_
                        · refine bc (b := ((decide (c13.Piece < (0:Int)) || decide (c13.Piece ≥ (aN0.Pieces.length : Int))) || decide (c13.Side < (0:Int)))) (fun hg1 => ?_) (fun hg1 => ?_)
                          · refine pGn hg1 ?_
                            refine pGn hg1 ?_
                            refine pGn hg1 ?_
                            refine pPt hg1 (.bool _) ?_
                            exact pE ⟨_, St.hav _ ⟨rfl, rfl, rfl, rfl, rfl, rfl, rfl, rfl, rfl, by rw [hg1]; rfl, trivial⟩⟩
                          · refine pGy hg1 ?_
                            refine pF tF162_1 ?_
                            refine pGy hg1 ?_
                            refine pLo hO 0 (.int _ _) tA3 ?_
                            refine pGy hg1 ?_
                            refine pBi ?_
                            refine pPf hg1 (.bool _) ?_
                            exact pE ⟨_, St.hav _ ⟨rfl, rfl, rfl, rfl, rfl, rfl, rfl, rfl, rfl, by rw [hg1]; rfl, trivial⟩⟩
                        · rintro _ ⟨J, rfl⟩
                          refine pE ?_
                          refine gn ?_
                          refine wpL_cd (b := (((decide (c13.Piece < (0:Int)) || decide (c13.Piece ≥ (aN0.Pieces.length : Int))) || decide (c13.Side < (0:Int))) || decide (c13.Side > (1:Int)))) (fun hb => ?_) (fun hb => ?_)
                          · replace hk := ct hb hk
                            refine wpL_sq ?_
                            refine wpL_rg ?_
                            refine pM (.int _ _) ?_
                            refine pBd [_, _] t049 tP49 ?_
                            refine pSt (xs := [_, _]) hO 1 tZ49 rfl (fun G hO => ?_)
                            refine pE ?_
                            refine gn ?_
                            refine wpL_rt ?_
                            refine br (gr (gr (br (br (gr (gr (br (gr ?_))))))))
                            replace hk := lx hx2 hk
                            replace hk := lx hx1 hk
                            cases hk; exact finZ hO (fz_agg (n := 2) (fz_c (fz_int _ _) (fz_c (fz_int _ _) (fz_n)))) (resS hO 1 [_, _] tA49 tZ49 resN)
                          · replace hk := cf hb hk
                            refine wpL_sk ?_
                            refine bn (gn ?_)
                            refine wpL_rg ?_
                            refine pBi ?_
                            refine pM (.int _ _) ?_
                            refine pE ?_
                            refine gn ?_
                            cases hk; exact ⟨_, rfl, _, _, (Owns.pick hO [1, 2] (by decide) rfl), St.hav _ ⟨rfl, rfl, rfl, rfl, rfl, rfl, rfl, rfl, rfl, trivial⟩⟩
                  · replace hk := cf hb hk
                    refine wpL_ex ?_
                    refine ge (ge (be (bn (gn ?_))))
                    replace hk := lx hx2 hk
                    refine wpL_rg ?_
                    refine pBi ?_
                    refine pM (.int _ _) ?_
                    refine pE ?_
                    refine gn ?_
                    cases hk; exact ⟨_, rfl, _, _, hO, St.hav _ ⟨rfl, rfl, rfl, rfl, rfl, trivial⟩⟩
          · replace hk := cf hb hk
            refine wpL_ex ?_
            refine ge (ge (be (gn ?_)))
            replace hk := lx hx1 hk
            refine wpL_sq ?_
            refine wpL_rg ?_
            refine pMm ByteArray Bool hO (fun b15 G hO => ?_)
            refine pA (.mref _) ?_
            refine pE ?_
            refine gn ?_
            refine wpL_sq ?_
            refine wpL_sq ?_
            refine wpL_rg ?_
            refine pF tF54_1 ?_
            refine pLo hO 2 (.lit _ _ _) tA52 ?_
            refine pLen tS52 ?_
            refine pM (.int _ _) ?_
            refine pE ?_
            refine gn ?_
            refine wpL_bl ?_
            refine wpL_loopO (F := f26_L4 aN0) (fun s S' => ∃ (J : Nat → V) (G : Heap), Owns H G [.blk b15 (.mp (kvs s.1)), .blk b2 (.cells 2 [.int .i64 0, .int .i64 0]), .blk b1 (.cells 2 [.lit l1 aN0.Pieces.length (flat aN0.Pieces), .lit l2 aN0.Joints.length (flat aN0.Joints)])] ∧ S' = ⟨hav [(1, .ptr b1 0), (2, .ptr b2 0), (3, .mref b15), (119, .lit l2 aN0.Joints.length (flat aN0.Joints)), (120, .int .i64 (aN0.Joints.length : Int)), (121, .int .i64 s.2)] J, G⟩) hk ⟨_, _, hO, St.hav _ ⟨rfl, rfl, rfl, rfl, rfl, rfl, trivial⟩⟩ ?_
            rintro ⟨x16, x17⟩ _ y1 ⟨J, G, hO, rfl⟩ hk hx1
            refine wpL_sq ?_
            refine wpL_rg ?_
            refine pBi ?_
            refine pE ?_
            refine gn ?_
            refine wpL_sq ?_
            refine wpL_cd (b := decide (x17 < (aN0.Joints.length : Int))) (fun hb => ?_) (fun hb => ?_)
            · replace hk := ct hb hk
              refine wpL_sk ?_
              refine gn ?_
              refine wpL_mid (fun S' => ∃ (x18 : List (ByteArray × Bool)) (J : Nat → V) (G : Heap), f26_k5 x17 x18 = some y1 ∧ Owns H G [.blk b15 (.mp (kvs x18)), .blk b2 (.cells 2 [.int .i64 0, .int .i64 0]), .blk b1 (.cells 2 [.lit l1 aN0.Pieces.length (flat aN0.Pieces), .lit l2 aN0.Joints.length (flat aN0.Joints)])] ∧ S' = ⟨hav [(1, .ptr b1 0), (2, .ptr b2 0), (3, .mref b15), (119, .lit l2 aN0.Joints.length (flat aN0.Joints)), (120, .int .i64 (aN0.Joints.length : Int)), (121, .int .i64 x17)] J, G⟩) ?_ ?_
              · refine wpL_bl ?_
                refine wpL_sq ?_
                refine wpL_rg ?_
                refine pM (.int _ _) ?_
                obtain ⟨c19, hc19, hk⟩ := bs hk
                refine pX hc19 tE52 tZ169 ?_
                refine pLp (.agg [_, _, _]) (rd2 (off := 0) hc19 tA169 tZ169) ?_
                refine pNew hO tZ169 t0169 (fun b20 G hO => ?_)
                refine pA (.int _ _) ?_
                refine pSt (xs := [_, _, _]) hO 0 tZ169 rfl (fun G hO => ?_)
                refine pE ?_
                refine gn ?_
                refine wpL_sq ?_
                refine wpL_sq ?_
                refine wpL_rg ?_
                refine pF tF169_0 ?_
                refine pLo hO 0 (.int _ _) tA3 ?_
                refine pBi ?_
                refine pE ?_
                refine gn ?_
                refine wpL_cd (b := decide (c19.Kind ≤ (2:Int))) (fun hb => ?_) (fun hb => ?_)
                · replace hk := ct hb hk
                  refine wpL_sq ?_
                  refine wpL_sq ?_
                  refine wpL_rg ?_
                  refine pF tF169_1 ?_
                  refine pLo hO 0 (.str _) tA9 ?_
                  refine pB (a := .str _) (b := .str _) ?_
                  refine pE ?_
                  refine gn ?_
                  refine wpL_cd (b := !(c19.Name.toList == ({ data := #[] } : ByteArray).toList)) (fun hb => ?_) (fun hb => ?_)
                  · replace hk := ct hb hk
                    refine wpL_sq ?_
                    refine wpL_rg ?_
                    refine pM (.int _ _) ?_
                    refine pBd [_, _] t049 tP49 ?_
                    refine pSt (xs := [_, _]) hO 2 tZ49 rfl (fun G hO => ?_)
                    refine pE ?_
                    refine gn ?_
                    refine wpL_rt ?_
                    refine gr (gr (br (gr (gr (br (gr ?_))))))
                    replace hk := lx hx1 hk
                    cases hk; exact finZ hO (fz_agg (n := 2) (fz_c (fz_int _ _) (fz_c (fz_int _ _) (fz_n)))) (resS hO 2 [_, _] tA49 tZ49 resN)
                  · replace hk := cf hb hk
                    refine wpL_sk ?_
                    refine gn ?_
                    refine wpL_ex ?_
                    refine ge (be (gn ?_))
                    exact ⟨x16, _, _, hk, (Owns.pick hO [1, 2, 3] (by decide) rfl), St.hav _ ⟨rfl, rfl, rfl, rfl, rfl, rfl, trivial⟩⟩
                · replace hk := cf hb hk
                  refine wpL_sk ?_
                  refine gn ?_
                  refine wpL_sq ?_
                  refine wpL_sq ?_
                  refine wpL_rg ?_
                  refine pF tF169_1 ?_
                  refine pLo hO 0 (.str _) tA9 ?_
                  obtain ⟨v21, hv21, hk⟩ := bs hk
                  refine pCall (fun _ => f93_run hv21) ?_
                  refine pU ?_
                  refine pM (.bool _) ?_
                  refine wpR_mid (l1 := [_, _, _, _, _]) (fun S' => ∃ J, S' = ⟨hav [(1, .ptr b1 0), (2, .ptr b2 0), (3, .mref b15), (10, .int .i64 x17), (11, .ptr b20 0), (119, .lit l2 aN0.Joints.length (flat aN0.Joints)), (120, .int .i64 (aN0.Joints.length : Int)), (121, .int .i64 x17), (143, .bool (!v21 || (mget c19.Name x16 false)))] J, G⟩) ?_ ?_
                  · refine bc (b := !v21) (fun hg1 => ?_) (fun hg1 => ?_)
                    · refine pGn hg1 ?_
                      refine pGn hg1 ?_
                      refine pGn hg1 ?_
                      refine pGn hg1 ?_
                      refine pPt hg1 (.bool _) ?_
                      exact pE ⟨_, St.hav _ ⟨rfl, rfl, rfl, rfl, rfl, rfl, rfl, rfl, by rw [hg1]; rfl, trivial⟩⟩
                    · refine pGy hg1 ?_
                      refine pM (.mref _) ?_
                      refine pGy hg1 ?_
                      refine pF tF169_1 ?_
                      refine pGy hg1 ?_
                      refine pLo hO 0 (.str _) tA9 ?_
                      refine pGy hg1 ?_
                      refine pLk c19.Name (false : Bool) (hO.get (k := 1) rfl).1 tM165 fit_str tY4 ?_
                      refine pPf hg1 (.bool _) ?_
                      exact pE ⟨_, St.hav _ ⟨rfl, rfl, rfl, rfl, rfl, rfl, rfl, rfl, by rw [hg1]; rfl, trivial⟩⟩
                  · rintro _ ⟨J, rfl⟩
                    refine pE ?_
                    refine gn ?_
                    refine wpL_cd (b := (!v21 || (mget c19.Name x16 false))) (fun hb => ?_) (fun hb => ?_)
                    · replace hk := ct hb hk
                      refine wpL_sq ?_
                      refine wpL_rg ?_
                      refine pM (.int _ _) ?_
                      refine pBd [_, _] t049 tP49 ?_
                      refine pSt (xs := [_, _]) hO 2 tZ49 rfl (fun G hO => ?_)
                      refine pE ?_
                      refine gn ?_
                      refine wpL_rt ?_
                      refine gr (br (gr (gr (br (gr ?_)))))
                      replace hk := lx hx1 hk
                      cases hk; exact finZ hO (fz_agg (n := 2) (fz_c (fz_int _ _) (fz_c (fz_int _ _) (fz_n)))) (resS hO 2 [_, _] tA49 tZ49 resN)
                    · replace hk := cf hb hk
                      refine wpL_sk ?_
                      refine gn ?_
                      refine wpL_rg ?_
                      refine pM (.mref _) ?_
                      refine pF tF169_1 ?_
                      refine pLo hO 0 (.str _) tA9 ?_
                      refine pUp hO 1 c19.Name true tM165 fit_str rfl (fun G hO => ?_)
                      refine pE ?_
                      refine bn (gn ?_)
                      exact ⟨mset c19.Name true x16, _, _, hk, (Owns.pick hO [1, 2, 3] (by decide) rfl), St.hav _ ⟨rfl, rfl, rfl, rfl, rfl, rfl, trivial⟩⟩
              · rintro _ ⟨x18, J, G, hk, hO, rfl⟩
                refine wpL_rg ?_
                refine pBi ?_
                refine pM (.int _ _) ?_
                refine pE ?_
                refine gn ?_
                cases hk; exact ⟨_, rfl, _, _, hO, St.hav _ ⟨rfl, rfl, rfl, rfl, rfl, rfl, trivial⟩⟩
            · replace hk := cf hb hk
              refine wpL_ex ?_
              refine ge (ge (be (gn ?_)))
              replace hk := lx hx1 hk
              refine wpL_sq ?_
              refine wpL_rg ?_
              refine pMm End Int hO (fun b22 G hO => ?_)
              refine pA (.mref _) ?_
              refine pE ?_
              refine gn ?_
              refine wpL_sq ?_
              refine wpL_sq ?_
              refine wpL_rg ?_
              refine pF tF54_1 ?_
              refine pLo hO 3 (.lit _ _ _) tA52 ?_
              refine pLen tS52 ?_
              refine pM (.int _ _) ?_
              refine pE ?_
              refine gn ?_
              refine wpL_bl ?_
              refine wpL_loopO (F := f26_L6 aN0) (fun s S' => ∃ (J : Nat → V) (G : Heap), Owns H G [.blk b22 (.mp (kvs s.1)), .blk b2 (.cells 2 [.int .i64 0, .int .i64 0]), .blk b1 (.cells 2 [.lit l1 aN0.Pieces.length (flat aN0.Pieces), .lit l2 aN0.Joints.length (flat aN0.Joints)])] ∧ S' = ⟨hav [(1, .ptr b1 0), (2, .ptr b2 0), (12, .mref b22), (152, .lit l2 aN0.Joints.length (flat aN0.Joints)), (153, .int .i64 (aN0.Joints.length : Int)), (154, .int .i64 s.2)] J, G⟩) hk ⟨_, _, (Owns.pick hO [0, 2, 3] (by decide) rfl), St.hav _ ⟨rfl, rfl, rfl, rfl, rfl, rfl, trivial⟩⟩ ?_
              rintro ⟨x23, x24⟩ _ y1 ⟨J, G, hO, rfl⟩ hk hx1
              refine wpL_sq ?_
              refine wpL_rg ?_
              refine pBi ?_
              refine pE ?_
              refine gn ?_
              refine wpL_sq ?_
              refine wpL_cd (b := decide (x24 < (aN0.Joints.length : Int))) (fun hb => ?_) (fun hb => ?_)
              · replace hk := ct hb hk
                refine wpL_sk ?_
                refine gn ?_
                refine wpL_sq ?_
                refine wpL_bl ?_
                refine wpL_sq ?_
                refine wpL_rg ?_
                obtain ⟨c25, hc25, hk⟩ := bs hk
                refine pX hc25 tE52 tZ169 ?_
                refine pLp (.agg [_, _, _]) (rd2 (off := 0) hc25 tA169 tZ169) ?_
                refine pNew hO tZ169 t0169 (fun b26 G hO => ?_)
                refine pSt (xs := [_, _, _]) hO 0 tZ169 rfl (fun G hO => ?_)
                refine pE ?_
                refine gn ?_
                refine wpL_sq ?_
                refine wpL_rg ?_
                refine pF tF169_2 ?_
                refine pLo hO 0 (.lit _ _ _) tA167 ?_
                refine pLen tS167 ?_
                refine pM (.int _ _) ?_
                refine pE ?_
                refine gn ?_
                refine wpL_bl ?_
                refine wpL_loopO (F := f26_L7 x24 c25) (fun s S' => ∃ (J : Nat → V) (G : Heap), Owns H G [.blk b22 (.mp (kvs s.1)), .blk b2 (.cells 2 [.int .i64 0, .int .i64 0]), .blk b1 (.cells 2 [.lit l1 aN0.Pieces.length (flat aN0.Pieces), .lit l2 aN0.Joints.length (flat aN0.Joints)])] ∧ S' = ⟨hav [(1, .ptr b1 0), (2, .ptr b2 0), (12, .mref b22), (152, .lit l2 aN0.Joints.length (flat aN0.Joints)), (153, .int .i64 (aN0.Joints.length : Int)), (154, .int .i64 x24), (159, .lit 0 c25.Ends.length (flat c25.Ends)), (160, .int .i64 (c25.Ends.length : Int)), (161, .int .i64 s.2)] J, G⟩) hk ⟨_, _, (Owns.pick hO [1, 2, 3] (by decide) rfl), St.hav _ ⟨rfl, rfl, rfl, rfl, rfl, rfl, rfl, rfl, rfl, trivial⟩⟩ ?_
                rintro ⟨x27, x28⟩ _ y2 ⟨J, G, hO, rfl⟩ hk hx2
                refine wpL_sq ?_
                refine wpL_rg ?_
                refine pBi ?_
                refine pE ?_
                refine gn ?_
                refine wpL_sq ?_
                refine wpL_cd (b := decide (x28 < (c25.Ends.length : Int))) (fun hb => ?_) (fun hb => ?_)
                · replace hk := ct hb hk
                  refine wpL_sk ?_
                  refine gn ?_
                  refine wpL_sq ?_
                  refine wpL_bl ?_
                  refine wpL_sq ?_
                  refine wpL_rg ?_
                  obtain ⟨c29, hc29, hk⟩ := bs hk
                  refine pX hc29 tE167 tZ162 ?_
                  refine pLp (.agg [_, _]) (rd2 (off := 0) hc29 tA162 tZ162) ?_
                  refine pNew hO tZ162 t0162 (fun b30 G hO => ?_)
                  refine pSt (xs := [_, _]) hO 0 tZ162 rfl (fun G hO => ?_)
                  refine pE ?_
                  refine gn ?_
                  refine wpL_drw [(0, true), (1, true), (2, true), (3, false), (4, true), (5, true), (6, false)] [_, _, _, _, _, _, _] (by decide +kernel) (by rfl) ?_
                  refine pM (.mref _) ?_
                  refine pLs hO 0 [_, _] tA162 tZ162 ?_
                  refine pLk c29 (0 : Int) (hO.get (k := 1) rfl).1 tM170 fitEndK tY3 ?_
                  refine pBi ?_
                  refine pEn hO 1 c29 (0 : Int) tM170 fitEndK tY3 rfl (fun G hO => ?_)
                  refine pEx (.int _ _) ?_
                  refine pEs hO 1 c29 (0 : Int) (w64 ((mget c29 x27 0) + (1:Int))) rfl (fun G hO => ?_)
                  refine pE ?_
                  refine bn (gn ?_)
                  refine wpL_rg ?_
                  refine pBi ?_
                  refine pM (.int _ _) ?_
                  refine pE ?_
                  refine gn ?_
                  cases hk; exact ⟨_, rfl, _, _, (Owns.pick hO [1, 2, 3] (by decide) rfl), St.hav _ ⟨rfl, rfl, rfl, rfl, rfl, rfl, rfl, rfl, rfl, trivial⟩⟩
                · replace hk := cf hb hk
                  refine wpL_ex ?_
                  refine ge (ge (be (bn (gn ?_))))
                  replace hk := lx hx2 hk
                  refine wpL_rg ?_
                  refine pBi ?_
                  refine pM (.int _ _) ?_
                  refine pE ?_
                  refine gn ?_
                  cases hk; exact ⟨_, rfl, _, _, hO, St.hav _ ⟨rfl, rfl, rfl, rfl, rfl, rfl, trivial⟩⟩
              · replace hk := cf hb hk
                refine wpL_ex ?_
                refine ge (ge (be (gn ?_)))
                replace hk := lx hx1 hk
                refine wpL_sq ?_
                refine wpL_sq ?_
                refine wpL_rg ?_
                refine pF tF54_0 ?_
                refine pLo hO 2 (.lit _ _ _) tA51 ?_
                refine pLen tS51 ?_
                refine pM (.int _ _) ?_
                refine pE ?_
                refine gn ?_
                refine wpL_bl ?_
                refine wpL_loopO (F := f26_L8 aN0 x23) (fun s S' => ∃ (J : Nat → V) (G : Heap), Owns H G [.blk b22 (.mp (kvs x23)), .blk b2 (.cells 2 [.int .i64 0, .int .i64 0])] ∧ S' = ⟨hav [(2, .ptr b2 0), (12, .mref b22), (175, .int .i64 (aN0.Pieces.length : Int)), (176, .int .i64 s)] J, G⟩) hk ⟨_, _, (Owns.pick hO [0, 1] (by decide) rfl), St.hav _ ⟨rfl, rfl, rfl, rfl, trivial⟩⟩ ?_
                rintro x31 _ y1 ⟨J, G, hO, rfl⟩ hk hx1
                refine wpL_sq ?_
                refine wpL_rg ?_
                refine pBi ?_
                refine pE ?_
                refine gn ?_
                refine wpL_sq ?_
                refine wpL_cd (b := decide (x31 < (aN0.Pieces.length : Int))) (fun hb => ?_) (fun hb => ?_)
                · replace hk := ct hb hk
                  refine wpL_sk ?_
                  refine gn ?_
                  refine wpL_sq ?_
                  refine wpL_bl ?_
                  refine wpL_sq ?_
                  refine wpL_rg ?_
                  refine pM (.int _ _) ?_
                  refine pA (.int _ _) ?_
                  refine pE ?_
                  refine gn ?_
                  refine wpL_sq ?_
                  refine wpL_rg ?_
                  refine pM (.mref _) ?_
                  refine pM (.int _ _) ?_
                  refine pBd [_, _] t0162 tP162 ?_
                  refine pLk ({ Piece := x31, Side := (0:Int) } : End) (0 : Int) (hO.get (k := 0) rfl).1 tM170 fitEndK tY3 ?_
                  refine pBi ?_
                  refine pM (.bool _) ?_
                  refine wpR_mid (l1 := [_, _, _, _, _, _]) (fun S' => ∃ J, S' = ⟨hav [(2, .ptr b2 0), (12, .mref b22), (17, .int .i64 x31), (175, .int .i64 (aN0.Pieces.length : Int)), (176, .int .i64 x31), (190, .bool (((mget ({ Piece := x31, Side := (0:Int) } : End) x23 0) != (1:Int)) || ((mget ({ Piece := x31, Side := (1:Int) } : End) x23 0) != (1:Int))))] J, G⟩) ?_ ?_
                  · refine bc (b := ((mget ({ Piece := x31, Side := (0:Int) } : End) x23 0) != (1:Int))) (fun hg1 => ?_) (fun hg1 => ?_)
                    · refine pGn hg1 ?_
                      refine pGn hg1 ?_
                      refine pGn hg1 ?_
                      refine pGn hg1 ?_
                      refine pGn hg1 ?_
                      refine pPt hg1 (.bool _) ?_
                      exact pE ⟨_, St.hav _ ⟨rfl, rfl, rfl, rfl, rfl, by rw [hg1]; rfl, trivial⟩⟩
                    · refine pGy hg1 ?_
                      refine pM (.mref _) ?_
                      refine pGy hg1 ?_
                      refine pM (.int _ _) ?_
                      refine pGy hg1 ?_
                      refine pBd [_, _] t0162 tP162 ?_
                      refine pGy hg1 ?_
                      refine pLk ({ Piece := x31, Side := (1:Int) } : End) (0 : Int) (hO.get (k := 0) rfl).1 tM170 fitEndK tY3 ?_
                      refine pGy hg1 ?_
                      refine pBi ?_
                      refine pPf hg1 (.bool _) ?_
                      exact pE ⟨_, St.hav _ ⟨rfl, rfl, rfl, rfl, rfl, by rw [hg1]; rfl, trivial⟩⟩
                  · rintro _ ⟨J, rfl⟩
                    refine pE ?_
                    refine gn ?_
                    refine wpL_cd (b := (((mget ({ Piece := x31, Side := (0:Int) } : End) x23 0) != (1:Int)) || ((mget ({ Piece := x31, Side := (1:Int) } : End) x23 0) != (1:Int)))) (fun hb => ?_) (fun hb => ?_)
                    · replace hk := ct hb hk
                      refine wpL_sq ?_
                      refine wpL_rg ?_
                      refine pM (.int _ _) ?_
                      refine pBd [_, _] t049 tP49 ?_
                      refine pSt (xs := [_, _]) hO 1 tZ49 rfl (fun G hO => ?_)
                      refine pE ?_
                      refine gn ?_
                      refine wpL_rt ?_
                      refine br (gr (gr (br (gr ?_))))
                      replace hk := lx hx1 hk
                      cases hk; exact finZ hO (fz_agg (n := 2) (fz_c (fz_int _ _) (fz_c (fz_int _ _) (fz_n)))) (resS hO 1 [_, _] tA49 tZ49 resN)
                    · replace hk := cf hb hk
                      refine wpL_sk ?_
                      refine bn (gn ?_)
                      refine wpL_rg ?_
                      refine pBi ?_
                      refine pM (.int _ _) ?_
                      refine pE ?_
                      refine gn ?_
                      cases hk; exact ⟨_, rfl, _, _, hO, St.hav _ ⟨rfl, rfl, rfl, rfl, trivial⟩⟩
                · replace hk := cf hb hk
                  refine wpL_ex ?_
                  refine ge (ge (be (gn ?_)))
                  replace hk := lx hx1 hk
                  refine wpL_sq ?_
                  refine wpL_rg ?_
                  refine pBd [_, _] t049 tP49 ?_
                  refine pSt (xs := [_, _]) hO 1 tZ49 rfl (fun G hO => ?_)
                  refine pE ?_
                  refine gn ?_
                  refine wpL_rt ?_
                  cases hk; exact finZ hO (fz_agg (n := 2) (fz_c (fz_int _ _) (fz_c (fz_int _ _) (fz_n)))) (resS hO 1 [_, _] tA49 tZ49 resN)
/-- impl.good -/
def f116 (aN0 : Net) : Option Bool :=
  ((f26 aN0).bind fun v2 => some ((v2.Code == 0) && ((v2.At == 0) && true)))
theorem f116_run {aN0 : Net} {r : Bool} {l1 l2 : Nat} {H : Heap} {lk : Lk} (hk : f116 aN0 = some r) (hlk : 0 < lk.length := by simp) : runL Try.prog hh 116 [.agg [.lit l1 aN0.Pieces.length (flat aN0.Pieces), .lit l2 aN0.Joints.length (flat aN0.Joints)]] H lk = some (.bool r, H) := by
  refine run_start Try.func116 rfl Try.ntmps116 Try.results116 rfl rfl fun hO => ?_
  unfold f116 at hk
  refine wpL_sq ?_
  refine wpL_rg ?_
  refine pBox (cs := [_, _]) hO tZ54 (fun b1 G hO => ?_)
  refine pA (.bool _) ?_
  refine pE ?_
  refine gn ?_
  refine wpL_sq ?_
  refine wpL_rg ?_
  refine pLs hO 0 [_, _] tA54 tZ54 ?_
  obtain ⟨v2, hv2, hk⟩ := bs hk
  refine pCall (fun _ => f26_run hv2) ?_
  refine pBd [_, _] t049 tP49 ?_
  refine pGq tG49 (eqc (eqi _ _ _) (eqc (eqi _ _ _) (rfl))) ?_
  refine pA (.bool _) ?_
  refine pE ?_
  refine gn ?_
  refine wpL_rt ?_
  cases hk; exact fin0 hO
/-- impl.SignalsOk -/
def f46_L3 (x10 : Int) (c11 : Signal) (y13 : List Signal) : Int → Option (Int ⊕ (Int ⊕ Fault)) := fun s =>
  (bif decide (s < (y13.length : Int)) then ((getI y13 s).bind fun c15 => (bif ((c11.Name.toList == c15.Name.toList) || (((c11.Piece == c15.Piece) && (c11.At == c15.At)) && (c11.Way == c15.Way))) then (((some ({ Code := (4:Int), At := x10 } : Fault)).map Sum.inr).map Sum.inr) else some (.inl (w64 (s + (1:Int)))))) else ((some (.inl (w64 (x10 + (1:Int))))).map Sum.inr))
def f46_L2 (aSignals1 : List Signal) : Int → Option (Int ⊕ Fault) := fun s =>
  (bif decide (s < (aSignals1.length : Int)) then ((getI aSignals1 s).bind fun c11 => ((subB aSignals1 (0:Int) s).bind fun y13 => (loopO (f46_L3 s c11 y13) ((0:Int))))) else ((some ({ Code := 0, At := 0 } : Fault)).map Sum.inr))
def f46_L1 (aN0 : Net) (aSignals1 : List Signal) : Int → Option (Int ⊕ Fault) := fun s =>
  (bif decide (s < (aSignals1.length : Int)) then ((getI aSignals1 s).bind fun c5 => ((f93 c5.Name).bind fun v7 => ((bif ((((!v7 || decide (c5.Piece < (0:Int))) || decide (c5.Piece ≥ (aN0.Pieces.length : Int))) || ((c5.Way != (1:Int)) && (c5.Way != (-1:Int)))) || decide (c5.At < (1:Int))) then some true else ((getI aN0.Pieces c5.Piece).bind fun c9 => some (decide (c5.At > (w64 (c9.Len - (1:Int))))))).bind fun t8 => (bif t8 then ((some ({ Code := (3:Int), At := s } : Fault)).map Sum.inr) else some (.inl (w64 (s + (1:Int)))))))) else ((loopO (f46_L2 aSignals1) ((0:Int))).map Sum.inr))
def f46 (aN0 : Net) (aSignals1 : List Signal) : Option Fault :=
  ((f116 aN0).bind fun v3 => (bif !v3 then some ({ Code := (1:Int), At := (0:Int) } : Fault) else (bif decide ((aSignals1.length : Int) > (60:Int)) then some ({ Code := (2:Int), At := (0:Int) } : Fault) else (loopO (f46_L1 aN0 aSignals1) ((0:Int))))))
theorem f46_run {aN0 : Net} {aSignals1 : List Signal} {r : Fault} {l1 l2 l3 : Nat} {H : Heap} {lk : Lk} (hk : f46 aN0 aSignals1 = some r) (hlk : 0 < lk.length := by simp) : runL Try.prog hh 46 [.agg [.lit l1 aN0.Pieces.length (flat aN0.Pieces), .lit l2 aN0.Joints.length (flat aN0.Joints)], .lit l3 aSignals1.length (flat aSignals1)] H lk = some (.agg [.int .i64 r.Code, .int .i64 r.At], H) := by
  refine run_start Try.func46 rfl Try.ntmps46 Try.results46 rfl rfl fun hO => ?_
  unfold f46 at hk
  refine wpL_sq ?_
  refine wpL_rg ?_
  refine pBox (cs := [_, _]) hO tZ54 (fun b1 G hO => ?_)
  refine pNew hO tZ49 t049 (fun b2 G hO => ?_)
  refine pE ?_
  refine gn ?_
  refine wpL_sq ?_
  refine wpL_sq ?_
  refine wpL_rg ?_
  refine pLs hO 1 [_, _] tA54 tZ54 ?_
  obtain ⟨v3, hv3, hk⟩ := bs hk
  refine pCall (fun _ => f116_run hv3) ?_
  refine pU ?_
  refine pE ?_
  refine gn ?_
  refine wpL_cd (b := !v3) (fun hb => ?_) (fun hb => ?_)
  · replace hk := ct hb hk
    refine wpL_sq ?_
    refine wpL_rg ?_
    refine pBd [_, _] t049 tP49 ?_
    refine pSt (xs := [_, _]) hO 0 tZ49 rfl (fun G hO => ?_)
    refine pE ?_
    refine gn ?_
    refine wpL_rt ?_
    refine gr ?_
    cases hk; exact finZ hO (fz_agg (n := 2) (fz_c (fz_int _ _) (fz_c (fz_int _ _) (fz_n)))) (resS hO 0 [_, _] tA49 tZ49 resN)
  · replace hk := cf hb hk
    refine wpL_sk ?_
    refine gn ?_
    refine wpL_sq ?_
    refine wpL_sq ?_
    refine wpL_rg ?_
    refine pM (.lit _ _ _) ?_
    refine pLen tS96 ?_
    refine pBi ?_
    refine pE ?_
    refine gn ?_
    refine wpL_cd (b := decide ((aSignals1.length : Int) > (60:Int))) (fun hb => ?_) (fun hb => ?_)
    · replace hk := ct hb hk
      refine wpL_sq ?_
      refine wpL_rg ?_
      refine pBd [_, _] t049 tP49 ?_
      refine pSt (xs := [_, _]) hO 0 tZ49 rfl (fun G hO => ?_)
      refine pE ?_
      refine gn ?_
      refine wpL_rt ?_
      refine gr ?_
      cases hk; exact finZ hO (fz_agg (n := 2) (fz_c (fz_int _ _) (fz_c (fz_int _ _) (fz_n)))) (resS hO 0 [_, _] tA49 tZ49 resN)
    · replace hk := cf hb hk
      refine wpL_sk ?_
      refine gn ?_
      refine wpL_sq ?_
      refine wpL_sq ?_
      refine wpL_rg ?_
      refine pM (.lit _ _ _) ?_
      refine pLen tS96 ?_
      refine pM (.int _ _) ?_
      refine pE ?_
      refine gn ?_
      refine wpL_bl ?_
      refine wpL_loopO (F := f46_L1 aN0 aSignals1) (fun s S' => ∃ (J : Nat → V) (G : Heap), Owns H G [.blk b2 (.cells 2 [.int .i64 0, .int .i64 0]), .blk b1 (.cells 2 [.lit l1 aN0.Pieces.length (flat aN0.Pieces), .lit l2 aN0.Joints.length (flat aN0.Joints)])] ∧ S' = ⟨hav [(1, .lit l3 aSignals1.length (flat aSignals1)), (2, .ptr b1 0), (4, .ptr b2 0), (19, .lit l3 aSignals1.length (flat aSignals1)), (20, .int .i64 (aSignals1.length : Int)), (21, .int .i64 s)] J, G⟩) hk ⟨_, _, hO, St.hav _ ⟨rfl, rfl, rfl, rfl, rfl, rfl, trivial⟩⟩ ?_
      rintro x4 _ y1 ⟨J, G, hO, rfl⟩ hk hx1
      refine wpL_sq ?_
      refine wpL_rg ?_
      refine pBi ?_
      refine pE ?_
      refine gn ?_
      refine wpL_sq ?_
      refine wpL_cd (b := decide (x4 < (aSignals1.length : Int))) (fun hb => ?_) (fun hb => ?_)
      · replace hk := ct hb hk
        refine wpL_sk ?_
        refine gn ?_
        refine wpL_sq ?_
        refine wpL_bl ?_
        refine wpL_sq ?_
        refine wpL_rg ?_
        refine pM (.int _ _) ?_
        obtain ⟨c5, hc5, hk⟩ := bs hk
        refine pX hc5 tE96 tZ204 ?_
        refine pLp (.agg [_, _, _, _]) (rd2 (off := 0) hc5 tA204 tZ204) ?_
        refine pNew hO tZ204 t0204 (fun b6 G hO => ?_)
        refine pA (.int _ _) ?_
        refine pSt (xs := [_, _, _, _]) hO 0 tZ204 rfl (fun G hO => ?_)
        refine pE ?_
        refine gn ?_
        refine wpL_sq ?_
        refine wpL_drw [(0, false), (1, true), (2, false), (3, false), (4, false), (5, false), (6, true), (7, false), (8, false), (9, false), (10, true), (11, true), (12, true), (13, true), (14, true), (15, false), (16, false), (17, false), (18, false), (19, true), (20, false), (21, false), (22, false), (23, true), (24, false), (25, false), (26, false), (27, false), (28, false), (29, true), (30, false), (31, false), (32, false), (33, true), (34, true), (35, true), (36, true), (37, true), (38, true), (39, true), (40, true), (41, true), (42, true), (43, false), (44, false)] [_, _, _, _, _, _, _, _, _, _, _, _, _, _, _, _, _, _, _, _, _, _, _, _, _, _, _, _, _, _, _, _, _, _, _, _, _, _, _, _, _, _, _, _, _] (by decide +kernel) (by rfl) ?_
        refine pF tF204_0 ?_
        refine pLo hO 0 (.str _) tA9 ?_
        obtain ⟨v7, hv7, hk⟩ := bs hk
        refine pCall (fun _ => f93_run hv7) ?_
        refine pU ?_
        refine pM (.bool _) ?_
        refine wpR_mid (l1 := [_, _, _, _]) (fun S' => ∃ J, S' = ⟨hav [(1, .lit l3 aSignals1.length (flat aSignals1)), (2, .ptr b1 0), (4, .ptr b2 0), (5, .int .i64 x4), (6, .ptr b6 0), (19, .lit l3 aSignals1.length (flat aSignals1)), (20, .int .i64 (aSignals1.length : Int)), (21, .int .i64 x4), (34, .bool (!v7 || decide (c5.Piece < (0:Int))))] J, G⟩) ?_ ?_
        · refine bc (b := !v7) (fun hg1 => ?_) (fun hg1 => ?_)
          · refine pGn hg1 ?_
            refine pGn hg1 ?_
            refine pGn hg1 ?_
            refine pPt hg1 (.bool _) ?_
            exact pE ⟨_, St.hav _ ⟨rfl, rfl, rfl, rfl, rfl, rfl, rfl, rfl, by rw [hg1]; rfl, trivial⟩⟩
          · refine pGy hg1 ?_
            refine pF tF204_1 ?_
            refine pGy hg1 ?_
            refine pLo hO 0 (.int _ _) tA3 ?_
            refine pGy hg1 ?_
            refine pBi ?_
            refine pPf hg1 (.bool _) ?_
            exact pE ⟨_, St.hav _ ⟨rfl, rfl, rfl, rfl, rfl, rfl, rfl, rfl, by rw [hg1]; rfl, trivial⟩⟩
        · rintro _ ⟨J, rfl⟩
          refine pM (.bool _) ?_
          refine wpR_mid (l1 := [_, _, _, _, _, _, _]) (fun S' => ∃ J, S' = ⟨hav [(1, .lit l3 aSignals1.length (flat aSignals1)), (2, .ptr b1 0), (4, .ptr b2 0), (5, .int .i64 x4), (6, .ptr b6 0), (19, .lit l3 aSignals1.length (flat aSignals1)), (20, .int .i64 (aSignals1.length : Int)), (21, .int .i64 x4), (42, .bool ((!v7 || decide (c5.Piece < (0:Int))) || decide (c5.Piece ≥ (aN0.Pieces.length : Int))))] J, G⟩) ?_ ?_
          · refine bc (b := (!v7 || decide (c5.Piece < (0:Int)))) (fun hg1 => ?_) (fun hg1 => ?_)
            · refine pGn hg1 ?_
              refine pGn hg1 ?_
              refine pGn hg1 ?_
              refine pGn hg1 ?_
              refine pGn hg1 ?_
              refine pGn hg1 ?_
              refine pPt hg1 (.bool _) ?_
              exact pE ⟨_, St.hav _ ⟨rfl, rfl, rfl, rfl, rfl, rfl, rfl, rfl, by rw [hg1]; rfl, trivial⟩⟩
            · refine pGy hg1 ?_
              refine pF tF204_1 ?_
              refine pGy hg1 ?_
              refine pLo hO 0 (.int _ _) tA3 ?_
              refine pGy hg1 ?_
              refine pF tF54_0 ?_
              refine pGy hg1 ?_
              refine pLo hO 2 (.lit _ _ _) tA51 ?_
              refine pGy hg1 ?_
              refine pLen tS51 ?_
              refine pGy hg1 ?_
              refine pBi ?_
              refine pPf hg1 (.bool _) ?_
              exact pE ⟨_, St.hav _ ⟨rfl, rfl, rfl, rfl, rfl, rfl, rfl, rfl, by rw [hg1]; rfl, trivial⟩⟩
          · rintro _ ⟨J, rfl⟩
            refine pM (.bool _) ?_
            refine wpR_mid (l1 := [_, _, _, _, _, _, _, _, _]) (fun S' => ∃ J, S' = ⟨hav [(1, .lit l3 aSignals1.length (flat aSignals1)), (2, .ptr b1 0), (4, .ptr b2 0), (5, .int .i64 x4), (6, .ptr b6 0), (19, .lit l3 aSignals1.length (flat aSignals1)), (20, .int .i64 (aSignals1.length : Int)), (21, .int .i64 x4), (52, .bool (((!v7 || decide (c5.Piece < (0:Int))) || decide (c5.Piece ≥ (aN0.Pieces.length : Int))) || ((c5.Way != (1:Int)) && (c5.Way != (-1:Int)))))] J, G⟩) ?_ ?_
            · refine bc (b := ((!v7 || decide (c5.Piece < (0:Int))) || decide (c5.Piece ≥ (aN0.Pieces.length : Int)))) (fun hg1 => ?_) (fun hg1 => ?_)
              · refine pGn hg1 ?_
                refine pGn hg1 ?_
                refine pGn hg1 ?_
                refine pGn hg1 ?_
                refine pGu ?_
                refine pGu ?_
                refine pGu ?_
                refine pGn hg1 ?_
                refine pPt hg1 (.bool _) ?_
                exact pE ⟨_, St.hav _ ⟨rfl, rfl, rfl, rfl, rfl, rfl, rfl, rfl, by rw [hg1]; rfl, trivial⟩⟩
              · refine pGy hg1 ?_
                refine pF tF204_3 ?_
                refine pGy hg1 ?_
                refine pLo hO 0 (.int _ _) tA3 ?_
                refine pGy hg1 ?_
                refine pBi ?_
                refine pGy hg1 ?_
                refine pM (.bool _) ?_
                refine wpR_mid (l1 := [_, _, _, _]) (fun S' => ∃ J, S' = ⟨hav [(1, .lit l3 aSignals1.length (flat aSignals1)), (2, .ptr b1 0), (4, .ptr b2 0), (5, .int .i64 x4), (6, .ptr b6 0), (19, .lit l3 aSignals1.length (flat aSignals1)), (20, .int .i64 (aSignals1.length : Int)), (21, .int .i64 x4), (43, .bool ((!v7 || decide (c5.Piece < (0:Int))) || decide (c5.Piece ≥ (aN0.Pieces.length : Int)))), (51, .bool ((c5.Way != (1:Int)) && (c5.Way != (-1:Int))))] J, G⟩) ?_ ?_
                · refine bc (b := (c5.Way != (1:Int))) (fun hg2 => ?_) (fun hg2 => ?_)
                  · refine pGy hg2 ?_
                    refine pF tF204_3 ?_
                    refine pGy hg2 ?_
                    refine pLo hO 0 (.int _ _) tA3 ?_
                    refine pGy hg2 ?_
                    refine pBi ?_
                    refine pGy hg1 ?_
                    refine pPt hg2 (.bool _) ?_
                    exact pE ⟨_, St.hav _ ⟨rfl, rfl, rfl, rfl, rfl, rfl, rfl, rfl, rfl, by rw [hg2]; rfl, trivial⟩⟩
                  · refine pGn hg2 ?_
                    refine pGn hg2 ?_
                    refine pGn hg2 ?_
                    refine pGy hg1 ?_
                    refine pPf hg2 (.bool _) ?_
                    exact pE ⟨_, St.hav _ ⟨rfl, rfl, rfl, rfl, rfl, rfl, rfl, rfl, rfl, by rw [hg2]; rfl, trivial⟩⟩
                · rintro _ ⟨J, rfl⟩
                  refine pPf hg1 (.bool _) ?_
                  exact pE ⟨_, St.hav _ ⟨rfl, rfl, rfl, rfl, rfl, rfl, rfl, rfl, by rw [hg1]; rfl, trivial⟩⟩
            · rintro _ ⟨J, rfl⟩
              refine pM (.bool _) ?_
              refine wpR_mid (l1 := [_, _, _, _]) (fun S' => ∃ J, S' = ⟨hav [(1, .lit l3 aSignals1.length (flat aSignals1)), (2, .ptr b1 0), (4, .ptr b2 0), (5, .int .i64 x4), (6, .ptr b6 0), (19, .lit l3 aSignals1.length (flat aSignals1)), (20, .int .i64 (aSignals1.length : Int)), (21, .int .i64 x4), (57, .bool ((((!v7 || decide (c5.Piece < (0:Int))) || decide (c5.Piece ≥ (aN0.Pieces.length : Int))) || ((c5.Way != (1:Int)) && (c5.Way != (-1:Int)))) || decide (c5.At < (1:Int))))] J, G⟩) ?_ ?_
              · refine bc (b := (((!v7 || decide (c5.Piece < (0:Int))) || decide (c5.Piece ≥ (aN0.Pieces.length : Int))) || ((c5.Way != (1:Int)) && (c5.Way != (-1:Int))))) (fun hg1 => ?_) (fun hg1 => ?_)
                · refine pGn hg1 ?_
                  refine pGn hg1 ?_
                  refine pGn hg1 ?_
                  refine pPt hg1 (.bool _) ?_
                  exact pE ⟨_, St.hav _ ⟨rfl, rfl, rfl, rfl, rfl, rfl, rfl, rfl, by rw [hg1]; rfl, trivial⟩⟩
                · refine pGy hg1 ?_
                  refine pF tF204_2 ?_
                  refine pGy hg1 ?_
                  refine pLo hO 0 (.int _ _) tA3 ?_
                  refine pGy hg1 ?_
                  refine pBi ?_
                  refine pPf hg1 (.bool _) ?_
                  exact pE ⟨_, St.hav _ ⟨rfl, rfl, rfl, rfl, rfl, rfl, rfl, rfl, by rw [hg1]; rfl, trivial⟩⟩
              · rintro _ ⟨J, rfl⟩
                refine pM (.bool _) ?_
                obtain ⟨t8, ht, hk⟩ := bs hk
                refine wpR_mid (l1 := [_, _, _, _, _, _, _, _, _, _, _, _]) (fun S' => ∃ J, S' = ⟨hav [(1, .lit l3 aSignals1.length (flat aSignals1)), (2, .ptr b1 0), (4, .ptr b2 0), (5, .int .i64 x4), (19, .lit l3 aSignals1.length (flat aSignals1)), (20, .int .i64 (aSignals1.length : Int)), (21, .int .i64 x4), (70, .bool t8)] J, G⟩) ?_ ?_
                · refine bc (b := ((((!v7 || decide (c5.Piece < (0:Int))) || decide (c5.Piece ≥ (aN0.Pieces.length : Int))) || ((c5.Way != (1:Int)) && (c5.Way != (-1:Int)))) || decide (c5.At < (1:Int)))) (fun hg1 => ?_) (fun hg1 => ?_)
                  · replace hk := ct hg1 ht
                    refine pGn hg1 ?_
                    refine pGn hg1 ?_
                    refine pGn hg1 ?_
                    refine pGn hg1 ?_
                    refine pGn hg1 ?_
                    refine pGn hg1 ?_
                    refine pGn hg1 ?_
                    refine pGn hg1 ?_
                    refine pGn hg1 ?_
                    refine pGn hg1 ?_
                    refine pGn hg1 ?_
                    refine pPt hg1 (.bool _) ?_
                    cases hk; exact pE ⟨_, St.hav _ ⟨rfl, rfl, rfl, rfl, rfl, rfl, rfl, rfl, trivial⟩⟩
                  · replace hk := cf hg1 ht
                    refine pGy hg1 ?_
                    refine pF tF204_2 ?_
                    refine pGy hg1 ?_
                    refine pLo hO 0 (.int _ _) tA3 ?_
                    refine pGy hg1 ?_
                    refine pF tF54_0 ?_
                    refine pGy hg1 ?_
                    refine pLo hO 2 (.lit _ _ _) tA51 ?_
                    refine pGy hg1 ?_
                    refine pF tF204_1 ?_
                    refine pGy hg1 ?_
                    refine pLo hO 0 (.int _ _) tA3 ?_
                    refine pGy hg1 ?_
                    obtain ⟨c9, hc9, hk⟩ := bs hk
                    refine pX hc9 tE51 tZ157 ?_
                    refine pGy hg1 ?_
                    refine pF tF157_1 ?_
                    refine pGy hg1 ?_
                    refine pLp (.int _ _) (rd1 (off := 1) hc9 tA3) ?_
                    refine pGy hg1 ?_
                    refine pBi ?_
                    refine pGy hg1 ?_
                    refine pBi ?_
                    refine pPf hg1 (.bool _) ?_
                    cases hk; exact pE ⟨_, St.hav _ ⟨rfl, rfl, rfl, rfl, rfl, rfl, rfl, rfl, trivial⟩⟩
                · rintro _ ⟨J, rfl⟩
                  refine pE ?_
                  refine gn ?_
                  refine wpL_cd (b := t8) (fun hb => ?_) (fun hb => ?_)
                  · replace hk := ct hb hk
                    refine wpL_sq ?_
                    refine wpL_rg ?_
                    refine pM (.int _ _) ?_
                    refine pBd [_, _] t049 tP49 ?_
                    refine pSt (xs := [_, _]) hO 1 tZ49 rfl (fun G hO => ?_)
                    refine pE ?_
                    refine gn ?_
                    refine wpL_rt ?_
                    refine br (gr (gr (br (gr ?_))))
                    replace hk := lx hx1 hk
                    cases hk; exact finZ hO (fz_agg (n := 2) (fz_c (fz_int _ _) (fz_c (fz_int _ _) (fz_n)))) (resS hO 1 [_, _] tA49 tZ49 resN)
                  · replace hk := cf hb hk
                    refine wpL_sk ?_
                    refine bn (gn ?_)
                    refine wpL_rg ?_
                    refine pBi ?_
                    refine pM (.int _ _) ?_
                    refine pE ?_
                    refine gn ?_
                    cases hk; exact ⟨_, rfl, _, _, (Owns.pick hO [1, 2] (by decide) rfl), St.hav _ ⟨rfl, rfl, rfl, rfl, rfl, rfl, trivial⟩⟩
      · replace hk := cf hb hk
        refine wpL_ex ?_
        refine ge (ge (be (gn ?_)))
        replace hk := lx hx1 hk
        refine wpL_sq ?_
        refine wpL_sq ?_
        refine wpL_rg ?_
        refine pM (.lit _ _ _) ?_
        refine pLen tS96 ?_
        refine pM (.int _ _) ?_
        refine pE ?_
        refine gn ?_
        refine wpL_bl ?_
        refine wpL_loopO (F := f46_L2 aSignals1) (fun s S' => ∃ (J : Nat → V) (G : Heap), Owns H G [.blk b2 (.cells 2 [.int .i64 0, .int .i64 0])] ∧ S' = ⟨hav [(1, .lit l3 aSignals1.length (flat aSignals1)), (4, .ptr b2 0), (74, .lit l3 aSignals1.length (flat aSignals1)), (75, .int .i64 (aSignals1.length : Int)), (76, .int .i64 s)] J, G⟩) hk ⟨_, _, (Owns.pick hO [0] (by decide) rfl), St.hav _ ⟨rfl, rfl, rfl, rfl, rfl, trivial⟩⟩ ?_
        rintro x10 _ y1 ⟨J, G, hO, rfl⟩ hk hx1
        refine wpL_sq ?_
        refine wpL_rg ?_
        refine pBi ?_
        refine pE ?_
        refine gn ?_
        refine wpL_sq ?_
        refine wpL_cd (b := decide (x10 < (aSignals1.length : Int))) (fun hb => ?_) (fun hb => ?_)
        · replace hk := ct hb hk
          refine wpL_sk ?_
          refine gn ?_
          refine wpL_sq ?_
          refine wpL_bl ?_
          refine wpL_sq ?_
          refine wpL_rg ?_
          refine pM (.int _ _) ?_
          obtain ⟨c11, hc11, hk⟩ := bs hk
          refine pX hc11 tE96 tZ204 ?_
          refine pLp (.agg [_, _, _, _]) (rd2 (off := 0) hc11 tA204 tZ204) ?_
          refine pNew hO tZ204 t0204 (fun b12 G hO => ?_)
          refine pA (.int _ _) ?_
          refine pSt (xs := [_, _, _, _]) hO 0 tZ204 rfl (fun G hO => ?_)
          refine pE ?_
          refine gn ?_
          refine wpL_sq ?_
          refine wpL_rg ?_
          refine pM (.lit _ _ _) ?_
          refine pM (.int _ _) ?_
          obtain ⟨y13, hy13, hk⟩ := bs hk
          refine pSlH hy13 tE96 tZ204 ?_
          refine pLen tS96 ?_
          refine pM (.int _ _) ?_
          refine pE ?_
          refine gn ?_
          refine wpL_bl ?_
          refine wpL_loopO (F := f46_L3 x10 c11 y13) (fun s S' => ∃ (J : Nat → V) (G : Heap), Owns H G [.blk b12 (.cells 4 [.str c11.Name, .int .i64 c11.Piece, .int .i64 c11.At, .int .i64 c11.Way]), .blk b2 (.cells 2 [.int .i64 0, .int .i64 0])] ∧ S' = ⟨hav [(1, .lit l3 aSignals1.length (flat aSignals1)), (4, .ptr b2 0), (7, .int .i64 x10), (8, .ptr b12 0), (74, .lit l3 aSignals1.length (flat aSignals1)), (75, .int .i64 (aSignals1.length : Int)), (76, .int .i64 x10), (83, .lit l3 y13.length (flat y13)), (84, .int .i64 (y13.length : Int)), (85, .int .i64 s)] J, G⟩) hk ⟨_, _, hO, St.hav _ ⟨rfl, rfl, rfl, rfl, rfl, rfl, rfl, rfl, rfl, rfl, trivial⟩⟩ ?_
          rintro x14 _ y2 ⟨J, G, hO, rfl⟩ hk hx2
          refine wpL_sq ?_
          refine wpL_rg ?_
          refine pBi ?_
          refine pE ?_
          refine gn ?_
          refine wpL_sq ?_
          refine wpL_cd (b := decide (x14 < (y13.length : Int))) (fun hb => ?_) (fun hb => ?_)
          · replace hk := ct hb hk
            refine wpL_sk ?_
            refine gn ?_
            refine wpL_sq ?_
            refine wpL_bl ?_
            refine wpL_sq ?_
            refine wpL_rg ?_
            obtain ⟨c15, hc15, hk⟩ := bs hk
            refine pX hc15 tE96 tZ204 ?_
            refine pLp (.agg [_, _, _, _]) (rd2 (off := 0) hc15 tA204 tZ204) ?_
            refine pNew hO tZ204 t0204 (fun b16 G hO => ?_)
            refine pSt (xs := [_, _, _, _]) hO 0 tZ204 rfl (fun G hO => ?_)
            refine pE ?_
            refine gn ?_
            refine wpL_sq ?_
            refine wpL_rg ?_
            refine pF tF204_0 ?_
            refine pLo hO 1 (.str _) tA9 ?_
            refine pF tF204_0 ?_
            refine pLo hO 0 (.str _) tA9 ?_
            refine pB (a := .str _) (b := .str _) ?_
            refine pM (.bool _) ?_
            refine wpR_mid (l1 := [_, _, _, _, _, _, _, _, _, _, _, _, _, _, _, _, _, _, _, _]) (fun S' => ∃ J, S' = ⟨hav [(1, .lit l3 aSignals1.length (flat aSignals1)), (4, .ptr b2 0), (7, .int .i64 x10), (8, .ptr b12 0), (74, .lit l3 aSignals1.length (flat aSignals1)), (75, .int .i64 (aSignals1.length : Int)), (76, .int .i64 x10), (83, .lit l3 y13.length (flat y13)), (84, .int .i64 (y13.length : Int)), (85, .int .i64 x14), (114, .bool ((c11.Name.toList == c15.Name.toList) || (((c11.Piece == c15.Piece) && (c11.At == c15.At)) && (c11.Way == c15.Way))))] J, G⟩) ?_ ?_
            · refine bc (b := (c11.Name.toList == c15.Name.toList)) (fun hg1 => ?_) (fun hg1 => ?_)
              · refine pGn hg1 ?_
                refine pGn hg1 ?_
                refine pGn hg1 ?_
                refine pGn hg1 ?_
                refine pGn hg1 ?_
                refine pGn hg1 ?_
                refine pGu ?_
                refine pGu ?_
                refine pGu ?_
                refine pGu ?_
                refine pGu ?_
                refine pGn hg1 ?_
                refine pGn hg1 ?_
                refine pGu ?_
                refine pGu ?_
                refine pGu ?_
                refine pGu ?_
                refine pGu ?_
                refine pGn hg1 ?_
                refine pPt hg1 (.bool _) ?_
                exact pE ⟨_, St.hav _ ⟨rfl, rfl, rfl, rfl, rfl, rfl, rfl, rfl, rfl, rfl, by rw [hg1]; rfl, trivial⟩⟩
              · refine pGy hg1 ?_
                refine pF tF204_1 ?_
                refine pGy hg1 ?_
                refine pLo hO 1 (.int _ _) tA3 ?_
                refine pGy hg1 ?_
                refine pF tF204_1 ?_
                refine pGy hg1 ?_
                refine pLo hO 0 (.int _ _) tA3 ?_
                refine pGy hg1 ?_
                refine pBi ?_
                refine pGy hg1 ?_
                refine pM (.bool _) ?_
                refine wpR_mid (l1 := [_, _, _, _, _, _]) (fun S' => ∃ J, S' = ⟨hav [(1, .lit l3 aSignals1.length (flat aSignals1)), (4, .ptr b2 0), (7, .int .i64 x10), (8, .ptr b12 0), (10, .ptr b16 0), (74, .lit l3 aSignals1.length (flat aSignals1)), (75, .int .i64 (aSignals1.length : Int)), (76, .int .i64 x10), (83, .lit l3 y13.length (flat y13)), (84, .int .i64 (y13.length : Int)), (85, .int .i64 x14), (94, .bool (c11.Name.toList == c15.Name.toList)), (106, .bool ((c11.Piece == c15.Piece) && (c11.At == c15.At)))] J, G⟩) ?_ ?_
                · refine bc (b := (c11.Piece == c15.Piece)) (fun hg2 => ?_) (fun hg2 => ?_)
                  · refine pGy hg2 ?_
                    refine pF tF204_2 ?_
                    refine pGy hg2 ?_
                    refine pLo hO 1 (.int _ _) tA3 ?_
                    refine pGy hg2 ?_
                    refine pF tF204_2 ?_
                    refine pGy hg2 ?_
                    refine pLo hO 0 (.int _ _) tA3 ?_
                    refine pGy hg2 ?_
                    refine pBi ?_
                    refine pGy hg1 ?_
                    refine pPt hg2 (.bool _) ?_
                    exact pE ⟨_, St.hav _ ⟨rfl, rfl, rfl, rfl, rfl, rfl, rfl, rfl, rfl, rfl, rfl, rfl, by rw [hg2]; rfl, trivial⟩⟩
                  · refine pGn hg2 ?_
                    refine pGn hg2 ?_
                    refine pGn hg2 ?_
                    refine pGn hg2 ?_
                    refine pGn hg2 ?_
                    refine pGy hg1 ?_
                    refine pPf hg2 (.bool _) ?_
                    exact pE ⟨_, St.hav _ ⟨rfl, rfl, rfl, rfl, rfl, rfl, rfl, rfl, rfl, rfl, rfl, rfl, by rw [hg2]; rfl, trivial⟩⟩
                · rintro _ ⟨J, rfl⟩
                  refine pGy hg1 ?_
                  refine pM (.bool _) ?_
                  refine wpR_mid (l1 := [_, _, _, _, _, _]) (fun S' => ∃ J, S' = ⟨hav [(1, .lit l3 aSignals1.length (flat aSignals1)), (4, .ptr b2 0), (7, .int .i64 x10), (8, .ptr b12 0), (74, .lit l3 aSignals1.length (flat aSignals1)), (75, .int .i64 (aSignals1.length : Int)), (76, .int .i64 x10), (83, .lit l3 y13.length (flat y13)), (84, .int .i64 (y13.length : Int)), (85, .int .i64 x14), (94, .bool (c11.Name.toList == c15.Name.toList)), (113, .bool (((c11.Piece == c15.Piece) && (c11.At == c15.At)) && (c11.Way == c15.Way)))] J, G⟩) ?_ ?_
                  · refine bc (b := ((c11.Piece == c15.Piece) && (c11.At == c15.At))) (fun hg2 => ?_) (fun hg2 => ?_)
                    · refine pGy hg2 ?_
                      refine pF tF204_3 ?_
                      refine pGy hg2 ?_
                      refine pLo hO 1 (.int _ _) tA3 ?_
                      refine pGy hg2 ?_
                      refine pF tF204_3 ?_
                      refine pGy hg2 ?_
                      refine pLo hO 0 (.int _ _) tA3 ?_
                      refine pGy hg2 ?_
                      refine pBi ?_
                      refine pGy hg1 ?_
                      refine pPt hg2 (.bool _) ?_
                      exact pE ⟨_, St.hav _ ⟨rfl, rfl, rfl, rfl, rfl, rfl, rfl, rfl, rfl, rfl, rfl, by rw [hg2]; rfl, trivial⟩⟩
                    · refine pGn hg2 ?_
                      refine pGn hg2 ?_
                      refine pGn hg2 ?_
                      refine pGn hg2 ?_
                      refine pGn hg2 ?_
                      refine pGy hg1 ?_
                      refine pPf hg2 (.bool _) ?_
                      exact pE ⟨_, St.hav _ ⟨rfl, rfl, rfl, rfl, rfl, rfl, rfl, rfl, rfl, rfl, rfl, by rw [hg2]; rfl, trivial⟩⟩
                  · rintro _ ⟨J, rfl⟩
                    refine pPf hg1 (.bool _) ?_
                    exact pE ⟨_, St.hav _ ⟨rfl, rfl, rfl, rfl, rfl, rfl, rfl, rfl, rfl, rfl, by rw [hg1]; rfl, trivial⟩⟩
            · rintro _ ⟨J, rfl⟩
              refine pE ?_
              refine gn ?_
              refine wpL_cd (b := ((c11.Name.toList == c15.Name.toList) || (((c11.Piece == c15.Piece) && (c11.At == c15.At)) && (c11.Way == c15.Way)))) (fun hb => ?_) (fun hb => ?_)
              · replace hk := ct hb hk
                refine wpL_sq ?_
                refine wpL_rg ?_
                refine pM (.int _ _) ?_
                refine pBd [_, _] t049 tP49 ?_
                refine pSt (xs := [_, _]) hO 2 tZ49 rfl (fun G hO => ?_)
                refine pE ?_
                refine gn ?_
                refine wpL_rt ?_
                refine br (gr (gr (br (br (gr (gr (br (gr ?_))))))))
                replace hk := lx hx2 hk
                replace hk := lx hx1 hk
                cases hk; exact finZ hO (fz_agg (n := 2) (fz_c (fz_int _ _) (fz_c (fz_int _ _) (fz_n)))) (resS hO 2 [_, _] tA49 tZ49 resN)
              · replace hk := cf hb hk
                refine wpL_sk ?_
                refine bn (gn ?_)
                refine wpL_rg ?_
                refine pBi ?_
                refine pM (.int _ _) ?_
                refine pE ?_
                refine gn ?_
                cases hk; exact ⟨_, rfl, _, _, (Owns.pick hO [1, 2] (by decide) rfl), St.hav _ ⟨rfl, rfl, rfl, rfl, rfl, rfl, rfl, rfl, rfl, rfl, trivial⟩⟩
          · replace hk := cf hb hk
            refine wpL_ex ?_
            refine ge (ge (be (bn (gn ?_))))
            replace hk := lx hx2 hk
            refine wpL_rg ?_
            refine pBi ?_
            refine pM (.int _ _) ?_
            refine pE ?_
            refine gn ?_
            cases hk; exact ⟨_, rfl, _, _, (Owns.pick hO [1] (by decide) rfl), St.hav _ ⟨rfl, rfl, rfl, rfl, rfl, trivial⟩⟩
        · replace hk := cf hb hk
          refine wpL_ex ?_
          refine ge (ge (be (gn ?_)))
          replace hk := lx hx1 hk
          refine wpL_sq ?_
          refine wpL_rg ?_
          refine pBd [_, _] t049 tP49 ?_
          refine pSt (xs := [_, _]) hO 0 tZ49 rfl (fun G hO => ?_)
          refine pE ?_
          refine gn ?_
          refine wpL_rt ?_
          cases hk; exact finZ hO (fz_agg (n := 2) (fz_c (fz_int _ _) (fz_c (fz_int _ _) (fz_n)))) (resS hO 0 [_, _] tA49 tZ49 resN)
/-- laws.eqFault -/
def f27 (aA0 : Fault) (aB1 : Fault) : Option Bool :=
  (bif (aA0.Code != aB1.Code) then some false else (bif (aA0.At != aB1.At) then some false else some true))
theorem f27_run {aA0 : Fault} {aB1 : Fault} {r : Bool} {H : Heap} {lk : Lk} (hk : f27 aA0 aB1 = some r) (hlk : 0 < lk.length := by simp) : runL Try.prog hh 27 [.agg [.int .i64 aA0.Code, .int .i64 aA0.At], .agg [.int .i64 aB1.Code, .int .i64 aB1.At]] H lk = some (.bool r, H) := by
  refine run_start Try.func27 rfl Try.ntmps27 Try.results27 rfl rfl fun hO => ?_
  unfold f27 at hk
  refine wpL_sq ?_
  refine wpL_rg ?_
  refine pBox (cs := [_, _]) hO tZ49 (fun b1 G hO => ?_)
  refine pBox (cs := [_, _]) hO tZ49 (fun b2 G hO => ?_)
  refine pA (.bool _) ?_
  refine pE ?_
  refine gn ?_
  refine wpL_sq ?_
  refine wpL_sq ?_
  refine wpL_rg ?_
  refine pF tF49_0 ?_
  refine pLo hO 1 (.int _ _) tA3 ?_
  refine pF tF49_0 ?_
  refine pLo hO 0 (.int _ _) tA3 ?_
  refine pBi ?_
  refine pE ?_
  refine gn ?_
  refine wpL_cd (b := (aA0.Code != aB1.Code)) (fun hb => ?_) (fun hb => ?_)
  · replace hk := ct hb hk
    refine wpL_sq ?_
    refine wpL_rg ?_
    refine pA (.bool _) ?_
    refine pE ?_
    refine gn ?_
    refine wpL_rt ?_
    refine gr ?_
    cases hk; exact fin0 hO
  · replace hk := cf hb hk
    refine wpL_sk ?_
    refine gn ?_
    refine wpL_sq ?_
    refine wpL_sq ?_
    refine wpL_rg ?_
    refine pF tF49_1 ?_
    refine pLo hO 1 (.int _ _) tA3 ?_
    refine pF tF49_1 ?_
    refine pLo hO 0 (.int _ _) tA3 ?_
    refine pBi ?_
    refine pE ?_
    refine gn ?_
    refine wpL_cd (b := (aA0.At != aB1.At)) (fun hb => ?_) (fun hb => ?_)
    · replace hk := ct hb hk
      refine wpL_sq ?_
      refine wpL_rg ?_
      refine pA (.bool _) ?_
      refine pE ?_
      refine gn ?_
      refine wpL_rt ?_
      refine gr ?_
      cases hk; exact fin0 hO
    · replace hk := cf hb hk
      refine wpL_sk ?_
      refine gn ?_
      refine wpL_sq ?_
      refine wpL_rg ?_
      refine pA (.bool _) ?_
      refine pE ?_
      refine gn ?_
      refine wpL_rt ?_
      cases hk; exact fin0 hO
/-- laws.eqPiece -/
def f171 (aA0 : Piece) (aB1 : Piece) : Option Bool :=
  (bif !(aA0.Name.toList == aB1.Name.toList) then some false else (bif (aA0.Len != aB1.Len) then some false else (bif (aA0.Speed != aB1.Speed) then some false else (bif (aA0.Brake != aB1.Brake) then some false else some true))))
theorem f171_run {aA0 : Piece} {aB1 : Piece} {r : Bool} {H : Heap} {lk : Lk} (hk : f171 aA0 aB1 = some r) (hlk : 0 < lk.length := by simp) : runL Try.prog hh 171 [.agg [.str aA0.Name, .int .i64 aA0.Len, .int .i64 aA0.Speed, .int .i64 aA0.Brake], .agg [.str aB1.Name, .int .i64 aB1.Len, .int .i64 aB1.Speed, .int .i64 aB1.Brake]] H lk = some (.bool r, H) := by
  refine run_start Try.func171 rfl Try.ntmps171 Try.results171 rfl rfl fun hO => ?_
  unfold f171 at hk
  refine wpL_sq ?_
  refine wpL_rg ?_
  refine pBox (cs := [_, _, _, _]) hO tZ157 (fun b1 G hO => ?_)
  refine pBox (cs := [_, _, _, _]) hO tZ157 (fun b2 G hO => ?_)
  refine pA (.bool _) ?_
  refine pE ?_
  refine gn ?_
  refine wpL_sq ?_
  refine wpL_sq ?_
  refine wpL_rg ?_
  refine pF tF157_0 ?_
  refine pLo hO 1 (.str _) tA9 ?_
  refine pF tF157_0 ?_
  refine pLo hO 0 (.str _) tA9 ?_
  refine pB (a := .str _) (b := .str _) ?_
  refine pE ?_
  refine gn ?_
  refine wpL_cd (b := !(aA0.Name.toList == aB1.Name.toList)) (fun hb => ?_) (fun hb => ?_)
  · replace hk := ct hb hk
    refine wpL_sq ?_
    refine wpL_rg ?_
    refine pA (.bool _) ?_
    refine pE ?_
    refine gn ?_
    refine wpL_rt ?_
    refine gr ?_
    cases hk; exact fin0 hO
  · replace hk := cf hb hk
    refine wpL_sk ?_
    refine gn ?_
    refine wpL_sq ?_
    refine wpL_sq ?_
    refine wpL_rg ?_
    refine pF tF157_1 ?_
    refine pLo hO 1 (.int _ _) tA3 ?_
    refine pF tF157_1 ?_
    refine pLo hO 0 (.int _ _) tA3 ?_
    refine pBi ?_
    refine pE ?_
    refine gn ?_
    refine wpL_cd (b := (aA0.Len != aB1.Len)) (fun hb => ?_) (fun hb => ?_)
    · replace hk := ct hb hk
      refine wpL_sq ?_
      refine wpL_rg ?_
      refine pA (.bool _) ?_
      refine pE ?_
      refine gn ?_
      refine wpL_rt ?_
      refine gr ?_
      cases hk; exact fin0 hO
    · replace hk := cf hb hk
      refine wpL_sk ?_
      refine gn ?_
      refine wpL_sq ?_
      refine wpL_sq ?_
      refine wpL_rg ?_
      refine pF tF157_2 ?_
      refine pLo hO 1 (.int _ _) tA3 ?_
      refine pF tF157_2 ?_
      refine pLo hO 0 (.int _ _) tA3 ?_
      refine pBi ?_
      refine pE ?_
      refine gn ?_
      refine wpL_cd (b := (aA0.Speed != aB1.Speed)) (fun hb => ?_) (fun hb => ?_)
      · replace hk := ct hb hk
        refine wpL_sq ?_
        refine wpL_rg ?_
        refine pA (.bool _) ?_
        refine pE ?_
        refine gn ?_
        refine wpL_rt ?_
        refine gr ?_
        cases hk; exact fin0 hO
      · replace hk := cf hb hk
        refine wpL_sk ?_
        refine gn ?_
        refine wpL_sq ?_
        refine wpL_sq ?_
        refine wpL_rg ?_
        refine pF tF157_3 ?_
        refine pLo hO 1 (.int _ _) tA3 ?_
        refine pF tF157_3 ?_
        refine pLo hO 0 (.int _ _) tA3 ?_
        refine pBi ?_
        refine pE ?_
        refine gn ?_
        refine wpL_cd (b := (aA0.Brake != aB1.Brake)) (fun hb => ?_) (fun hb => ?_)
        · replace hk := ct hb hk
          refine wpL_sq ?_
          refine wpL_rg ?_
          refine pA (.bool _) ?_
          refine pE ?_
          refine gn ?_
          refine wpL_rt ?_
          refine gr ?_
          cases hk; exact fin0 hO
        · replace hk := cf hb hk
          refine wpL_sk ?_
          refine gn ?_
          refine wpL_sq ?_
          refine wpL_rg ?_
          refine pA (.bool _) ?_
          refine pE ?_
          refine gn ?_
          refine wpL_rt ?_
          cases hk; exact fin0 hO
/-- laws.eqPieceS -/
def f94_L1 (aA0 : List Piece) (aB1 : List Piece) : Int → Option (Int ⊕ Bool) := fun s =>
  (bif decide (s < (aA0.length : Int)) then ((getI aA0 s).bind fun c2 => ((getI aB1 s).bind fun c3 => ((f171 c2 c3).bind fun v4 => (bif !v4 then ((some false).map Sum.inr) else some (.inl (w64 (s + (1:Int)))))))) else ((some true).map Sum.inr))
def f94 (aA0 : List Piece) (aB1 : List Piece) : Option Bool :=
  (bif ((aA0.length : Int) != (aB1.length : Int)) then some false else (loopO (f94_L1 aA0 aB1) ((0:Int))))
theorem f94_run {aA0 : List Piece} {aB1 : List Piece} {r : Bool} {l1 l2 : Nat} {H : Heap} {lk : Lk} (hk : f94 aA0 aB1 = some r) (hlk : 0 < lk.length := by simp) : runL Try.prog hh 94 [.lit l1 aA0.length (flat aA0), .lit l2 aB1.length (flat aB1)] H lk = some (.bool r, H) := by
  refine run_start Try.func94 rfl Try.ntmps94 Try.results94 rfl rfl fun hO => ?_
  unfold f94 at hk
  refine wpL_sq ?_
  refine wpL_rg ?_
  refine pA (.bool _) ?_
  refine pE ?_
  refine gn ?_
  refine wpL_sq ?_
  refine wpL_sq ?_
  refine wpL_rg ?_
  refine pM (.lit _ _ _) ?_
  refine pLen tS51 ?_
  refine pM (.lit _ _ _) ?_
  refine pLen tS51 ?_
  refine pBi ?_
  refine pE ?_
  refine gn ?_
  refine wpL_cd (b := ((aA0.length : Int) != (aB1.length : Int))) (fun hb => ?_) (fun hb => ?_)
  · replace hk := ct hb hk
    refine wpL_sq ?_
    refine wpL_rg ?_
    refine pA (.bool _) ?_
    refine pE ?_
    refine gn ?_
    refine wpL_rt ?_
    refine gr ?_
    cases hk; exact fin0 hO
  · replace hk := cf hb hk
    refine wpL_sk ?_
    refine gn ?_
    refine wpL_sq ?_
    refine wpL_sq ?_
    refine wpL_rg ?_
    refine pA (.int _ _) ?_
    refine pE ?_
    refine gn ?_
    refine wpL_bl ?_
    refine wpL_loopO (F := f94_L1 aA0 aB1) (fun s S' => ∃ (J : Nat → V) (G : Heap), Owns H G [] ∧ S' = ⟨hav [(0, .lit l1 aA0.length (flat aA0)), (1, .lit l2 aB1.length (flat aB1)), (5, .int .i64 s)] J, G⟩) hk ⟨_, _, hO, St.hav _ ⟨rfl, rfl, rfl, trivial⟩⟩ ?_
    rintro x1 _ y1 ⟨J, G, hO, rfl⟩ hk hx1
    refine wpL_sq ?_
    refine wpL_sq ?_
    refine wpL_rg ?_
    refine pM (.int _ _) ?_
    refine pM (.lit _ _ _) ?_
    refine pLen tS51 ?_
    refine pBi ?_
    refine pE ?_
    refine gn ?_
    refine wpL_cd (b := decide (x1 < (aA0.length : Int))) (fun hb => ?_) (fun hb => ?_)
    · replace hk := ct hb hk
      refine wpL_sk ?_
      refine gn ?_
      refine wpL_sq ?_
      refine wpL_bl ?_
      refine wpL_sq ?_
      refine wpL_drw [(0, true), (1, true), (2, true), (3, true), (4, true), (5, true), (6, true), (7, true), (8, false), (9, false)] [_, _, _, _, _, _, _, _, _, _] (by decide +kernel) (by rfl) ?_
      refine pM (.lit _ _ _) ?_
      refine pM (.int _ _) ?_
      obtain ⟨c2, hc2, hk⟩ := bs hk
      refine pX hc2 tE51 tZ157 ?_
      refine pLp (.agg [_, _, _, _]) (rd2 (off := 0) hc2 tA157 tZ157) ?_
      refine pM (.lit _ _ _) ?_
      refine pM (.int _ _) ?_
      obtain ⟨c3, hc3, hk⟩ := bs hk
      refine pX hc3 tE51 tZ157 ?_
      refine pLp (.agg [_, _, _, _]) (rd2 (off := 0) hc3 tA157 tZ157) ?_
      obtain ⟨v4, hv4, hk⟩ := bs hk
      refine pCall (fun _ => f171_run hv4) ?_
      refine pU ?_
      refine pE ?_
      refine gn ?_
      refine wpL_cd (b := !v4) (fun hb => ?_) (fun hb => ?_)
      · replace hk := ct hb hk
        refine wpL_sq ?_
        refine wpL_rg ?_
        refine pA (.bool _) ?_
        refine pE ?_
        refine gn ?_
        refine wpL_rt ?_
        refine br (gr (gr (br (gr ?_))))
        replace hk := lx hx1 hk
        cases hk; exact fin0 hO
      · replace hk := cf hb hk
        refine wpL_sk ?_
        refine bn (gn ?_)
        refine wpL_rg ?_
        refine pM (.int _ _) ?_
        refine pBi ?_
        refine pA (.int _ _) ?_
        refine pE ?_
        refine gn ?_
        cases hk; exact ⟨_, rfl, _, _, hO, St.hav _ ⟨rfl, rfl, rfl, trivial⟩⟩
    · replace hk := cf hb hk
      refine wpL_ex ?_
      refine ge (ge (be (gn ?_)))
      replace hk := lx hx1 hk
      refine wpL_sq ?_
      refine wpL_rg ?_
      refine pA (.bool _) ?_
      refine pE ?_
      refine gn ?_
      refine wpL_rt ?_
      cases hk; exact fin0 hO
/-- laws.eqEnd -/
def f246 (aA0 : End) (aB1 : End) : Option Bool :=
  (bif (aA0.Piece != aB1.Piece) then some false else (bif (aA0.Side != aB1.Side) then some false else some true))
theorem f246_run {aA0 : End} {aB1 : End} {r : Bool} {H : Heap} {lk : Lk} (hk : f246 aA0 aB1 = some r) (hlk : 0 < lk.length := by simp) : runL Try.prog hh 246 [.agg [.int .i64 aA0.Piece, .int .i64 aA0.Side], .agg [.int .i64 aB1.Piece, .int .i64 aB1.Side]] H lk = some (.bool r, H) := by
  refine run_start Try.func246 rfl Try.ntmps246 Try.results246 rfl rfl fun hO => ?_
  unfold f246 at hk
  refine wpL_sq ?_
  refine wpL_rg ?_
  refine pBox (cs := [_, _]) hO tZ162 (fun b1 G hO => ?_)
  refine pBox (cs := [_, _]) hO tZ162 (fun b2 G hO => ?_)
  refine pA (.bool _) ?_
  refine pE ?_
  refine gn ?_
  refine wpL_sq ?_
  refine wpL_sq ?_
  refine wpL_rg ?_
  refine pF tF162_0 ?_
  refine pLo hO 1 (.int _ _) tA3 ?_
  refine pF tF162_0 ?_
  refine pLo hO 0 (.int _ _) tA3 ?_
  refine pBi ?_
  refine pE ?_
  refine gn ?_
  refine wpL_cd (b := (aA0.Piece != aB1.Piece)) (fun hb => ?_) (fun hb => ?_)
  · replace hk := ct hb hk
    refine wpL_sq ?_
    refine wpL_rg ?_
    refine pA (.bool _) ?_
    refine pE ?_
    refine gn ?_
    refine wpL_rt ?_
    refine gr ?_
    cases hk; exact fin0 hO
  · replace hk := cf hb hk
    refine wpL_sk ?_
    refine gn ?_
    refine wpL_sq ?_
    refine wpL_sq ?_
    refine wpL_rg ?_
    refine pF tF162_1 ?_
    refine pLo hO 1 (.int _ _) tA3 ?_
    refine pF tF162_1 ?_
    refine pLo hO 0 (.int _ _) tA3 ?_
    refine pBi ?_
    refine pE ?_
    refine gn ?_
    refine wpL_cd (b := (aA0.Side != aB1.Side)) (fun hb => ?_) (fun hb => ?_)
    · replace hk := ct hb hk
      refine wpL_sq ?_
      refine wpL_rg ?_
      refine pA (.bool _) ?_
      refine pE ?_
      refine gn ?_
      refine wpL_rt ?_
      refine gr ?_
      cases hk; exact fin0 hO
    · replace hk := cf hb hk
      refine wpL_sk ?_
      refine gn ?_
      refine wpL_sq ?_
      refine wpL_rg ?_
      refine pA (.bool _) ?_
      refine pE ?_
      refine gn ?_
      refine wpL_rt ?_
      cases hk; exact fin0 hO
/-- laws.eqEndS -/
def f223_L1 (aA0 : List End) (aB1 : List End) : Int → Option (Int ⊕ Bool) := fun s =>
  (bif decide (s < (aA0.length : Int)) then ((getI aA0 s).bind fun c2 => ((getI aB1 s).bind fun c3 => ((f246 c2 c3).bind fun v4 => (bif !v4 then ((some false).map Sum.inr) else some (.inl (w64 (s + (1:Int)))))))) else ((some true).map Sum.inr))
def f223 (aA0 : List End) (aB1 : List End) : Option Bool :=
  (bif ((aA0.length : Int) != (aB1.length : Int)) then some false else (loopO (f223_L1 aA0 aB1) ((0:Int))))
theorem f223_run {aA0 : List End} {aB1 : List End} {r : Bool} {l1 l2 : Nat} {H : Heap} {lk : Lk} (hk : f223 aA0 aB1 = some r) (hlk : 0 < lk.length := by simp) : runL Try.prog hh 223 [.lit l1 aA0.length (flat aA0), .lit l2 aB1.length (flat aB1)] H lk = some (.bool r, H) := by
  refine run_start Try.func223 rfl Try.ntmps223 Try.results223 rfl rfl fun hO => ?_
  unfold f223 at hk
  refine wpL_sq ?_
  refine wpL_rg ?_
  refine pA (.bool _) ?_
  refine pE ?_
  refine gn ?_
  refine wpL_sq ?_
  refine wpL_sq ?_
  refine wpL_rg ?_
  refine pM (.lit _ _ _) ?_
  refine pLen tS167 ?_
  refine pM (.lit _ _ _) ?_
  refine pLen tS167 ?_
  refine pBi ?_
  refine pE ?_
  refine gn ?_
  refine wpL_cd (b := ((aA0.length : Int) != (aB1.length : Int))) (fun hb => ?_) (fun hb => ?_)
  · replace hk := ct hb hk
    refine wpL_sq ?_
    refine wpL_rg ?_
    refine pA (.bool _) ?_
    refine pE ?_
    refine gn ?_
    refine wpL_rt ?_
    refine gr ?_
    cases hk; exact fin0 hO
  · replace hk := cf hb hk
    refine wpL_sk ?_
    refine gn ?_
    refine wpL_sq ?_
    refine wpL_sq ?_
    refine wpL_rg ?_
    refine pA (.int _ _) ?_
    refine pE ?_
    refine gn ?_
    refine wpL_bl ?_
    refine wpL_loopO (F := f223_L1 aA0 aB1) (fun s S' => ∃ (J : Nat → V) (G : Heap), Owns H G [] ∧ S' = ⟨hav [(0, .lit l1 aA0.length (flat aA0)), (1, .lit l2 aB1.length (flat aB1)), (5, .int .i64 s)] J, G⟩) hk ⟨_, _, hO, St.hav _ ⟨rfl, rfl, rfl, trivial⟩⟩ ?_
    rintro x1 _ y1 ⟨J, G, hO, rfl⟩ hk hx1
    refine wpL_sq ?_
    refine wpL_sq ?_
    refine wpL_rg ?_
    refine pM (.int _ _) ?_
    refine pM (.lit _ _ _) ?_
    refine pLen tS167 ?_
    refine pBi ?_
    refine pE ?_
    refine gn ?_
    refine wpL_cd (b := decide (x1 < (aA0.length : Int))) (fun hb => ?_) (fun hb => ?_)
    · replace hk := ct hb hk
      refine wpL_sk ?_
      refine gn ?_
      refine wpL_sq ?_
      refine wpL_bl ?_
      refine wpL_sq ?_
      refine wpL_drw [(0, true), (1, true), (2, true), (3, true), (4, true), (5, true), (6, true), (7, true), (8, false), (9, false)] [_, _, _, _, _, _, _, _, _, _] (by decide +kernel) (by rfl) ?_
      refine pM (.lit _ _ _) ?_
      refine pM (.int _ _) ?_
      obtain ⟨c2, hc2, hk⟩ := bs hk
      refine pX hc2 tE167 tZ162 ?_
      refine pLp (.agg [_, _]) (rd2 (off := 0) hc2 tA162 tZ162) ?_
      refine pM (.lit _ _ _) ?_
      refine pM (.int _ _) ?_
      obtain ⟨c3, hc3, hk⟩ := bs hk
      refine pX hc3 tE167 tZ162 ?_
      refine pLp (.agg [_, _]) (rd2 (off := 0) hc3 tA162 tZ162) ?_
      obtain ⟨v4, hv4, hk⟩ := bs hk
      refine pCall (fun _ => f246_run hv4) ?_
      refine pU ?_
      refine pE ?_
      refine gn ?_
      refine wpL_cd (b := !v4) (fun hb => ?_) (fun hb => ?_)
      · replace hk := ct hb hk
        refine wpL_sq ?_
        refine wpL_rg ?_
        refine pA (.bool _) ?_
        refine pE ?_
        refine gn ?_
        refine wpL_rt ?_
        refine br (gr (gr (br (gr ?_))))
        replace hk := lx hx1 hk
        cases hk; exact fin0 hO
      · replace hk := cf hb hk
        refine wpL_sk ?_
        refine bn (gn ?_)
        refine wpL_rg ?_
        refine pM (.int _ _) ?_
        refine pBi ?_
        refine pA (.int _ _) ?_
        refine pE ?_
        refine gn ?_
        cases hk; exact ⟨_, rfl, _, _, hO, St.hav _ ⟨rfl, rfl, rfl, trivial⟩⟩
    · replace hk := cf hb hk
      refine wpL_ex ?_
      refine ge (ge (be (gn ?_)))
      replace hk := lx hx1 hk
      refine wpL_sq ?_
      refine wpL_rg ?_
      refine pA (.bool _) ?_
      refine pE ?_
      refine gn ?_
      refine wpL_rt ?_
      cases hk; exact fin0 hO
/-- laws.eqJoint -/
def f172 (aA0 : Joint) (aB1 : Joint) : Option Bool :=
  (bif (aA0.Kind != aB1.Kind) then some false else (bif !(aA0.Name.toList == aB1.Name.toList) then some false else ((f223 aA0.Ends aB1.Ends).bind fun v3 => (bif !v3 then some false else some true))))
theorem f172_run {aA0 : Joint} {aB1 : Joint} {r : Bool} {l1 l2 : Nat} {H : Heap} {lk : Lk} (hk : f172 aA0 aB1 = some r) (hlk : 0 < lk.length := by simp) : runL Try.prog hh 172 [.agg [.int .i64 aA0.Kind, .str aA0.Name, .lit l1 aA0.Ends.length (flat aA0.Ends)], .agg [.int .i64 aB1.Kind, .str aB1.Name, .lit l2 aB1.Ends.length (flat aB1.Ends)]] H lk = some (.bool r, H) := by
  refine run_start Try.func172 rfl Try.ntmps172 Try.results172 rfl rfl fun hO => ?_
  unfold f172 at hk
  refine wpL_sq ?_
  refine wpL_rg ?_
  refine pBox (cs := [_, _, _]) hO tZ169 (fun b1 G hO => ?_)
  refine pBox (cs := [_, _, _]) hO tZ169 (fun b2 G hO => ?_)
  refine pA (.bool _) ?_
  refine pE ?_
  refine gn ?_
  refine wpL_sq ?_
  refine wpL_sq ?_
  refine wpL_rg ?_
  refine pF tF169_0 ?_
  refine pLo hO 1 (.int _ _) tA3 ?_
  refine pF tF169_0 ?_
  refine pLo hO 0 (.int _ _) tA3 ?_
  refine pBi ?_
  refine pE ?_
  refine gn ?_
  refine wpL_cd (b := (aA0.Kind != aB1.Kind)) (fun hb => ?_) (fun hb => ?_)
  · replace hk := ct hb hk
    refine wpL_sq ?_
    refine wpL_rg ?_
    refine pA (.bool _) ?_
    refine pE ?_
    refine gn ?_
    refine wpL_rt ?_
    refine gr ?_
    cases hk; exact fin0 hO
  · replace hk := cf hb hk
    refine wpL_sk ?_
    refine gn ?_
    refine wpL_sq ?_
    refine wpL_sq ?_
    refine wpL_rg ?_
    refine pF tF169_1 ?_
    refine pLo hO 1 (.str _) tA9 ?_
    refine pF tF169_1 ?_
    refine pLo hO 0 (.str _) tA9 ?_
    refine pB (a := .str _) (b := .str _) ?_
    refine pE ?_
    refine gn ?_
    refine wpL_cd (b := !(aA0.Name.toList == aB1.Name.toList)) (fun hb => ?_) (fun hb => ?_)
    · replace hk := ct hb hk
      refine wpL_sq ?_
      refine wpL_rg ?_
      refine pA (.bool _) ?_
      refine pE ?_
      refine gn ?_
      refine wpL_rt ?_
      refine gr ?_
      cases hk; exact fin0 hO
    · replace hk := cf hb hk
      refine wpL_sk ?_
      refine gn ?_
      refine wpL_sq ?_
      refine wpL_sq ?_
      refine wpL_rg ?_
      refine pF tF169_2 ?_
      refine pLo hO 1 (.lit _ _ _) tA167 ?_
      refine pF tF169_2 ?_
      refine pLo hO 0 (.lit _ _ _) tA167 ?_
      obtain ⟨v3, hv3, hk⟩ := bs hk
      refine pCall (fun _ => f223_run hv3) ?_
      refine pU ?_
      refine pE ?_
      refine gn ?_
      refine wpL_cd (b := !v3) (fun hb => ?_) (fun hb => ?_)
      · replace hk := ct hb hk
        refine wpL_sq ?_
        refine wpL_rg ?_
        refine pA (.bool _) ?_
        refine pE ?_
        refine gn ?_
        refine wpL_rt ?_
        refine gr ?_
        cases hk; exact fin0 hO
      · replace hk := cf hb hk
        refine wpL_sk ?_
        refine gn ?_
        refine wpL_sq ?_
        refine wpL_rg ?_
        refine pA (.bool _) ?_
        refine pE ?_
        refine gn ?_
        refine wpL_rt ?_
        cases hk; exact fin0 hO
/-- laws.eqJointS -/
def f95_L1 (aA0 : List Joint) (aB1 : List Joint) : Int → Option (Int ⊕ Bool) := fun s =>
  (bif decide (s < (aA0.length : Int)) then ((getI aA0 s).bind fun c2 => ((getI aB1 s).bind fun c3 => ((f172 c2 c3).bind fun v4 => (bif !v4 then ((some false).map Sum.inr) else some (.inl (w64 (s + (1:Int)))))))) else ((some true).map Sum.inr))
def f95 (aA0 : List Joint) (aB1 : List Joint) : Option Bool :=
  (bif ((aA0.length : Int) != (aB1.length : Int)) then some false else (loopO (f95_L1 aA0 aB1) ((0:Int))))
theorem f95_run {aA0 : List Joint} {aB1 : List Joint} {r : Bool} {l1 l2 : Nat} {H : Heap} {lk : Lk} (hk : f95 aA0 aB1 = some r) (hlk : 0 < lk.length := by simp) : runL Try.prog hh 95 [.lit l1 aA0.length (flat aA0), .lit l2 aB1.length (flat aB1)] H lk = some (.bool r, H) := by
  refine run_start Try.func95 rfl Try.ntmps95 Try.results95 rfl rfl fun hO => ?_
  unfold f95 at hk
  refine wpL_sq ?_
  refine wpL_rg ?_
  refine pA (.bool _) ?_
  refine pE ?_
  refine gn ?_
  refine wpL_sq ?_
  refine wpL_sq ?_
  refine wpL_rg ?_
  refine pM (.lit _ _ _) ?_
  refine pLen tS52 ?_
  refine pM (.lit _ _ _) ?_
  refine pLen tS52 ?_
  refine pBi ?_
  refine pE ?_
  refine gn ?_
  refine wpL_cd (b := ((aA0.length : Int) != (aB1.length : Int))) (fun hb => ?_) (fun hb => ?_)
  · replace hk := ct hb hk
    refine wpL_sq ?_
    refine wpL_rg ?_
    refine pA (.bool _) ?_
    refine pE ?_
    refine gn ?_
    refine wpL_rt ?_
    refine gr ?_
    cases hk; exact fin0 hO
  · replace hk := cf hb hk
    refine wpL_sk ?_
    refine gn ?_
    refine wpL_sq ?_
    refine wpL_sq ?_
    refine wpL_rg ?_
    refine pA (.int _ _) ?_
    refine pE ?_
    refine gn ?_
    refine wpL_bl ?_
    refine wpL_loopO (F := f95_L1 aA0 aB1) (fun s S' => ∃ (J : Nat → V) (G : Heap), Owns H G [] ∧ S' = ⟨hav [(0, .lit l1 aA0.length (flat aA0)), (1, .lit l2 aB1.length (flat aB1)), (5, .int .i64 s)] J, G⟩) hk ⟨_, _, hO, St.hav _ ⟨rfl, rfl, rfl, trivial⟩⟩ ?_
    rintro x1 _ y1 ⟨J, G, hO, rfl⟩ hk hx1
    refine wpL_sq ?_
    refine wpL_sq ?_
    refine wpL_rg ?_
    refine pM (.int _ _) ?_
    refine pM (.lit _ _ _) ?_
    refine pLen tS52 ?_
    refine pBi ?_
    refine pE ?_
    refine gn ?_
    refine wpL_cd (b := decide (x1 < (aA0.length : Int))) (fun hb => ?_) (fun hb => ?_)
    · replace hk := ct hb hk
      refine wpL_sk ?_
      refine gn ?_
      refine wpL_sq ?_
      refine wpL_bl ?_
      refine wpL_sq ?_
      refine wpL_drw [(0, true), (1, true), (2, true), (3, true), (4, true), (5, true), (6, true), (7, true), (8, false), (9, false)] [_, _, _, _, _, _, _, _, _, _] (by decide +kernel) (by rfl) ?_
      refine pM (.lit _ _ _) ?_
      refine pM (.int _ _) ?_
      obtain ⟨c2, hc2, hk⟩ := bs hk
      refine pX hc2 tE52 tZ169 ?_
      refine pLp (.agg [_, _, _]) (rd2 (off := 0) hc2 tA169 tZ169) ?_
      refine pM (.lit _ _ _) ?_
      refine pM (.int _ _) ?_
      obtain ⟨c3, hc3, hk⟩ := bs hk
      refine pX hc3 tE52 tZ169 ?_
      refine pLp (.agg [_, _, _]) (rd2 (off := 0) hc3 tA169 tZ169) ?_
      obtain ⟨v4, hv4, hk⟩ := bs hk
      refine pCall (fun _ => f172_run hv4) ?_
      refine pU ?_
      refine pE ?_
      refine gn ?_
      refine wpL_cd (b := !v4) (fun hb => ?_) (fun hb => ?_)
      · replace hk := ct hb hk
        refine wpL_sq ?_
        refine wpL_rg ?_
        refine pA (.bool _) ?_
        refine pE ?_
        refine gn ?_
        refine wpL_rt ?_
        refine br (gr (gr (br (gr ?_))))
        replace hk := lx hx1 hk
        cases hk; exact fin0 hO
      · replace hk := cf hb hk
        refine wpL_sk ?_
        refine bn (gn ?_)
        refine wpL_rg ?_
        refine pM (.int _ _) ?_
        refine pBi ?_
        refine pA (.int _ _) ?_
        refine pE ?_
        refine gn ?_
        cases hk; exact ⟨_, rfl, _, _, hO, St.hav _ ⟨rfl, rfl, rfl, trivial⟩⟩
    · replace hk := cf hb hk
      refine wpL_ex ?_
      refine ge (ge (be (gn ?_)))
      replace hk := lx hx1 hk
      refine wpL_sq ?_
      refine wpL_rg ?_
      refine pA (.bool _) ?_
      refine pE ?_
      refine gn ?_
      refine wpL_rt ?_
      cases hk; exact fin0 hO
/-- laws.eqNet -/
def f28 (aA0 : Net) (aB1 : Net) : Option Bool :=
  ((f94 aA0.Pieces aB1.Pieces).bind fun v3 => (bif !v3 then some false else ((f95 aA0.Joints aB1.Joints).bind fun v4 => (bif !v4 then some false else some true))))
theorem f28_run {aA0 : Net} {aB1 : Net} {r : Bool} {l1 l2 l3 l4 : Nat} {H : Heap} {lk : Lk} (hk : f28 aA0 aB1 = some r) (hlk : 0 < lk.length := by simp) : runL Try.prog hh 28 [.agg [.lit l1 aA0.Pieces.length (flat aA0.Pieces), .lit l2 aA0.Joints.length (flat aA0.Joints)], .agg [.lit l3 aB1.Pieces.length (flat aB1.Pieces), .lit l4 aB1.Joints.length (flat aB1.Joints)]] H lk = some (.bool r, H) := by
  refine run_start Try.func28 rfl Try.ntmps28 Try.results28 rfl rfl fun hO => ?_
  unfold f28 at hk
  refine wpL_sq ?_
  refine wpL_rg ?_
  refine pBox (cs := [_, _]) hO tZ54 (fun b1 G hO => ?_)
  refine pBox (cs := [_, _]) hO tZ54 (fun b2 G hO => ?_)
  refine pA (.bool _) ?_
  refine pE ?_
  refine gn ?_
  refine wpL_sq ?_
  refine wpL_sq ?_
  refine wpL_rg ?_
  refine pF tF54_0 ?_
  refine pLo hO 1 (.lit _ _ _) tA51 ?_
  refine pF tF54_0 ?_
  refine pLo hO 0 (.lit _ _ _) tA51 ?_
  obtain ⟨v3, hv3, hk⟩ := bs hk
  refine pCall (fun _ => f94_run hv3) ?_
  refine pU ?_
  refine pE ?_
  refine gn ?_
  refine wpL_cd (b := !v3) (fun hb => ?_) (fun hb => ?_)
  · replace hk := ct hb hk
    refine wpL_sq ?_
    refine wpL_rg ?_
    refine pA (.bool _) ?_
    refine pE ?_
    refine gn ?_
    refine wpL_rt ?_
    refine gr ?_
    cases hk; exact fin0 hO
  · replace hk := cf hb hk
    refine wpL_sk ?_
    refine gn ?_
    refine wpL_sq ?_
    refine wpL_sq ?_
    refine wpL_rg ?_
    refine pF tF54_1 ?_
    refine pLo hO 1 (.lit _ _ _) tA52 ?_
    refine pF tF54_1 ?_
    refine pLo hO 0 (.lit _ _ _) tA52 ?_
    obtain ⟨v4, hv4, hk⟩ := bs hk
    refine pCall (fun _ => f95_run hv4) ?_
    refine pU ?_
    refine pE ?_
    refine gn ?_
    refine wpL_cd (b := !v4) (fun hb => ?_) (fun hb => ?_)
    · replace hk := ct hb hk
      refine wpL_sq ?_
      refine wpL_rg ?_
      refine pA (.bool _) ?_
      refine pE ?_
      refine gn ?_
      refine wpL_rt ?_
      refine gr ?_
      cases hk; exact fin0 hO
    · replace hk := cf hb hk
      refine wpL_sk ?_
      refine gn ?_
      refine wpL_sq ?_
      refine wpL_rg ?_
      refine pA (.bool _) ?_
      refine pE ?_
      refine gn ?_
      refine wpL_rt ?_
      cases hk; exact fin0 hO
/-- laws.eqSignal -/
def f134 (aA0 : Signal) (aB1 : Signal) : Option Bool :=
  (bif !(aA0.Name.toList == aB1.Name.toList) then some false else (bif (aA0.Piece != aB1.Piece) then some false else (bif (aA0.At != aB1.At) then some false else (bif (aA0.Way != aB1.Way) then some false else some true))))
theorem f134_run {aA0 : Signal} {aB1 : Signal} {r : Bool} {H : Heap} {lk : Lk} (hk : f134 aA0 aB1 = some r) (hlk : 0 < lk.length := by simp) : runL Try.prog hh 134 [.agg [.str aA0.Name, .int .i64 aA0.Piece, .int .i64 aA0.At, .int .i64 aA0.Way], .agg [.str aB1.Name, .int .i64 aB1.Piece, .int .i64 aB1.At, .int .i64 aB1.Way]] H lk = some (.bool r, H) := by
  refine run_start Try.func134 rfl Try.ntmps134 Try.results134 rfl rfl fun hO => ?_
  unfold f134 at hk
  refine wpL_sq ?_
  refine wpL_rg ?_
  refine pBox (cs := [_, _, _, _]) hO tZ204 (fun b1 G hO => ?_)
  refine pBox (cs := [_, _, _, _]) hO tZ204 (fun b2 G hO => ?_)
  refine pA (.bool _) ?_
  refine pE ?_
  refine gn ?_
  refine wpL_sq ?_
  refine wpL_sq ?_
  refine wpL_rg ?_
  refine pF tF204_0 ?_
  refine pLo hO 1 (.str _) tA9 ?_
  refine pF tF204_0 ?_
  refine pLo hO 0 (.str _) tA9 ?_
  refine pB (a := .str _) (b := .str _) ?_
  refine pE ?_
  refine gn ?_
  refine wpL_cd (b := !(aA0.Name.toList == aB1.Name.toList)) (fun hb => ?_) (fun hb => ?_)
  · replace hk := ct hb hk
    refine wpL_sq ?_
    refine wpL_rg ?_
    refine pA (.bool _) ?_
    refine pE ?_
    refine gn ?_
    refine wpL_rt ?_
    refine gr ?_
    cases hk; exact fin0 hO
  · replace hk := cf hb hk
    refine wpL_sk ?_
    refine gn ?_
    refine wpL_sq ?_
    refine wpL_sq ?_
    refine wpL_rg ?_
    refine pF tF204_1 ?_
    refine pLo hO 1 (.int _ _) tA3 ?_
    refine pF tF204_1 ?_
    refine pLo hO 0 (.int _ _) tA3 ?_
    refine pBi ?_
    refine pE ?_
    refine gn ?_
    refine wpL_cd (b := (aA0.Piece != aB1.Piece)) (fun hb => ?_) (fun hb => ?_)
    · replace hk := ct hb hk
      refine wpL_sq ?_
      refine wpL_rg ?_
      refine pA (.bool _) ?_
      refine pE ?_
      refine gn ?_
      refine wpL_rt ?_
      refine gr ?_
      cases hk; exact fin0 hO
    · replace hk := cf hb hk
      refine wpL_sk ?_
      refine gn ?_
      refine wpL_sq ?_
      refine wpL_sq ?_
      refine wpL_rg ?_
      refine pF tF204_2 ?_
      refine pLo hO 1 (.int _ _) tA3 ?_
      refine pF tF204_2 ?_
      refine pLo hO 0 (.int _ _) tA3 ?_
      refine pBi ?_
      refine pE ?_
      refine gn ?_
      refine wpL_cd (b := (aA0.At != aB1.At)) (fun hb => ?_) (fun hb => ?_)
      · replace hk := ct hb hk
        refine wpL_sq ?_
        refine wpL_rg ?_
        refine pA (.bool _) ?_
        refine pE ?_
        refine gn ?_
        refine wpL_rt ?_
        refine gr ?_
        cases hk; exact fin0 hO
      · replace hk := cf hb hk
        refine wpL_sk ?_
        refine gn ?_
        refine wpL_sq ?_
        refine wpL_sq ?_
        refine wpL_rg ?_
        refine pF tF204_3 ?_
        refine pLo hO 1 (.int _ _) tA3 ?_
        refine pF tF204_3 ?_
        refine pLo hO 0 (.int _ _) tA3 ?_
        refine pBi ?_
        refine pE ?_
        refine gn ?_
        refine wpL_cd (b := (aA0.Way != aB1.Way)) (fun hb => ?_) (fun hb => ?_)
        · replace hk := ct hb hk
          refine wpL_sq ?_
          refine wpL_rg ?_
          refine pA (.bool _) ?_
          refine pE ?_
          refine gn ?_
          refine wpL_rt ?_
          refine gr ?_
          cases hk; exact fin0 hO
        · replace hk := cf hb hk
          refine wpL_sk ?_
          refine gn ?_
          refine wpL_sq ?_
          refine wpL_rg ?_
          refine pA (.bool _) ?_
          refine pE ?_
          refine gn ?_
          refine wpL_rt ?_
          cases hk; exact fin0 hO
/-- laws.eqSignalS -/
def f47_L1 (aA0 : List Signal) (aB1 : List Signal) : Int → Option (Int ⊕ Bool) := fun s =>
  (bif decide (s < (aA0.length : Int)) then ((getI aA0 s).bind fun c2 => ((getI aB1 s).bind fun c3 => ((f134 c2 c3).bind fun v4 => (bif !v4 then ((some false).map Sum.inr) else some (.inl (w64 (s + (1:Int)))))))) else ((some true).map Sum.inr))
def f47 (aA0 : List Signal) (aB1 : List Signal) : Option Bool :=
  (bif ((aA0.length : Int) != (aB1.length : Int)) then some false else (loopO (f47_L1 aA0 aB1) ((0:Int))))
theorem f47_run {aA0 : List Signal} {aB1 : List Signal} {r : Bool} {l1 l2 : Nat} {H : Heap} {lk : Lk} (hk : f47 aA0 aB1 = some r) (hlk : 0 < lk.length := by simp) : runL Try.prog hh 47 [.lit l1 aA0.length (flat aA0), .lit l2 aB1.length (flat aB1)] H lk = some (.bool r, H) := by
  refine run_start Try.func47 rfl Try.ntmps47 Try.results47 rfl rfl fun hO => ?_
  unfold f47 at hk
  refine wpL_sq ?_
  refine wpL_rg ?_
  refine pA (.bool _) ?_
  refine pE ?_
  refine gn ?_
  refine wpL_sq ?_
  refine wpL_sq ?_
  refine wpL_rg ?_
  refine pM (.lit _ _ _) ?_
  refine pLen tS96 ?_
  refine pM (.lit _ _ _) ?_
  refine pLen tS96 ?_
  refine pBi ?_
  refine pE ?_
  refine gn ?_
  refine wpL_cd (b := ((aA0.length : Int) != (aB1.length : Int))) (fun hb => ?_) (fun hb => ?_)
  · replace hk := ct hb hk
    refine wpL_sq ?_
    refine wpL_rg ?_
    refine pA (.bool _) ?_
    refine pE ?_
    refine gn ?_
    refine wpL_rt ?_
    refine gr ?_
    cases hk; exact fin0 hO
  · replace hk := cf hb hk
    refine wpL_sk ?_
    refine gn ?_
    refine wpL_sq ?_
    refine wpL_sq ?_
    refine wpL_rg ?_
    refine pA (.int _ _) ?_
    refine pE ?_
    refine gn ?_
    refine wpL_bl ?_
    refine wpL_loopO (F := f47_L1 aA0 aB1) (fun s S' => ∃ (J : Nat → V) (G : Heap), Owns H G [] ∧ S' = ⟨hav [(0, .lit l1 aA0.length (flat aA0)), (1, .lit l2 aB1.length (flat aB1)), (5, .int .i64 s)] J, G⟩) hk ⟨_, _, hO, St.hav _ ⟨rfl, rfl, rfl, trivial⟩⟩ ?_
    rintro x1 _ y1 ⟨J, G, hO, rfl⟩ hk hx1
    refine wpL_sq ?_
    refine wpL_sq ?_
    refine wpL_rg ?_
    refine pM (.int _ _) ?_
    refine pM (.lit _ _ _) ?_
    refine pLen tS96 ?_
    refine pBi ?_
    refine pE ?_
    refine gn ?_
    refine wpL_cd (b := decide (x1 < (aA0.length : Int))) (fun hb => ?_) (fun hb => ?_)
    · replace hk := ct hb hk
      refine wpL_sk ?_
      refine gn ?_
      refine wpL_sq ?_
      refine wpL_bl ?_
      refine wpL_sq ?_
      refine wpL_drw [(0, true), (1, true), (2, true), (3, true), (4, true), (5, true), (6, true), (7, true), (8, false), (9, false)] [_, _, _, _, _, _, _, _, _, _] (by decide +kernel) (by rfl) ?_
      refine pM (.lit _ _ _) ?_
      refine pM (.int _ _) ?_
      obtain ⟨c2, hc2, hk⟩ := bs hk
      refine pX hc2 tE96 tZ204 ?_
      refine pLp (.agg [_, _, _, _]) (rd2 (off := 0) hc2 tA204 tZ204) ?_
      refine pM (.lit _ _ _) ?_
      refine pM (.int _ _) ?_
      obtain ⟨c3, hc3, hk⟩ := bs hk
      refine pX hc3 tE96 tZ204 ?_
      refine pLp (.agg [_, _, _, _]) (rd2 (off := 0) hc3 tA204 tZ204) ?_
      obtain ⟨v4, hv4, hk⟩ := bs hk
      refine pCall (fun _ => f134_run hv4) ?_
      refine pU ?_
      refine pE ?_
      refine gn ?_
      refine wpL_cd (b := !v4) (fun hb => ?_) (fun hb => ?_)
      · replace hk := ct hb hk
        refine wpL_sq ?_
        refine wpL_rg ?_
        refine pA (.bool _) ?_
        refine pE ?_
        refine gn ?_
        refine wpL_rt ?_
        refine br (gr (gr (br (gr ?_))))
        replace hk := lx hx1 hk
        cases hk; exact fin0 hO
      · replace hk := cf hb hk
        refine wpL_sk ?_
        refine bn (gn ?_)
        refine wpL_rg ?_
        refine pM (.int _ _) ?_
        refine pBi ?_
        refine pA (.int _ _) ?_
        refine pE ?_
        refine gn ?_
        cases hk; exact ⟨_, rfl, _, _, hO, St.hav _ ⟨rfl, rfl, rfl, trivial⟩⟩
    · replace hk := cf hb hk
      refine wpL_ex ?_
      refine ge (ge (be (gn ?_)))
      replace hk := lx hx1 hk
      refine wpL_sq ?_
      refine wpL_rg ?_
      refine pA (.bool _) ?_
      refine pE ?_
      refine gn ?_
      refine wpL_rt ?_
      cases hk; exact fin0 hO
/-- laws.FnExactSignalsOk -/
def f8 (aAN0 : Net) (aASignals1 : List Signal) : Option Bool :=
  ((f23 aAN0 (1048576:Int)).bind fun v2 => (bif decide (v2 < (0:Int)) then some true else ((f43 aASignals1 v2).bind fun v3 => (bif decide (v3 < (0:Int)) then some true else ((f25 aAN0).bind fun v4 => ((f45 aASignals1).bind fun v5 => ((f44 v4 v5).bind fun v6 => ((f25 aAN0).bind fun v8 => ((f45 aASignals1).bind fun v10 => ((f46 v8 v10).bind fun v11 => ((f27 v11 v6).bind fun v13 => (bif !v13 then some false else ((f25 aAN0).bind fun v14 => ((f28 v8 v14).bind fun v15 => (bif !v15 then some false else ((f45 aASignals1).bind fun v16 => ((f47 v10 v16).bind fun v17 => (bif !v17 then some false else some true))))))))))))))))))
theorem f8_run {aAN0 : Net} {aASignals1 : List Signal} {r : Bool} {l1 l2 l3 : Nat} {H : Heap} {lk : Lk} (hk : f8 aAN0 aASignals1 = some r) (hlk : 0 < lk.length := by simp) : runL Try.prog hh 8 [.agg [.lit l1 aAN0.Pieces.length (flat aAN0.Pieces), .lit l2 aAN0.Joints.length (flat aAN0.Joints)], .lit l3 aASignals1.length (flat aASignals1)] H lk = some (.bool r, H) := by
  refine run_start Try.func8 rfl Try.ntmps8 Try.results8 rfl rfl fun hO => ?_
  unfold f8 at hk
  refine wpL_sq ?_
  refine wpL_rg ?_
  refine pBox (cs := [_, _]) hO tZ46 (fun b1 G hO => ?_)
  refine pA (.bool _) ?_
  refine pE ?_
  refine gn ?_
  refine wpL_sq ?_
  refine wpL_rg ?_
  refine pA (.int _ _) ?_
  refine pE ?_
  refine gn ?_
  refine wpL_sq ?_
  refine wpL_rg ?_
  refine pLs hO 0 [_, _] tA46 tZ46 ?_
  refine pM (.int _ _) ?_
  obtain ⟨v2, hv2, hk⟩ := bs hk
  refine pCall (fun _ => f23_run hv2) ?_
  refine pA (.int _ _) ?_
  refine pE ?_
  refine gn ?_
  refine wpL_sq ?_
  refine wpL_sq ?_
  refine wpL_rg ?_
  refine pM (.int _ _) ?_
  refine pBi ?_
  refine pE ?_
  refine gn ?_
  refine wpL_cd (b := decide (v2 < (0:Int))) (fun hb => ?_) (fun hb => ?_)
  · replace hk := ct hb hk
    refine wpL_sq ?_
    refine wpL_rg ?_
    refine pA (.bool _) ?_
    refine pE ?_
    refine gn ?_
    refine wpL_rt ?_
    refine gr ?_
    cases hk; exact fin0 hO
  · replace hk := cf hb hk
    refine wpL_sk ?_
    refine gn ?_
    refine wpL_sq ?_
    refine wpL_rg ?_
    refine pM (.lit _ _ _) ?_
    refine pM (.int _ _) ?_
    obtain ⟨v3, hv3, hk⟩ := bs hk
    refine pCall (fun _ => f43_run hv3) ?_
    refine pA (.int _ _) ?_
    refine pE ?_
    refine gn ?_
    refine wpL_sq ?_
    refine wpL_sq ?_
    refine wpL_rg ?_
    refine pM (.int _ _) ?_
    refine pBi ?_
    refine pE ?_
    refine gn ?_
    refine wpL_cd (b := decide (v3 < (0:Int))) (fun hb => ?_) (fun hb => ?_)
    · replace hk := ct hb hk
      refine wpL_sq ?_
      refine wpL_rg ?_
      refine pA (.bool _) ?_
      refine pE ?_
      refine gn ?_
      refine wpL_rt ?_
      refine gr ?_
      cases hk; exact fin0 hO
    · replace hk := cf hb hk
      refine wpL_sk ?_
      refine gn ?_
      refine wpL_sq ?_
      refine wpL_rg ?_
      refine pLs hO 0 [_, _] tA46 tZ46 ?_
      obtain ⟨v4, hv4, hk⟩ := bs hk
      refine pCall (fun _ => f25_run hv4) ?_
      refine pM (.lit _ _ _) ?_
      obtain ⟨v5, hv5, hk⟩ := bs hk
      refine pCall (fun _ => f45_run hv5) ?_
      obtain ⟨v6, hv6, hk⟩ := bs hk
      refine pCall (fun _ => f44_run hv6) ?_
      refine pNew hO tZ49 t049 (fun b7 G hO => ?_)
      refine pSt (xs := [_, _]) hO 0 tZ49 rfl (fun G hO => ?_)
      refine pE ?_
      refine gn ?_
      refine wpL_sq ?_
      refine wpL_rg ?_
      refine pLs hO 1 [_, _] tA46 tZ46 ?_
      obtain ⟨v8, hv8, hk⟩ := bs hk
      refine pCall (fun _ => f25_run hv8) ?_
      refine pNew hO tZ54 t054 (fun b9 G hO => ?_)
      refine pSt (xs := [_, _]) hO 0 tZ54 rfl (fun G hO => ?_)
      refine pE ?_
      refine gn ?_
      refine wpL_sq ?_
      refine wpL_rg ?_
      refine pM (.lit _ _ _) ?_
      obtain ⟨v10, hv10, hk⟩ := bs hk
      refine pCall (fun _ => f45_run hv10) ?_
      refine pA (.lit _ _ _) ?_
      refine pE ?_
      refine gn ?_
      refine wpL_sq ?_
      refine wpL_rg ?_
      refine pLs hO 0 [_, _] tA54 tZ54 ?_
      refine pM (.lit _ _ _) ?_
      obtain ⟨v11, hv11, hk⟩ := bs hk
      refine pCall (fun _ => f46_run hv11) ?_
      refine pNew hO tZ49 t049 (fun b12 G hO => ?_)
      refine pSt (xs := [_, _]) hO 0 tZ49 rfl (fun G hO => ?_)
      refine pE ?_
      refine gn ?_
      refine wpL_sq ?_
      refine wpL_sq ?_
      refine wpL_rg ?_
      refine pLs hO 0 [_, _] tA49 tZ49 ?_
      refine pLs hO 2 [_, _] tA49 tZ49 ?_
      obtain ⟨v13, hv13, hk⟩ := bs hk
      refine pCall (fun _ => f27_run hv13) ?_
      refine pU ?_
      refine pE ?_
      refine gn ?_
      refine wpL_cd (b := !v13) (fun hb => ?_) (fun hb => ?_)
      · replace hk := ct hb hk
        refine wpL_sq ?_
        refine wpL_rg ?_
        refine pA (.bool _) ?_
        refine pE ?_
        refine gn ?_
        refine wpL_rt ?_
        refine gr ?_
        cases hk; exact fin0 hO
      · replace hk := cf hb hk
        refine wpL_sk ?_
        refine gn ?_
        refine wpL_sq ?_
        refine wpL_sq ?_
        refine wpL_drw [(0, true), (1, true), (2, true), (3, false), (4, false)] [_, _, _, _, _] (by decide +kernel) (by rfl) ?_
        refine pLs hO 1 [_, _] tA54 tZ54 ?_
        refine pLs hO 3 [_, _] tA46 tZ46 ?_
        obtain ⟨v14, hv14, hk⟩ := bs hk
        refine pCall (fun _ => f25_run hv14) ?_
        obtain ⟨v15, hv15, hk⟩ := bs hk
        refine pCall (fun _ => f28_run hv15) ?_
        refine pU ?_
        refine pE ?_
        refine gn ?_
        refine wpL_cd (b := !v15) (fun hb => ?_) (fun hb => ?_)
        · replace hk := ct hb hk
          refine wpL_sq ?_
          refine wpL_rg ?_
          refine pA (.bool _) ?_
          refine pE ?_
          refine gn ?_
          refine wpL_rt ?_
          refine gr ?_
          cases hk; exact fin0 hO
        · replace hk := cf hb hk
          refine wpL_sk ?_
          refine gn ?_
          refine wpL_sq ?_
          refine wpL_sq ?_
          refine wpL_rg ?_
          refine pM (.lit _ _ _) ?_
          refine pM (.lit _ _ _) ?_
          obtain ⟨v16, hv16, hk⟩ := bs hk
          refine pCall (fun _ => f45_run hv16) ?_
          obtain ⟨v17, hv17, hk⟩ := bs hk
          refine pCall (fun _ => f47_run hv17) ?_
          refine pU ?_
          refine pE ?_
          refine gn ?_
          refine wpL_cd (b := !v17) (fun hb => ?_) (fun hb => ?_)
          · replace hk := ct hb hk
            refine wpL_sq ?_
            refine wpL_rg ?_
            refine pA (.bool _) ?_
            refine pE ?_
            refine gn ?_
            refine wpL_rt ?_
            refine gr ?_
            cases hk; exact fin0 hO
          · replace hk := cf hb hk
            refine wpL_sk ?_
            refine gn ?_
            refine wpL_sq ?_
            refine wpL_rg ?_
            refine pA (.bool _) ?_
            refine pE ?_
            refine gn ?_
            refine wpL_rt ?_
            cases hk; exact fin0 hO
end
end Go.Proofs.Ytgpbnbmddffhkaa.K
