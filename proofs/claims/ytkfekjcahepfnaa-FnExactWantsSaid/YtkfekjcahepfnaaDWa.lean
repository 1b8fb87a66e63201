/-
  The functions that FnExactWants reaches, as typed Lean functions, and that the interpreter computes them. No conditions.
-/
import Derived.Test.YtkfekjcahepfnaaKzi
import Derived.Test.YtkfekjcahepfnaaProg
set_option linter.unusedVariables false
set_option linter.unusedSimpArgs false
set_option maxRecDepth 100000
namespace Go.Proofs.Ytkfekjcahepfnaa.K
noncomputable section
def hh : Hints := { modes := fun k => bif Nat.beq k 31 || Nat.beq k 43 || Nat.beq k 135 || Nat.beq k 149 then [.exact] else [], thaw := fun k => Nat.beq k 40 || Nat.beq k 45 || Nat.beq k 97 || Nat.beq k 143 || Nat.beq k 144 || Nat.beq k 147, grow := fun k => false, keep := fun k => Nat.beq k 144 }
structure Row where
  Next : List Int
  Far : List Int
  Open : List Bool
  Works : List (List Bool)
instance : GoT Row := ⟨4, by decide, fun l x => GoT.encL l x.Next ++ (GoT.encL l x.Far ++ (GoT.encL l x.Open ++ (GoT.encL l x.Works))), fun x => by simp only [List.length_append, GoT.len]; rfl, fun x => by simp only [cleanL_append, GoT.clean]; rfl, fun x => by simp only [List.all_append, GoT.cell]; rfl⟩
instance : GoM Row := GoM.via (fun x => (x.Next, x.Far, x.Open, x.Works) : Row → (List Int) × (List Int) × (List Bool) × (List (List Bool))) rfl fun _ _ => rfl
theorem foc_Row_Next : Foc Row (List Int) (fun x => x.Next) (fun x y => { x with Next := y }) 0 := Foc.via (α := Row) (f := (fun x => (x.Next, x.Far, x.Open, x.Works) : Row → (List Int) × (List Int) × (List Bool) × (List (List Bool)))) (hz := rfl) (he := fun _ _ => rfl) (Foc.fst) fun _ _ => rfl
theorem foc_Row_Far : Foc Row (List Int) (fun x => x.Far) (fun x y => { x with Far := y }) 1 := Foc.via (α := Row) (f := (fun x => (x.Next, x.Far, x.Open, x.Works) : Row → (List Int) × (List Int) × (List Bool) × (List (List Bool)))) (hz := rfl) (he := fun _ _ => rfl) (Foc.comp Foc.snd (Foc.fst)) fun _ _ => rfl
theorem foc_Row_Open : Foc Row (List Bool) (fun x => x.Open) (fun x y => { x with Open := y }) 2 := Foc.via (α := Row) (f := (fun x => (x.Next, x.Far, x.Open, x.Works) : Row → (List Int) × (List Int) × (List Bool) × (List (List Bool)))) (hz := rfl) (he := fun _ _ => rfl) (Foc.comp Foc.snd (Foc.comp Foc.snd (Foc.fst))) fun _ _ => rfl
theorem foc_Row_Works : Foc Row (List (List Bool)) (fun x => x.Works) (fun x y => { x with Works := y }) 3 := Foc.via (α := Row) (f := (fun x => (x.Next, x.Far, x.Open, x.Works) : Row → (List Int) × (List Int) × (List Bool) × (List (List Bool)))) (hz := rfl) (he := fun _ _ => rfl) (Foc.comp Foc.snd (Foc.comp Foc.snd (Foc.snd))) fun _ _ => rfl
theorem th_Row {H : Heap} {d n : Nat} {rs rs1 : List Res} {cs : List V} {x : Row} (h : ThV n H d rs cs (x.Next, x.Far, x.Open, x.Works) rs1) : ThV n H d rs cs x rs1 := h
theorem ls_Row {H G : Heap} {rs : List Res} {S F : List Nat} {x : Row} {cs : List V} {j : Nat} (hO : Owns H G rs) (hj : rs[j]? = some (Tree S F x cs)) (lv n : Nat) (hn : Nat.ble (GoM.dep Row) n = true := by rfl) : ∃ M, lendV lv G (n + 1) (.agg cs) = some (.agg [.lit lv x.Next.length ((flatL 0) x.Next), .lit lv x.Far.length ((flatL 0) x.Far), .lit lv x.Open.length ((flatL 0) x.Open), .lit lv x.Works.length (flatL lv x.Works)], M) := by
  have h := ld_trS hO hj lv n hn
  have e : GoT.encL lv x = [.lit lv x.Next.length ((flatL 0) x.Next), .lit lv x.Far.length ((flatL 0) x.Far), .lit lv x.Open.length ((flatL 0) x.Open), .lit lv x.Works.length (flatL lv x.Works)] := by
    show ([.lit lv x.Next.length (flatL lv x.Next), .lit lv x.Far.length (flatL lv x.Far), .lit lv x.Open.length (flatL lv x.Open), .lit lv x.Works.length (flatL lv x.Works)] : List V) = _
    simp only [flat_lv]
  rwa [e] at h
theorem tZ47 : szOf Try.prog 47 = some 4 := by rfl
theorem tA47 : aggT Try.prog 47 = some true := by rfl
theorem tF47_0 : fieldOff Try.prog 47 0 = some 0 := by rfl
theorem tA26 : aggT Try.prog 26 = some false := by rfl
theorem tS26 : strT Try.prog 26 = some false := by rfl
theorem tF47_1 : fieldOff Try.prog 47 1 = some 1 := by rfl
theorem tF47_2 : fieldOff Try.prog 47 2 = some 2 := by rfl
theorem tA38 : aggT Try.prog 38 = some false := by rfl
theorem tS38 : strT Try.prog 38 = some false := by rfl
theorem tF47_3 : fieldOff Try.prog 47 3 = some 3 := by rfl
theorem tA45 : aggT Try.prog 45 = some false := by rfl
theorem tS45 : strT Try.prog 45 = some false := by rfl
theorem tE45 : elemT Try.prog 45 = some 38 := by rfl
theorem tZ38 : szOf Try.prog 38 = some 1 := by rfl
theorem tZ50 : szOf Try.prog 50 = some 4 := by rfl
theorem t050 : zeroOf Try.prog 50 = some [(.tl 0 []), (.tl 0 []), (.tl 0 []), (.tl 0 [])] := by rfl
theorem tE26 : elemT Try.prog 26 = some 3 := by rfl
theorem tZ3 : szOf Try.prog 3 = some 1 := by rfl
theorem tB3 : bytesOf Try.prog 3 = some 8 := by rfl
theorem t03 : zeroOf Try.prog 3 = some [.int .i64 0] := by rfl
theorem tA3 : aggT Try.prog 3 = some false := by rfl
theorem tF50_0 : fieldOff Try.prog 50 0 = some 0 := by rfl
theorem tZ26 : szOf Try.prog 26 = some 1 := by rfl
theorem tF50_1 : fieldOff Try.prog 50 1 = some 1 := by rfl
theorem tE38 : elemT Try.prog 38 = some 4 := by rfl
theorem tZ4 : szOf Try.prog 4 = some 1 := by rfl
theorem tB4 : bytesOf Try.prog 4 = some 1 := by rfl
theorem t04 : zeroOf Try.prog 4 = some [.bool false] := by rfl
theorem tA4 : aggT Try.prog 4 = some false := by rfl
theorem tF50_2 : fieldOff Try.prog 50 2 = some 2 := by rfl
theorem tB38 : bytesOf Try.prog 38 = some 24 := by rfl
theorem t038 : zeroOf Try.prog 38 = some [(.tl 0 [])] := by rfl
theorem tF50_3 : fieldOff Try.prog 50 3 = some 3 := by rfl
theorem tZ45 : szOf Try.prog 45 = some 1 := by rfl
theorem tA50 : aggT Try.prog 50 = some true := by rfl
/-- laws.szIntS -/
def f138 (aA0 : List Int) (aLeft1 : Int) : Option Int :=
  (bif decide ((w64 (aLeft1 - (aA0.length : Int))) < (0:Int)) then some (-1:Int) else some (w64 (aLeft1 - (aA0.length : Int))))
theorem f138_run {aA0 : List Int} {aLeft1 : Int} {r : Int} {l1 : Nat} {H : Heap} {lk : Lk} (hk : f138 aA0 aLeft1 = some r) (hlk : 0 < lk.length := by simp) : runL Try.prog hh 138 [.lit l1 aA0.length ((flatL 0) aA0), .int .i64 aLeft1] H lk = some (.int .i64 r, H) := by
  refine run_start Try.func138 rfl Try.ntmps138 Try.results138 rfl rfl fun hO => ?_
  unfold f138 at hk
  refine wpL_sq (wpL_rg ?_)
  refine pA (.int _ _) ?_
  refine pE (gn (wpL_sq (wpL_rg ?_)))
  refine pM (.int _ _) ?_
  refine pM (.lit _ _ _) ?_
  refine pLen tS26 ?_
  refine pBi ?_
  refine pA (.int _ _) ?_
  refine pE (gn (wpL_sq (wpL_sq (wpL_rg ?_))))
  refine pM (.int _ _) ?_
  refine pBi ?_
  refine pE (gn ?_)
  refine wpL_cd (b := decide ((w64 (aLeft1 - (aA0.length : Int))) < (0:Int))) (fun hb => ?_) (fun hb => ?_)
  · replace hk := ct hb hk
    refine wpL_sq (wpL_rg ?_)
    refine pA (.int _ _) ?_
    refine pE (gn (wpL_rt (gr ?_)))
    replace hk := Option.some.inj hk; subst hk; exact fin0 hO
  · replace hk := cf hb hk
    refine wpL_sk (gn (wpL_sq (wpL_rg ?_)))
    refine pM (.int _ _) ?_
    refine pA (.int _ _) ?_
    refine pE (gn (wpL_rt ?_))
    replace hk := Option.some.inj hk; subst hk; exact fin0 hO
/-- laws.szBoolS -/
def f139 (aA0 : List Bool) (aLeft1 : Int) : Option Int :=
  (bif decide ((w64 (aLeft1 - (aA0.length : Int))) < (0:Int)) then some (-1:Int) else some (w64 (aLeft1 - (aA0.length : Int))))
theorem f139_run {aA0 : List Bool} {aLeft1 : Int} {r : Int} {l1 : Nat} {H : Heap} {lk : Lk} (hk : f139 aA0 aLeft1 = some r) (hlk : 0 < lk.length := by simp) : runL Try.prog hh 139 [.lit l1 aA0.length ((flatL 0) aA0), .int .i64 aLeft1] H lk = some (.int .i64 r, H) := by
  refine run_start Try.func139 rfl Try.ntmps139 Try.results139 rfl rfl fun hO => ?_
  unfold f139 at hk
  refine wpL_sq (wpL_rg ?_)
  refine pA (.int _ _) ?_
  refine pE (gn (wpL_sq (wpL_rg ?_)))
  refine pM (.int _ _) ?_
  refine pM (.lit _ _ _) ?_
  refine pLen tS38 ?_
  refine pBi ?_
  refine pA (.int _ _) ?_
  refine pE (gn (wpL_sq (wpL_sq (wpL_rg ?_))))
  refine pM (.int _ _) ?_
  refine pBi ?_
  refine pE (gn ?_)
  refine wpL_cd (b := decide ((w64 (aLeft1 - (aA0.length : Int))) < (0:Int))) (fun hb => ?_) (fun hb => ?_)
  · replace hk := ct hb hk
    refine wpL_sq (wpL_rg ?_)
    refine pA (.int _ _) ?_
    refine pE (gn (wpL_rt (gr ?_)))
    replace hk := Option.some.inj hk; subst hk; exact fin0 hO
  · replace hk := cf hb hk
    refine wpL_sk (gn (wpL_sq (wpL_rg ?_)))
    refine pM (.int _ _) ?_
    refine pA (.int _ _) ?_
    refine pE (gn (wpL_rt ?_))
    replace hk := Option.some.inj hk; subst hk; exact fin0 hO
/-- laws.szBoolSS -/
def f140_L1 (aA0 : List (List Bool)) : (Int × Int) → Option ((Int × Int) ⊕ Int) := fun s =>
  (bif decide (s.2 < (aA0.length : Int)) then ((getI aA0 s.2).bind fun c3 => ((f139 c3 s.1).bind fun v4 => (bif decide (v4 < (0:Int)) then ((some (-1:Int)).map Sum.inr) else some (.inl (v4, w64 (s.2 + (1:Int))))))) else ((some s.1).map Sum.inr))
def f140 (aA0 : List (List Bool)) (aLeft1 : Int) : Option Int :=
  (bif decide ((w64 (aLeft1 - (aA0.length : Int))) < (0:Int)) then some (-1:Int) else (loopO (f140_L1 aA0) (w64 (aLeft1 - (aA0.length : Int)), (0:Int))))
theorem f140_run {aA0 : List (List Bool)} {aLeft1 : Int} {r : Int} {l1 m2 : Nat} {H : Heap} {lk : Lk} (hk : f140 aA0 aLeft1 = some r) (hlk : 0 < lk.length := by simp) : runL Try.prog hh 140 [.lit l1 aA0.length (flatL m2 aA0), .int .i64 aLeft1] H lk = some (.int .i64 r, H) := by
  refine run_start Try.func140 rfl Try.ntmps140 Try.results140 rfl rfl fun hO => ?_
  unfold f140 at hk
  refine wpL_sq (wpL_rg ?_)
  refine pA (.int _ _) ?_
  refine pE (gn (wpL_sq (wpL_rg ?_)))
  refine pM (.int _ _) ?_
  refine pM (.lit _ _ _) ?_
  refine pLen tS45 ?_
  refine pBi ?_
  refine pA (.int _ _) ?_
  refine pE (gn (wpL_sq (wpL_sq (wpL_rg ?_))))
  refine pM (.int _ _) ?_
  refine pBi ?_
  refine pE (gn ?_)
  refine wpL_cd (b := decide ((w64 (aLeft1 - (aA0.length : Int))) < (0:Int))) (fun hb => ?_) (fun hb => ?_)
  · replace hk := ct hb hk
    refine wpL_sq (wpL_rg ?_)
    refine pA (.int _ _) ?_
    refine pE (gn (wpL_rt (gr ?_)))
    replace hk := Option.some.inj hk; subst hk; exact fin0 hO
  · replace hk := cf hb hk
    refine wpL_sk (gn (wpL_sq (wpL_sq (wpL_rg ?_))))
    refine pA (.int _ _) ?_
    refine pE (gn (wpL_bl ?_))
    refine wpL_loopO (F := f140_L1 aA0) (fun s S' => ∃ (J : Nat → V) (G : Heap), Owns H G [] ∧ S' = ⟨hav [(0, .lit l1 aA0.length (flatL m2 aA0)), (1, .int .i64 s.1), (5, .int .i64 s.2)] J, G⟩) hk ⟨_, _, hO, St.hav _ ⟨rfl, rfl, rfl, trivial⟩⟩ ?_
    rintro ⟨x1, x2⟩ _ y1 ⟨J, G, hO, rfl⟩ hk hx1
    refine wpL_sq (wpL_sq (wpL_rg ?_))
    refine pM (.int _ _) ?_
    refine pM (.lit _ _ _) ?_
    refine pLen tS45 ?_
    refine pBi ?_
    refine pE (gn ?_)
    refine wpL_cd (b := decide (x2 < (aA0.length : Int))) (fun hb => ?_) (fun hb => ?_)
    · replace hk := ct hb hk
      refine wpL_sk (gn (wpL_sq (wpL_bl (wpL_sq (wpL_rg ?_)))))
      refine pM (.lit _ _ _) ?_
      refine pM (.int _ _) ?_
      obtain ⟨c3, hc3, hk⟩ := bs hk
      refine pX hc3 tE45 tZ38 ?_
      refine pLp (.lit _ _ _) (rd1 (lm := m2) (off := 0) hc3 tA38) ?_
      refine pM (.int _ _) ?_
      obtain ⟨v4, hv4, hk⟩ := bs hk
      refine pCall (fun _ => f139_run hv4) ?_
      refine pA (.int _ _) ?_
      refine pE (gn (wpL_sq (wpL_rg ?_)))
      refine pM (.int _ _) ?_
      refine pBi ?_
      refine pE (gn ?_)
      refine wpL_cd (b := decide (v4 < (0:Int))) (fun hb => ?_) (fun hb => ?_)
      · replace hk := ct hb hk
        refine wpL_sq (wpL_rg ?_)
        refine pA (.int _ _) ?_
        refine pE (gn (wpL_rt (br (gr (gr (br (gr ?_)))))))
        replace hk := lx hx1 hk
        replace hk := Option.some.inj hk; subst hk; exact fin0 hO
      · replace hk := cf hb hk
        refine wpL_sk (bn (gn (wpL_rg ?_)))
        refine pM (.int _ _) ?_
        refine pBi ?_
        refine pA (.int _ _) ?_
        refine pE (gn ?_)
        cases hk; exact ⟨_, rfl, _, _, hO, St.hav _ ⟨rfl, rfl, rfl, trivial⟩⟩
    · replace hk := cf hb hk
      refine wpL_ex (ge (ge (be (gn ?_))))
      replace hk := lx hx1 hk
      refine wpL_sq (wpL_rg ?_)
      refine pM (.int _ _) ?_
      refine pA (.int _ _) ?_
      refine pE (gn (wpL_rt ?_))
      replace hk := Option.some.inj hk; subst hk; exact fin0 hO
/-- laws.szRow -/
def f38 (aA0 : Row) (aLeft1 : Int) : Option Int :=
  ((f138 aA0.Next aLeft1).bind fun v2 => (bif decide (v2 < (0:Int)) then some (-1:Int) else ((f138 aA0.Far v2).bind fun v3 => (bif decide (v3 < (0:Int)) then some (-1:Int) else ((f139 aA0.Open v3).bind fun v4 => (bif decide (v4 < (0:Int)) then some (-1:Int) else ((f140 aA0.Works v4).bind fun v5 => (bif decide (v5 < (0:Int)) then some (-1:Int) else some v5))))))))
theorem f38_run {aA0 : Row} {aLeft1 : Int} {r : Int} {l1 l2 l3 l4 m5 : Nat} {H : Heap} {lk : Lk} (hk : f38 aA0 aLeft1 = some r) (hlk : 0 < lk.length := by simp) : runL Try.prog hh 38 [.agg [.lit l1 aA0.Next.length ((flatL 0) aA0.Next), .lit l2 aA0.Far.length ((flatL 0) aA0.Far), .lit l3 aA0.Open.length ((flatL 0) aA0.Open), .lit l4 aA0.Works.length (flatL m5 aA0.Works)], .int .i64 aLeft1] H lk = some (.int .i64 r, H) := by
  refine run_start Try.func38 rfl Try.ntmps38 Try.results38 rfl rfl fun hO => ?_
  unfold f38 at hk
  refine wpL_sq (wpL_rg ?_)
  refine pBox (cs := [_, _, _, _]) hO tZ47 (fun b1 G hO => ?_)
  refine pA (.int _ _) ?_
  refine pE (gn (wpL_sq (wpL_rg ?_)))
  refine pF tF47_0 ?_
  refine pLo hO 0 (.lit _ _ _) tA26 ?_
  refine pM (.int _ _) ?_
  obtain ⟨v2, hv2, hk⟩ := bs hk
  refine pCall (fun _ => f138_run hv2) ?_
  refine pA (.int _ _) ?_
  refine pE (gn (wpL_sq (wpL_sq (wpL_rg ?_))))
  refine pM (.int _ _) ?_
  refine pBi ?_
  refine pE (gn ?_)
  refine wpL_cd (b := decide (v2 < (0:Int))) (fun hb => ?_) (fun hb => ?_)
  · replace hk := ct hb hk
    refine wpL_sq (wpL_rg ?_)
    refine pA (.int _ _) ?_
    refine pE (gn (wpL_rt (gr ?_)))
    replace hk := Option.some.inj hk; subst hk; exact fin0 hO
  · replace hk := cf hb hk
    refine wpL_sk (gn (wpL_sq (wpL_rg ?_)))
    refine pF tF47_1 ?_
    refine pLo hO 0 (.lit _ _ _) tA26 ?_
    refine pM (.int _ _) ?_
    obtain ⟨v3, hv3, hk⟩ := bs hk
    refine pCall (fun _ => f138_run hv3) ?_
    refine pA (.int _ _) ?_
    refine pE (gn (wpL_sq (wpL_sq (wpL_rg ?_))))
    refine pM (.int _ _) ?_
    refine pBi ?_
    refine pE (gn ?_)
    refine wpL_cd (b := decide (v3 < (0:Int))) (fun hb => ?_) (fun hb => ?_)
    · replace hk := ct hb hk
      refine wpL_sq (wpL_rg ?_)
      refine pA (.int _ _) ?_
      refine pE (gn (wpL_rt (gr ?_)))
      replace hk := Option.some.inj hk; subst hk; exact fin0 hO
    · replace hk := cf hb hk
      refine wpL_sk (gn (wpL_sq (wpL_rg ?_)))
      refine pF tF47_2 ?_
      refine pLo hO 0 (.lit _ _ _) tA38 ?_
      refine pM (.int _ _) ?_
      obtain ⟨v4, hv4, hk⟩ := bs hk
      refine pCall (fun _ => f139_run hv4) ?_
      refine pA (.int _ _) ?_
      refine pE (gn (wpL_sq (wpL_sq (wpL_rg ?_))))
      refine pM (.int _ _) ?_
      refine pBi ?_
      refine pE (gn ?_)
      refine wpL_cd (b := decide (v4 < (0:Int))) (fun hb => ?_) (fun hb => ?_)
      · replace hk := ct hb hk
        refine wpL_sq (wpL_rg ?_)
        refine pA (.int _ _) ?_
        refine pE (gn (wpL_rt (gr ?_)))
        replace hk := Option.some.inj hk; subst hk; exact fin0 hO
      · replace hk := cf hb hk
        refine wpL_sk (gn (wpL_sq (wpL_rg ?_)))
        refine pF tF47_3 ?_
        refine pLo hO 0 (.lit _ _ _) tA45 ?_
        refine pM (.int _ _) ?_
        obtain ⟨v5, hv5, hk⟩ := bs hk
        refine pCall (fun _ => f140_run hv5) ?_
        refine pA (.int _ _) ?_
        refine pE (gn (wpL_sq (wpL_sq (wpL_rg ?_))))
        refine pM (.int _ _) ?_
        refine pBi ?_
        refine pE (gn ?_)
        refine wpL_cd (b := decide (v5 < (0:Int))) (fun hb => ?_) (fun hb => ?_)
        · replace hk := ct hb hk
          refine wpL_sq (wpL_rg ?_)
          refine pA (.int _ _) ?_
          refine pE (gn (wpL_rt (gr ?_)))
          replace hk := Option.some.inj hk; subst hk; exact fin0 hO
        · replace hk := cf hb hk
          refine wpL_sk (gn (wpL_sq (wpL_rg ?_)))
          refine pM (.int _ _) ?_
          refine pA (.int _ _) ?_
          refine pE (gn (wpL_rt ?_))
          replace hk := Option.some.inj hk; subst hk; exact fin0 hO
/-- laws.toIntS -/
def f97_L1 (aA0 : List Int) : ((List Int) × Int) → Option (((List Int) × Int) ⊕ (List Int)) := fun s =>
  (bif decide (s.2 < (aA0.length : Int)) then ((getI aA0 s.2).bind fun c5 => ((getI s.1 s.2).bind fun c6 => some (.inl (s.1.set s.2.toNat c5, w64 (s.2 + (1:Int)))))) else ((some s.1).map Sum.inr))
def f97 (aA0 : List Int) : Option (List Int) :=
  ((makeB 8 (aA0.length : Int)).bind fun m1 => (loopO (f97_L1 aA0) (List.replicate m1 (0 : Int), (0:Int))))
theorem f97_run {aA0 : List Int} {r : (List Int)} {l1 : Nat} {H : Heap} {lk : Lk} (hk : f97 aA0 = some r) (hlk : 0 < lk.length := by simp) : ∃ v H1, runL Try.prog hh 97 [.lit l1 aA0.length ((flatL 0) aA0)] H lk = some (v, H1) ∧ FreshL H r v H1 := by
  refine run_startR Try.func97 rfl Try.ntmps97 Try.results97 rfl rfl ?_
  have hO := Owns.nil H
  unfold f97 at hk
  refine wpL_sq (wpL_rg ?_)
  refine pA (.tl 0 []) ?_
  refine pE (gn (wpL_sq (wpL_rg ?_)))
  refine pM (.lit _ _ _) ?_
  refine pLen tS26 ?_
  obtain ⟨m1, hm1, hk⟩ := bs hk
  refine pMk hO hm1 (0 : Int) tE26 tZ3 tB3 t03 (fun b2 G hO => ?_)
  refine pA (.sl _ _ _) ?_
  refine pE (gn (wpL_sq (wpL_sq (wpL_rg ?_))))
  refine pA (.int _ _) ?_
  refine pE (gn (wpL_bl ?_))
  refine wpL_loopO (F := f97_L1 aA0) (fun s S' => ∃ (J : Nat → V) (G : Heap), s.1.length = m1 ∧ Owns H G [.blk b2 (.cells 1 ((flatL 0) s.1))] ∧ S' = ⟨hav [(0, .lit l1 aA0.length ((flatL 0) aA0)), (3, .sl b2 0 m1), (4, .int .i64 s.2)] J, G⟩) hk ⟨_, _, List.length_replicate, hO, St.hav _ ⟨rfl, rfl, rfl, trivial⟩⟩ ?_
  rintro ⟨x3, x4⟩ _ y1 ⟨J, G, hl3, hO, rfl⟩ hk hx1
  refine wpL_sq (wpL_sq (wpL_rg ?_))
  refine pM (.int _ _) ?_
  refine pM (.lit _ _ _) ?_
  refine pLen tS26 ?_
  refine pBi ?_
  refine pE (gn ?_)
  refine wpL_cd (b := decide (x4 < (aA0.length : Int))) (fun hb => ?_) (fun hb => ?_)
  · replace hk := ct hb hk
    refine wpL_sk (gn (wpL_sq (wpL_bl (wpL_rg ?_))))
    refine pM (.sl _ _ _) ?_
    refine pM (.int _ _) ?_
    refine pM (.lit _ _ _) ?_
    refine pM (.int _ _) ?_
    obtain ⟨c5, hc5, hk⟩ := bs hk
    refine pX hc5 tE26 tZ3 ?_
    refine pLp (.int _ _) (rd1 (lm := 0) (off := 0) hc5 tA3) ?_
    obtain ⟨c6, hc6, hk⟩ := bs hk
    refine pXm hl3 hc6 tE26 tZ3 ?_
    refine pSm hO 0 hc6 tZ3 rfl c5 (.int _ _) (fun G hO => ?_)
    refine pE (bn (gn (wpL_rg ?_)))
    refine pM (.int _ _) ?_
    refine pBi ?_
    refine pA (.int _ _) ?_
    refine pE (gn ?_)
    cases hk; exact ⟨_, rfl, _, _, (List.length_set.trans hl3), hO, St.hav _ ⟨rfl, rfl, rfl, trivial⟩⟩
  · replace hk := cf hb hk
    refine wpL_ex (ge (ge (be (gn ?_))))
    replace hk := lx hx1 hk
    refine wpL_sq (wpL_rg ?_)
    refine pM (.sl _ _ _) ?_
    refine pA (.sl _ _ _) ?_
    refine pE (gn (wpL_rt ?_))
    replace hk := Option.some.inj hk; subst hk; exact finThL hO (th_made (xs := x3) hl3 hlk 0) (resT (.sl _ _ _) resN)
/-- laws.toBoolS -/
def f143_L1 (aA0 : List Bool) : ((List Bool) × Int) → Option (((List Bool) × Int) ⊕ (List Bool)) := fun s =>
  (bif decide (s.2 < (aA0.length : Int)) then ((getI aA0 s.2).bind fun c5 => ((getI s.1 s.2).bind fun c6 => some (.inl (s.1.set s.2.toNat c5, w64 (s.2 + (1:Int)))))) else ((some s.1).map Sum.inr))
def f143 (aA0 : List Bool) : Option (List Bool) :=
  ((makeB 1 (aA0.length : Int)).bind fun m1 => (loopO (f143_L1 aA0) (List.replicate m1 (false : Bool), (0:Int))))
theorem f143_run {aA0 : List Bool} {r : (List Bool)} {l1 : Nat} {H : Heap} {lk : Lk} (hk : f143 aA0 = some r) (hlk : 0 < lk.length := by simp) : ∃ v H1, runL Try.prog hh 143 [.lit l1 aA0.length ((flatL 0) aA0)] H lk = some (v, H1) ∧ FreshL H r v H1 := by
  refine run_startR Try.func143 rfl Try.ntmps143 Try.results143 rfl rfl ?_
  have hO := Owns.nil H
  unfold f143 at hk
  refine wpL_sq (wpL_rg ?_)
  refine pA (.tl 0 []) ?_
  refine pE (gn (wpL_sq (wpL_rg ?_)))
  refine pM (.lit _ _ _) ?_
  refine pLen tS38 ?_
  obtain ⟨m1, hm1, hk⟩ := bs hk
  refine pMk hO hm1 (false : Bool) tE38 tZ4 tB4 t04 (fun b2 G hO => ?_)
  refine pA (.sl _ _ _) ?_
  refine pE (gn (wpL_sq (wpL_sq (wpL_rg ?_))))
  refine pA (.int _ _) ?_
  refine pE (gn (wpL_bl ?_))
  refine wpL_loopO (F := f143_L1 aA0) (fun s S' => ∃ (J : Nat → V) (G : Heap), s.1.length = m1 ∧ Owns H G [.blk b2 (.cells 1 ((flatL 0) s.1))] ∧ S' = ⟨hav [(0, .lit l1 aA0.length ((flatL 0) aA0)), (3, .sl b2 0 m1), (4, .int .i64 s.2)] J, G⟩) hk ⟨_, _, List.length_replicate, hO, St.hav _ ⟨rfl, rfl, rfl, trivial⟩⟩ ?_
  rintro ⟨x3, x4⟩ _ y1 ⟨J, G, hl3, hO, rfl⟩ hk hx1
  refine wpL_sq (wpL_sq (wpL_rg ?_))
  refine pM (.int _ _) ?_
  refine pM (.lit _ _ _) ?_
  refine pLen tS38 ?_
  refine pBi ?_
  refine pE (gn ?_)
  refine wpL_cd (b := decide (x4 < (aA0.length : Int))) (fun hb => ?_) (fun hb => ?_)
  · replace hk := ct hb hk
    refine wpL_sk (gn (wpL_sq (wpL_bl (wpL_rg ?_))))
    refine pM (.sl _ _ _) ?_
    refine pM (.int _ _) ?_
    refine pM (.lit _ _ _) ?_
    refine pM (.int _ _) ?_
    obtain ⟨c5, hc5, hk⟩ := bs hk
    refine pX hc5 tE38 tZ4 ?_
    refine pLp (.bool _) (rd1 (lm := 0) (off := 0) hc5 tA4) ?_
    obtain ⟨c6, hc6, hk⟩ := bs hk
    refine pXm hl3 hc6 tE38 tZ4 ?_
    refine pSm hO 0 hc6 tZ4 rfl c5 (.bool _) (fun G hO => ?_)
    refine pE (bn (gn (wpL_rg ?_)))
    refine pM (.int _ _) ?_
    refine pBi ?_
    refine pA (.int _ _) ?_
    refine pE (gn ?_)
    cases hk; exact ⟨_, rfl, _, _, (List.length_set.trans hl3), hO, St.hav _ ⟨rfl, rfl, rfl, trivial⟩⟩
  · replace hk := cf hb hk
    refine wpL_ex (ge (ge (be (gn ?_))))
    replace hk := lx hx1 hk
    refine wpL_sq (wpL_rg ?_)
    refine pM (.sl _ _ _) ?_
    refine pA (.sl _ _ _) ?_
    refine pE (gn (wpL_rt ?_))
    replace hk := Option.some.inj hk; subst hk; exact finThL hO (th_made (xs := x3) hl3 hlk 0) (resT (.sl _ _ _) resN)
/-- laws.toBoolSS -/
def f144_L1 (aA0 : List (List Bool)) : ((List (List Bool)) × Int) → Option (((List (List Bool)) × Int) ⊕ (List (List Bool))) := fun s =>
  (bif decide (s.2 < (aA0.length : Int)) then ((getI aA0 s.2).bind fun c7 => ((f143 c7).bind fun v8 => ((getI s.1 s.2).bind fun c10 => some (.inl (s.1.set s.2.toNat v8, w64 (s.2 + (1:Int))))))) else ((some s.1).map Sum.inr))
def f144 (aA0 : List (List Bool)) : Option (List (List Bool)) :=
  ((makeB 24 (aA0.length : Int)).bind fun m1 => (loopO (f144_L1 aA0) (List.replicate m1 ([] : List Bool), (0:Int))))
theorem f144_run {aA0 : List (List Bool)} {r : (List (List Bool))} {l1 m2 : Nat} {H : Heap} {lk : Lk} (hk : f144 aA0 = some r) (hlk : 0 < lk.length := by simp) : ∃ v H1, runL Try.prog hh 144 [.lit l1 aA0.length (flatL m2 aA0)] H lk = some (v, H1) ∧ FreshL H r v H1 := by
  refine run_startR Try.func144 rfl Try.ntmps144 Try.results144 rfl rfl ?_
  have hO := Owns.nil H
  unfold f144 at hk
  refine wpL_sq (wpL_rg ?_)
  refine pA (.tl 0 []) ?_
  refine pE (gn (wpL_sq (wpL_rg ?_)))
  refine pM (.lit _ _ _) ?_
  refine pLen tS45 ?_
  obtain ⟨m1, hm1, hk⟩ := bs hk
  refine pMkT hO hm1 ([] : List Bool) tE45 tZ38 tB38 t038 (fun G => (show GoM.tr G ([] : List Bool) [(.tl 0 [])] [] from .inl ⟨rfl, rfl, rfl⟩)) (fun b2 G hO => ?_)
  refine pA (.sl b2 0 m1) ?_
  refine pE (gn (wpL_sq (wpL_sq (wpL_rg ?_))))
  refine pA (.int _ _) ?_
  refine pE (gn (wpL_bl ?_))
  refine wpL_loopO (F := f144_L1 aA0) (fun s S' => ∃ (F5 : List Nat) (J : Nat → V) (G : Heap), Owns H G [Tree [] F5 s.1 [.sl b2 0 m1]] ∧ S' = ⟨hav [(0, .lit l1 aA0.length (flatL m2 aA0)), (3, (.sl b2 0 m1)), (4, .int .i64 s.2)] J, G⟩) hk ⟨[b2], _, _, hO, St.hav _ ⟨rfl, rfl, rfl, trivial⟩⟩ ?_
  rintro ⟨x4, x6⟩ _ y1 ⟨F5, J, G, hO, rfl⟩ hk hx1
  refine wpL_sq (wpL_sq (wpL_rg ?_))
  refine pM (.int _ _) ?_
  refine pM (.lit _ _ _) ?_
  refine pLen tS45 ?_
  refine pBi ?_
  refine pE (gn ?_)
  refine wpL_cd (b := decide (x6 < (aA0.length : Int))) (fun hb => ?_) (fun hb => ?_)
  · replace hk := ct hb hk
    refine wpL_sk (gn (wpL_sq (wpL_bl (wpL_rg ?_))))
    refine pM (.sl b2 0 m1) ?_
    refine pM (.int _ _) ?_
    refine pM (.lit _ _ _) ?_
    refine pM (.int _ _) ?_
    obtain ⟨c7, hc7, hk⟩ := bs hk
    refine pX hc7 tE45 tZ38 ?_
    refine pLp (.lit _ _ _) (rd1 (lm := m2) (off := 0) hc7 tA38) ?_
    obtain ⟨v8, hv8, hk⟩ := bs hk
    refine pCN hO (fun _ => f143_run hv8) (fun u9 F9 G hO => ?_)
    obtain ⟨c10, hc10, hk⟩ := bs hk
    refine pXT hO 1 hc10 tE45 tZ38 (fun b11 hb11 => ?_)
    refine pSTT hO 0 hb11 hc10 tZ38 rfl (fun G hO => ?_) (h3 := (tl_cells hO (j := 0) rfl).1)
    refine pE (bn (gn (wpL_rg ?_)))
    refine pM (.int _ _) ?_
    refine pBi ?_
    refine pA (.int _ _) ?_
    refine pE (gn ?_)
    cases hk; exact ⟨_, rfl, (F5 ++ F9), _, _, hO, St.hav _ ⟨rfl, rfl, rfl, trivial⟩⟩
  · replace hk := cf hb hk
    refine wpL_ex (ge (ge (be (gn ?_))))
    replace hk := lx hx1 hk
    refine wpL_sq (wpL_rg ?_)
    refine pM (.sl b2 0 m1) ?_
    refine pA (.sl b2 0 m1) ?_
    refine pE (gn (wpL_rt ?_))
    replace hk := Option.some.inj hk; subst hk; exact finThL hO (th_tree (x := x4) 0) (resT (.sl b2 0 m1) resN)
/-- laws.toRow -/
def f40 (aA0 : Row) : Option Row :=
  ((f97 aA0.Next).bind fun v4 => ((f97 aA0.Far).bind fun v7 => ((f143 aA0.Open).bind fun v10 => ((f144 aA0.Works).bind fun v13 => some ({ Next := v4, Far := v7, Open := v10, Works := v13 } : Row)))))
theorem f40_run {aA0 : Row} {r : Row} {l1 l2 l3 l4 m5 : Nat} {H : Heap} {lk : Lk} (hk : f40 aA0 = some r) (hlk : 0 < lk.length := by simp) : ∃ v H1, runL Try.prog hh 40 [.agg [.lit l1 aA0.Next.length ((flatL 0) aA0.Next), .lit l2 aA0.Far.length ((flatL 0) aA0.Far), .lit l3 aA0.Open.length ((flatL 0) aA0.Open), .lit l4 aA0.Works.length (flatL m5 aA0.Works)]] H lk = some (v, H1) ∧ FreshS H r v H1 := by
  refine run_startR Try.func40 rfl Try.ntmps40 Try.results40 rfl rfl ?_
  have hO := Owns.nil H
  unfold f40 at hk
  refine wpL_sq (wpL_rg ?_)
  refine pBox (cs := [_, _, _, _]) hO tZ47 (fun b1 G hO => ?_)
  refine pNew hO tZ50 t050 (fun b2 G hO => ?_)
  refine pE (gn (wpL_sq (wpL_rg ?_)))
  refine pNew hO tZ50 t050 (fun b3 G hO => ?_)
  refine pE (gn (wpL_sq (wpL_rg ?_)))
  refine pF tF47_0 ?_
  refine pLo hO 2 (.lit _ _ _) tA26 ?_
  obtain ⟨v4, hv4, hk⟩ := bs hk
  refine pCN hO (fun _ => f97_run hv4) (fun u5 F5 G hO => ?_)
  refine pF tF50_0 ?_
  have hc6 := tl_cells hO (j := 0) rfl
  refine pSt (xs := [_]) hO 1 tZ26 rfl (fun G hO => ?_) (h3 := hc6.1) (h6 := one_cell hc6.2)
  refine pE (gn (wpL_sq (wpL_rg ?_)))
  refine pF tF47_1 ?_
  refine pLo hO 3 (.lit _ _ _) tA26 ?_
  obtain ⟨v7, hv7, hk⟩ := bs hk
  refine pCN hO (fun _ => f97_run hv7) (fun u8 F8 G hO => ?_)
  refine pF tF50_1 ?_
  have hc9 := tl_cells hO (j := 0) rfl
  refine pSt (xs := [_]) hO 2 tZ26 rfl (fun G hO => ?_) (h3 := hc9.1) (h6 := one_cell hc9.2)
  refine pE (gn (wpL_sq (wpL_rg ?_)))
  refine pF tF47_2 ?_
  refine pLo hO 4 (.lit _ _ _) tA38 ?_
  obtain ⟨v10, hv10, hk⟩ := bs hk
  refine pCN hO (fun _ => f143_run hv10) (fun u11 F11 G hO => ?_)
  refine pF tF50_2 ?_
  have hc12 := tl_cells hO (j := 0) rfl
  refine pSt (xs := [_]) hO 3 tZ38 rfl (fun G hO => ?_) (h3 := hc12.1) (h6 := one_cell hc12.2)
  refine pE (gn (wpL_sq (wpL_rg ?_)))
  refine pF tF47_3 ?_
  refine pLo hO 5 (.lit _ _ _) tA45 ?_
  obtain ⟨v13, hv13, hk⟩ := bs hk
  refine pCN hO (fun _ => f144_run hv13) (fun u14 F14 G hO => ?_)
  refine pF tF50_3 ?_
  have hc15 := tl_cells hO (j := 0) rfl
  refine pSt (xs := [_]) hO 4 tZ45 rfl (fun G hO => ?_) (h3 := hc15.1) (h6 := one_cell hc15.2)
  refine pE (gn (wpL_sq (wpL_rg ?_)))
  refine pLs hO 4 [_, _, _, _] tA50 tZ50 ?_
  have hc16 := tl_cells hO (j := 3) rfl
  have hc17 := tl_cells hO (j := 2) rfl
  have hc18 := tl_cells hO (j := 1) rfl
  have hc19 := tl_cells hO (j := 0) rfl
  refine pSt (xs := [_, _, _, _]) hO 5 tZ50 rfl (fun G hO => ?_) (h6 := (all_c hc16.2 (all_c hc17.2 (all_c hc18.2 (all_c hc19.2 all_n)))))
  refine pE (gn (wpL_rt ?_))
  replace hk := Option.some.inj hk; subst hk; exact finThS hO (th_Row (x := ({ Next := v4, Far := v7, Open := v10, Works := v13 } : Row)) (th_pair (c1 := [_]) (th_tree (x := v4) 3) (th_pair (c1 := [_]) (th_tree (x := v7) 2) (th_pair (c1 := [_]) (th_tree (x := v10) 1) (th_tree (x := v13) 0))))) (resS hO 5 [_, _, _, _] tA50 tZ50 resN)
/-- spec.l20in -/
def f253 (aX0 : Int) (aA1 : Int) (aB2 : Int) : Option Bool :=
  some (decide (aX0 ≥ aA1) && decide (aX0 ≤ aB2))
theorem f253_run {aX0 : Int} {aA1 : Int} {aB2 : Int} {r : Bool} {H : Heap} {lk : Lk} (hk : f253 aX0 aA1 aB2 = some r) (hlk : 0 < lk.length := by simp) : runL Try.prog hh 253 [.int .i64 aX0, .int .i64 aA1, .int .i64 aB2] H lk = some (.bool r, H) := by
  refine run_start Try.func253 rfl Try.ntmps253 Try.results253 rfl rfl fun hO => ?_
  unfold f253 at hk
  refine wpL_sq (wpL_rg ?_)
  refine pA (.bool _) ?_
  refine pE (gn (wpL_sq (wpL_rg ?_)))
  refine pM (.int _ _) ?_
  refine pM (.int _ _) ?_
  refine pBi ?_
  refine pM (.bool _) ?_
  refine wpR_mid (l1 := [_, _, _, _]) (fun S' => ∃ J, S' = ⟨hav [(14, .bool (decide (aX0 ≥ aA1) && decide (aX0 ≤ aB2)))] J, H⟩) ?_ ?_
  · refine bc (b := decide (aX0 ≥ aA1)) (fun hg1 => ?_) (fun hg1 => ?_)
    · refine pGy hg1 ?_
      refine pM (.int _ _) ?_
      refine pGy hg1 ?_
      refine pM (.int _ _) ?_
      refine pGy hg1 ?_
      refine pBi ?_
      refine pPt hg1 (.bool _) ?_
      exact pE ⟨_, St.hav _ ⟨by rw [hg1]; rfl, trivial⟩⟩
    · refine pGn hg1 ?_
      refine pGn hg1 ?_
      refine pGn hg1 ?_
      refine pPf hg1 (.bool _) ?_
      exact pE ⟨_, St.hav _ ⟨by rw [hg1]; rfl, trivial⟩⟩
  · rintro _ ⟨J, rfl⟩
    refine pA (.bool _) ?_
    refine pE (gn (wpL_rt ?_))
    replace hk := Option.some.inj hk; subst hk; exact fin0 hO
/-- spec.RowOk -/
def f141_L2 (aR0 : Row) : Int → Option (Int ⊕ Int) := fun s =>
  (bif decide (s < (aR0.Works.length : Int)) then ((getI aR0.Works s).bind fun c9 => (bif ((c9.length : Int) != (4:Int)) then ((some (3:Int)).map Sum.inr) else some (.inl (w64 (s + (1:Int)))))) else ((some (0:Int)).map Sum.inr))
def f141_L1 (aR0 : Row) : Int → Option (Int ⊕ Int) := fun s =>
  (bif decide (s < (aR0.Next.length : Int)) then ((getI aR0.Next s).bind fun c3 => ((f253 c3 (-1:Int) (w64 ((aR0.Next.length : Int) - (1:Int)))).bind fun v4 => ((bif !v4 then some true else ((getI aR0.Far s).bind fun c6 => ((f253 c6 (0:Int) (1000000:Int)).bind fun v7 => some (!v7)))).bind fun t5 => (bif t5 then ((some (2:Int)).map Sum.inr) else some (.inl (w64 (s + (1:Int)))))))) else ((loopO (f141_L2 aR0) ((0:Int))).map Sum.inr))
def f141 (aR0 : Row) : Option Int :=
  (bif (((decide ((aR0.Next.length : Int) > (60:Int)) || ((aR0.Far.length : Int) != (aR0.Next.length : Int))) || ((aR0.Open.length : Int) != (aR0.Next.length : Int))) || ((aR0.Works.length : Int) != (aR0.Next.length : Int))) then some (1:Int) else (loopO (f141_L1 aR0) ((0:Int))))
theorem f141_run {aR0 : Row} {r : Int} {l1 l2 l3 l4 m5 : Nat} {H : Heap} {lk : Lk} (hk : f141 aR0 = some r) (hlk : 0 < lk.length := by simp) : runL Try.prog hh 141 [.agg [.lit l1 aR0.Next.length ((flatL 0) aR0.Next), .lit l2 aR0.Far.length ((flatL 0) aR0.Far), .lit l3 aR0.Open.length ((flatL 0) aR0.Open), .lit l4 aR0.Works.length (flatL m5 aR0.Works)]] H lk = some (.int .i64 r, H) := by
  refine run_start Try.func141 rfl Try.ntmps141 Try.results141 rfl rfl fun hO => ?_
  unfold f141 at hk
  refine wpL_sq (wpL_rg ?_)
  refine pBox (cs := [_, _, _, _]) hO tZ50 (fun b1 G hO => ?_)
  refine pA (.int _ _) ?_
  refine pE (gn (wpL_sq (wpL_rg ?_)))
  refine pF tF50_0 ?_
  refine pLo hO 0 (.lit _ _ _) tA26 ?_
  refine pLen tS26 ?_
  refine pA (.int _ _) ?_
  refine pE (gn (wpL_sq (wpL_sq (wpL_rg ?_))))
  refine pM (.int _ _) ?_
  refine pBi ?_
  refine pM (.bool _) ?_
  refine wpR_mid (l1 := [_, _, _, _, _, _]) (fun S' => ∃ J, S' = ⟨hav [(1, .ptr b1 0), (3, .int .i64 (aR0.Next.length : Int)), (19, .bool (decide ((aR0.Next.length : Int) > (60:Int)) || ((aR0.Far.length : Int) != (aR0.Next.length : Int))))] J, G⟩) ?_ ?_
  · refine bc (b := decide ((aR0.Next.length : Int) > (60:Int))) (fun hg1 => ?_) (fun hg1 => ?_)
    · refine pGn hg1 ?_
      refine pGn hg1 ?_
      refine pGn hg1 ?_
      refine pGn hg1 ?_
      refine pGn hg1 ?_
      refine pPt hg1 (.bool _) ?_
      exact pE ⟨_, St.hav _ ⟨rfl, rfl, by rw [hg1]; rfl, trivial⟩⟩
    · refine pGy hg1 ?_
      refine pF tF50_1 ?_
      refine pGy hg1 ?_
      refine pLo hO 0 (.lit _ _ _) tA26 ?_
      refine pGy hg1 ?_
      refine pLen tS26 ?_
      refine pGy hg1 ?_
      refine pM (.int _ _) ?_
      refine pGy hg1 ?_
      refine pBi ?_
      refine pPf hg1 (.bool _) ?_
      exact pE ⟨_, St.hav _ ⟨rfl, rfl, by rw [hg1]; rfl, trivial⟩⟩
  · rintro _ ⟨J, rfl⟩
    refine pM (.bool _) ?_
    refine wpR_mid (l1 := [_, _, _, _, _, _]) (fun S' => ∃ J, S' = ⟨hav [(1, .ptr b1 0), (3, .int .i64 (aR0.Next.length : Int)), (26, .bool ((decide ((aR0.Next.length : Int) > (60:Int)) || ((aR0.Far.length : Int) != (aR0.Next.length : Int))) || ((aR0.Open.length : Int) != (aR0.Next.length : Int))))] J, G⟩) ?_ ?_
    · refine bc (b := (decide ((aR0.Next.length : Int) > (60:Int)) || ((aR0.Far.length : Int) != (aR0.Next.length : Int)))) (fun hg1 => ?_) (fun hg1 => ?_)
      · refine pGn hg1 ?_
        refine pGn hg1 ?_
        refine pGn hg1 ?_
        refine pGn hg1 ?_
        refine pGn hg1 ?_
        refine pPt hg1 (.bool _) ?_
        exact pE ⟨_, St.hav _ ⟨rfl, rfl, by rw [hg1]; rfl, trivial⟩⟩
      · refine pGy hg1 ?_
        refine pF tF50_2 ?_
        refine pGy hg1 ?_
        refine pLo hO 0 (.lit _ _ _) tA38 ?_
        refine pGy hg1 ?_
        refine pLen tS38 ?_
        refine pGy hg1 ?_
        refine pM (.int _ _) ?_
        refine pGy hg1 ?_
        refine pBi ?_
        refine pPf hg1 (.bool _) ?_
        exact pE ⟨_, St.hav _ ⟨rfl, rfl, by rw [hg1]; rfl, trivial⟩⟩
    · rintro _ ⟨J, rfl⟩
      refine pM (.bool _) ?_
      refine wpR_mid (l1 := [_, _, _, _, _, _]) (fun S' => ∃ J, S' = ⟨hav [(1, .ptr b1 0), (3, .int .i64 (aR0.Next.length : Int)), (33, .bool (((decide ((aR0.Next.length : Int) > (60:Int)) || ((aR0.Far.length : Int) != (aR0.Next.length : Int))) || ((aR0.Open.length : Int) != (aR0.Next.length : Int))) || ((aR0.Works.length : Int) != (aR0.Next.length : Int))))] J, G⟩) ?_ ?_
      · refine bc (b := ((decide ((aR0.Next.length : Int) > (60:Int)) || ((aR0.Far.length : Int) != (aR0.Next.length : Int))) || ((aR0.Open.length : Int) != (aR0.Next.length : Int)))) (fun hg1 => ?_) (fun hg1 => ?_)
        · refine pGn hg1 ?_
          refine pGn hg1 ?_
          refine pGn hg1 ?_
          refine pGn hg1 ?_
          refine pGn hg1 ?_
          refine pPt hg1 (.bool _) ?_
          exact pE ⟨_, St.hav _ ⟨rfl, rfl, by rw [hg1]; rfl, trivial⟩⟩
        · refine pGy hg1 ?_
          refine pF tF50_3 ?_
          refine pGy hg1 ?_
          refine pLo hO 0 (.lit _ _ _) tA45 ?_
          refine pGy hg1 ?_
          refine pLen tS45 ?_
          refine pGy hg1 ?_
          refine pM (.int _ _) ?_
          refine pGy hg1 ?_
          refine pBi ?_
          refine pPf hg1 (.bool _) ?_
          exact pE ⟨_, St.hav _ ⟨rfl, rfl, by rw [hg1]; rfl, trivial⟩⟩
      · rintro _ ⟨J, rfl⟩
        refine pE (gn ?_)
        refine wpL_cd (b := (((decide ((aR0.Next.length : Int) > (60:Int)) || ((aR0.Far.length : Int) != (aR0.Next.length : Int))) || ((aR0.Open.length : Int) != (aR0.Next.length : Int))) || ((aR0.Works.length : Int) != (aR0.Next.length : Int)))) (fun hb => ?_) (fun hb => ?_)
        · replace hk := ct hb hk
          refine wpL_sq (wpL_rg ?_)
          refine pA (.int _ _) ?_
          refine pE (gn (wpL_rt (gr ?_)))
          replace hk := Option.some.inj hk; subst hk; exact fin0 hO
        · replace hk := cf hb hk
          refine wpL_sk (gn (wpL_sq (wpL_sq (wpL_rg ?_))))
          refine pF tF50_0 ?_
          refine pLo hO 0 (.lit _ _ _) tA26 ?_
          refine pLen tS26 ?_
          refine pM (.int _ _) ?_
          refine pE (gn (wpL_bl ?_))
          refine wpL_loopO (F := f141_L1 aR0) (fun s S' => ∃ (J : Nat → V) (G : Heap), Owns H G [.blk b1 (.cells 4 [.lit l1 aR0.Next.length ((flatL 0) aR0.Next), .lit l2 aR0.Far.length ((flatL 0) aR0.Far), .lit l3 aR0.Open.length ((flatL 0) aR0.Open), .lit l4 aR0.Works.length (flatL m5 aR0.Works)])] ∧ S' = ⟨hav [(1, .ptr b1 0), (3, .int .i64 (aR0.Next.length : Int)), (35, .lit l1 aR0.Next.length ((flatL 0) aR0.Next)), (36, .int .i64 (aR0.Next.length : Int)), (37, .int .i64 s)] J, G⟩) hk ⟨_, _, hO, St.hav _ ⟨rfl, rfl, rfl, rfl, rfl, trivial⟩⟩ ?_
          rintro x2 _ y1 ⟨J, G, hO, rfl⟩ hk hx1
          refine wpL_sq (wpL_rg ?_)
          refine pBi ?_
          refine pE (gn (wpL_sq ?_))
          refine wpL_cd (b := decide (x2 < (aR0.Next.length : Int))) (fun hb => ?_) (fun hb => ?_)
          · replace hk := ct hb hk
            refine wpL_sk (gn (wpL_sq (wpL_bl (wpL_sq (wpL_rg ?_)))))
            refine pM (.int _ _) ?_
            obtain ⟨c3, hc3, hk⟩ := bs hk
            refine pX hc3 tE26 tZ3 ?_
            refine pLp (.int _ _) (rd1 (lm := 0) (off := 0) hc3 tA3) ?_
            refine pA (.int _ _) ?_
            refine pA (.int _ _) ?_
            refine pE (gn (wpL_sq (wpL_rg ?_)))
            refine pM (.int _ _) ?_
            refine pM (.int _ _) ?_
            refine pBi ?_
            obtain ⟨v4, hv4, hk⟩ := bs hk
            refine pCall (fun _ => f253_run hv4) ?_
            refine pU ?_
            refine pM (.bool _) ?_
            obtain ⟨t5, ht, hk⟩ := bs hk
            refine wpR_mid (l1 := [_, _, _, _, _, _, _, _]) (fun S' => ∃ J, S' = ⟨hav [(1, .ptr b1 0), (3, .int .i64 (aR0.Next.length : Int)), (35, .lit l1 aR0.Next.length ((flatL 0) aR0.Next)), (36, .int .i64 (aR0.Next.length : Int)), (37, .int .i64 x2), (55, .bool t5)] J, G⟩) ?_ ?_
            · refine bc (b := !v4) (fun hg1 => ?_) (fun hg1 => ?_)
              · replace hk := ct hg1 ht
                refine pGn hg1 ?_
                refine pGn hg1 ?_
                refine pGn hg1 ?_
                refine pGn hg1 ?_
                refine pGn hg1 ?_
                refine pGn hg1 ?_
                refine pGn hg1 ?_
                refine pPt hg1 (.bool _) ?_
                cases hk; exact pE ⟨_, St.hav _ ⟨rfl, rfl, rfl, rfl, rfl, rfl, trivial⟩⟩
              · replace hk := cf hg1 ht
                refine pGy hg1 ?_
                refine pF tF50_1 ?_
                refine pGy hg1 ?_
                refine pLo hO 0 (.lit _ _ _) tA26 ?_
                refine pGy hg1 ?_
                refine pM (.int _ _) ?_
                refine pGy hg1 ?_
                obtain ⟨c6, hc6, hk⟩ := bs hk
                refine pX hc6 tE26 tZ3 ?_
                refine pGy hg1 ?_
                refine pLp (.int _ _) (rd1 (lm := 0) (off := 0) hc6 tA3) ?_
                refine pGy hg1 ?_
                obtain ⟨v7, hv7, hk⟩ := bs hk
                refine pCall (fun _ => f253_run hv7) ?_
                refine pGy hg1 ?_
                refine pU ?_
                refine pPf hg1 (.bool _) ?_
                cases hk; exact pE ⟨_, St.hav _ ⟨rfl, rfl, rfl, rfl, rfl, rfl, trivial⟩⟩
            · rintro _ ⟨J, rfl⟩
              refine pE (gn ?_)
              refine wpL_cd (b := t5) (fun hb => ?_) (fun hb => ?_)
              · replace hk := ct hb hk
                refine wpL_sq (wpL_rg ?_)
                refine pA (.int _ _) ?_
                refine pE (gn (wpL_rt (br (gr (gr (br (gr ?_)))))))
                replace hk := lx hx1 hk
                replace hk := Option.some.inj hk; subst hk; exact fin0 hO
              · replace hk := cf hb hk
                refine wpL_sk (bn (gn (wpL_rg ?_)))
                refine pBi ?_
                refine pM (.int _ _) ?_
                refine pE (gn ?_)
                cases hk; exact ⟨_, rfl, _, _, hO, St.hav _ ⟨rfl, rfl, rfl, rfl, rfl, trivial⟩⟩
          · replace hk := cf hb hk
            refine wpL_ex (ge (ge (be (gn ?_))))
            replace hk := lx hx1 hk
            refine wpL_sq (wpL_sq (wpL_rg ?_))
            refine pF tF50_3 ?_
            refine pLo hO 0 (.lit _ _ _) tA45 ?_
            refine pLen tS45 ?_
            refine pM (.int _ _) ?_
            refine pE (gn (wpL_bl ?_))
            refine wpL_loopO (F := f141_L2 aR0) (fun s S' => ∃ (J : Nat → V) (G : Heap), Owns H G [] ∧ S' = ⟨hav [(58, .lit l4 aR0.Works.length (flatL m5 aR0.Works)), (59, .int .i64 (aR0.Works.length : Int)), (60, .int .i64 s)] J, G⟩) hk ⟨_, _, (Owns.pick hO [] (by decide) rfl), St.hav _ ⟨rfl, rfl, rfl, trivial⟩⟩ ?_
            rintro x8 _ y1 ⟨J, G, hO, rfl⟩ hk hx1
            refine wpL_sq (wpL_rg ?_)
            refine pBi ?_
            refine pE (gn (wpL_sq ?_))
            refine wpL_cd (b := decide (x8 < (aR0.Works.length : Int))) (fun hb => ?_) (fun hb => ?_)
            · replace hk := ct hb hk
              refine wpL_sk (gn (wpL_sq (wpL_bl (wpL_sq (wpL_rg ?_)))))
              obtain ⟨c9, hc9, hk⟩ := bs hk
              refine pX hc9 tE45 tZ38 ?_
              refine pLp (.lit _ _ _) (rd1 (lm := m5) (off := 0) hc9 tA38) ?_
              refine pA (.lit _ _ _) ?_
              refine pE (gn (wpL_sq (wpL_rg ?_)))
              refine pM (.lit _ _ _) ?_
              refine pLen tS38 ?_
              refine pBi ?_
              refine pE (gn ?_)
              refine wpL_cd (b := ((c9.length : Int) != (4:Int))) (fun hb => ?_) (fun hb => ?_)
              · replace hk := ct hb hk
                refine wpL_sq (wpL_rg ?_)
                refine pA (.int _ _) ?_
                refine pE (gn (wpL_rt (br (gr (gr (br (gr ?_)))))))
                replace hk := lx hx1 hk
                replace hk := Option.some.inj hk; subst hk; exact fin0 hO
              · replace hk := cf hb hk
                refine wpL_sk (bn (gn (wpL_rg ?_)))
                refine pBi ?_
                refine pM (.int _ _) ?_
                refine pE (gn ?_)
                cases hk; exact ⟨_, rfl, _, _, hO, St.hav _ ⟨rfl, rfl, rfl, trivial⟩⟩
            · replace hk := cf hb hk
              refine wpL_ex (ge (ge (be (gn ?_))))
              replace hk := lx hx1 hk
              refine wpL_sq (wpL_rg ?_)
              refine pA (.int _ _) ?_
              refine pE (gn (wpL_rt ?_))
              replace hk := Option.some.inj hk; subst hk; exact fin0 hO
/-- spec.l21lamp -/
def f254_L1 (aWorks0 : List Bool) : Int → Option (Int ⊕ Int) := fun s =>
  (bif decide (s ≥ (0:Int)) then ((getI aWorks0 s).bind fun c2 => (bif c2 then ((some s).map Sum.inr) else some (.inl (w64 (s - (1:Int)))))) else ((some (-1:Int)).map Sum.inr))
def f254 (aWorks0 : List Bool) (aWant1 : Int) : Option Int :=
  (loopO (f254_L1 aWorks0) (aWant1))
theorem f254_run {aWorks0 : List Bool} {aWant1 : Int} {r : Int} {l1 : Nat} {H : Heap} {lk : Lk} (hk : f254 aWorks0 aWant1 = some r) (hlk : 0 < lk.length := by simp) : runL Try.prog hh 254 [.lit l1 aWorks0.length ((flatL 0) aWorks0), .int .i64 aWant1] H lk = some (.int .i64 r, H) := by
  refine run_start Try.func254 rfl Try.ntmps254 Try.results254 rfl rfl fun hO => ?_
  unfold f254 at hk
  refine wpL_sq (wpL_rg ?_)
  refine pA (.int _ _) ?_
  refine pE (gn (wpL_sq (wpL_sq (wpL_rg ?_))))
  refine pM (.int _ _) ?_
  refine pA (.int _ _) ?_
  refine pE (gn (wpL_bl ?_))
  refine wpL_loopO (F := f254_L1 aWorks0) (fun s S' => ∃ (J : Nat → V) (G : Heap), Owns H G [] ∧ S' = ⟨hav [(0, .lit l1 aWorks0.length ((flatL 0) aWorks0)), (5, .int .i64 s)] J, G⟩) hk ⟨_, _, hO, St.hav _ ⟨rfl, rfl, trivial⟩⟩ ?_
  rintro x1 _ y1 ⟨J, G, hO, rfl⟩ hk hx1
  refine wpL_sq (wpL_sq (wpL_rg ?_))
  refine pM (.int _ _) ?_
  refine pBi ?_
  refine pE (gn ?_)
  refine wpL_cd (b := decide (x1 ≥ (0:Int))) (fun hb => ?_) (fun hb => ?_)
  · replace hk := ct hb hk
    refine wpL_sk (gn (wpL_sq (wpL_bl (wpL_sq (wpL_rg ?_)))))
    refine pM (.lit _ _ _) ?_
    refine pM (.int _ _) ?_
    obtain ⟨c2, hc2, hk⟩ := bs hk
    refine pX hc2 tE38 tZ4 ?_
    refine pLp (.bool _) (rd1 (lm := 0) (off := 0) hc2 tA4) ?_
    refine pE (gn ?_)
    refine wpL_cd (b := c2) (fun hb => ?_) (fun hb => ?_)
    · replace hk := ct hb hk
      refine wpL_sq (wpL_rg ?_)
      refine pM (.int _ _) ?_
      refine pA (.int _ _) ?_
      refine pE (gn (wpL_rt (br (gr (gr (br (gr ?_)))))))
      replace hk := lx hx1 hk
      replace hk := Option.some.inj hk; subst hk; exact fin0 hO
    · replace hk := cf hb hk
      refine wpL_sk (bn (gn (wpL_rg ?_)))
      refine pM (.int _ _) ?_
      refine pBi ?_
      refine pA (.int _ _) ?_
      refine pE (gn ?_)
      cases hk; exact ⟨_, rfl, _, _, hO, St.hav _ ⟨rfl, rfl, trivial⟩⟩
  · replace hk := cf hb hk
    refine wpL_ex (ge (ge (be (gn ?_))))
    replace hk := lx hx1 hk
    refine wpL_sq (wpL_rg ?_)
    refine pA (.int _ _) ?_
    refine pE (gn (wpL_rt ?_))
    replace hk := Option.some.inj hk; subst hk; exact fin0 hO
/-- spec.l21want -/
def f255 (aR0 : Row) (aShows1 : List Int) (aS2 : Int) : Option Int :=
  ((getI aR0.Open aS2).bind fun c2 => (bif !c2 then some (0:Int) else ((getI aR0.Next aS2).bind fun c3 => (bif decide (c3 < (0:Int)) then some (1:Int) else ((getI aShows1 c3).bind fun c4 => (bif decide ((w64 (c4 + (1:Int))) > (3:Int)) then some (3:Int) else ((getI aShows1 c3).bind fun c5 => some (w64 (c5 + (1:Int))))))))))
theorem f255_run {aR0 : Row} {aShows1 : List Int} {aS2 : Int} {r : Int} {l1 l2 l3 l4 m5 l6 : Nat} {H : Heap} {lk : Lk} (hk : f255 aR0 aShows1 aS2 = some r) (hlk : 0 < lk.length := by simp) : runL Try.prog hh 255 [.agg [.lit l1 aR0.Next.length ((flatL 0) aR0.Next), .lit l2 aR0.Far.length ((flatL 0) aR0.Far), .lit l3 aR0.Open.length ((flatL 0) aR0.Open), .lit l4 aR0.Works.length (flatL m5 aR0.Works)], .lit l6 aShows1.length ((flatL 0) aShows1), .int .i64 aS2] H lk = some (.int .i64 r, H) := by
  refine run_start Try.func255 rfl Try.ntmps255 Try.results255 rfl rfl fun hO => ?_
  unfold f255 at hk
  refine wpL_sq (wpL_rg ?_)
  refine pBox (cs := [_, _, _, _]) hO tZ50 (fun b1 G hO => ?_)
  refine pA (.int _ _) ?_
  refine pE (gn (wpL_sq (wpL_sq (wpL_rg ?_))))
  refine pF tF50_2 ?_
  refine pLo hO 0 (.lit _ _ _) tA38 ?_
  refine pM (.int _ _) ?_
  obtain ⟨c2, hc2, hk⟩ := bs hk
  refine pX hc2 tE38 tZ4 ?_
  refine pLp (.bool _) (rd1 (lm := 0) (off := 0) hc2 tA4) ?_
  refine pU ?_
  refine pE (gn ?_)
  refine wpL_cd (b := !c2) (fun hb => ?_) (fun hb => ?_)
  · replace hk := ct hb hk
    refine wpL_sq (wpL_rg ?_)
    refine pA (.int _ _) ?_
    refine pE (gn (wpL_rt (gr ?_)))
    replace hk := Option.some.inj hk; subst hk; exact fin0 hO
  · replace hk := cf hb hk
    refine wpL_sk (gn (wpL_sq (wpL_rg ?_)))
    refine pF tF50_0 ?_
    refine pLo hO 0 (.lit _ _ _) tA26 ?_
    refine pM (.int _ _) ?_
    obtain ⟨c3, hc3, hk⟩ := bs hk
    refine pX hc3 tE26 tZ3 ?_
    refine pLp (.int _ _) (rd1 (lm := 0) (off := 0) hc3 tA3) ?_
    refine pA (.int _ _) ?_
    refine pE (gn (wpL_sq (wpL_sq (wpL_rg ?_))))
    refine pM (.int _ _) ?_
    refine pBi ?_
    refine pE (gn ?_)
    refine wpL_cd (b := decide (c3 < (0:Int))) (fun hb => ?_) (fun hb => ?_)
    · replace hk := ct hb hk
      refine wpL_sq (wpL_rg ?_)
      refine pA (.int _ _) ?_
      refine pE (gn (wpL_rt (gr ?_)))
      replace hk := Option.some.inj hk; subst hk; exact fin0 hO
    · replace hk := cf hb hk
      refine wpL_sk (gn (wpL_sq (wpL_sq (wpL_rg ?_))))
      refine pM (.lit _ _ _) ?_
      refine pM (.int _ _) ?_
      obtain ⟨c4, hc4, hk⟩ := bs hk
      refine pX hc4 tE26 tZ3 ?_
      refine pLp (.int _ _) (rd1 (lm := 0) (off := 0) hc4 tA3) ?_
      refine pBi ?_
      refine pBi ?_
      refine pE (gn ?_)
      refine wpL_cd (b := decide ((w64 (c4 + (1:Int))) > (3:Int))) (fun hb => ?_) (fun hb => ?_)
      · replace hk := ct hb hk
        refine wpL_sq (wpL_rg ?_)
        refine pA (.int _ _) ?_
        refine pE (gn (wpL_rt (gr ?_)))
        replace hk := Option.some.inj hk; subst hk; exact fin0 hO
      · replace hk := cf hb hk
        refine wpL_sk (gn (wpL_sq (wpL_rg ?_)))
        refine pM (.lit _ _ _) ?_
        refine pM (.int _ _) ?_
        obtain ⟨c5, hc5, hk⟩ := bs hk
        refine pX hc5 tE26 tZ3 ?_
        refine pLp (.int _ _) (rd1 (lm := 0) (off := 0) hc5 tA3) ?_
        refine pBi ?_
        refine pA (.int _ _) ?_
        refine pE (gn (wpL_rt ?_))
        replace hk := Option.some.inj hk; subst hk; exact fin0 hO
/-- spec.l21both -/
def f142_L3 (aR0 : Row) (x13 : List Int) : ((List Int) × (List Int) × (List Int) × (List Int) × Bool × Int) → Option (((List Int) × (List Int) × (List Int) × (List Int) × Bool × Int) ⊕ (((List Int) × (List Int)) ⊕ ((List Int) × (List Int)))) := fun s =>
  (bif decide (s.2.2.2.2.2 < (x13.length : Int)) then ((f255 aR0 s.2.1 s.2.2.2.2.2).bind fun v25 => ((getI aR0.Works s.2.2.2.2.2).bind fun c27 => ((f254 c27 v25).bind fun v28 => ((bif s.2.2.2.2.1 then ((getI s.2.1 s.2.2.2.2.2).bind fun c30 => some (v28 == c30)) else some false).bind fun t29 => ((bif t29 then ((getI s.1 s.2.2.2.2.2).bind fun c33 => some (v25 == c33)) else some false).bind fun t32 => ((appB 8 s.2.2.1 ([v25] : List Int)).bind fun z35 => ((appB 8 s.2.2.2.1 ([v28] : List Int)).bind fun z36 => some (.inl (s.1, s.2.1, z35, z36, t32, w64 (s.2.2.2.2.2 + (1:Int))))))))))) else ((bif s.2.2.2.2.1 then ((some (s.1, s.2.1)).map Sum.inr) else some (.inl (s.2.2.1, s.2.2.2.1))).map Sum.inr))
def f142_L2 (aR0 : Row) : ((List Int) × (List Int)) → Option (((List Int) × (List Int)) ⊕ ((List Int) × (List Int))) := fun s =>
  (loopO (f142_L3 aR0 s.2) (s.1, s.2, ([] : List Int), ([] : List Int), true, (0:Int)))
def f142_L1 (aR0 : Row) (m2 : Nat) (m4 : Nat) : ((List Int) × Int) → Option (((List Int) × Int) ⊕ ((List Int) × (List Int))) := fun s =>
  (bif decide (s.2 < (m4 : Int)) then ((getI aR0.Works s.2).bind fun c8 => ((f254 c8 (0:Int)).bind fun v9 => ((getI s.1 s.2).bind fun c10 => some (.inl (s.1.set s.2.toNat v9, w64 (s.2 + (1:Int))))))) else ((loopO (f142_L2 aR0) (List.replicate m2 (0 : Int), s.1)).map Sum.inr))
def f142 (aR0 : Row) : Option ((List Int) × (List Int)) :=
  ((makeB 8 (aR0.Next.length : Int)).bind fun m2 => ((makeB 8 (aR0.Next.length : Int)).bind fun m4 => (loopO (f142_L1 aR0 m2 m4) (List.replicate m4 (0 : Int), (0:Int)))))
theorem f142_run {aR0 : Row} {r : ((List Int) × (List Int))} {l1 l2 l3 l4 m5 : Nat} {H : Heap} {lk : Lk} (hk : f142 aR0 = some r) (hlk : 0 < lk.length := by simp) : runL Try.prog hh 142 [.agg [.lit l1 aR0.Next.length ((flatL 0) aR0.Next), .lit l2 aR0.Far.length ((flatL 0) aR0.Far), .lit l3 aR0.Open.length ((flatL 0) aR0.Open), .lit l4 aR0.Works.length (flatL m5 aR0.Works)]] H lk = some (.tup [.lit 0 r.1.length ((flatL 0) r.1), .lit 0 r.2.length ((flatL 0) r.2)], H) := by
  refine run_start Try.func142 rfl Try.ntmps142 Try.results142 rfl rfl fun hO => ?_
  unfold f142 at hk
  refine wpL_sq (wpL_rg ?_)
  refine pBox (cs := [_, _, _, _]) hO tZ50 (fun b1 G hO => ?_)
  refine pA (.tl 0 []) ?_
  refine pA (.tl 0 []) ?_
  refine pE (gn (wpL_sq (wpL_rg ?_)))
  refine pF tF50_0 ?_
  refine pLo hO 0 (.lit _ _ _) tA26 ?_
  refine pLen tS26 ?_
  obtain ⟨m2, hm2, hk⟩ := bs hk
  refine pMk hO hm2 (0 : Int) tE26 tZ3 tB3 t03 (fun b3 G hO => ?_)
  refine pA (.sl _ _ _) ?_
  refine pE (gn (wpL_sq (wpL_rg ?_)))
  refine pF tF50_0 ?_
  refine pLo hO 1 (.lit _ _ _) tA26 ?_
  refine pLen tS26 ?_
  obtain ⟨m4, hm4, hk⟩ := bs hk
  refine pMk hO hm4 (0 : Int) tE26 tZ3 tB3 t03 (fun b5 G hO => ?_)
  refine pA (.sl _ _ _) ?_
  refine pE (gn (wpL_sq (wpL_sq (wpL_rg ?_))))
  refine pM (.sl _ _ _) ?_
  refine pLen tS26 ?_
  refine pM (.int _ _) ?_
  refine pE (gn (wpL_bl ?_))
  refine wpL_loopO (F := f142_L1 aR0 m2 m4) (fun s S' => ∃ (J : Nat → V) (G : Heap), s.1.length = m4 ∧ Owns H G [.blk b5 (.cells 1 ((flatL 0) s.1)), .blk b3 (.cells 1 ((flatL 0) (List.replicate m2 (0 : Int)))), .blk b1 (.cells 4 [.lit l1 aR0.Next.length ((flatL 0) aR0.Next), .lit l2 aR0.Far.length ((flatL 0) aR0.Far), .lit l3 aR0.Open.length ((flatL 0) aR0.Open), .lit l4 aR0.Works.length (flatL m5 aR0.Works)])] ∧ S' = ⟨hav [(1, .ptr b1 0), (4, .sl b3 0 m2), (5, .sl b5 0 m4), (22, .int .i64 (m4 : Int)), (23, .int .i64 s.2)] J, G⟩) hk ⟨_, _, List.length_replicate, hO, St.hav _ ⟨rfl, rfl, rfl, rfl, rfl, trivial⟩⟩ ?_
  rintro ⟨x6, x7⟩ _ y1 ⟨J, G, hl6, hO, rfl⟩ hk hx1
  refine wpL_sq (wpL_rg ?_)
  refine pBi ?_
  refine pE (gn (wpL_sq ?_))
  refine wpL_cd (b := decide (x7 < (m4 : Int))) (fun hb => ?_) (fun hb => ?_)
  · replace hk := ct hb hk
    refine wpL_sk (gn (wpL_sq (wpL_bl (wpL_sq (wpL_rg ?_)))))
    refine pM (.int _ _) ?_
    refine pA (.int _ _) ?_
    refine pE (gn (wpL_rg ?_))
    refine pM (.sl _ _ _) ?_
    refine pM (.int _ _) ?_
    refine pF tF50_3 ?_
    refine pLo hO 2 (.lit _ _ _) tA45 ?_
    refine pM (.int _ _) ?_
    obtain ⟨c8, hc8, hk⟩ := bs hk
    refine pX hc8 tE45 tZ38 ?_
    refine pLp (.lit _ _ _) (rd1 (lm := m5) (off := 0) hc8 tA38) ?_
    obtain ⟨v9, hv9, hk⟩ := bs hk
    refine pCall (fun _ => f254_run hv9) ?_
    obtain ⟨c10, hc10, hk⟩ := bs hk
    refine pXm hl6 hc10 tE26 tZ3 ?_
    refine pSm hO 0 hc10 tZ3 rfl v9 (.int _ _) (fun G hO => ?_)
    refine pE (bn (gn (wpL_rg ?_)))
    refine pBi ?_
    refine pM (.int _ _) ?_
    refine pE (gn ?_)
    cases hk; exact ⟨_, rfl, _, _, (List.length_set.trans hl6), hO, St.hav _ ⟨rfl, rfl, rfl, rfl, rfl, trivial⟩⟩
  · replace hk := cf hb hk
    refine wpL_ex (ge (ge (be (gn ?_))))
    replace hk := lx hx1 hk
    refine wpL_bl ?_
    refine wpL_loopO (F := f142_L2 aR0) (fun s S' => ∃ (o11 : V) (F12 : List Nat) (o13 : V) (F14 : List Nat) (J : Nat → V) (G : Heap), Owns H G [.blk b1 (.cells 4 [.lit l1 aR0.Next.length ((flatL 0) aR0.Next), .lit l2 aR0.Far.length ((flatL 0) aR0.Far), .lit l3 aR0.Open.length ((flatL 0) aR0.Open), .lit l4 aR0.Works.length (flatL m5 aR0.Works)]), An H lk.length F12 s.1 o11, An H lk.length F14 s.2 o13] ∧ S' = ⟨hav [(1, .ptr b1 0), (4, o11), (5, o13)] J, G⟩) hk ⟨(.sl b3 0 m2), [b3], (.sl b5 0 m4), [b5], _, _, (Owns.pick (Owns.anyM (d := lk.length) (xs := x6) (Owns.anyM (d := lk.length) (xs := (List.replicate m2 (0 : Int))) hO 1 List.length_replicate) 0 hl6) [2, 1, 0] (by decide) rfl), St.hav _ ⟨rfl, rfl, rfl, trivial⟩⟩ ?_
    rintro ⟨x11, x13⟩ _ y1 ⟨o11, F12, o13, F14, J, G, hO, rfl⟩ hk hx1
    refine wpL_bl (wpL_sq (wpL_rg ?_))
    refine pA (.tl 0 []) ?_
    refine pE (gn (wpL_sq (wpL_rg ?_)))
    refine pA (.tl 0 []) ?_
    refine pE (gn (wpL_sq (wpL_rg ?_)))
    refine pA (.bool _) ?_
    refine pE (gn (wpL_sq (wpL_sq (wpL_rg ?_))))
    refine pM o13 ?_
    refine pLenA hO 2 tS26 ?_
    refine pM (.int _ _) ?_
    refine pE (gn (wpL_bl ?_))
    refine wpL_loopO (F := f142_L3 aR0 x13) (fun s S' => ∃ (o19 : V) (o21 : V) (o15 : V) (F16 : List Nat) (o17 : V) (F18 : List Nat) (J : Nat → V) (G : Heap), Owns H G [.blk b1 (.cells 4 [.lit l1 aR0.Next.length ((flatL 0) aR0.Next), .lit l2 aR0.Far.length ((flatL 0) aR0.Far), .lit l3 aR0.Open.length ((flatL 0) aR0.Open), .lit l4 aR0.Works.length (flatL m5 aR0.Works)]), An H lk.length F16 s.1 o15, An H lk.length F18 s.2.1 o17, .own o19 lk.length 1 s.2.2.1.length ((flatL 0) s.2.2.1), .own o21 lk.length 1 s.2.2.2.1.length ((flatL 0) s.2.2.2.1)] ∧ S' = ⟨hav [(1, .ptr b1 0), (4, o15), (5, o17), (7, o19), (8, o21), (9, .bool s.2.2.2.2.1), (37, .int .i64 (x13.length : Int)), (38, .int .i64 s.2.2.2.2.2)] J, G⟩) hk ⟨(.tl 0 []), (.tl 0 []), o11, F12, o13, F14, _, _, (Owns.pick (Owns.addTl (Owns.addTl hO lk.length ([] : List Int)) lk.length ([] : List Int)) [2, 3, 4, 1, 0] (by decide) rfl), St.hav _ ⟨rfl, rfl, rfl, rfl, rfl, rfl, rfl, rfl, trivial⟩⟩ ?_
    rintro ⟨x15, x17, x19, x21, x23, x24⟩ _ y2 ⟨o19, o21, o15, F16, o17, F18, J, G, hO, rfl⟩ hk hx2
    refine wpL_sq (wpL_rg ?_)
    refine pBi ?_
    refine pE (gn (wpL_sq ?_))
    refine wpL_cd (b := decide (x24 < (x13.length : Int))) (fun hb => ?_) (fun hb => ?_)
    · replace hk := ct hb hk
      refine wpL_sk (gn (wpL_sq (wpL_bl (wpL_sq (wpL_rg ?_)))))
      refine pM (.int _ _) ?_
      refine pA (.int _ _) ?_
      refine pE (gn (wpL_sq (wpL_rg ?_)))
      refine pLs hO 0 [_, _, _, _] tA50 tZ50 ?_
      refine pM o17 ?_
      refine pM (.int _ _) ?_
      obtain ⟨v25, hv25, hk⟩ := bs hk
      obtain ⟨lw26, _, hm26⟩ := ld_any hO (j := 2) rfl (lk.length + 1) 8
      refine pCall (vs := [(.agg [_, _, _, _]), o17, (.int _ _)]) (caps := []) (fun _ => f255_run hv25) ?_ (h3 := (la_cons rfl (la_cons hm26 (la_cons rfl la_nil))))
      refine pA (.int _ _) ?_
      refine pE (gn (wpL_sq (wpL_rg ?_)))
      refine pF tF50_3 ?_
      refine pLo hO 0 (.lit _ _ _) tA45 ?_
      refine pM (.int _ _) ?_
      obtain ⟨c27, hc27, hk⟩ := bs hk
      refine pX hc27 tE45 tZ38 ?_
      refine pLp (.lit _ _ _) (rd1 (lm := m5) (off := 0) hc27 tA38) ?_
      refine pM (.int _ _) ?_
      obtain ⟨v28, hv28, hk⟩ := bs hk
      refine pCall (fun _ => f254_run hv28) ?_
      refine pA (.int _ _) ?_
      refine pE (gn (wpL_sq (wpL_rg ?_)))
      refine pM (.bool _) ?_
      refine pM (.bool _) ?_
      obtain ⟨t29, ht, hk⟩ := bs hk
      refine wpR_mid (l1 := [_, _, _, _, _, _, _]) (fun S' => ∃ J, S' = ⟨hav [(1, .ptr b1 0), (4, o15), (5, o17), (7, o19), (8, o21), (10, .int .i64 x24), (11, .int .i64 v25), (12, .int .i64 v28), (37, .int .i64 (x13.length : Int)), (38, .int .i64 x24), (60, .bool t29)] J, G⟩) ?_ ?_
      · refine bc (b := x23) (fun hg1 => ?_) (fun hg1 => ?_)
        · replace hk := ct hg1 ht
          refine pGy hg1 ?_
          refine pM (.int _ _) ?_
          refine pGy hg1 ?_
          refine pM o17 ?_
          refine pGy hg1 ?_
          refine pM (.int _ _) ?_
          refine pGy hg1 ?_
          obtain ⟨c30, hc30, hk⟩ := bs hk
          refine pXA hO 2 hc30 tE26 tZ3 (fun q31 hq31 => ?_)
          refine pGy hg1 ?_
          refine pLA (hq31 _ (.int _ _) (rd1 (lm := 0) (off := 0) hc30 tA3)) ?_
          refine pGy hg1 ?_
          refine pBi ?_
          refine pPt hg1 (.bool _) ?_
          cases hk; exact pE ⟨_, St.hav _ ⟨rfl, rfl, rfl, rfl, rfl, rfl, rfl, rfl, rfl, rfl, rfl, trivial⟩⟩
        · replace hk := cf hg1 ht
          refine pGn hg1 ?_
          refine pGn hg1 ?_
          refine pGn hg1 ?_
          refine pGn hg1 ?_
          refine pGn hg1 ?_
          refine pGn hg1 ?_
          refine pPf hg1 (.bool _) ?_
          cases hk; exact pE ⟨_, St.hav _ ⟨rfl, rfl, rfl, rfl, rfl, rfl, rfl, rfl, rfl, rfl, rfl, trivial⟩⟩
      · rintro _ ⟨J, rfl⟩
        refine pM (.bool _) ?_
        obtain ⟨t32, ht, hk⟩ := bs hk
        refine wpR_mid (l1 := [_, _, _, _, _, _, _]) (fun S' => ∃ J, S' = ⟨hav [(1, .ptr b1 0), (4, o15), (5, o17), (7, o19), (8, o21), (11, .int .i64 v25), (12, .int .i64 v28), (37, .int .i64 (x13.length : Int)), (38, .int .i64 x24), (68, .bool t32)] J, G⟩) ?_ ?_
        · refine bc (b := t29) (fun hg1 => ?_) (fun hg1 => ?_)
          · replace hk := ct hg1 ht
            refine pGy hg1 ?_
            refine pM (.int _ _) ?_
            refine pGy hg1 ?_
            refine pM o15 ?_
            refine pGy hg1 ?_
            refine pM (.int _ _) ?_
            refine pGy hg1 ?_
            obtain ⟨c33, hc33, hk⟩ := bs hk
            refine pXA hO 1 hc33 tE26 tZ3 (fun q34 hq34 => ?_)
            refine pGy hg1 ?_
            refine pLA (hq34 _ (.int _ _) (rd1 (lm := 0) (off := 0) hc33 tA3)) ?_
            refine pGy hg1 ?_
            refine pBi ?_
            refine pPt hg1 (.bool _) ?_
            cases hk; exact pE ⟨_, St.hav _ ⟨rfl, rfl, rfl, rfl, rfl, rfl, rfl, rfl, rfl, rfl, trivial⟩⟩
          · replace hk := cf hg1 ht
            refine pGn hg1 ?_
            refine pGn hg1 ?_
            refine pGn hg1 ?_
            refine pGn hg1 ?_
            refine pGn hg1 ?_
            refine pGn hg1 ?_
            refine pPf hg1 (.bool _) ?_
            cases hk; exact pE ⟨_, St.hav _ ⟨rfl, rfl, rfl, rfl, rfl, rfl, rfl, rfl, rfl, rfl, trivial⟩⟩
        · rintro _ ⟨J, rfl⟩
          refine pA (.bool _) ?_
          refine pE (gn (wpL_sq (wpL_rg ?_)))
          refine pM o19 ?_
          refine pM (.int _ _) ?_
          refine pBs (ps := [(0, (.int _ _))]) ([v25] : List Int) tE26 tZ3 t03 (emb_cons (embx_int _ _) (emb_nil)) ?_
          obtain ⟨z35, hz35, hk⟩ := bs hk
          refine pAp (xs := x19) hO 3 hz35 (bears_tl ([v25] : List Int)) tE26 tZ3 tB3 t03 tE26 rfl (fun o35 G hno35 hO => ?_)
          refine pA o35 ?_
          refine pE (gn (wpL_rg ?_))
          refine pM o21 ?_
          refine pM (.int _ _) ?_
          refine pBs (ps := [(0, (.int _ _))]) ([v28] : List Int) tE26 tZ3 t03 (emb_cons (embx_int _ _) (emb_nil)) ?_
          obtain ⟨z36, hz36, hk⟩ := bs hk
          refine pAp (xs := x21) hO 4 hz36 (bears_tl ([v28] : List Int)) tE26 tZ3 tB3 t03 tE26 rfl (fun o36 G hno36 hO => ?_)
          refine pA o36 ?_
          refine pE (bn (gn (wpL_rg ?_)))
          refine pBi ?_
          refine pM (.int _ _) ?_
          refine pE (gn ?_)
          cases hk; exact ⟨_, rfl, o35, o36, o15, F16, o17, F18, _, _, (Owns.pick hO [0, 1, 2, 3, 4] (by decide) rfl), St.hav _ ⟨rfl, rfl, rfl, rfl, rfl, rfl, rfl, rfl, trivial⟩⟩
    · replace hk := cf hb hk
      refine wpL_ex (ge (ge (be (gn ?_))))
      replace hk := lx hx2 hk
      refine wpL_sq (wpL_sq (wpL_rg ?_))
      refine pM (.bool _) ?_
      refine pE (gn ?_)
      refine wpL_cd (b := x23) (fun hb => ?_) (fun hb => ?_)
      · replace hk := ct hb hk
        refine wpL_sq (wpL_rg ?_)
        refine pM o15 ?_
        refine pM o17 ?_
        refine pA o15 ?_
        refine pA o17 ?_
        refine pE (gn (wpL_rt (gr (br (gr (br ?_))))))
        replace hk := lx hx1 hk
        replace hk := Option.some.inj hk; subst hk; exact finZ hO (fz_tup (n := 3) (fz_c (fz_any (xs := x15) hlk 1) (fz_c (fz_any (xs := x17) hlk 1) (fz_n)))) (resT o15 (resT o17 resN))
      · replace hk := cf hb hk
        refine wpL_sk (gn (wpL_sq (wpL_rg ?_)))
        refine pM o19 ?_
        refine pA o19 ?_
        refine pE (gn (wpL_rg ?_))
        refine pM o21 ?_
        refine pA o21 ?_
        refine pE (bn (gn ?_))
        cases hk; exact ⟨_, rfl, o19, (Res.own o19 lk.length 1 x19.length ((flatL 0) x19)).nums, o21, (Res.own o21 lk.length 1 x21.length ((flatL 0) x21)).nums, _, _, (Owns.pick (Owns.anyO (xs := x21) (Owns.anyO (xs := x19) hO 3) 4) [0, 3, 4] (by decide) rfl), St.hav _ ⟨rfl, rfl, rfl, trivial⟩⟩
/-- spec.Wants -/
def f44 (aR0 : Row) : Option (List Int) :=
  ((f141 aR0).bind fun v2 => (bif (v2 != (0:Int)) then some ([] : List Int) else ((f142 aR0).bind fun v3 => some v3.1)))
theorem f44_run {aR0 : Row} {r : (List Int)} {l1 l2 l3 l4 m5 : Nat} {H : Heap} {lk : Lk} (hk : f44 aR0 = some r) (hlk : 0 < lk.length := by simp) : runL Try.prog hh 44 [.agg [.lit l1 aR0.Next.length ((flatL 0) aR0.Next), .lit l2 aR0.Far.length ((flatL 0) aR0.Far), .lit l3 aR0.Open.length ((flatL 0) aR0.Open), .lit l4 aR0.Works.length (flatL m5 aR0.Works)]] H lk = some (.lit 0 r.length ((flatL 0) r), H) := by
  refine run_start Try.func44 rfl Try.ntmps44 Try.results44 rfl rfl fun hO => ?_
  unfold f44 at hk
  refine wpL_sq (wpL_rg ?_)
  refine pBox (cs := [_, _, _, _]) hO tZ50 (fun b1 G hO => ?_)
  refine pA (.tl 0 []) ?_
  refine pE (gn (wpL_sq (wpL_sq (wpL_rg ?_))))
  refine pLs hO 0 [_, _, _, _] tA50 tZ50 ?_
  obtain ⟨v2, hv2, hk⟩ := bs hk
  refine pCall (fun _ => f141_run hv2) ?_
  refine pBi ?_
  refine pE (gn ?_)
  refine wpL_cd (b := (v2 != (0:Int))) (fun hb => ?_) (fun hb => ?_)
  · replace hk := ct hb hk
    refine wpL_sq (wpL_rg ?_)
    refine pA (.tl 0 []) ?_
    refine pE (gn (wpL_rt (gr ?_)))
    replace hk := Option.some.inj hk; subst hk; exact finZ hO (fz_nil (k := 0) Int) (resT (.tl 0 []) resN)
  · replace hk := cf hb hk
    refine wpL_sk (gn (wpL_sq (wpL_rg ?_)))
    refine pLs hO 0 [_, _, _, _] tA50 tZ50 ?_
    obtain ⟨v3, hv3, hk⟩ := bs hk
    refine pCall (fun _ => f142_run hv3) ?_
    refine pM (.tup [_, _]) ?_
    refine pEx (.lit _ _ _) ?_
    refine pEx (.lit _ _ _) ?_
    refine pA (.lit _ _ _) ?_
    refine pA (.lit _ _ _) ?_
    refine pE (gn (wpL_sq (wpL_rg ?_)))
    refine pM (.lit _ _ _) ?_
    refine pA (.lit _ _ _) ?_
    refine pE (gn (wpL_rt ?_))
    replace hk := Option.some.inj hk; subst hk; exact finZ hO (fz_lit hlk v3.1) (resT (.lit _ _ _) resN)
/-- impl.within -/
def f171 (aX0 : Int) (aLo1 : Int) (aHi2 : Int) : Option Bool :=
  some (decide (aX0 ≥ aLo1) && decide (aX0 ≤ aHi2))
theorem f171_run {aX0 : Int} {aLo1 : Int} {aHi2 : Int} {r : Bool} {H : Heap} {lk : Lk} (hk : f171 aX0 aLo1 aHi2 = some r) (hlk : 0 < lk.length := by simp) : runL Try.prog hh 171 [.int .i64 aX0, .int .i64 aLo1, .int .i64 aHi2] H lk = some (.bool r, H) := by
  refine run_start Try.func171 rfl Try.ntmps171 Try.results171 rfl rfl fun hO => ?_
  unfold f171 at hk
  refine wpL_sq (wpL_rg ?_)
  refine pA (.bool _) ?_
  refine pE (gn (wpL_sq (wpL_rg ?_)))
  refine pM (.int _ _) ?_
  refine pM (.int _ _) ?_
  refine pBi ?_
  refine pM (.bool _) ?_
  refine wpR_mid (l1 := [_, _, _, _]) (fun S' => ∃ J, S' = ⟨hav [(14, .bool (decide (aX0 ≥ aLo1) && decide (aX0 ≤ aHi2)))] J, H⟩) ?_ ?_
  · refine bc (b := decide (aX0 ≥ aLo1)) (fun hg1 => ?_) (fun hg1 => ?_)
    · refine pGy hg1 ?_
      refine pM (.int _ _) ?_
      refine pGy hg1 ?_
      refine pM (.int _ _) ?_
      refine pGy hg1 ?_
      refine pBi ?_
      refine pPt hg1 (.bool _) ?_
      exact pE ⟨_, St.hav _ ⟨by rw [hg1]; rfl, trivial⟩⟩
    · refine pGn hg1 ?_
      refine pGn hg1 ?_
      refine pGn hg1 ?_
      refine pPf hg1 (.bool _) ?_
      exact pE ⟨_, St.hav _ ⟨by rw [hg1]; rfl, trivial⟩⟩
  · rintro _ ⟨J, rfl⟩
    refine pA (.bool _) ?_
    refine pE (gn (wpL_rt ?_))
    replace hk := Option.some.inj hk; subst hk; exact fin0 hO
/-- impl.RowOk -/
def f145_L2 (aR0 : Row) : Int → Option (Int ⊕ Int) := fun s =>
  (bif decide (s < (aR0.Works.length : Int)) then ((getI aR0.Works s).bind fun c9 => (bif ((c9.length : Int) != (4:Int)) then ((some (3:Int)).map Sum.inr) else some (.inl (w64 (s + (1:Int)))))) else ((some (0:Int)).map Sum.inr))
def f145_L1 (aR0 : Row) : Int → Option (Int ⊕ Int) := fun s =>
  (bif decide (s < (aR0.Next.length : Int)) then ((getI aR0.Next s).bind fun c3 => ((f171 c3 (-1:Int) (w64 ((aR0.Next.length : Int) - (1:Int)))).bind fun v4 => ((bif !v4 then some true else ((getI aR0.Far s).bind fun c6 => ((f171 c6 (0:Int) (1000000:Int)).bind fun v7 => some (!v7)))).bind fun t5 => (bif t5 then ((some (2:Int)).map Sum.inr) else some (.inl (w64 (s + (1:Int)))))))) else ((loopO (f145_L2 aR0) ((0:Int))).map Sum.inr))
def f145 (aR0 : Row) : Option Int :=
  (bif (((decide ((aR0.Next.length : Int) > (60:Int)) || ((aR0.Far.length : Int) != (aR0.Next.length : Int))) || ((aR0.Open.length : Int) != (aR0.Next.length : Int))) || ((aR0.Works.length : Int) != (aR0.Next.length : Int))) then some (1:Int) else (loopO (f145_L1 aR0) ((0:Int))))
theorem f145_run {aR0 : Row} {r : Int} {l1 l2 l3 l4 m5 : Nat} {H : Heap} {lk : Lk} (hk : f145 aR0 = some r) (hlk : 0 < lk.length := by simp) : runL Try.prog hh 145 [.agg [.lit l1 aR0.Next.length ((flatL 0) aR0.Next), .lit l2 aR0.Far.length ((flatL 0) aR0.Far), .lit l3 aR0.Open.length ((flatL 0) aR0.Open), .lit l4 aR0.Works.length (flatL m5 aR0.Works)]] H lk = some (.int .i64 r, H) := by
  refine run_start Try.func145 rfl Try.ntmps145 Try.results145 rfl rfl fun hO => ?_
  unfold f145 at hk
  refine wpL_sq (wpL_rg ?_)
  refine pBox (cs := [_, _, _, _]) hO tZ50 (fun b1 G hO => ?_)
  refine pA (.int _ _) ?_
  refine pE (gn (wpL_sq (wpL_rg ?_)))
  refine pF tF50_0 ?_
  refine pLo hO 0 (.lit _ _ _) tA26 ?_
  refine pLen tS26 ?_
  refine pA (.int _ _) ?_
  refine pE (gn (wpL_sq (wpL_sq (wpL_rg ?_))))
  refine pM (.int _ _) ?_
  refine pBi ?_
  refine pM (.bool _) ?_
  refine wpR_mid (l1 := [_, _, _, _, _, _]) (fun S' => ∃ J, S' = ⟨hav [(1, .ptr b1 0), (3, .int .i64 (aR0.Next.length : Int)), (18, .bool (decide ((aR0.Next.length : Int) > (60:Int)) || ((aR0.Far.length : Int) != (aR0.Next.length : Int))))] J, G⟩) ?_ ?_
  · refine bc (b := decide ((aR0.Next.length : Int) > (60:Int))) (fun hg1 => ?_) (fun hg1 => ?_)
    · refine pGn hg1 ?_
      refine pGn hg1 ?_
      refine pGn hg1 ?_
      refine pGn hg1 ?_
      refine pGn hg1 ?_
      refine pPt hg1 (.bool _) ?_
      exact pE ⟨_, St.hav _ ⟨rfl, rfl, by rw [hg1]; rfl, trivial⟩⟩
    · refine pGy hg1 ?_
      refine pF tF50_1 ?_
      refine pGy hg1 ?_
      refine pLo hO 0 (.lit _ _ _) tA26 ?_
      refine pGy hg1 ?_
      refine pLen tS26 ?_
      refine pGy hg1 ?_
      refine pM (.int _ _) ?_
      refine pGy hg1 ?_
      refine pBi ?_
      refine pPf hg1 (.bool _) ?_
      exact pE ⟨_, St.hav _ ⟨rfl, rfl, by rw [hg1]; rfl, trivial⟩⟩
  · rintro _ ⟨J, rfl⟩
    refine pM (.bool _) ?_
    refine wpR_mid (l1 := [_, _, _, _, _, _]) (fun S' => ∃ J, S' = ⟨hav [(1, .ptr b1 0), (3, .int .i64 (aR0.Next.length : Int)), (25, .bool ((decide ((aR0.Next.length : Int) > (60:Int)) || ((aR0.Far.length : Int) != (aR0.Next.length : Int))) || ((aR0.Open.length : Int) != (aR0.Next.length : Int))))] J, G⟩) ?_ ?_
    · refine bc (b := (decide ((aR0.Next.length : Int) > (60:Int)) || ((aR0.Far.length : Int) != (aR0.Next.length : Int)))) (fun hg1 => ?_) (fun hg1 => ?_)
      · refine pGn hg1 ?_
        refine pGn hg1 ?_
        refine pGn hg1 ?_
        refine pGn hg1 ?_
        refine pGn hg1 ?_
        refine pPt hg1 (.bool _) ?_
        exact pE ⟨_, St.hav _ ⟨rfl, rfl, by rw [hg1]; rfl, trivial⟩⟩
      · refine pGy hg1 ?_
        refine pF tF50_2 ?_
        refine pGy hg1 ?_
        refine pLo hO 0 (.lit _ _ _) tA38 ?_
        refine pGy hg1 ?_
        refine pLen tS38 ?_
        refine pGy hg1 ?_
        refine pM (.int _ _) ?_
        refine pGy hg1 ?_
        refine pBi ?_
        refine pPf hg1 (.bool _) ?_
        exact pE ⟨_, St.hav _ ⟨rfl, rfl, by rw [hg1]; rfl, trivial⟩⟩
    · rintro _ ⟨J, rfl⟩
      refine pM (.bool _) ?_
      refine wpR_mid (l1 := [_, _, _, _, _, _]) (fun S' => ∃ J, S' = ⟨hav [(1, .ptr b1 0), (3, .int .i64 (aR0.Next.length : Int)), (32, .bool (((decide ((aR0.Next.length : Int) > (60:Int)) || ((aR0.Far.length : Int) != (aR0.Next.length : Int))) || ((aR0.Open.length : Int) != (aR0.Next.length : Int))) || ((aR0.Works.length : Int) != (aR0.Next.length : Int))))] J, G⟩) ?_ ?_
      · refine bc (b := ((decide ((aR0.Next.length : Int) > (60:Int)) || ((aR0.Far.length : Int) != (aR0.Next.length : Int))) || ((aR0.Open.length : Int) != (aR0.Next.length : Int)))) (fun hg1 => ?_) (fun hg1 => ?_)
        · refine pGn hg1 ?_
          refine pGn hg1 ?_
          refine pGn hg1 ?_
          refine pGn hg1 ?_
          refine pGn hg1 ?_
          refine pPt hg1 (.bool _) ?_
          exact pE ⟨_, St.hav _ ⟨rfl, rfl, by rw [hg1]; rfl, trivial⟩⟩
        · refine pGy hg1 ?_
          refine pF tF50_3 ?_
          refine pGy hg1 ?_
          refine pLo hO 0 (.lit _ _ _) tA45 ?_
          refine pGy hg1 ?_
          refine pLen tS45 ?_
          refine pGy hg1 ?_
          refine pM (.int _ _) ?_
          refine pGy hg1 ?_
          refine pBi ?_
          refine pPf hg1 (.bool _) ?_
          exact pE ⟨_, St.hav _ ⟨rfl, rfl, by rw [hg1]; rfl, trivial⟩⟩
      · rintro _ ⟨J, rfl⟩
        refine pE (gn ?_)
        refine wpL_cd (b := (((decide ((aR0.Next.length : Int) > (60:Int)) || ((aR0.Far.length : Int) != (aR0.Next.length : Int))) || ((aR0.Open.length : Int) != (aR0.Next.length : Int))) || ((aR0.Works.length : Int) != (aR0.Next.length : Int)))) (fun hb => ?_) (fun hb => ?_)
        · replace hk := ct hb hk
          refine wpL_sq (wpL_rg ?_)
          refine pA (.int _ _) ?_
          refine pE (gn (wpL_rt (gr ?_)))
          replace hk := Option.some.inj hk; subst hk; exact fin0 hO
        · replace hk := cf hb hk
          refine wpL_sk (gn (wpL_sq (wpL_sq (wpL_rg ?_))))
          refine pM (.int _ _) ?_
          refine pM (.int _ _) ?_
          refine pE (gn (wpL_bl ?_))
          refine wpL_loopO (F := f145_L1 aR0) (fun s S' => ∃ (J : Nat → V) (G : Heap), Owns H G [.blk b1 (.cells 4 [.lit l1 aR0.Next.length ((flatL 0) aR0.Next), .lit l2 aR0.Far.length ((flatL 0) aR0.Far), .lit l3 aR0.Open.length ((flatL 0) aR0.Open), .lit l4 aR0.Works.length (flatL m5 aR0.Works)])] ∧ S' = ⟨hav [(1, .ptr b1 0), (3, .int .i64 (aR0.Next.length : Int)), (33, .int .i64 (aR0.Next.length : Int)), (34, .int .i64 s)] J, G⟩) hk ⟨_, _, hO, St.hav _ ⟨rfl, rfl, rfl, rfl, trivial⟩⟩ ?_
          rintro x2 _ y1 ⟨J, G, hO, rfl⟩ hk hx1
          refine wpL_sq (wpL_rg ?_)
          refine pBi ?_
          refine pE (gn (wpL_sq ?_))
          refine wpL_cd (b := decide (x2 < (aR0.Next.length : Int))) (fun hb => ?_) (fun hb => ?_)
          · replace hk := ct hb hk
            refine wpL_sk (gn (wpL_sq (wpL_bl (wpL_sq (wpL_rg ?_)))))
            refine pM (.int _ _) ?_
            refine pA (.int _ _) ?_
            refine pE (gn (wpL_sq (wpL_rg ?_)))
            refine pF tF50_0 ?_
            refine pLo hO 0 (.lit _ _ _) tA26 ?_
            refine pM (.int _ _) ?_
            obtain ⟨c3, hc3, hk⟩ := bs hk
            refine pX hc3 tE26 tZ3 ?_
            refine pLp (.int _ _) (rd1 (lm := 0) (off := 0) hc3 tA3) ?_
            refine pM (.int _ _) ?_
            refine pBi ?_
            obtain ⟨v4, hv4, hk⟩ := bs hk
            refine pCall (fun _ => f171_run hv4) ?_
            refine pU ?_
            refine pM (.bool _) ?_
            obtain ⟨t5, ht, hk⟩ := bs hk
            refine wpR_mid (l1 := [_, _, _, _, _, _, _, _]) (fun S' => ∃ J, S' = ⟨hav [(1, .ptr b1 0), (3, .int .i64 (aR0.Next.length : Int)), (33, .int .i64 (aR0.Next.length : Int)), (34, .int .i64 x2), (54, .bool t5)] J, G⟩) ?_ ?_
            · refine bc (b := !v4) (fun hg1 => ?_) (fun hg1 => ?_)
              · replace hk := ct hg1 ht
                refine pGn hg1 ?_
                refine pGn hg1 ?_
                refine pGn hg1 ?_
                refine pGn hg1 ?_
                refine pGn hg1 ?_
                refine pGn hg1 ?_
                refine pGn hg1 ?_
                refine pPt hg1 (.bool _) ?_
                cases hk; exact pE ⟨_, St.hav _ ⟨rfl, rfl, rfl, rfl, rfl, trivial⟩⟩
              · replace hk := cf hg1 ht
                refine pGy hg1 ?_
                refine pF tF50_1 ?_
                refine pGy hg1 ?_
                refine pLo hO 0 (.lit _ _ _) tA26 ?_
                refine pGy hg1 ?_
                refine pM (.int _ _) ?_
                refine pGy hg1 ?_
                obtain ⟨c6, hc6, hk⟩ := bs hk
                refine pX hc6 tE26 tZ3 ?_
                refine pGy hg1 ?_
                refine pLp (.int _ _) (rd1 (lm := 0) (off := 0) hc6 tA3) ?_
                refine pGy hg1 ?_
                obtain ⟨v7, hv7, hk⟩ := bs hk
                refine pCall (fun _ => f171_run hv7) ?_
                refine pGy hg1 ?_
                refine pU ?_
                refine pPf hg1 (.bool _) ?_
                cases hk; exact pE ⟨_, St.hav _ ⟨rfl, rfl, rfl, rfl, rfl, trivial⟩⟩
            · rintro _ ⟨J, rfl⟩
              refine pE (gn ?_)
              refine wpL_cd (b := t5) (fun hb => ?_) (fun hb => ?_)
              · replace hk := ct hb hk
                refine wpL_sq (wpL_rg ?_)
                refine pA (.int _ _) ?_
                refine pE (gn (wpL_rt (br (gr (gr (br (gr ?_)))))))
                replace hk := lx hx1 hk
                replace hk := Option.some.inj hk; subst hk; exact fin0 hO
              · replace hk := cf hb hk
                refine wpL_sk (bn (gn (wpL_rg ?_)))
                refine pBi ?_
                refine pM (.int _ _) ?_
                refine pE (gn ?_)
                cases hk; exact ⟨_, rfl, _, _, hO, St.hav _ ⟨rfl, rfl, rfl, rfl, trivial⟩⟩
          · replace hk := cf hb hk
            refine wpL_ex (ge (ge (be (gn ?_))))
            replace hk := lx hx1 hk
            refine wpL_sq (wpL_sq (wpL_rg ?_))
            refine pF tF50_3 ?_
            refine pLo hO 0 (.lit _ _ _) tA45 ?_
            refine pLen tS45 ?_
            refine pM (.int _ _) ?_
            refine pE (gn (wpL_bl ?_))
            refine wpL_loopO (F := f145_L2 aR0) (fun s S' => ∃ (J : Nat → V) (G : Heap), Owns H G [] ∧ S' = ⟨hav [(57, .lit l4 aR0.Works.length (flatL m5 aR0.Works)), (58, .int .i64 (aR0.Works.length : Int)), (59, .int .i64 s)] J, G⟩) hk ⟨_, _, (Owns.pick hO [] (by decide) rfl), St.hav _ ⟨rfl, rfl, rfl, trivial⟩⟩ ?_
            rintro x8 _ y1 ⟨J, G, hO, rfl⟩ hk hx1
            refine wpL_sq (wpL_rg ?_)
            refine pBi ?_
            refine pE (gn (wpL_sq ?_))
            refine wpL_cd (b := decide (x8 < (aR0.Works.length : Int))) (fun hb => ?_) (fun hb => ?_)
            · replace hk := ct hb hk
              refine wpL_sk (gn (wpL_sq (wpL_bl (wpL_sq (wpL_rg ?_)))))
              obtain ⟨c9, hc9, hk⟩ := bs hk
              refine pX hc9 tE45 tZ38 ?_
              refine pLp (.lit _ _ _) (rd1 (lm := m5) (off := 0) hc9 tA38) ?_
              refine pA (.lit _ _ _) ?_
              refine pE (gn (wpL_sq (wpL_rg ?_)))
              refine pM (.lit _ _ _) ?_
              refine pLen tS38 ?_
              refine pBi ?_
              refine pE (gn ?_)
              refine wpL_cd (b := ((c9.length : Int) != (4:Int))) (fun hb => ?_) (fun hb => ?_)
              · replace hk := ct hb hk
                refine wpL_sq (wpL_rg ?_)
                refine pA (.int _ _) ?_
                refine pE (gn (wpL_rt (br (gr (gr (br (gr ?_)))))))
                replace hk := lx hx1 hk
                replace hk := Option.some.inj hk; subst hk; exact fin0 hO
              · replace hk := cf hb hk
                refine wpL_sk (bn (gn (wpL_rg ?_)))
                refine pBi ?_
                refine pM (.int _ _) ?_
                refine pE (gn ?_)
                cases hk; exact ⟨_, rfl, _, _, hO, St.hav _ ⟨rfl, rfl, rfl, trivial⟩⟩
            · replace hk := cf hb hk
              refine wpL_ex (ge (ge (be (gn ?_))))
              replace hk := lx hx1 hk
              refine wpL_sq (wpL_rg ?_)
              refine pA (.int _ _) ?_
              refine pE (gn (wpL_rt ?_))
              replace hk := Option.some.inj hk; subst hk; exact fin0 hO
/-- impl.lamps -/
def f146_L2 (aR0 : Row) (x4 : Int) : ((List Int) × Int) → Option (((List Int) × Int) ⊕ (((List Int) × Int) ⊕ (List Int))) := fun s =>
  ((bif decide (s.2 ≥ (0:Int)) then ((getI aR0.Works x4).bind fun c10 => ((getI c10 s.2).bind fun c11 => some (!c11))) else some false).bind fun t9 => (bif t9 then some (.inl (s.1, w64 (s.2 - (1:Int)))) else (((appB 8 s.1 ([s.2] : List Int)).bind fun z12 => some (.inl (z12, w64 (x4 + (1:Int))))).map Sum.inr)))
def f146_L1 (aR0 : Row) (aWants1 : List Int) : ((List Int) × Int) → Option (((List Int) × Int) ⊕ (List Int)) := fun s =>
  (bif decide (s.2 < (aWants1.length : Int)) then ((getI aWants1 s.2).bind fun c5 => (loopO (f146_L2 aR0 s.2) (s.1, c5))) else ((some s.1).map Sum.inr))
def f146 (aR0 : Row) (aWants1 : List Int) : Option (List Int) :=
  (loopO (f146_L1 aR0 aWants1) (([] : List Int), (0:Int)))
theorem f146_run {aR0 : Row} {aWants1 : List Int} {r : (List Int)} {l1 l2 l3 l4 m5 l6 : Nat} {H : Heap} {lk : Lk} (hk : f146 aR0 aWants1 = some r) (hlk : 0 < lk.length := by simp) : runL Try.prog hh 146 [.agg [.lit l1 aR0.Next.length ((flatL 0) aR0.Next), .lit l2 aR0.Far.length ((flatL 0) aR0.Far), .lit l3 aR0.Open.length ((flatL 0) aR0.Open), .lit l4 aR0.Works.length (flatL m5 aR0.Works)], .lit l6 aWants1.length ((flatL 0) aWants1)] H lk = some (.lit 0 r.length ((flatL 0) r), H) := by
  refine run_start Try.func146 rfl Try.ntmps146 Try.results146 rfl rfl fun hO => ?_
  unfold f146 at hk
  refine wpL_sq (wpL_rg ?_)
  refine pBox (cs := [_, _, _, _]) hO tZ50 (fun b1 G hO => ?_)
  refine pA (.tl 0 []) ?_
  refine pE (gn (wpL_sq (wpL_rg ?_)))
  refine pA (.tl 0 []) ?_
  refine pE (gn (wpL_sq (wpL_sq (wpL_rg ?_))))
  refine pM (.lit _ _ _) ?_
  refine pLen tS26 ?_
  refine pM (.int _ _) ?_
  refine pE (gn (wpL_bl ?_))
  refine wpL_loopO (F := f146_L1 aR0 aWants1) (fun s S' => ∃ (o2 : V) (J : Nat → V) (G : Heap), Owns H G [.blk b1 (.cells 4 [.lit l1 aR0.Next.length ((flatL 0) aR0.Next), .lit l2 aR0.Far.length ((flatL 0) aR0.Far), .lit l3 aR0.Open.length ((flatL 0) aR0.Open), .lit l4 aR0.Works.length (flatL m5 aR0.Works)]), .own o2 lk.length 1 s.1.length ((flatL 0) s.1)] ∧ S' = ⟨hav [(2, .ptr b1 0), (5, o2), (8, .lit l6 aWants1.length ((flatL 0) aWants1)), (9, .int .i64 (aWants1.length : Int)), (10, .int .i64 s.2)] J, G⟩) hk ⟨(.tl 0 []), _, _, (Owns.pick (Owns.addTl hO lk.length ([] : List Int)) [1, 0] (by decide) rfl), St.hav _ ⟨rfl, rfl, rfl, rfl, rfl, trivial⟩⟩ ?_
  rintro ⟨x2, x4⟩ _ y1 ⟨o2, J, G, hO, rfl⟩ hk hx1
  refine wpL_sq (wpL_rg ?_)
  refine pBi ?_
  refine pE (gn (wpL_sq ?_))
  refine wpL_cd (b := decide (x4 < (aWants1.length : Int))) (fun hb => ?_) (fun hb => ?_)
  · replace hk := ct hb hk
    refine wpL_sk (gn (wpL_sq (wpL_bl (wpL_sq (wpL_rg ?_)))))
    refine pM (.int _ _) ?_
    obtain ⟨c5, hc5, hk⟩ := bs hk
    refine pX hc5 tE26 tZ3 ?_
    refine pLp (.int _ _) (rd1 (lm := 0) (off := 0) hc5 tA3) ?_
    refine pA (.int _ _) ?_
    refine pA (.int _ _) ?_
    refine pE (gn (wpL_sq (wpL_bl ?_)))
    refine wpL_loopO (F := f146_L2 aR0 x4) (fun s S' => ∃ (o6 : V) (J : Nat → V) (G : Heap), Owns H G [.blk b1 (.cells 4 [.lit l1 aR0.Next.length ((flatL 0) aR0.Next), .lit l2 aR0.Far.length ((flatL 0) aR0.Far), .lit l3 aR0.Open.length ((flatL 0) aR0.Open), .lit l4 aR0.Works.length (flatL m5 aR0.Works)]), .own o6 lk.length 1 s.1.length ((flatL 0) s.1)] ∧ S' = ⟨hav [(2, .ptr b1 0), (5, o6), (6, .int .i64 x4), (7, .int .i64 s.2), (8, .lit l6 aWants1.length ((flatL 0) aWants1)), (9, .int .i64 (aWants1.length : Int)), (10, .int .i64 x4)] J, G⟩) hk ⟨o2, _, _, hO, St.hav _ ⟨rfl, rfl, rfl, rfl, rfl, rfl, rfl, trivial⟩⟩ ?_
    rintro ⟨x6, x8⟩ _ y2 ⟨o6, J, G, hO, rfl⟩ hk hx2
    refine wpL_sq (wpL_sq (wpL_rg ?_))
    refine pM (.int _ _) ?_
    refine pBi ?_
    refine pM (.bool _) ?_
    obtain ⟨t9, ht, hk⟩ := bs hk
    refine wpR_mid (l1 := [_, _, _, _, _, _, _, _, _, _]) (fun S' => ∃ J, S' = ⟨hav [(2, .ptr b1 0), (5, o6), (6, .int .i64 x4), (7, .int .i64 x8), (8, .lit l6 aWants1.length ((flatL 0) aWants1)), (9, .int .i64 (aWants1.length : Int)), (10, .int .i64 x4), (27, .bool t9)] J, G⟩) ?_ ?_
    · refine bc (b := decide (x8 ≥ (0:Int))) (fun hg1 => ?_) (fun hg1 => ?_)
      · replace hk := ct hg1 ht
        refine pGy hg1 ?_
        refine pF tF50_3 ?_
        refine pGy hg1 ?_
        refine pLo hO 0 (.lit _ _ _) tA45 ?_
        refine pGy hg1 ?_
        refine pM (.int _ _) ?_
        refine pGy hg1 ?_
        obtain ⟨c10, hc10, hk⟩ := bs hk
        refine pX hc10 tE45 tZ38 ?_
        refine pGy hg1 ?_
        refine pLp (.lit _ _ _) (rd1 (lm := m5) (off := 0) hc10 tA38) ?_
        refine pGy hg1 ?_
        refine pM (.int _ _) ?_
        refine pGy hg1 ?_
        obtain ⟨c11, hc11, hk⟩ := bs hk
        refine pX hc11 tE38 tZ4 ?_
        refine pGy hg1 ?_
        refine pLp (.bool _) (rd1 (lm := 0) (off := 0) hc11 tA4) ?_
        refine pGy hg1 ?_
        refine pU ?_
        refine pPt hg1 (.bool _) ?_
        cases hk; exact pE ⟨_, St.hav _ ⟨rfl, rfl, rfl, rfl, rfl, rfl, rfl, rfl, trivial⟩⟩
      · replace hk := cf hg1 ht
        refine pGn hg1 ?_
        refine pGn hg1 ?_
        refine pGn hg1 ?_
        refine pGn hg1 ?_
        refine pGn hg1 ?_
        refine pGn hg1 ?_
        refine pGn hg1 ?_
        refine pGn hg1 ?_
        refine pGn hg1 ?_
        refine pPf hg1 (.bool _) ?_
        cases hk; exact pE ⟨_, St.hav _ ⟨rfl, rfl, rfl, rfl, rfl, rfl, rfl, rfl, trivial⟩⟩
    · rintro _ ⟨J, rfl⟩
      refine pE (gn ?_)
      refine wpL_cd (b := t9) (fun hb => ?_) (fun hb => ?_)
      · replace hk := ct hb hk
        refine wpL_sk (gn (wpL_bl (wpL_rg ?_)))
        refine pM (.int _ _) ?_
        refine pBi ?_
        refine pA (.int _ _) ?_
        refine pE (bn (gn ?_))
        cases hk; exact ⟨_, rfl, o6, _, _, hO, St.hav _ ⟨rfl, rfl, rfl, rfl, rfl, rfl, rfl, trivial⟩⟩
      · replace hk := cf hb hk
        refine wpL_ex (ge (ge (be (gn ?_))))
        replace hk := lx hx2 hk
        refine wpL_rg ?_
        refine pM o6 ?_
        refine pM (.int _ _) ?_
        refine pBs (ps := [(0, (.int _ _))]) ([x8] : List Int) tE26 tZ3 t03 (emb_cons (embx_int _ _) (emb_nil)) ?_
        obtain ⟨z12, hz12, hk⟩ := bs hk
        refine pAp (xs := x6) hO 1 hz12 (bears_tl ([x8] : List Int)) tE26 tZ3 tB3 t03 tE26 rfl (fun o12 G hno12 hO => ?_)
        refine pA o12 ?_
        refine pE (bn (gn (wpL_rg ?_)))
        refine pBi ?_
        refine pM (.int _ _) ?_
        refine pE (gn ?_)
        cases hk; exact ⟨_, rfl, o12, _, _, hO, St.hav _ ⟨rfl, rfl, rfl, rfl, rfl, trivial⟩⟩
  · replace hk := cf hb hk
    refine wpL_ex (ge (ge (be (gn ?_))))
    replace hk := lx hx1 hk
    refine wpL_sq (wpL_rg ?_)
    refine pM o2 ?_
    refine pA o2 ?_
    refine pE (gn (wpL_rt ?_))
    replace hk := Option.some.inj hk; subst hk; exact finZ hO (fz_own (xs := x2) hlk 1) (resT o2 resN)
/-- impl.wants -/
def f147_k3 (x7 : List Int) (x8 : Bool) (x9 : Int) (x11 : Int) : Option (((List Int) × Bool × Int) ⊕ (((List Int) × Bool) ⊕ (List Int))) :=
  ((bif x8 then some true else ((getI x7 x9).bind fun c13 => some (x11 != c13))).bind fun t12 => ((getI x7 x9).bind fun c14 => some (.inl (x7.set x9.toNat x11, t12, w64 (x9 + (1:Int))))))
def f147_L2 (aR0 : Row) (v6 : (List Int)) : ((List Int) × Bool × Int) → Option (((List Int) × Bool × Int) ⊕ (((List Int) × Bool) ⊕ (List Int))) := fun s =>
  (bif decide (s.2.2 < (aR0.Next.length : Int)) then ((getI aR0.Next s.2.2).bind fun c10 => ((getI aR0.Open s.2.2).bind fun c15 => (bif !c15 then (f147_k3 s.1 s.2.1 s.2.2 (0:Int)) else (bif decide (c10 < (0:Int)) then (f147_k3 s.1 s.2.1 s.2.2 (1:Int)) else ((getI v6 c10).bind fun c16 => (f147_k3 s.1 s.2.1 s.2.2 (if (w64 (c16 + (1:Int))) < (3:Int) then (w64 (c16 + (1:Int))) else (3:Int)))))))) else ((some (.inl (s.1, s.2.1))).map Sum.inr))
def f147_L1 (aR0 : Row) : ((List Int) × Bool) → Option (((List Int) × Bool) ⊕ (List Int)) := fun s =>
  (bif s.2 then ((f146 aR0 s.1).bind fun v6 => (loopO (f147_L2 aR0 v6) (s.1, false, (0:Int)))) else ((some s.1).map Sum.inr))
def f147 (aR0 : Row) : Option (List Int) :=
  ((makeB 8 (aR0.Next.length : Int)).bind fun m2 => (loopO (f147_L1 aR0) (List.replicate m2 (0 : Int), true)))
theorem f147_run {aR0 : Row} {r : (List Int)} {l1 l2 l3 l4 m5 : Nat} {H : Heap} {lk : Lk} (hk : f147 aR0 = some r) (hlk : 0 < lk.length := by simp) : ∃ v H1, runL Try.prog hh 147 [.agg [.lit l1 aR0.Next.length ((flatL 0) aR0.Next), .lit l2 aR0.Far.length ((flatL 0) aR0.Far), .lit l3 aR0.Open.length ((flatL 0) aR0.Open), .lit l4 aR0.Works.length (flatL m5 aR0.Works)]] H lk = some (v, H1) ∧ FreshL H r v H1 := by
  refine run_startR Try.func147 rfl Try.ntmps147 Try.results147 rfl rfl ?_
  have hO := Owns.nil H
  unfold f147 at hk
  refine wpL_sq (wpL_rg ?_)
  refine pBox (cs := [_, _, _, _]) hO tZ50 (fun b1 G hO => ?_)
  refine pA (.tl 0 []) ?_
  refine pE (gn (wpL_sq (wpL_rg ?_)))
  refine pF tF50_0 ?_
  refine pLo hO 0 (.lit _ _ _) tA26 ?_
  refine pLen tS26 ?_
  obtain ⟨m2, hm2, hk⟩ := bs hk
  refine pMk hO hm2 (0 : Int) tE26 tZ3 tB3 t03 (fun b3 G hO => ?_)
  refine pA (.sl _ _ _) ?_
  refine pE (gn (wpL_sq (wpL_sq (wpL_rg ?_))))
  refine pA (.bool _) ?_
  refine pE (gn (wpL_bl ?_))
  refine wpL_loopO (F := f147_L1 aR0) (fun s S' => ∃ (J : Nat → V) (G : Heap), s.1.length = m2 ∧ Owns H G [.blk b3 (.cells 1 ((flatL 0) s.1)), .blk b1 (.cells 4 [.lit l1 aR0.Next.length ((flatL 0) aR0.Next), .lit l2 aR0.Far.length ((flatL 0) aR0.Far), .lit l3 aR0.Open.length ((flatL 0) aR0.Open), .lit l4 aR0.Works.length (flatL m5 aR0.Works)])] ∧ S' = ⟨hav [(1, .ptr b1 0), (3, .sl b3 0 m2), (4, .bool s.2)] J, G⟩) hk ⟨_, _, List.length_replicate, hO, St.hav _ ⟨rfl, rfl, rfl, trivial⟩⟩ ?_
  rintro ⟨x4, x5⟩ _ y1 ⟨J, G, hl4, hO, rfl⟩ hk hx1
  refine wpL_sq (wpL_sq (wpL_rg ?_))
  refine pM (.bool _) ?_
  refine pE (gn ?_)
  refine wpL_cd (b := x5) (fun hb => ?_) (fun hb => ?_)
  · replace hk := ct hb hk
    refine wpL_sk (gn (wpL_bl (wpL_sq (wpL_rg ?_))))
    refine pA (.bool _) ?_
    refine pE (gn (wpL_sq (wpL_rg ?_)))
    refine pLs hO 1 [_, _, _, _] tA50 tZ50 ?_
    refine pM (.sl _ _ _) ?_
    obtain ⟨v6, hv6, hk⟩ := bs hk
    refine pCall (vs := [(.agg [_, _, _, _]), (.sl _ _ _)]) (caps := []) (fun _ => f146_run hv6) ?_ (h3 := (la_cons rfl (la_cons (ld_made hO 0 hl4 6) la_nil)))
    refine pA (.lit _ _ _) ?_
    refine pE (gn (wpL_sq (wpL_rg ?_)))
    refine pF tF50_0 ?_
    refine pLo hO 1 (.lit _ _ _) tA26 ?_
    refine pLen tS26 ?_
    refine pM (.int _ _) ?_
    refine pE (gn (wpL_bl ?_))
    refine wpL_loopO (F := f147_L2 aR0 v6) (fun s S' => ∃ (J : Nat → V) (G : Heap), s.1.length = m2 ∧ Owns H G [.blk b3 (.cells 1 ((flatL 0) s.1)), .blk b1 (.cells 4 [.lit l1 aR0.Next.length ((flatL 0) aR0.Next), .lit l2 aR0.Far.length ((flatL 0) aR0.Far), .lit l3 aR0.Open.length ((flatL 0) aR0.Open), .lit l4 aR0.Works.length (flatL m5 aR0.Works)])] ∧ S' = ⟨hav [(1, .ptr b1 0), (3, .sl b3 0 m2), (4, .bool s.2.1), (5, .lit 0 v6.length ((flatL 0) v6)), (18, .lit l1 aR0.Next.length ((flatL 0) aR0.Next)), (19, .int .i64 (aR0.Next.length : Int)), (20, .int .i64 s.2.2)] J, G⟩) hk ⟨_, _, hl4, hO, St.hav _ ⟨rfl, rfl, rfl, rfl, rfl, rfl, rfl, trivial⟩⟩ ?_
    rintro ⟨x7, x8, x9⟩ _ y2 ⟨J, G, hl7, hO, rfl⟩ hk hx2
    refine wpL_sq (wpL_rg ?_)
    refine pBi ?_
    refine pE (gn (wpL_sq ?_))
    refine wpL_cd (b := decide (x9 < (aR0.Next.length : Int))) (fun hb => ?_) (fun hb => ?_)
    · replace hk := ct hb hk
      refine wpL_sk (gn (wpL_sq (wpL_bl (wpL_sq (wpL_rg ?_)))))
      refine pM (.int _ _) ?_
      obtain ⟨c10, hc10, hk⟩ := bs hk
      refine pX hc10 tE26 tZ3 ?_
      refine pLp (.int _ _) (rd1 (lm := 0) (off := 0) hc10 tA3) ?_
      refine pA (.int _ _) ?_
      refine pA (.int _ _) ?_
      refine pE (gn (wpL_sq (wpL_rg ?_)))
      refine pA (.int _ _) ?_
      refine pE (gn ?_)
      refine wpL_mid (fun S' => ∃ (x11 : Int) (J : Nat → V) (G : Heap), f147_k3 x7 x8 x9 x11 = some y2 ∧ Owns H G [.blk b3 (.cells 1 ((flatL 0) x7)), .blk b1 (.cells 4 [.lit l1 aR0.Next.length ((flatL 0) aR0.Next), .lit l2 aR0.Far.length ((flatL 0) aR0.Far), .lit l3 aR0.Open.length ((flatL 0) aR0.Open), .lit l4 aR0.Works.length (flatL m5 aR0.Works)])] ∧ S' = ⟨hav [(1, .ptr b1 0), (3, .sl b3 0 m2), (4, .bool x8), (5, .lit 0 v6.length ((flatL 0) v6)), (6, .int .i64 x9), (8, .int .i64 x11), (18, .lit l1 aR0.Next.length ((flatL 0) aR0.Next)), (19, .int .i64 (aR0.Next.length : Int)), (20, .int .i64 x9)] J, G⟩) ?_ ?_
      · refine wpL_bl (wpL_sq (wpL_rg ?_))
        refine pF tF50_2 ?_
        refine pLo hO 1 (.lit _ _ _) tA38 ?_
        refine pM (.int _ _) ?_
        obtain ⟨c15, hc15, hk⟩ := bs hk
        refine pX hc15 tE38 tZ4 ?_
        refine pLp (.bool _) (rd1 (lm := 0) (off := 0) hc15 tA4) ?_
        refine pU ?_
        refine pA (.bool _) ?_
        refine pE (gn ?_)
        refine wpL_cd (b := !c15) (fun hb => ?_) (fun hb => ?_)
        · replace hk := ct hb hk
          refine wpL_sk (bn (gn ?_))
          exact ⟨(0:Int), _, _, hk, hO, St.hav _ ⟨rfl, rfl, rfl, rfl, rfl, rfl, rfl, rfl, rfl, trivial⟩⟩
        · replace hk := cf hb hk
          refine wpL_sq (wpL_rg ?_)
          refine pM (.int _ _) ?_
          refine pBi ?_
          refine pA (.bool _) ?_
          refine pE (gn ?_)
          refine wpL_cd (b := decide (c10 < (0:Int))) (fun hb => ?_) (fun hb => ?_)
          · replace hk := ct hb hk
            refine wpL_rg ?_
            refine pA (.int _ _) ?_
            refine pE (bn (gn ?_))
            exact ⟨(1:Int), _, _, hk, hO, St.hav _ ⟨rfl, rfl, rfl, rfl, rfl, rfl, rfl, rfl, rfl, trivial⟩⟩
          · replace hk := cf hb hk
            refine wpL_rg ?_
            refine pM (.lit _ _ _) ?_
            refine pM (.int _ _) ?_
            obtain ⟨c16, hc16, hk⟩ := bs hk
            refine pX hc16 tE26 tZ3 ?_
            refine pLp (.int _ _) (rd1 (lm := 0) (off := 0) hc16 tA3) ?_
            refine pBi ?_
            refine pMin ?_
            refine pA (.int _ _) ?_
            refine pE (bn (gn ?_))
            exact ⟨(if (w64 (c16 + (1:Int))) < (3:Int) then (w64 (c16 + (1:Int))) else (3:Int)), _, _, hk, hO, St.hav _ ⟨rfl, rfl, rfl, rfl, rfl, rfl, rfl, rfl, rfl, trivial⟩⟩
      · rintro _ ⟨x11, J, G, hk, hO, rfl⟩
        refine wpL_sq (wpL_rg ?_)
        refine pM (.bool _) ?_
        refine pM (.bool _) ?_
        obtain ⟨t12, ht, hk⟩ := bs hk
        refine wpR_mid (l1 := [_, _, _, _, _, _, _]) (fun S' => ∃ J, S' = ⟨hav [(1, .ptr b1 0), (3, .sl b3 0 m2), (5, .lit 0 v6.length ((flatL 0) v6)), (6, .int .i64 x9), (8, .int .i64 x11), (18, .lit l1 aR0.Next.length ((flatL 0) aR0.Next)), (19, .int .i64 (aR0.Next.length : Int)), (20, .int .i64 x9), (49, .bool t12)] J, G⟩) ?_ ?_
        · refine bc (b := x8) (fun hg1 => ?_) (fun hg1 => ?_)
          · replace hk := ct hg1 ht
            refine pGn hg1 ?_
            refine pGn hg1 ?_
            refine pGn hg1 ?_
            refine pGn hg1 ?_
            refine pGn hg1 ?_
            refine pGn hg1 ?_
            refine pPt hg1 (.bool _) ?_
            cases hk; exact pE ⟨_, St.hav _ ⟨rfl, rfl, rfl, rfl, rfl, rfl, rfl, rfl, rfl, trivial⟩⟩
          · replace hk := cf hg1 ht
            refine pGy hg1 ?_
            refine pM (.int _ _) ?_
            refine pGy hg1 ?_
            refine pM (.sl _ _ _) ?_
            refine pGy hg1 ?_
            refine pM (.int _ _) ?_
            refine pGy hg1 ?_
            obtain ⟨c13, hc13, hk⟩ := bs hk
            refine pXm hl7 hc13 tE26 tZ3 ?_
            refine pGy hg1 ?_
            refine pLh (.int _ _) (hO.get (k := 0) rfl).1 (rd1 (lm := 0) (off := 0) hc13 tA3) ?_
            refine pGy hg1 ?_
            refine pBi ?_
            refine pPf hg1 (.bool _) ?_
            cases hk; exact pE ⟨_, St.hav _ ⟨rfl, rfl, rfl, rfl, rfl, rfl, rfl, rfl, rfl, trivial⟩⟩
        · rintro _ ⟨J, rfl⟩
          refine pA (.bool _) ?_
          refine pE (gn (wpL_rg ?_))
          refine pM (.sl _ _ _) ?_
          refine pM (.int _ _) ?_
          refine pM (.int _ _) ?_
          obtain ⟨c14, hc14, hk⟩ := bs hk
          refine pXm hl7 hc14 tE26 tZ3 ?_
          refine pSm hO 0 hc14 tZ3 rfl x11 (.int _ _) (fun G hO => ?_)
          refine pE (bn (gn (wpL_rg ?_)))
          refine pBi ?_
          refine pM (.int _ _) ?_
          refine pE (gn ?_)
          cases hk; exact ⟨_, rfl, _, _, (List.length_set.trans hl7), hO, St.hav _ ⟨rfl, rfl, rfl, rfl, rfl, rfl, rfl, trivial⟩⟩
    · replace hk := cf hb hk
      refine wpL_ex (ge (ge (be (bn (gn ?_)))))
      replace hk := lx hx2 hk
      cases hk; exact ⟨_, rfl, _, _, hl7, hO, St.hav _ ⟨rfl, rfl, rfl, trivial⟩⟩
  · replace hk := cf hb hk
    refine wpL_ex (ge (ge (be (gn ?_))))
    replace hk := lx hx1 hk
    refine wpL_sq (wpL_rg ?_)
    refine pM (.sl _ _ _) ?_
    refine pA (.sl _ _ _) ?_
    refine pE (gn (wpL_rt ?_))
    replace hk := Option.some.inj hk; subst hk; exact finThL hO (th_made (xs := x4) hl4 hlk 0) (resT (.sl _ _ _) resN)
/-- impl.Wants -/
def f45 (aR0 : Row) : Option (List Int) :=
  ((f145 aR0).bind fun v2 => (bif (v2 != (0:Int)) then some ([] : List Int) else ((f147 aR0).bind fun v3 => some v3)))
theorem f45_run {aR0 : Row} {r : (List Int)} {l1 l2 l3 l4 m5 : Nat} {H : Heap} {lk : Lk} (hk : f45 aR0 = some r) (hlk : 0 < lk.length := by simp) : ∃ v H1, runL Try.prog hh 45 [.agg [.lit l1 aR0.Next.length ((flatL 0) aR0.Next), .lit l2 aR0.Far.length ((flatL 0) aR0.Far), .lit l3 aR0.Open.length ((flatL 0) aR0.Open), .lit l4 aR0.Works.length (flatL m5 aR0.Works)]] H lk = some (v, H1) ∧ FreshL H r v H1 := by
  refine run_startR Try.func45 rfl Try.ntmps45 Try.results45 rfl rfl ?_
  have hO := Owns.nil H
  unfold f45 at hk
  refine wpL_sq (wpL_rg ?_)
  refine pBox (cs := [_, _, _, _]) hO tZ50 (fun b1 G hO => ?_)
  refine pA (.tl 0 []) ?_
  refine pE (gn (wpL_sq (wpL_sq (wpL_rg ?_))))
  refine pLs hO 0 [_, _, _, _] tA50 tZ50 ?_
  obtain ⟨v2, hv2, hk⟩ := bs hk
  refine pCall (fun _ => f145_run hv2) ?_
  refine pBi ?_
  refine pE (gn ?_)
  refine wpL_cd (b := (v2 != (0:Int))) (fun hb => ?_) (fun hb => ?_)
  · replace hk := ct hb hk
    refine wpL_sq (wpL_rg ?_)
    refine pA (.tl 0 []) ?_
    refine pE (gn (wpL_rt (gr ?_)))
    replace hk := Option.some.inj hk; subst hk; exact finThL hO (th_nil Int) (resT (.tl 0 []) resN)
  · replace hk := cf hb hk
    refine wpL_sk (gn (wpL_sq (wpL_rg ?_)))
    refine pLs hO 0 [_, _, _, _] tA50 tZ50 ?_
    obtain ⟨v3, hv3, hk⟩ := bs hk
    refine pCN hO (fun _ => f147_run hv3) (fun u4 F4 G hO => ?_)
    refine pA u4 ?_
    refine pE (gn (wpL_rt ?_))
    replace hk := Option.some.inj hk; subst hk; exact finThL hO (th_tree (x := v3) 0) (resT u4 resN)
/-- laws.eqIntS -/
def f28_L1 (aA0 : List Int) (aB1 : List Int) : Int → Option (Int ⊕ Bool) := fun s =>
  (bif decide (s < (aA0.length : Int)) then ((getI aA0 s).bind fun c2 => ((getI aB1 s).bind fun c3 => (bif (c2 != c3) then ((some false).map Sum.inr) else some (.inl (w64 (s + (1:Int))))))) else ((some true).map Sum.inr))
def f28 (aA0 : List Int) (aB1 : List Int) : Option Bool :=
  (bif ((aA0.length : Int) != (aB1.length : Int)) then some false else (loopO (f28_L1 aA0 aB1) ((0:Int))))
theorem f28_run {aA0 : List Int} {aB1 : List Int} {r : Bool} {l1 l2 : Nat} {H : Heap} {lk : Lk} (hk : f28 aA0 aB1 = some r) (hlk : 0 < lk.length := by simp) : runL Try.prog hh 28 [.lit l1 aA0.length ((flatL 0) aA0), .lit l2 aB1.length ((flatL 0) aB1)] H lk = some (.bool r, H) := by
  refine run_start Try.func28 rfl Try.ntmps28 Try.results28 rfl rfl fun hO => ?_
  unfold f28 at hk
  refine wpL_sq (wpL_rg ?_)
  refine pA (.bool _) ?_
  refine pE (gn (wpL_sq (wpL_sq (wpL_rg ?_))))
  refine pM (.lit _ _ _) ?_
  refine pLen tS26 ?_
  refine pM (.lit _ _ _) ?_
  refine pLen tS26 ?_
  refine pBi ?_
  refine pE (gn ?_)
  refine wpL_cd (b := ((aA0.length : Int) != (aB1.length : Int))) (fun hb => ?_) (fun hb => ?_)
  · replace hk := ct hb hk
    refine wpL_sq (wpL_rg ?_)
    refine pA (.bool _) ?_
    refine pE (gn (wpL_rt (gr ?_)))
    replace hk := Option.some.inj hk; subst hk; exact fin0 hO
  · replace hk := cf hb hk
    refine wpL_sk (gn (wpL_sq (wpL_sq (wpL_rg ?_))))
    refine pA (.int _ _) ?_
    refine pE (gn (wpL_bl ?_))
    refine wpL_loopO (F := f28_L1 aA0 aB1) (fun s S' => ∃ (J : Nat → V) (G : Heap), Owns H G [] ∧ S' = ⟨hav [(0, .lit l1 aA0.length ((flatL 0) aA0)), (1, .lit l2 aB1.length ((flatL 0) aB1)), (5, .int .i64 s)] J, G⟩) hk ⟨_, _, hO, St.hav _ ⟨rfl, rfl, rfl, trivial⟩⟩ ?_
    rintro x1 _ y1 ⟨J, G, hO, rfl⟩ hk hx1
    refine wpL_sq (wpL_sq (wpL_rg ?_))
    refine pM (.int _ _) ?_
    refine pM (.lit _ _ _) ?_
    refine pLen tS26 ?_
    refine pBi ?_
    refine pE (gn ?_)
    refine wpL_cd (b := decide (x1 < (aA0.length : Int))) (fun hb => ?_) (fun hb => ?_)
    · replace hk := ct hb hk
      refine wpL_sk (gn (wpL_sq (wpL_bl (wpL_sq ?_))))
      refine wpL_drw [(0, true), (1, true), (2, true), (3, true), (4, true), (5, true), (6, true), (7, true), (8, false)] [_, _, _, _, _, _, _, _, _] (by decide +kernel) (by rfl) ?_
      refine pM (.lit _ _ _) ?_
      refine pM (.int _ _) ?_
      obtain ⟨c2, hc2, hk⟩ := bs hk
      refine pX hc2 tE26 tZ3 ?_
      refine pLp (.int _ _) (rd1 (lm := 0) (off := 0) hc2 tA3) ?_
      refine pM (.lit _ _ _) ?_
      refine pM (.int _ _) ?_
      obtain ⟨c3, hc3, hk⟩ := bs hk
      refine pX hc3 tE26 tZ3 ?_
      refine pLp (.int _ _) (rd1 (lm := 0) (off := 0) hc3 tA3) ?_
      refine pBi ?_
      refine pE (gn ?_)
      refine wpL_cd (b := (c2 != c3)) (fun hb => ?_) (fun hb => ?_)
      · replace hk := ct hb hk
        refine wpL_sq (wpL_rg ?_)
        refine pA (.bool _) ?_
        refine pE (gn (wpL_rt (br (gr (gr (br (gr ?_)))))))
        replace hk := lx hx1 hk
        replace hk := Option.some.inj hk; subst hk; exact fin0 hO
      · replace hk := cf hb hk
        refine wpL_sk (bn (gn (wpL_rg ?_)))
        refine pM (.int _ _) ?_
        refine pBi ?_
        refine pA (.int _ _) ?_
        refine pE (gn ?_)
        cases hk; exact ⟨_, rfl, _, _, hO, St.hav _ ⟨rfl, rfl, rfl, trivial⟩⟩
    · replace hk := cf hb hk
      refine wpL_ex (ge (ge (be (gn ?_))))
      replace hk := lx hx1 hk
      refine wpL_sq (wpL_rg ?_)
      refine pA (.bool _) ?_
      refine pE (gn (wpL_rt ?_))
      replace hk := Option.some.inj hk; subst hk; exact fin0 hO
/-- laws.eqBoolS -/
def f133_L1 (aA0 : List Bool) (aB1 : List Bool) : Int → Option (Int ⊕ Bool) := fun s =>
  (bif decide (s < (aA0.length : Int)) then ((getI aA0 s).bind fun c2 => ((getI aB1 s).bind fun c3 => (bif !(c2 == c3) then ((some false).map Sum.inr) else some (.inl (w64 (s + (1:Int))))))) else ((some true).map Sum.inr))
def f133 (aA0 : List Bool) (aB1 : List Bool) : Option Bool :=
  (bif ((aA0.length : Int) != (aB1.length : Int)) then some false else (loopO (f133_L1 aA0 aB1) ((0:Int))))
theorem f133_run {aA0 : List Bool} {aB1 : List Bool} {r : Bool} {l1 l2 : Nat} {H : Heap} {lk : Lk} (hk : f133 aA0 aB1 = some r) (hlk : 0 < lk.length := by simp) : runL Try.prog hh 133 [.lit l1 aA0.length ((flatL 0) aA0), .lit l2 aB1.length ((flatL 0) aB1)] H lk = some (.bool r, H) := by
  refine run_start Try.func133 rfl Try.ntmps133 Try.results133 rfl rfl fun hO => ?_
  unfold f133 at hk
  refine wpL_sq (wpL_rg ?_)
  refine pA (.bool _) ?_
  refine pE (gn (wpL_sq (wpL_sq (wpL_rg ?_))))
  refine pM (.lit _ _ _) ?_
  refine pLen tS38 ?_
  refine pM (.lit _ _ _) ?_
  refine pLen tS38 ?_
  refine pBi ?_
  refine pE (gn ?_)
  refine wpL_cd (b := ((aA0.length : Int) != (aB1.length : Int))) (fun hb => ?_) (fun hb => ?_)
  · replace hk := ct hb hk
    refine wpL_sq (wpL_rg ?_)
    refine pA (.bool _) ?_
    refine pE (gn (wpL_rt (gr ?_)))
    replace hk := Option.some.inj hk; subst hk; exact fin0 hO
  · replace hk := cf hb hk
    refine wpL_sk (gn (wpL_sq (wpL_sq (wpL_rg ?_))))
    refine pA (.int _ _) ?_
    refine pE (gn (wpL_bl ?_))
    refine wpL_loopO (F := f133_L1 aA0 aB1) (fun s S' => ∃ (J : Nat → V) (G : Heap), Owns H G [] ∧ S' = ⟨hav [(0, .lit l1 aA0.length ((flatL 0) aA0)), (1, .lit l2 aB1.length ((flatL 0) aB1)), (5, .int .i64 s)] J, G⟩) hk ⟨_, _, hO, St.hav _ ⟨rfl, rfl, rfl, trivial⟩⟩ ?_
    rintro x1 _ y1 ⟨J, G, hO, rfl⟩ hk hx1
    refine wpL_sq (wpL_sq (wpL_rg ?_))
    refine pM (.int _ _) ?_
    refine pM (.lit _ _ _) ?_
    refine pLen tS38 ?_
    refine pBi ?_
    refine pE (gn ?_)
    refine wpL_cd (b := decide (x1 < (aA0.length : Int))) (fun hb => ?_) (fun hb => ?_)
    · replace hk := ct hb hk
      refine wpL_sk (gn (wpL_sq (wpL_bl (wpL_sq ?_))))
      refine wpL_drw [(0, true), (1, true), (2, true), (3, true), (4, true), (5, true), (6, true), (7, true), (8, false)] [_, _, _, _, _, _, _, _, _] (by decide +kernel) (by rfl) ?_
      refine pM (.lit _ _ _) ?_
      refine pM (.int _ _) ?_
      obtain ⟨c2, hc2, hk⟩ := bs hk
      refine pX hc2 tE38 tZ4 ?_
      refine pLp (.bool _) (rd1 (lm := 0) (off := 0) hc2 tA4) ?_
      refine pM (.lit _ _ _) ?_
      refine pM (.int _ _) ?_
      obtain ⟨c3, hc3, hk⟩ := bs hk
      refine pX hc3 tE38 tZ4 ?_
      refine pLp (.bool _) (rd1 (lm := 0) (off := 0) hc3 tA4) ?_
      refine pBn Try.underlying4 ?_
      refine pE (gn ?_)
      refine wpL_cd (b := !(c2 == c3)) (fun hb => ?_) (fun hb => ?_)
      · replace hk := ct hb hk
        refine wpL_sq (wpL_rg ?_)
        refine pA (.bool _) ?_
        refine pE (gn (wpL_rt (br (gr (gr (br (gr ?_)))))))
        replace hk := lx hx1 hk
        replace hk := Option.some.inj hk; subst hk; exact fin0 hO
      · replace hk := cf hb hk
        refine wpL_sk (bn (gn (wpL_rg ?_)))
        refine pM (.int _ _) ?_
        refine pBi ?_
        refine pA (.int _ _) ?_
        refine pE (gn ?_)
        cases hk; exact ⟨_, rfl, _, _, hO, St.hav _ ⟨rfl, rfl, rfl, trivial⟩⟩
    · replace hk := cf hb hk
      refine wpL_ex (ge (ge (be (gn ?_))))
      replace hk := lx hx1 hk
      refine wpL_sq (wpL_rg ?_)
      refine pA (.bool _) ?_
      refine pE (gn (wpL_rt ?_))
      replace hk := Option.some.inj hk; subst hk; exact fin0 hO
/-- laws.eqBoolSS -/
def f148_L1 (aA0 : List (List Bool)) (aB1 : List (List Bool)) : Int → Option (Int ⊕ Bool) := fun s =>
  (bif decide (s < (aA0.length : Int)) then ((getI aA0 s).bind fun c2 => ((getI aB1 s).bind fun c3 => ((f133 c2 c3).bind fun v4 => (bif !v4 then ((some false).map Sum.inr) else some (.inl (w64 (s + (1:Int)))))))) else ((some true).map Sum.inr))
def f148 (aA0 : List (List Bool)) (aB1 : List (List Bool)) : Option Bool :=
  (bif ((aA0.length : Int) != (aB1.length : Int)) then some false else (loopO (f148_L1 aA0 aB1) ((0:Int))))
theorem f148_run {aA0 : List (List Bool)} {aB1 : List (List Bool)} {r : Bool} {l1 m2 l3 m4 : Nat} {H : Heap} {lk : Lk} (hk : f148 aA0 aB1 = some r) (hlk : 0 < lk.length := by simp) : runL Try.prog hh 148 [.lit l1 aA0.length (flatL m2 aA0), .lit l3 aB1.length (flatL m4 aB1)] H lk = some (.bool r, H) := by
  refine run_start Try.func148 rfl Try.ntmps148 Try.results148 rfl rfl fun hO => ?_
  unfold f148 at hk
  refine wpL_sq (wpL_rg ?_)
  refine pA (.bool _) ?_
  refine pE (gn (wpL_sq (wpL_sq (wpL_rg ?_))))
  refine pM (.lit _ _ _) ?_
  refine pLen tS45 ?_
  refine pM (.lit _ _ _) ?_
  refine pLen tS45 ?_
  refine pBi ?_
  refine pE (gn ?_)
  refine wpL_cd (b := ((aA0.length : Int) != (aB1.length : Int))) (fun hb => ?_) (fun hb => ?_)
  · replace hk := ct hb hk
    refine wpL_sq (wpL_rg ?_)
    refine pA (.bool _) ?_
    refine pE (gn (wpL_rt (gr ?_)))
    replace hk := Option.some.inj hk; subst hk; exact fin0 hO
  · replace hk := cf hb hk
    refine wpL_sk (gn (wpL_sq (wpL_sq (wpL_rg ?_))))
    refine pA (.int _ _) ?_
    refine pE (gn (wpL_bl ?_))
    refine wpL_loopO (F := f148_L1 aA0 aB1) (fun s S' => ∃ (J : Nat → V) (G : Heap), Owns H G [] ∧ S' = ⟨hav [(0, .lit l1 aA0.length (flatL m2 aA0)), (1, .lit l3 aB1.length (flatL m4 aB1)), (5, .int .i64 s)] J, G⟩) hk ⟨_, _, hO, St.hav _ ⟨rfl, rfl, rfl, trivial⟩⟩ ?_
    rintro x1 _ y1 ⟨J, G, hO, rfl⟩ hk hx1
    refine wpL_sq (wpL_sq (wpL_rg ?_))
    refine pM (.int _ _) ?_
    refine pM (.lit _ _ _) ?_
    refine pLen tS45 ?_
    refine pBi ?_
    refine pE (gn ?_)
    refine wpL_cd (b := decide (x1 < (aA0.length : Int))) (fun hb => ?_) (fun hb => ?_)
    · replace hk := ct hb hk
      refine wpL_sk (gn (wpL_sq (wpL_bl (wpL_sq ?_))))
      refine wpL_drw [(0, true), (1, true), (2, true), (3, true), (4, true), (5, true), (6, true), (7, true), (8, false), (9, false)] [_, _, _, _, _, _, _, _, _, _] (by decide +kernel) (by rfl) ?_
      refine pM (.lit _ _ _) ?_
      refine pM (.int _ _) ?_
      obtain ⟨c2, hc2, hk⟩ := bs hk
      refine pX hc2 tE45 tZ38 ?_
      refine pLp (.lit _ _ _) (rd1 (lm := m2) (off := 0) hc2 tA38) ?_
      refine pM (.lit _ _ _) ?_
      refine pM (.int _ _) ?_
      obtain ⟨c3, hc3, hk⟩ := bs hk
      refine pX hc3 tE45 tZ38 ?_
      refine pLp (.lit _ _ _) (rd1 (lm := m4) (off := 0) hc3 tA38) ?_
      obtain ⟨v4, hv4, hk⟩ := bs hk
      refine pCall (fun _ => f133_run hv4) ?_
      refine pU ?_
      refine pE (gn ?_)
      refine wpL_cd (b := !v4) (fun hb => ?_) (fun hb => ?_)
      · replace hk := ct hb hk
        refine wpL_sq (wpL_rg ?_)
        refine pA (.bool _) ?_
        refine pE (gn (wpL_rt (br (gr (gr (br (gr ?_)))))))
        replace hk := lx hx1 hk
        replace hk := Option.some.inj hk; subst hk; exact fin0 hO
      · replace hk := cf hb hk
        refine wpL_sk (bn (gn (wpL_rg ?_)))
        refine pM (.int _ _) ?_
        refine pBi ?_
        refine pA (.int _ _) ?_
        refine pE (gn ?_)
        cases hk; exact ⟨_, rfl, _, _, hO, St.hav _ ⟨rfl, rfl, rfl, trivial⟩⟩
    · replace hk := cf hb hk
      refine wpL_ex (ge (ge (be (gn ?_))))
      replace hk := lx hx1 hk
      refine wpL_sq (wpL_rg ?_)
      refine pA (.bool _) ?_
      refine pE (gn (wpL_rt ?_))
      replace hk := Option.some.inj hk; subst hk; exact fin0 hO
/-- laws.eqRow -/
def f42 (aA0 : Row) (aB1 : Row) : Option Bool :=
  ((f28 aA0.Next aB1.Next).bind fun v3 => (bif !v3 then some false else ((f28 aA0.Far aB1.Far).bind fun v4 => (bif !v4 then some false else ((f133 aA0.Open aB1.Open).bind fun v5 => (bif !v5 then some false else ((f148 aA0.Works aB1.Works).bind fun v6 => (bif !v6 then some false else some true))))))))
theorem f42_run {aA0 : Row} {aB1 : Row} {r : Bool} {l1 l2 l3 l4 m5 l6 l7 l8 l9 m10 : Nat} {H : Heap} {lk : Lk} (hk : f42 aA0 aB1 = some r) (hlk : 0 < lk.length := by simp) : runL Try.prog hh 42 [.agg [.lit l1 aA0.Next.length ((flatL 0) aA0.Next), .lit l2 aA0.Far.length ((flatL 0) aA0.Far), .lit l3 aA0.Open.length ((flatL 0) aA0.Open), .lit l4 aA0.Works.length (flatL m5 aA0.Works)], .agg [.lit l6 aB1.Next.length ((flatL 0) aB1.Next), .lit l7 aB1.Far.length ((flatL 0) aB1.Far), .lit l8 aB1.Open.length ((flatL 0) aB1.Open), .lit l9 aB1.Works.length (flatL m10 aB1.Works)]] H lk = some (.bool r, H) := by
  refine run_start Try.func42 rfl Try.ntmps42 Try.results42 rfl rfl fun hO => ?_
  unfold f42 at hk
  refine wpL_sq (wpL_rg ?_)
  refine pBox (cs := [_, _, _, _]) hO tZ50 (fun b1 G hO => ?_)
  refine pBox (cs := [_, _, _, _]) hO tZ50 (fun b2 G hO => ?_)
  refine pA (.bool _) ?_
  refine pE (gn (wpL_sq (wpL_sq (wpL_rg ?_))))
  refine pF tF50_0 ?_
  refine pLo hO 1 (.lit _ _ _) tA26 ?_
  refine pF tF50_0 ?_
  refine pLo hO 0 (.lit _ _ _) tA26 ?_
  obtain ⟨v3, hv3, hk⟩ := bs hk
  refine pCall (fun _ => f28_run hv3) ?_
  refine pU ?_
  refine pE (gn ?_)
  refine wpL_cd (b := !v3) (fun hb => ?_) (fun hb => ?_)
  · replace hk := ct hb hk
    refine wpL_sq (wpL_rg ?_)
    refine pA (.bool _) ?_
    refine pE (gn (wpL_rt (gr ?_)))
    replace hk := Option.some.inj hk; subst hk; exact fin0 hO
  · replace hk := cf hb hk
    refine wpL_sk (gn (wpL_sq (wpL_sq (wpL_rg ?_))))
    refine pF tF50_1 ?_
    refine pLo hO 1 (.lit _ _ _) tA26 ?_
    refine pF tF50_1 ?_
    refine pLo hO 0 (.lit _ _ _) tA26 ?_
    obtain ⟨v4, hv4, hk⟩ := bs hk
    refine pCall (fun _ => f28_run hv4) ?_
    refine pU ?_
    refine pE (gn ?_)
    refine wpL_cd (b := !v4) (fun hb => ?_) (fun hb => ?_)
    · replace hk := ct hb hk
      refine wpL_sq (wpL_rg ?_)
      refine pA (.bool _) ?_
      refine pE (gn (wpL_rt (gr ?_)))
      replace hk := Option.some.inj hk; subst hk; exact fin0 hO
    · replace hk := cf hb hk
      refine wpL_sk (gn (wpL_sq (wpL_sq (wpL_rg ?_))))
      refine pF tF50_2 ?_
      refine pLo hO 1 (.lit _ _ _) tA38 ?_
      refine pF tF50_2 ?_
      refine pLo hO 0 (.lit _ _ _) tA38 ?_
      obtain ⟨v5, hv5, hk⟩ := bs hk
      refine pCall (fun _ => f133_run hv5) ?_
      refine pU ?_
      refine pE (gn ?_)
      refine wpL_cd (b := !v5) (fun hb => ?_) (fun hb => ?_)
      · replace hk := ct hb hk
        refine wpL_sq (wpL_rg ?_)
        refine pA (.bool _) ?_
        refine pE (gn (wpL_rt (gr ?_)))
        replace hk := Option.some.inj hk; subst hk; exact fin0 hO
      · replace hk := cf hb hk
        refine wpL_sk (gn (wpL_sq (wpL_sq (wpL_rg ?_))))
        refine pF tF50_3 ?_
        refine pLo hO 1 (.lit _ _ _) tA45 ?_
        refine pF tF50_3 ?_
        refine pLo hO 0 (.lit _ _ _) tA45 ?_
        obtain ⟨v6, hv6, hk⟩ := bs hk
        refine pCall (fun _ => f148_run hv6) ?_
        refine pU ?_
        refine pE (gn ?_)
        refine wpL_cd (b := !v6) (fun hb => ?_) (fun hb => ?_)
        · replace hk := ct hb hk
          refine wpL_sq (wpL_rg ?_)
          refine pA (.bool _) ?_
          refine pE (gn (wpL_rt (gr ?_)))
          replace hk := Option.some.inj hk; subst hk; exact fin0 hO
        · replace hk := cf hb hk
          refine wpL_sk (gn (wpL_sq (wpL_rg ?_)))
          refine pA (.bool _) ?_
          refine pE (gn (wpL_rt ?_))
          replace hk := Option.some.inj hk; subst hk; exact fin0 hO
/-- laws.markIntS -/
def f31_L1 : ((List Int) × Int × Int) → Option (((List Int) × Int × Int) ⊕ (List Int × Int)) := fun s =>
  (bif decide (s.2.2 < (s.1.length : Int)) then ((getI s.1 s.2.2).bind fun c4 => some (.inl (s.1.set s.2.2.toNat s.2.1, w64 (s.2.1 + (1:Int)), w64 (s.2.2 + (1:Int))))) else ((some (s.1, s.2.1)).map Sum.inr))
def f31 (aA0 : List Int) (aK1 : Int) : Option (List Int × Int) :=
  (loopO (f31_L1) (aA0, aK1, (0:Int)))
theorem f31_run {aA0 : List Int} {aK1 : Int} {r : (List Int × Int)} {v0 : V} {F0 : List Nat} {H : Heap} {lk : Lk} (hk : f31 aA0 aK1 = some r) (ha : TrIn H aA0 [v0] F0) (hF : ∀ b ∈ F0, b < H.length) (hS : ∀ b ∈ F0, unlocked lk b = true) (hlk : 0 < lk.length := by simp) : ∃ v H1, runL Try.prog hh 31 [v0, .int .i64 aK1] H lk = some (v, H1) ∧ v = .int .i64 r.2 ∧ TrIn H1 r.1 [v0] F0 ∧ H1.length = H.length ∧ ∀ b, b ∉ F0 → H1[b]? = H[b]? := by
  refine run_startR Try.func31 rfl Try.ntmps31 Try.results31 rfl rfl ?_
  have hO := tree_start ha hF
  have hFr := Sees.refl H F0
  unfold f31 at hk
  refine wpL_sq (wpL_rg ?_)
  refine pA (.int _ _) ?_
  refine pE (gn (wpL_sq (wpL_sq (wpL_rg ?_))))
  refine pA (.int _ _) ?_
  refine pE (gn (wpL_bl ?_))
  refine wpL_loopO (F := f31_L1) (fun s S' => ∃ (J : Nat → V) (G : Heap) (H1 : Heap), Sees H H1 F0 ∧ Owns H1 G [Tree F0 F0 s.1 [v0]] ∧ S' = ⟨hav [(0, v0), (1, .int .i64 s.2.1), (5, .int .i64 s.2.2)] J, G⟩) hk ⟨_, _, _, hFr, hO, St.hav _ ⟨rfl, rfl, rfl, trivial⟩⟩ ?_
  rintro ⟨x1, x2, x3⟩ _ y1 ⟨J, G, H1, hFr, hO, rfl⟩ hk hx1
  refine wpL_sq (wpL_sq (wpL_rg ?_))
  refine pM (.int _ _) ?_
  refine pM v0 ?_
  refine pLenT hO 0 tS26 ?_
  refine pBi ?_
  refine pE (gn ?_)
  refine wpL_cd (b := decide (x3 < (x1.length : Int))) (fun hb => ?_) (fun hb => ?_)
  · replace hk := ct hb hk
    refine wpL_sk (gn (wpL_sq (wpL_bl (wpL_sq (wpL_rg ?_)))))
    refine pM v0 ?_
    refine pM (.int _ _) ?_
    refine pM (.int _ _) ?_
    obtain ⟨c4, hc4, hk⟩ := bs hk
    refine pXT hO 0 hc4 tE26 tZ3 (fun b5 hb5 => ?_)
    refine pST (Foc.all (α := Int)) (y' := x2) hO 0 hb5 hc4 tZ3 (fun _ => ⟨rfl, rfl⟩) hFr hS rfl (fun H1 G hFr hO => ?_)
    refine pE (gn (wpL_rg ?_))
    refine pM (.int _ _) ?_
    refine pBi ?_
    refine pA (.int _ _) ?_
    refine pE (bn (gn (wpL_rg ?_)))
    refine pM (.int _ _) ?_
    refine pBi ?_
    refine pA (.int _ _) ?_
    refine pE (gn ?_)
    cases hk; exact ⟨_, rfl, _, _, _, hFr, hO, St.hav _ ⟨rfl, rfl, rfl, trivial⟩⟩
  · replace hk := cf hb hk
    refine wpL_ex (ge (ge (be (gn ?_))))
    replace hk := lx hx1 hk
    refine wpL_sq (wpL_rg ?_)
    refine pM (.int _ _) ?_
    refine pA (.int _ _) ?_
    refine pE (gn (wpL_rt ?_))
    replace hk := Option.some.inj hk; subst hk; exact finT hO 0 hFr hF
/-- laws.markBoolS -/
def f135_L1 : ((List Bool) × Int × Int) → Option (((List Bool) × Int × Int) ⊕ (List Bool × Int)) := fun s =>
  (bif decide (s.2.2 < (s.1.length : Int)) then ((getI s.1 s.2.2).bind fun c4 => some (.inl (s.1.set s.2.2.toNat ((Int.tmod s.2.1 (3:Int)) == (0:Int)), w64 (s.2.1 + (1:Int)), w64 (s.2.2 + (1:Int))))) else ((some (s.1, s.2.1)).map Sum.inr))
def f135 (aA0 : List Bool) (aK1 : Int) : Option (List Bool × Int) :=
  (loopO (f135_L1) (aA0, aK1, (0:Int)))
theorem f135_run {aA0 : List Bool} {aK1 : Int} {r : (List Bool × Int)} {v0 : V} {F0 : List Nat} {H : Heap} {lk : Lk} (hk : f135 aA0 aK1 = some r) (ha : TrIn H aA0 [v0] F0) (hF : ∀ b ∈ F0, b < H.length) (hS : ∀ b ∈ F0, unlocked lk b = true) (hlk : 0 < lk.length := by simp) : ∃ v H1, runL Try.prog hh 135 [v0, .int .i64 aK1] H lk = some (v, H1) ∧ v = .int .i64 r.2 ∧ TrIn H1 r.1 [v0] F0 ∧ H1.length = H.length ∧ ∀ b, b ∉ F0 → H1[b]? = H[b]? := by
  refine run_startR Try.func135 rfl Try.ntmps135 Try.results135 rfl rfl ?_
  have hO := tree_start ha hF
  have hFr := Sees.refl H F0
  unfold f135 at hk
  refine wpL_sq (wpL_rg ?_)
  refine pA (.int _ _) ?_
  refine pE (gn (wpL_sq (wpL_sq (wpL_rg ?_))))
  refine pA (.int _ _) ?_
  refine pE (gn (wpL_bl ?_))
  refine wpL_loopO (F := f135_L1) (fun s S' => ∃ (J : Nat → V) (G : Heap) (H1 : Heap), Sees H H1 F0 ∧ Owns H1 G [Tree F0 F0 s.1 [v0]] ∧ S' = ⟨hav [(0, v0), (1, .int .i64 s.2.1), (5, .int .i64 s.2.2)] J, G⟩) hk ⟨_, _, _, hFr, hO, St.hav _ ⟨rfl, rfl, rfl, trivial⟩⟩ ?_
  rintro ⟨x1, x2, x3⟩ _ y1 ⟨J, G, H1, hFr, hO, rfl⟩ hk hx1
  refine wpL_sq (wpL_sq (wpL_rg ?_))
  refine pM (.int _ _) ?_
  refine pM v0 ?_
  refine pLenT hO 0 tS38 ?_
  refine pBi ?_
  refine pE (gn ?_)
  refine wpL_cd (b := decide (x3 < (x1.length : Int))) (fun hb => ?_) (fun hb => ?_)
  · replace hk := ct hb hk
    refine wpL_sk (gn (wpL_sq (wpL_bl (wpL_sq (wpL_rg ?_)))))
    refine pM v0 ?_
    refine pM (.int _ _) ?_
    refine pM (.int _ _) ?_
    refine pBi ?_
    refine pBi ?_
    obtain ⟨c4, hc4, hk⟩ := bs hk
    refine pXT hO 0 hc4 tE38 tZ4 (fun b5 hb5 => ?_)
    refine pST (Foc.all (α := Bool)) (y' := ((Int.tmod x2 (3:Int)) == (0:Int))) hO 0 hb5 hc4 tZ4 (fun _ => ⟨rfl, rfl⟩) hFr hS rfl (fun H1 G hFr hO => ?_)
    refine pE (gn (wpL_rg ?_))
    refine pM (.int _ _) ?_
    refine pBi ?_
    refine pA (.int _ _) ?_
    refine pE (bn (gn (wpL_rg ?_)))
    refine pM (.int _ _) ?_
    refine pBi ?_
    refine pA (.int _ _) ?_
    refine pE (gn ?_)
    cases hk; exact ⟨_, rfl, _, _, _, hFr, hO, St.hav _ ⟨rfl, rfl, rfl, trivial⟩⟩
  · replace hk := cf hb hk
    refine wpL_ex (ge (ge (be (gn ?_))))
    replace hk := lx hx1 hk
    refine wpL_sq (wpL_rg ?_)
    refine pM (.int _ _) ?_
    refine pA (.int _ _) ?_
    refine pE (gn (wpL_rt ?_))
    replace hk := Option.some.inj hk; subst hk; exact finT hO 0 hFr hF
/-- laws.markBoolSS -/
def f149_L1 : ((List (List Bool)) × Int × Int) → Option (((List (List Bool)) × Int × Int) ⊕ (List (List Bool) × Int)) := fun s =>
  (bif decide (s.2.2 < (s.1.length : Int)) then ((getI s.1 s.2.2).bind fun c4 => ((f135 c4 s.2.1).bind fun z7 => some (.inl (s.1.set s.2.2.toNat z7.1, z7.2, w64 (s.2.2 + (1:Int)))))) else ((some (s.1, s.2.1)).map Sum.inr))
def f149 (aA0 : List (List Bool)) (aK1 : Int) : Option (List (List Bool) × Int) :=
  (loopO (f149_L1) (aA0, aK1, (0:Int)))
theorem f149_run {aA0 : List (List Bool)} {aK1 : Int} {r : (List (List Bool) × Int)} {v0 : V} {F0 : List Nat} {H : Heap} {lk : Lk} (hk : f149 aA0 aK1 = some r) (ha : TrIn H aA0 [v0] F0) (hF : ∀ b ∈ F0, b < H.length) (hS : ∀ b ∈ F0, unlocked lk b = true) (hlk : 0 < lk.length := by simp) : ∃ v H1, runL Try.prog hh 149 [v0, .int .i64 aK1] H lk = some (v, H1) ∧ v = .int .i64 r.2 ∧ TrIn H1 r.1 [v0] F0 ∧ H1.length = H.length ∧ ∀ b, b ∉ F0 → H1[b]? = H[b]? := by
  refine run_startR Try.func149 rfl Try.ntmps149 Try.results149 rfl rfl ?_
  have hO := tree_start ha hF
  have hFr := Sees.refl H F0
  unfold f149 at hk
  refine wpL_sq (wpL_rg ?_)
  refine pA (.int _ _) ?_
  refine pE (gn (wpL_sq (wpL_sq (wpL_rg ?_))))
  refine pA (.int _ _) ?_
  refine pE (gn (wpL_bl ?_))
  refine wpL_loopO (F := f149_L1) (fun s S' => ∃ (J : Nat → V) (G : Heap) (H1 : Heap), Sees H H1 F0 ∧ Owns H1 G [Tree F0 F0 s.1 [v0]] ∧ S' = ⟨hav [(0, v0), (1, .int .i64 s.2.1), (5, .int .i64 s.2.2)] J, G⟩) hk ⟨_, _, _, hFr, hO, St.hav _ ⟨rfl, rfl, rfl, trivial⟩⟩ ?_
  rintro ⟨x1, x2, x3⟩ _ y1 ⟨J, G, H1, hFr, hO, rfl⟩ hk hx1
  refine wpL_sq (wpL_sq (wpL_rg ?_))
  refine pM (.int _ _) ?_
  refine pM v0 ?_
  refine pLenT hO 0 tS45 ?_
  refine pBi ?_
  refine pE (gn ?_)
  refine wpL_cd (b := decide (x3 < (x1.length : Int))) (fun hb => ?_) (fun hb => ?_)
  · replace hk := ct hb hk
    refine wpL_sk (gn (wpL_sq (wpL_bl (wpL_rg ?_))))
    refine pM v0 ?_
    refine pM (.int _ _) ?_
    obtain ⟨c4, hc4, hk⟩ := bs hk
    refine pXT hO 0 hc4 tE45 tZ38 (fun b5 hb5 => ?_)
    refine pLT (Foc.all (α := List Bool)) hO 0 hb5 hc4 tA38 (fun u6 fs6 hs6 => ?_)
    refine pM (.int _ _) ?_
    obtain ⟨z7, hz7, hk⟩ := bs hk
    refine pCT (y' := z7.1) (r := .int .i64 z7.2) hO 0 hs6 (fun _ h => h) hFr hS (fun hF1 hS1 ht1 => f135_run hz7 ht1 hF1 hS1) (fun H1 G hFr hO => ?_)
    refine pA (.int _ _) ?_
    refine pE (bn (gn (wpL_rg ?_)))
    refine pM (.int _ _) ?_
    refine pBi ?_
    refine pA (.int _ _) ?_
    refine pE (gn ?_)
    cases hk; exact ⟨_, rfl, _, _, _, hFr, hO, St.hav _ ⟨rfl, rfl, rfl, trivial⟩⟩
  · replace hk := cf hb hk
    refine wpL_ex (ge (ge (be (gn ?_))))
    replace hk := lx hx1 hk
    refine wpL_sq (wpL_rg ?_)
    refine pM (.int _ _) ?_
    refine pA (.int _ _) ?_
    refine pE (gn (wpL_rt ?_))
    replace hk := Option.some.inj hk; subst hk; exact finT hO 0 hFr hF
/-- laws.markRow -/
def f43 (aA0 : Row) (aK1 : Int) : Option (Row × Int) :=
  ((f31 aA0.Next aK1).bind fun z3 => ((f31 (({ aA0 with Next := z3.1 }).Far) z3.2).bind fun z5 => ((f135 (({ { aA0 with Next := z3.1 } with Far := z5.1 }).Open) z5.2).bind fun z7 => ((f149 (({ { { aA0 with Next := z3.1 } with Far := z5.1 } with Open := z7.1 }).Works) z7.2).bind fun z9 => some ({ { { { aA0 with Next := z3.1 } with Far := z5.1 } with Open := z7.1 } with Works := z9.1 }, z9.2)))))
theorem f43_run {aA0 : Row} {aK1 : Int} {r : (Row × Int)} {v0 : List V} {F0 : List Nat} {H : Heap} {lk : Lk} (hk : f43 aA0 aK1 = some r) (ha : TrIn H aA0 v0 F0) (hF : ∀ b ∈ F0, b < H.length) (hS : ∀ b ∈ F0, unlocked lk b = true) (hlk : 0 < lk.length := by simp) : ∃ v H1, runL Try.prog hh 43 [.agg v0, .int .i64 aK1] H lk = some (v, H1) ∧ v = .int .i64 r.2 ∧ TrIn H1 r.1 v0 F0 ∧ H1.length = H.length ∧ ∀ b, b ∉ F0 → H1[b]? = H[b]? := by
  refine run_startR Try.func43 rfl Try.ntmps43 Try.results43 rfl rfl ?_
  have hO := tree_start ha hF
  have hFr := Sees.refl H F0
  unfold f43 at hk
  refine wpL_sq (wpL_rg ?_)
  refine pBoxT hO 0 tZ50 (fun b1 G hO => ?_)
  refine pA (.int _ _) ?_
  refine pE (gn (wpL_sq (wpL_rg ?_)))
  refine pF tF50_0 ?_
  refine pLTs foc_Row_Next hO 0 1 tA26 (fun u2 fs2 hs2 => ?_)
  refine pM (.int _ _) ?_
  obtain ⟨z3, hz3, hk⟩ := bs hk
  refine pCT (y' := z3.1) (r := .int .i64 z3.2) hO 1 hs2 (fun _ h => h) hFr hS (fun hF1 hS1 ht1 => f31_run hz3 ht1 hF1 hS1) (fun H1 G hFr hO => ?_)
  refine pA (.int _ _) ?_
  refine pE (gn (wpL_sq (wpL_rg ?_)))
  refine pF tF50_1 ?_
  refine pLTs foc_Row_Far hO 0 1 tA26 (fun u4 fs4 hs4 => ?_)
  refine pM (.int _ _) ?_
  obtain ⟨z5, hz5, hk⟩ := bs hk
  refine pCT (y' := z5.1) (r := .int .i64 z5.2) hO 1 hs4 (fun _ h => h) hFr hS (fun hF1 hS1 ht1 => f31_run hz5 ht1 hF1 hS1) (fun H1 G hFr hO => ?_)
  refine pA (.int _ _) ?_
  refine pE (gn (wpL_sq (wpL_rg ?_)))
  refine pF tF50_2 ?_
  refine pLTs foc_Row_Open hO 0 1 tA38 (fun u6 fs6 hs6 => ?_)
  refine pM (.int _ _) ?_
  obtain ⟨z7, hz7, hk⟩ := bs hk
  refine pCT (y' := z7.1) (r := .int .i64 z7.2) hO 1 hs6 (fun _ h => h) hFr hS (fun hF1 hS1 ht1 => f135_run hz7 ht1 hF1 hS1) (fun H1 G hFr hO => ?_)
  refine pA (.int _ _) ?_
  refine pE (gn (wpL_sq (wpL_rg ?_)))
  refine pF tF50_3 ?_
  refine pLTs foc_Row_Works hO 0 1 tA45 (fun u8 fs8 hs8 => ?_)
  refine pM (.int _ _) ?_
  obtain ⟨z9, hz9, hk⟩ := bs hk
  refine pCT (y' := z9.1) (r := .int .i64 z9.2) hO 1 hs8 (fun _ h => h) hFr hS (fun hF1 hS1 ht1 => f149_run hz9 ht1 hF1 hS1) (fun H1 G hFr hO => ?_)
  refine pA (.int _ _) ?_
  refine pE (gn (wpL_sq (wpL_rg ?_)))
  refine pM (.int _ _) ?_
  refine pA (.int _ _) ?_
  refine pE (gn (wpL_rt ?_))
  replace hk := Option.some.inj hk; subst hk; exact finT hO 1 hFr hF
/-- laws.heldIntS -/
def f32_L1 (aA0 : List Int) : (Int × Int) → Option ((Int × Int) ⊕ Int) := fun s =>
  (bif decide (s.2 < (aA0.length : Int)) then ((getI aA0 s.2).bind fun c3 => (bif (c3 != s.1) then ((some (-1:Int)).map Sum.inr) else some (.inl (w64 (s.1 + (1:Int)), w64 (s.2 + (1:Int)))))) else ((some s.1).map Sum.inr))
def f32 (aA0 : List Int) (aK1 : Int) : Option Int :=
  (loopO (f32_L1 aA0) (aK1, (0:Int)))
theorem f32_run {aA0 : List Int} {aK1 : Int} {r : Int} {l1 : Nat} {H : Heap} {lk : Lk} (hk : f32 aA0 aK1 = some r) (hlk : 0 < lk.length := by simp) : runL Try.prog hh 32 [.lit l1 aA0.length ((flatL 0) aA0), .int .i64 aK1] H lk = some (.int .i64 r, H) := by
  refine run_start Try.func32 rfl Try.ntmps32 Try.results32 rfl rfl fun hO => ?_
  unfold f32 at hk
  refine wpL_sq (wpL_rg ?_)
  refine pA (.int _ _) ?_
  refine pE (gn (wpL_sq (wpL_sq (wpL_rg ?_))))
  refine pA (.int _ _) ?_
  refine pE (gn (wpL_bl ?_))
  refine wpL_loopO (F := f32_L1 aA0) (fun s S' => ∃ (J : Nat → V) (G : Heap), Owns H G [] ∧ S' = ⟨hav [(0, .lit l1 aA0.length ((flatL 0) aA0)), (1, .int .i64 s.1), (5, .int .i64 s.2)] J, G⟩) hk ⟨_, _, hO, St.hav _ ⟨rfl, rfl, rfl, trivial⟩⟩ ?_
  rintro ⟨x1, x2⟩ _ y1 ⟨J, G, hO, rfl⟩ hk hx1
  refine wpL_sq (wpL_sq (wpL_rg ?_))
  refine pM (.int _ _) ?_
  refine pM (.lit _ _ _) ?_
  refine pLen tS26 ?_
  refine pBi ?_
  refine pE (gn ?_)
  refine wpL_cd (b := decide (x2 < (aA0.length : Int))) (fun hb => ?_) (fun hb => ?_)
  · replace hk := ct hb hk
    refine wpL_sk (gn (wpL_sq (wpL_bl (wpL_sq (wpL_sq (wpL_rg ?_))))))
    refine pM (.lit _ _ _) ?_
    refine pM (.int _ _) ?_
    obtain ⟨c3, hc3, hk⟩ := bs hk
    refine pX hc3 tE26 tZ3 ?_
    refine pLp (.int _ _) (rd1 (lm := 0) (off := 0) hc3 tA3) ?_
    refine pM (.int _ _) ?_
    refine pBi ?_
    refine pE (gn ?_)
    refine wpL_cd (b := (c3 != x1)) (fun hb => ?_) (fun hb => ?_)
    · replace hk := ct hb hk
      refine wpL_sq (wpL_rg ?_)
      refine pA (.int _ _) ?_
      refine pE (gn (wpL_rt (gr (br (gr (gr (br (gr ?_))))))))
      replace hk := lx hx1 hk
      replace hk := Option.some.inj hk; subst hk; exact fin0 hO
    · replace hk := cf hb hk
      refine wpL_sk (gn (wpL_rg ?_))
      refine pM (.int _ _) ?_
      refine pBi ?_
      refine pA (.int _ _) ?_
      refine pE (bn (gn (wpL_rg ?_)))
      refine pM (.int _ _) ?_
      refine pBi ?_
      refine pA (.int _ _) ?_
      refine pE (gn ?_)
      cases hk; exact ⟨_, rfl, _, _, hO, St.hav _ ⟨rfl, rfl, rfl, trivial⟩⟩
  · replace hk := cf hb hk
    refine wpL_ex (ge (ge (be (gn ?_))))
    replace hk := lx hx1 hk
    refine wpL_sq (wpL_rg ?_)
    refine pM (.int _ _) ?_
    refine pA (.int _ _) ?_
    refine pE (gn (wpL_rt ?_))
    replace hk := Option.some.inj hk; subst hk; exact fin0 hO
/-- laws.FnExactWants -/
def f6 (aAR0 : Row) : Option Bool :=
  ((f38 aAR0 (1048576:Int)).bind fun v2 => (bif decide (v2 < (0:Int)) then some true else ((f40 aAR0).bind fun v3 => ((f44 v3).bind fun v5 => ((f40 aAR0).bind fun v7 => ((f45 v7).bind fun v10 => ((f28 v10 v5).bind fun v13 => (bif !v13 then some false else ((f40 aAR0).bind fun v15 => ((f42 v7 v15).bind fun v17 => (bif !v17 then some false else ((f43 v7 (1:Int)).bind fun z20 => ((bif decide (z20.2 < (0:Int)) then some true else ((f28 v10 v5).bind fun v22 => some (!v22))).bind fun t21 => (bif t21 then some false else ((f31 v10 (1:Int)).bind fun z24 => ((f32 z24.1 (1:Int)).bind fun v25 => (bif decide (v25 < (0:Int)) then some false else (bif (v25 != z24.2) then some false else ((f40 aAR0).bind fun v27 => ((f45 v27).bind fun v29 => ((f28 v29 v5).bind fun v32 => (bif !v32 then some false else ((f32 z24.1 (1:Int)).bind fun v34 => (bif decide (v34 < (0:Int)) then some false else (bif (v34 != z24.2) then some false else some true)))))))))))))))))))))))))
theorem f6_run {aAR0 : Row} {r : Bool} {l1 l2 l3 l4 m5 : Nat} {H : Heap} {lk : Lk} (hk : f6 aAR0 = some r) (hlk : 0 < lk.length := by simp) (hlo : LkOk lk H.length := by simp [LkOk]) : runL Try.prog hh 6 [.agg [.lit l1 aAR0.Next.length ((flatL 0) aAR0.Next), .lit l2 aAR0.Far.length ((flatL 0) aAR0.Far), .lit l3 aAR0.Open.length ((flatL 0) aAR0.Open), .lit l4 aAR0.Works.length (flatL m5 aAR0.Works)]] H lk = some (.bool r, H) := by
  refine run_start Try.func6 rfl Try.ntmps6 Try.results6 rfl rfl fun hO => ?_
  unfold f6 at hk
  refine wpL_sq (wpL_rg ?_)
  refine pBox (cs := [_, _, _, _]) hO tZ47 (fun b1 G hO => ?_)
  refine pA (.bool _) ?_
  refine pE (gn (wpL_sq (wpL_rg ?_)))
  refine pA (.int _ _) ?_
  refine pE (gn (wpL_sq (wpL_rg ?_)))
  refine pLs hO 0 [_, _, _, _] tA47 tZ47 ?_
  refine pM (.int _ _) ?_
  obtain ⟨v2, hv2, hk⟩ := bs hk
  refine pCall (fun _ => f38_run hv2) ?_
  refine pA (.int _ _) ?_
  refine pE (gn (wpL_sq (wpL_sq (wpL_rg ?_))))
  refine pM (.int _ _) ?_
  refine pBi ?_
  refine pE (gn ?_)
  refine wpL_cd (b := decide (v2 < (0:Int))) (fun hb => ?_) (fun hb => ?_)
  · replace hk := ct hb hk
    refine wpL_sq (wpL_rg ?_)
    refine pA (.bool _) ?_
    refine pE (gn (wpL_rt (gr ?_)))
    replace hk := Option.some.inj hk; subst hk; exact fin0 hO
  · replace hk := cf hb hk
    refine wpL_sk (gn (wpL_sq (wpL_rg ?_)))
    refine pLs hO 0 [_, _, _, _] tA47 tZ47 ?_
    obtain ⟨v3, hv3, hk⟩ := bs hk
    refine pCNs hO (fun _ => f40_run hv3) (fun u4 F4 G hO => ?_)
    obtain ⟨v5, hv5, hk⟩ := bs hk
    obtain ⟨_, hm6⟩ := ls_Row hO (j := 0) rfl (lk.length + 1) 7
    refine pCall (vs := [(.agg u4)]) (caps := []) (fun _ => f44_run hv5) ?_ (h3 := (la_cons hm6 la_nil))
    refine pA (.lit _ _ _) ?_
    refine pE (gn (wpL_sq (wpL_rg ?_)))
    refine pLs hO 1 [_, _, _, _] tA47 tZ47 ?_
    obtain ⟨v7, hv7, hk⟩ := bs hk
    refine pCNs hO (fun _ => f40_run hv7) (fun u8 F8 G hO => ?_)
    refine pNew hO tZ50 t050 (fun b9 G hO => ?_)
    refine pStS hO 0 1 tZ50 rfl (fun G hO => ?_)
    refine pE (gn (wpL_sq (wpL_rg ?_)))
    refine pLdS hO 0 1 tA50 tZ50 ?_
    obtain ⟨v10, hv10, hk⟩ := bs hk
    obtain ⟨_, hm11⟩ := ls_Row hO (j := 1) rfl (lk.length + 1) 7
    refine pCN (vs := [(.agg u8)]) (caps := []) hO (fun _ => f45_run hv10) (fun u12 F12 G hO => ?_) (h3 := (la_cons hm11 la_nil))
    refine pA u12 ?_
    refine pE (gn (wpL_sq (wpL_sq (wpL_rg ?_))))
    refine pM u12 ?_
    refine pM (.lit _ _ _) ?_
    obtain ⟨v13, hv13, hk⟩ := bs hk
    obtain ⟨_, hm14⟩ := ld_trF hO (j := 0) rfl (lk.length + 1) 8
    refine pCall (vs := [u12, (.lit _ _ _)]) (caps := []) (fun _ => f28_run hv13) ?_ (h3 := (la_cons hm14 (la_cons rfl la_nil)))
    refine pU ?_
    refine pE (gn ?_)
    refine wpL_cd (b := !v13) (fun hb => ?_) (fun hb => ?_)
    · replace hk := ct hb hk
      refine wpL_sq (wpL_rg ?_)
      refine pA (.bool _) ?_
      refine pE (gn (wpL_rt (gr ?_)))
      replace hk := Option.some.inj hk; subst hk; exact fin0 hO
    · replace hk := cf hb hk
      refine wpL_sk (gn (wpL_sq (wpL_sq ?_)))
      refine wpL_drw [(0, true), (1, true), (2, true), (3, false), (4, false)] [_, _, _, _, _] (by decide +kernel) (by rfl) ?_
      refine pLdS hO 1 2 tA50 tZ50 ?_
      refine pLs hO 4 [_, _, _, _] tA47 tZ47 ?_
      obtain ⟨v15, hv15, hk⟩ := bs hk
      refine pCNs hO (fun _ => f40_run hv15) (fun u16 F16 G hO => ?_)
      obtain ⟨v17, hv17, hk⟩ := bs hk
      obtain ⟨_, hm18⟩ := ls_Row hO (j := 3) rfl (lk.length + 1) 7
      obtain ⟨_, hm19⟩ := ls_Row hO (j := 0) rfl (lk.length + 1) 7
      refine pCall (vs := [(.agg u8), (.agg u16)]) (caps := []) (fun _ => f42_run hv17) ?_ (h3 := (la_cons hm18 (la_cons hm19 la_nil)))
      refine pU ?_
      refine pE (gn ?_)
      refine wpL_cd (b := !v17) (fun hb => ?_) (fun hb => ?_)
      · replace hk := ct hb hk
        refine wpL_sq (wpL_rg ?_)
        refine pA (.bool _) ?_
        refine pE (gn (wpL_rt (gr ?_)))
        replace hk := Option.some.inj hk; subst hk; exact fin0 hO
      · replace hk := cf hb hk
        refine wpL_sk (gn (wpL_sq (wpL_rg ?_)))
        refine pA (.int _ _) ?_
        refine pE (gn (wpL_sq (wpL_rg ?_)))
        refine pLdS hO 2 3 tA50 tZ50 ?_
        refine pM (.int _ _) ?_
        obtain ⟨z20, hz20, hk⟩ := bs hk
        refine pCTo (y' := z20.1) (r := .int .i64 z20.2) hO 3 (Sub.all hO (j := 3) rfl) hlo (fun hF1 hS1 ht1 => f43_run hz20 ht1 hF1 hS1) (fun G hO => ?_)
        refine pA (.int _ _) ?_
        refine pE (gn (wpL_sq (wpL_sq (wpL_rg ?_))))
        refine pM (.int _ _) ?_
        refine pBi ?_
        refine pM (.bool _) ?_
        obtain ⟨t21, ht, hk⟩ := bs hk
        refine wpR_mid (l1 := [_, _, _, _, _]) (fun S' => ∃ J, S' = ⟨hav [(1, .ptr b1 0), (4, .lit 0 v5.length ((flatL 0) v5)), (6, u12), (42, .bool t21)] J, G⟩) ?_ ?_
        · refine bc (b := decide (z20.2 < (0:Int))) (fun hg1 => ?_) (fun hg1 => ?_)
          · replace hk := ct hg1 ht
            refine pGn hg1 ?_
            refine pGn hg1 ?_
            refine pGn hg1 ?_
            refine pGn hg1 ?_
            refine pPt hg1 (.bool _) ?_
            cases hk; exact pE ⟨_, St.hav _ ⟨rfl, rfl, rfl, rfl, trivial⟩⟩
          · replace hk := cf hg1 ht
            refine pGy hg1 ?_
            refine pM u12 ?_
            refine pGy hg1 ?_
            refine pM (.lit _ _ _) ?_
            refine pGy hg1 ?_
            obtain ⟨v22, hv22, hk⟩ := bs hk
            obtain ⟨_, hm23⟩ := ld_trF hO (j := 1) rfl (lk.length + 1) 8
            refine pCall (vs := [u12, (.lit _ _ _)]) (caps := []) (fun _ => f28_run hv22) ?_ (h3 := (la_cons hm23 (la_cons rfl la_nil)))
            refine pGy hg1 ?_
            refine pU ?_
            refine pPf hg1 (.bool _) ?_
            cases hk; exact pE ⟨_, St.hav _ ⟨rfl, rfl, rfl, rfl, trivial⟩⟩
        · rintro _ ⟨J, rfl⟩
          refine pE (gn ?_)
          refine wpL_cd (b := t21) (fun hb => ?_) (fun hb => ?_)
          · replace hk := ct hb hk
            refine wpL_sq (wpL_rg ?_)
            refine pA (.bool _) ?_
            refine pE (gn (wpL_rt (gr ?_)))
            replace hk := Option.some.inj hk; subst hk; exact fin0 hO
          · replace hk := cf hb hk
            refine wpL_sk (gn (wpL_sq (wpL_rg ?_)))
            refine pA (.int _ _) ?_
            refine pE (gn (wpL_sq (wpL_rg ?_)))
            refine pM u12 ?_
            refine pM (.int _ _) ?_
            obtain ⟨z24, hz24, hk⟩ := bs hk
            refine pCTo (y' := z24.1) (r := .int .i64 z24.2) hO 1 (Sub.all hO (j := 1) rfl) hlo (fun hF1 hS1 ht1 => f31_run hz24 ht1 hF1 hS1) (fun G hO => ?_)
            refine pA (.int _ _) ?_
            refine pE (gn (wpL_sq (wpL_rg ?_)))
            refine pA (.int _ _) ?_
            refine pE (gn (wpL_sq (wpL_rg ?_)))
            refine pM u12 ?_
            refine pM (.int _ _) ?_
            obtain ⟨v25, hv25, hk⟩ := bs hk
            obtain ⟨_, hm26⟩ := ld_trF hO (j := 1) rfl (lk.length + 1) 8
            refine pCall (vs := [u12, (.int _ _)]) (caps := []) (fun _ => f32_run hv25) ?_ (h3 := (la_cons hm26 (la_cons rfl la_nil)))
            refine pA (.int _ _) ?_
            refine pE (gn (wpL_sq (wpL_sq (wpL_rg ?_))))
            refine pM (.int _ _) ?_
            refine pBi ?_
            refine pE (gn ?_)
            refine wpL_cd (b := decide (v25 < (0:Int))) (fun hb => ?_) (fun hb => ?_)
            · replace hk := ct hb hk
              refine wpL_sq (wpL_rg ?_)
              refine pA (.bool _) ?_
              refine pE (gn (wpL_rt (gr ?_)))
              replace hk := Option.some.inj hk; subst hk; exact fin0 hO
            · replace hk := cf hb hk
              refine wpL_sk (gn (wpL_sq (wpL_sq (wpL_rg ?_))))
              refine pM (.int _ _) ?_
              refine pM (.int _ _) ?_
              refine pBi ?_
              refine pE (gn ?_)
              refine wpL_cd (b := (v25 != z24.2)) (fun hb => ?_) (fun hb => ?_)
              · replace hk := ct hb hk
                refine wpL_sq (wpL_rg ?_)
                refine pA (.bool _) ?_
                refine pE (gn (wpL_rt (gr ?_)))
                replace hk := Option.some.inj hk; subst hk; exact fin0 hO
              · replace hk := cf hb hk
                refine wpL_sk (gn (wpL_sq (wpL_rg ?_)))
                refine pLs hO 5 [_, _, _, _] tA47 tZ47 ?_
                obtain ⟨v27, hv27, hk⟩ := bs hk
                refine pCNs hO (fun _ => f40_run hv27) (fun u28 F28 G hO => ?_)
                obtain ⟨v29, hv29, hk⟩ := bs hk
                obtain ⟨_, hm30⟩ := ls_Row hO (j := 0) rfl (lk.length + 1) 7
                refine pCN (vs := [(.agg u28)]) (caps := []) hO (fun _ => f45_run hv29) (fun u31 F31 G hO => ?_) (h3 := (la_cons hm30 la_nil))
                refine pA u31 ?_
                refine pE (gn (wpL_sq (wpL_sq (wpL_rg ?_))))
                refine pM u31 ?_
                refine pM (.lit _ _ _) ?_
                obtain ⟨v32, hv32, hk⟩ := bs hk
                obtain ⟨_, hm33⟩ := ld_trF hO (j := 0) rfl (lk.length + 1) 8
                refine pCall (vs := [u31, (.lit _ _ _)]) (caps := []) (fun _ => f28_run hv32) ?_ (h3 := (la_cons hm33 (la_cons rfl la_nil)))
                refine pU ?_
                refine pE (gn ?_)
                refine wpL_cd (b := !v32) (fun hb => ?_) (fun hb => ?_)
                · replace hk := ct hb hk
                  refine wpL_sq (wpL_rg ?_)
                  refine pA (.bool _) ?_
                  refine pE (gn (wpL_rt (gr ?_)))
                  replace hk := Option.some.inj hk; subst hk; exact fin0 hO
                · replace hk := cf hb hk
                  refine wpL_sk (gn (wpL_sq (wpL_rg ?_)))
                  refine pA (.int _ _) ?_
                  refine pE (gn (wpL_sq (wpL_rg ?_)))
                  refine pM u12 ?_
                  refine pM (.int _ _) ?_
                  obtain ⟨v34, hv34, hk⟩ := bs hk
                  obtain ⟨_, hm35⟩ := ld_trF hO (j := 3) rfl (lk.length + 1) 8
                  refine pCall (vs := [u12, (.int _ _)]) (caps := []) (fun _ => f32_run hv34) ?_ (h3 := (la_cons hm35 (la_cons rfl la_nil)))
                  refine pA (.int _ _) ?_
                  refine pE (gn (wpL_sq (wpL_sq (wpL_rg ?_))))
                  refine pM (.int _ _) ?_
                  refine pBi ?_
                  refine pE (gn ?_)
                  refine wpL_cd (b := decide (v34 < (0:Int))) (fun hb => ?_) (fun hb => ?_)
                  · replace hk := ct hb hk
                    refine wpL_sq (wpL_rg ?_)
                    refine pA (.bool _) ?_
                    refine pE (gn (wpL_rt (gr ?_)))
                    replace hk := Option.some.inj hk; subst hk; exact fin0 hO
                  · replace hk := cf hb hk
                    refine wpL_sk (gn (wpL_sq (wpL_sq (wpL_rg ?_))))
                    refine pM (.int _ _) ?_
                    refine pM (.int _ _) ?_
                    refine pBi ?_
                    refine pE (gn ?_)
                    refine wpL_cd (b := (v34 != z24.2)) (fun hb => ?_) (fun hb => ?_)
                    · replace hk := ct hb hk
                      refine wpL_sq (wpL_rg ?_)
                      refine pA (.bool _) ?_
                      refine pE (gn (wpL_rt (gr ?_)))
                      replace hk := Option.some.inj hk; subst hk; exact fin0 hO
                    · replace hk := cf hb hk
                      refine wpL_sk (gn (wpL_sq (wpL_rg ?_)))
                      refine pA (.bool _) ?_
                      refine pE (gn (wpL_rt ?_))
                      replace hk := Option.some.inj hk; subst hk; exact fin0 hO
end
end Go.Proofs.Ytkfekjcahepfnaa.K
