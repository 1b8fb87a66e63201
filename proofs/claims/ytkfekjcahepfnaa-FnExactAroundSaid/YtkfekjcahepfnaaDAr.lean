/-
  The functions that FnExactAround reaches, as typed Lean functions, and that the interpreter computes them. No conditions.
-/
import Derived.Test.YtkfekjcahepfnaaKzg
import Derived.Test.YtkfekjcahepfnaaProg
set_option linter.unusedVariables false
set_option linter.unusedSimpArgs false
set_option maxRecDepth 100000
namespace Go.Proofs.Ytkfekjcahepfnaa.K
noncomputable section
def hh : Hints := { modes := fun k => bif Nat.beq k 30 || Nat.beq k 31 || Nat.beq k 131 then [.exact] else [], thaw := fun k => Nat.beq k 26 || Nat.beq k 27 || Nat.beq k 128, grow := fun k => false, keep := fun k => false }
structure Counter where
  From : Int
  To : Int
instance : GoT Counter := ⟨2, by decide, fun l x => GoT.encL l x.From ++ (GoT.encL l x.To), fun x => by simp only [List.length_append, GoT.len]; rfl, fun x => by simp only [cleanL_append, GoT.clean]; rfl, fun x => by simp only [List.all_append, GoT.cell]; rfl⟩
instance : GoM Counter := GoM.via (fun x => (x.From, x.To) : Counter → Int × Int) rfl fun _ _ => rfl
instance : GoFl Counter := ⟨fun G x => GoFl.fl (α := Int × Int) G (x.From, x.To), fun l x => GoFl.lev (α := Int × Int) l (x.From, x.To), GoFl.pos (α := Int × Int)⟩
theorem foc_Counter_From : Foc Counter Int (fun x => x.From) (fun x y => { x with From := y }) 0 := Foc.via (α := Counter) (f := (fun x => (x.From, x.To) : Counter → Int × Int)) (hz := rfl) (he := fun _ _ => rfl) (Foc.fst) fun _ _ => rfl
theorem foc_Counter_To : Foc Counter Int (fun x => x.To) (fun x y => { x with To := y }) 1 := Foc.via (α := Counter) (f := (fun x => (x.From, x.To) : Counter → Int × Int)) (hz := rfl) (he := fun _ _ => rfl) (Foc.snd) fun _ _ => rfl
structure Layout where
  Sections : Int
  Counters : List Counter
instance : GoT Layout := ⟨2, by decide, fun l x => GoT.encL l x.Sections ++ (GoT.encL l x.Counters), fun x => by simp only [List.length_append, GoT.len]; rfl, fun x => by simp only [cleanL_append, GoT.clean]; rfl, fun x => by simp only [List.all_append, GoT.cell]; rfl⟩
instance : GoM Layout := GoM.via (fun x => (x.Sections, x.Counters) : Layout → Int × (List Counter)) rfl fun _ _ => rfl
theorem foc_Layout_Sections : Foc Layout Int (fun x => x.Sections) (fun x y => { x with Sections := y }) 0 := Foc.via (α := Layout) (f := (fun x => (x.Sections, x.Counters) : Layout → Int × (List Counter))) (hz := rfl) (he := fun _ _ => rfl) (Foc.fst) fun _ _ => rfl
theorem foc_Layout_Counters : Foc Layout (List Counter) (fun x => x.Counters) (fun x y => { x with Counters := y }) 1 := Foc.via (α := Layout) (f := (fun x => (x.Sections, x.Counters) : Layout → Int × (List Counter))) (hz := rfl) (he := fun _ _ => rfl) (Foc.snd) fun _ _ => rfl
theorem th_Layout {H : Heap} {d n : Nat} {rs rs1 : List Res} {cs : List V} {x : Layout} (h : ThV n H d rs cs (x.Sections, x.Counters) rs1) : ThV n H d rs cs x rs1 := h
theorem ls_Layout {H G : Heap} {rs : List Res} {S F : List Nat} {x : Layout} {cs : List V} {j : Nat} (hO : Owns H G rs) (hj : rs[j]? = some (Tree S F x cs)) (lv n : Nat) (hn : Nat.ble (GoM.dep Layout) n = true := by rfl) : ∃ M, lendV lv G (n + 1) (.agg cs) = some (.agg [.int .i64 x.Sections, .lit lv x.Counters.length ((flatL 0) x.Counters)], M) := by
  have h := ld_trS hO hj lv n hn
  have e : GoT.encL lv x = [.int .i64 x.Sections, .lit lv x.Counters.length ((flatL 0) x.Counters)] := by
    show ([.int .i64 x.Sections, .lit lv x.Counters.length (flatL lv x.Counters)] : List V) = _
    simp only [flat_lv]
  rwa [e] at h
theorem tZ24 : szOf Try.prog 24 = some 2 := by rfl
theorem tA24 : aggT Try.prog 24 = some true := by rfl
theorem tF24_1 : fieldOff Try.prog 24 1 = some 1 := by rfl
theorem tA22 : aggT Try.prog 22 = some false := by rfl
theorem tS22 : strT Try.prog 22 = some false := by rfl
theorem tZ30 : szOf Try.prog 30 = some 2 := by rfl
theorem t030 : zeroOf Try.prog 30 = some [.int .i64 0, (.tl 0 [])] := by rfl
theorem tF24_0 : fieldOff Try.prog 24 0 = some 0 := by rfl
theorem tA3 : aggT Try.prog 3 = some false := by rfl
theorem tF30_0 : fieldOff Try.prog 30 0 = some 0 := by rfl
theorem tZ3 : szOf Try.prog 3 = some 1 := by rfl
theorem tE28 : elemT Try.prog 28 = some 184 := by rfl
theorem tZ184 : szOf Try.prog 184 = some 2 := by rfl
theorem tB184 : bytesOf Try.prog 184 = some 16 := by rfl
theorem t0184 : zeroOf Try.prog 184 = some [.int .i64 0, .int .i64 0] := by rfl
theorem tE22 : elemT Try.prog 22 = some 281 := by rfl
theorem tZ281 : szOf Try.prog 281 = some 2 := by rfl
theorem tA281 : aggT Try.prog 281 = some true := by rfl
theorem tF281_0 : fieldOff Try.prog 281 0 = some 0 := by rfl
theorem tF184_0 : fieldOff Try.prog 184 0 = some 0 := by rfl
theorem tF281_1 : fieldOff Try.prog 281 1 = some 1 := by rfl
theorem tF184_1 : fieldOff Try.prog 184 1 = some 1 := by rfl
theorem tA184 : aggT Try.prog 184 = some true := by rfl
theorem tF30_1 : fieldOff Try.prog 30 1 = some 1 := by rfl
theorem tZ28 : szOf Try.prog 28 = some 1 := by rfl
theorem tA30 : aggT Try.prog 30 = some true := by rfl
theorem tA28 : aggT Try.prog 28 = some false := by rfl
theorem tS28 : strT Try.prog 28 = some false := by rfl
theorem tE26 : elemT Try.prog 26 = some 3 := by rfl
theorem t03 : zeroOf Try.prog 3 = some [.int .i64 0] := by rfl
theorem tB3 : bytesOf Try.prog 3 = some 8 := by rfl
theorem tS26 : strT Try.prog 26 = some false := by rfl
/-- laws.szCounterS -/
def f125 (aA0 : List Counter) (aLeft1 : Int) : Option Int :=
  (bif decide ((w64 (aLeft1 - (aA0.length : Int))) < (0:Int)) then some (-1:Int) else some (w64 (aLeft1 - (aA0.length : Int))))
theorem f125_run {aA0 : List Counter} {aLeft1 : Int} {r : Int} {l1 : Nat} {H : Heap} {lk : Lk} (hk : f125 aA0 aLeft1 = some r) (hlk : 0 < lk.length := by simp) : runL Try.prog hh 125 [.lit l1 aA0.length ((flatL 0) aA0), .int .i64 aLeft1] H lk = some (.int .i64 r, H) := by
  refine run_start Try.func125 rfl Try.ntmps125 Try.results125 rfl rfl fun hO => ?_
  unfold f125 at hk
  refine wpL_sq ?_
  refine wpL_rg ?_
  refine pA (.int _ _) ?_
  refine pE ?_
  refine gn ?_
  refine wpL_sq ?_
  refine wpL_rg ?_
  refine pM (.int _ _) ?_
  refine pM (.lit _ _ _) ?_
  refine pLen tS22 ?_
  refine pBi ?_
  refine pA (.int _ _) ?_
  refine pE ?_
  refine gn ?_
  refine wpL_sq ?_
  refine wpL_sq ?_
  refine wpL_rg ?_
  refine pM (.int _ _) ?_
  refine pBi ?_
  refine pE ?_
  refine gn ?_
  refine wpL_cd (b := decide ((w64 (aLeft1 - (aA0.length : Int))) < (0:Int))) (fun hb => ?_) (fun hb => ?_)
  · replace hk := ct hb hk
    refine wpL_sq ?_
    refine wpL_rg ?_
    refine pA (.int _ _) ?_
    refine pE ?_
    refine gn ?_
    refine wpL_rt ?_
    refine gr ?_
    replace hk := Option.some.inj hk; subst hk; exact fin0 hO
  · replace hk := cf hb hk
    refine wpL_sk ?_
    refine gn ?_
    refine wpL_sq ?_
    refine wpL_rg ?_
    refine pM (.int _ _) ?_
    refine pA (.int _ _) ?_
    refine pE ?_
    refine gn ?_
    refine wpL_rt ?_
    replace hk := Option.some.inj hk; subst hk; exact fin0 hO
/-- laws.szLayout -/
def f24 (aA0 : Layout) (aLeft1 : Int) : Option Int :=
  ((f125 aA0.Counters aLeft1).bind fun v2 => (bif decide (v2 < (0:Int)) then some (-1:Int) else some v2))
theorem f24_run {aA0 : Layout} {aLeft1 : Int} {r : Int} {l1 : Nat} {H : Heap} {lk : Lk} (hk : f24 aA0 aLeft1 = some r) (hlk : 0 < lk.length := by simp) : runL Try.prog hh 24 [.agg [.int .i64 aA0.Sections, .lit l1 aA0.Counters.length ((flatL 0) aA0.Counters)], .int .i64 aLeft1] H lk = some (.int .i64 r, H) := by
  refine run_start Try.func24 rfl Try.ntmps24 Try.results24 rfl rfl fun hO => ?_
  unfold f24 at hk
  refine wpL_sq ?_
  refine wpL_rg ?_
  refine pBox (cs := [_, _]) hO tZ24 (fun b1 G hO => ?_)
  refine pA (.int _ _) ?_
  refine pE ?_
  refine gn ?_
  refine wpL_sq ?_
  refine wpL_rg ?_
  refine pF tF24_1 ?_
  refine pLo hO 0 (.lit _ _ _) tA22 ?_
  refine pM (.int _ _) ?_
  obtain ⟨v2, hv2, hk⟩ := bs hk
  refine pCall (fun _ => f125_run hv2) ?_
  refine pA (.int _ _) ?_
  refine pE ?_
  refine gn ?_
  refine wpL_sq ?_
  refine wpL_sq ?_
  refine wpL_rg ?_
  refine pM (.int _ _) ?_
  refine pBi ?_
  refine pE ?_
  refine gn ?_
  refine wpL_cd (b := decide (v2 < (0:Int))) (fun hb => ?_) (fun hb => ?_)
  · replace hk := ct hb hk
    refine wpL_sq ?_
    refine wpL_rg ?_
    refine pA (.int _ _) ?_
    refine pE ?_
    refine gn ?_
    refine wpL_rt ?_
    refine gr ?_
    replace hk := Option.some.inj hk; subst hk; exact fin0 hO
  · replace hk := cf hb hk
    refine wpL_sk ?_
    refine gn ?_
    refine wpL_sq ?_
    refine wpL_rg ?_
    refine pM (.int _ _) ?_
    refine pA (.int _ _) ?_
    refine pE ?_
    refine gn ?_
    refine wpL_rt ?_
    replace hk := Option.some.inj hk; subst hk; exact fin0 hO
/-- laws.toCounter -/
def f249 (aA0 : Counter) : Option Counter :=
  some aA0
theorem f249_run {aA0 : Counter} {r : Counter} {H : Heap} {lk : Lk} (hk : f249 aA0 = some r) (hlk : 0 < lk.length := by simp) : runL Try.prog hh 249 [.agg [.int .i64 aA0.From, .int .i64 aA0.To]] H lk = some (.agg [.int .i64 r.From, .int .i64 r.To], H) := by
  refine run_start Try.func249 rfl Try.ntmps249 Try.results249 rfl rfl fun hO => ?_
  unfold f249 at hk
  refine wpL_sq ?_
  refine wpL_rg ?_
  refine pBox (cs := [_, _]) hO tZ281 (fun b1 G hO => ?_)
  refine pNew hO tZ184 t0184 (fun b2 G hO => ?_)
  refine pE ?_
  refine gn ?_
  refine wpL_sq ?_
  refine wpL_rg ?_
  refine pNew hO tZ184 t0184 (fun b3 G hO => ?_)
  refine pE ?_
  refine gn ?_
  refine wpL_sq ?_
  refine wpL_rg ?_
  refine pF tF281_0 ?_
  refine pLo hO 2 (.int _ _) tA3 ?_
  refine pF tF184_0 ?_
  refine pSt (xs := [_]) hO 0 tZ3 rfl (fun G hO => ?_)
  refine pE ?_
  refine gn ?_
  refine wpL_sq ?_
  refine wpL_rg ?_
  refine pF tF281_1 ?_
  refine pLo hO 2 (.int _ _) tA3 ?_
  refine pF tF184_1 ?_
  refine pSt (xs := [_]) hO 0 tZ3 rfl (fun G hO => ?_)
  refine pE ?_
  refine gn ?_
  refine wpL_sq ?_
  refine wpL_rg ?_
  refine pLs hO 0 [_, _] tA184 tZ184 ?_
  refine pSt (xs := [_, _]) hO 1 tZ184 rfl (fun G hO => ?_)
  refine pE ?_
  refine gn ?_
  refine wpL_rt ?_
  replace hk := Option.some.inj hk; subst hk; exact finZ hO (fz_agg (n := 2) (fz_c (fz_int _ _) (fz_c (fz_int _ _) (fz_n)))) (resS hO 1 [_, _] tA184 tZ184 resN)
/-- laws.toCounterS -/
def f128_L1 (aA0 : List Counter) : ((List Counter) × Int) → Option (((List Counter) × Int) ⊕ (List Counter)) := fun s =>
  (bif decide (s.2 < (aA0.length : Int)) then ((getI aA0 s.2).bind fun c5 => ((f249 c5).bind fun v6 => ((getI s.1 s.2).bind fun c7 => some (.inl (s.1.set s.2.toNat v6, w64 (s.2 + (1:Int))))))) else ((some s.1).map Sum.inr))
def f128 (aA0 : List Counter) : Option (List Counter) :=
  ((makeB 16 (aA0.length : Int)).bind fun m1 => (loopO (f128_L1 aA0) (List.replicate m1 (⟨0, 0⟩ : Counter), (0:Int))))
theorem f128_run {aA0 : List Counter} {r : (List Counter)} {l1 : Nat} {H : Heap} {lk : Lk} (hk : f128 aA0 = some r) (hlk : 0 < lk.length := by simp) : ∃ v H1, runL Try.prog hh 128 [.lit l1 aA0.length ((flatL 0) aA0)] H lk = some (v, H1) ∧ FreshL H r v H1 := by
  refine run_startR Try.func128 rfl Try.ntmps128 Try.results128 rfl rfl ?_
  have hO := Owns.nil H
  unfold f128 at hk
  refine wpL_sq ?_
  refine wpL_rg ?_
  refine pA (.tl 0 []) ?_
  refine pE ?_
  refine gn ?_
  refine wpL_sq ?_
  refine wpL_rg ?_
  refine pM (.lit _ _ _) ?_
  refine pLen tS22 ?_
  obtain ⟨m1, hm1, hk⟩ := bs hk
  refine pMk hO hm1 (⟨0, 0⟩ : Counter) tE28 tZ184 tB184 t0184 (fun b2 G hO => ?_)
  refine pA (.sl _ _ _) ?_
  refine pE ?_
  refine gn ?_
  refine wpL_sq ?_
  refine wpL_sq ?_
  refine wpL_rg ?_
  refine pA (.int _ _) ?_
  refine pE ?_
  refine gn ?_
  refine wpL_bl ?_
  refine wpL_loopO (F := f128_L1 aA0) (fun s S' => ∃ (J : Nat → V) (G : Heap), s.1.length = m1 ∧ Owns H G [.blk b2 (.cells 2 ((flatL 0) s.1))] ∧ S' = ⟨hav [(0, .lit l1 aA0.length ((flatL 0) aA0)), (3, .sl b2 0 m1), (4, .int .i64 s.2)] J, G⟩) hk ⟨_, _, List.length_replicate, hO, St.hav _ ⟨rfl, rfl, rfl, trivial⟩⟩ ?_
  rintro ⟨x3, x4⟩ _ y1 ⟨J, G, hl3, hO, rfl⟩ hk hx1
  refine wpL_sq ?_
  refine wpL_sq ?_
  refine wpL_rg ?_
  refine pM (.int _ _) ?_
  refine pM (.lit _ _ _) ?_
  refine pLen tS22 ?_
  refine pBi ?_
  refine pE ?_
  refine gn ?_
  refine wpL_cd (b := decide (x4 < (aA0.length : Int))) (fun hb => ?_) (fun hb => ?_)
  · replace hk := ct hb hk
    refine wpL_sk ?_
    refine gn ?_
    refine wpL_sq ?_
    refine wpL_bl ?_
    refine wpL_rg ?_
    refine pM (.sl _ _ _) ?_
    refine pM (.int _ _) ?_
    refine pM (.lit _ _ _) ?_
    refine pM (.int _ _) ?_
    obtain ⟨c5, hc5, hk⟩ := bs hk
    refine pX hc5 tE22 tZ281 ?_
    refine pLp (.agg [_, _]) (rd2 (lm := 0) (off := 0) hc5 tA281 tZ281) ?_
    obtain ⟨v6, hv6, hk⟩ := bs hk
    refine pCall (fun _ => f249_run hv6) ?_
    obtain ⟨c7, hc7, hk⟩ := bs hk
    refine pXm hl3 hc7 tE28 tZ184 ?_
    refine pSm hO 0 hc7 tZ184 rfl v6 (.agg [_, _]) (fun G hO => ?_)
    refine pE ?_
    refine bn (gn ?_)
    refine wpL_rg ?_
    refine pM (.int _ _) ?_
    refine pBi ?_
    refine pA (.int _ _) ?_
    refine pE ?_
    refine gn ?_
    cases hk; exact ⟨_, rfl, _, _, (List.length_set.trans hl3), hO, St.hav _ ⟨rfl, rfl, rfl, trivial⟩⟩
  · replace hk := cf hb hk
    refine wpL_ex ?_
    refine ge (ge (be (gn ?_)))
    replace hk := lx hx1 hk
    refine wpL_sq ?_
    refine wpL_rg ?_
    refine pM (.sl _ _ _) ?_
    refine pA (.sl _ _ _) ?_
    refine pE ?_
    refine gn ?_
    refine wpL_rt ?_
    replace hk := Option.some.inj hk; subst hk; exact finThL hO (th_made (xs := x3) hl3 hlk 0) (resT (.sl _ _ _) resN)
/-- laws.toLayout -/
def f26 (aA0 : Layout) : Option Layout :=
  ((f128 aA0.Counters).bind fun v4 => some ({ Sections := aA0.Sections, Counters := v4 } : Layout))
theorem f26_run {aA0 : Layout} {r : Layout} {l1 : Nat} {H : Heap} {lk : Lk} (hk : f26 aA0 = some r) (hlk : 0 < lk.length := by simp) : ∃ v H1, runL Try.prog hh 26 [.agg [.int .i64 aA0.Sections, .lit l1 aA0.Counters.length ((flatL 0) aA0.Counters)]] H lk = some (v, H1) ∧ FreshS H r v H1 := by
  refine run_startR Try.func26 rfl Try.ntmps26 Try.results26 rfl rfl ?_
  have hO := Owns.nil H
  unfold f26 at hk
  refine wpL_sq ?_
  refine wpL_rg ?_
  refine pBox (cs := [_, _]) hO tZ24 (fun b1 G hO => ?_)
  refine pNew hO tZ30 t030 (fun b2 G hO => ?_)
  refine pE ?_
  refine gn ?_
  refine wpL_sq ?_
  refine wpL_rg ?_
  refine pNew hO tZ30 t030 (fun b3 G hO => ?_)
  refine pE ?_
  refine gn ?_
  refine wpL_sq ?_
  refine wpL_rg ?_
  refine pF tF24_0 ?_
  refine pLo hO 2 (.int _ _) tA3 ?_
  refine pF tF30_0 ?_
  refine pSt (xs := [_]) hO 0 tZ3 rfl (fun G hO => ?_)
  refine pE ?_
  refine gn ?_
  refine wpL_sq ?_
  refine wpL_rg ?_
  refine pF tF24_1 ?_
  refine pLo hO 2 (.lit _ _ _) tA22 ?_
  obtain ⟨v4, hv4, hk⟩ := bs hk
  refine pCN hO (fun _ => f128_run hv4) (fun u5 F5 G hO => ?_)
  refine pF tF30_1 ?_
  have hc6 := tl_cells hO (j := 0) rfl
  refine pSt (xs := [_]) hO 1 tZ28 rfl (fun G hO => ?_) (h3 := hc6.1) (h6 := one_cell hc6.2)
  refine pE ?_
  refine gn ?_
  refine wpL_sq ?_
  refine wpL_rg ?_
  refine pLs hO 1 [_, _] tA30 tZ30 ?_
  have hc7 := tl_cells hO (j := 0) rfl
  refine pSt (xs := [_, _]) hO 2 tZ30 rfl (fun G hO => ?_) (h6 := (all_c rfl (all_c hc7.2 all_n)))
  refine pE ?_
  refine gn ?_
  refine wpL_rt ?_
  replace hk := Option.some.inj hk; subst hk; exact finThS hO (th_Layout (x := ({ Sections := aA0.Sections, Counters := v4 } : Layout)) (th_pair (c1 := [_]) (th_int aA0.Sections) (th_tree (x := v4) 0))) (resS hO 2 [_, _] tA30 tZ30 resN)
/-- spec.l14in -/
def f127 (aX0 : Int) (aA1 : Int) (aB2 : Int) : Option Bool :=
  some (decide (aX0 ≥ aA1) && decide (aX0 ≤ aB2))
theorem f127_run {aX0 : Int} {aA1 : Int} {aB2 : Int} {r : Bool} {H : Heap} {lk : Lk} (hk : f127 aX0 aA1 aB2 = some r) (hlk : 0 < lk.length := by simp) : runL Try.prog hh 127 [.int .i64 aX0, .int .i64 aA1, .int .i64 aB2] H lk = some (.bool r, H) := by
  refine run_start Try.func127 rfl Try.ntmps127 Try.results127 rfl rfl fun hO => ?_
  unfold f127 at hk
  refine wpL_sq ?_
  refine wpL_rg ?_
  refine pA (.bool _) ?_
  refine pE ?_
  refine gn ?_
  refine wpL_sq ?_
  refine wpL_rg ?_
  refine pM (.int _ _) ?_
  refine pM (.int _ _) ?_
  refine pBi ?_
  refine pM (.bool _) ?_
  refine wpR_mid (l1 := [_, _, _, _]) (fun S' => ∃ J, S' = ⟨hav [(14, .bool (decide (aX0 ≥ aA1) && decide (aX0 ≤ aB2)))] J, H⟩) ?_ ?_
  · refine bc (b := decide (aX0 ≥ aA1)) (fun hg1 => ?_) (fun hg1 => ?_)
    · refine pGy hg1 ?_
      refine pM (.int _ _) ?_
      refine pGy hg1 ?_
      refine pM (.int _ _) ?_
      refine pGy hg1 ?_
      refine pBi ?_
      refine pPt hg1 (.bool _) ?_
      exact pE ⟨_, St.hav _ ⟨by rw [hg1]; rfl, trivial⟩⟩
    · refine pGn hg1 ?_
      refine pGn hg1 ?_
      refine pGn hg1 ?_
      refine pPf hg1 (.bool _) ?_
      exact pE ⟨_, St.hav _ ⟨by rw [hg1]; rfl, trivial⟩⟩
  · rintro _ ⟨J, rfl⟩
    refine pA (.bool _) ?_
    refine pE ?_
    refine gn ?_
    refine wpL_rt ?_
    replace hk := Option.some.inj hk; subst hk; exact fin0 hO
/-- spec.LayoutOk -/
def f126_L1 (aL0 : Layout) : Int → Option (Int ⊕ Int) := fun s =>
  (bif decide (s < (aL0.Counters.length : Int)) then ((getI aL0.Counters s).bind fun c4 => ((f127 c4.From (-1:Int) (w64 (aL0.Sections - (1:Int)))).bind fun v6 => ((bif !v6 then some true else ((f127 c4.To (-1:Int) (w64 (aL0.Sections - (1:Int)))).bind fun v8 => some (!v8))).bind fun t7 => (bif (t7 || (c4.From == c4.To)) then ((some (2:Int)).map Sum.inr) else some (.inl (w64 (s + (1:Int)))))))) else ((some (0:Int)).map Sum.inr))
def f126 (aL0 : Layout) : Option Int :=
  ((f127 aL0.Sections (1:Int) (60:Int)).bind fun v2 => (bif (!v2 || decide ((aL0.Counters.length : Int) > (120:Int))) then some (1:Int) else (loopO (f126_L1 aL0) ((0:Int)))))
theorem f126_run {aL0 : Layout} {r : Int} {l1 : Nat} {H : Heap} {lk : Lk} (hk : f126 aL0 = some r) (hlk : 0 < lk.length := by simp) : runL Try.prog hh 126 [.agg [.int .i64 aL0.Sections, .lit l1 aL0.Counters.length ((flatL 0) aL0.Counters)]] H lk = some (.int .i64 r, H) := by
  refine run_start Try.func126 rfl Try.ntmps126 Try.results126 rfl rfl fun hO => ?_
  unfold f126 at hk
  refine wpL_sq ?_
  refine wpL_rg ?_
  refine pBox (cs := [_, _]) hO tZ30 (fun b1 G hO => ?_)
  refine pA (.int _ _) ?_
  refine pE ?_
  refine gn ?_
  refine wpL_sq ?_
  refine wpL_sq ?_
  refine wpL_rg ?_
  refine pF tF30_0 ?_
  refine pLo hO 0 (.int _ _) tA3 ?_
  obtain ⟨v2, hv2, hk⟩ := bs hk
  refine pCall (fun _ => f127_run hv2) ?_
  refine pU ?_
  refine pM (.bool _) ?_
  refine wpR_mid (l1 := [_, _, _, _, _]) (fun S' => ∃ J, S' = ⟨hav [(1, .ptr b1 0), (14, .bool (!v2 || decide ((aL0.Counters.length : Int) > (120:Int))))] J, G⟩) ?_ ?_
  · refine bc (b := !v2) (fun hg1 => ?_) (fun hg1 => ?_)
    · refine pGn hg1 ?_
      refine pGn hg1 ?_
      refine pGn hg1 ?_
      refine pGn hg1 ?_
      refine pPt hg1 (.bool _) ?_
      exact pE ⟨_, St.hav _ ⟨rfl, by rw [hg1]; rfl, trivial⟩⟩
    · refine pGy hg1 ?_
      refine pF tF30_1 ?_
      refine pGy hg1 ?_
      refine pLo hO 0 (.lit _ _ _) tA28 ?_
      refine pGy hg1 ?_
      refine pLen tS28 ?_
      refine pGy hg1 ?_
      refine pBi ?_
      refine pPf hg1 (.bool _) ?_
      exact pE ⟨_, St.hav _ ⟨rfl, by rw [hg1]; rfl, trivial⟩⟩
  · rintro _ ⟨J, rfl⟩
    refine pE ?_
    refine gn ?_
    refine wpL_cd (b := (!v2 || decide ((aL0.Counters.length : Int) > (120:Int)))) (fun hb => ?_) (fun hb => ?_)
    · replace hk := ct hb hk
      refine wpL_sq ?_
      refine wpL_rg ?_
      refine pA (.int _ _) ?_
      refine pE ?_
      refine gn ?_
      refine wpL_rt ?_
      refine gr ?_
      replace hk := Option.some.inj hk; subst hk; exact fin0 hO
    · replace hk := cf hb hk
      refine wpL_sk ?_
      refine gn ?_
      refine wpL_sq ?_
      refine wpL_sq ?_
      refine wpL_rg ?_
      refine pF tF30_1 ?_
      refine pLo hO 0 (.lit _ _ _) tA28 ?_
      refine pLen tS28 ?_
      refine pM (.int _ _) ?_
      refine pE ?_
      refine gn ?_
      refine wpL_bl ?_
      refine wpL_loopO (F := f126_L1 aL0) (fun s S' => ∃ (J : Nat → V) (G : Heap), Owns H G [.blk b1 (.cells 2 [.int .i64 aL0.Sections, .lit l1 aL0.Counters.length ((flatL 0) aL0.Counters)])] ∧ S' = ⟨hav [(1, .ptr b1 0), (16, .lit l1 aL0.Counters.length ((flatL 0) aL0.Counters)), (17, .int .i64 (aL0.Counters.length : Int)), (18, .int .i64 s)] J, G⟩) hk ⟨_, _, hO, St.hav _ ⟨rfl, rfl, rfl, rfl, trivial⟩⟩ ?_
      rintro x3 _ y1 ⟨J, G, hO, rfl⟩ hk hx1
      refine wpL_sq ?_
      refine wpL_rg ?_
      refine pBi ?_
      refine pE ?_
      refine gn ?_
      refine wpL_sq ?_
      refine wpL_cd (b := decide (x3 < (aL0.Counters.length : Int))) (fun hb => ?_) (fun hb => ?_)
      · replace hk := ct hb hk
        refine wpL_sk ?_
        refine gn ?_
        refine wpL_sq ?_
        refine wpL_bl ?_
        refine wpL_sq ?_
        refine wpL_rg ?_
        obtain ⟨c4, hc4, hk⟩ := bs hk
        refine pX hc4 tE28 tZ184 ?_
        refine pLp (.agg [_, _]) (rd2 (lm := 0) (off := 0) hc4 tA184 tZ184) ?_
        refine pNew hO tZ184 t0184 (fun b5 G hO => ?_)
        refine pSt (xs := [_, _]) hO 0 tZ184 rfl (fun G hO => ?_)
        refine pE ?_
        refine gn ?_
        refine wpL_sq ?_
        refine wpL_rg ?_
        refine pF tF184_0 ?_
        refine pLo hO 0 (.int _ _) tA3 ?_
        refine pF tF30_0 ?_
        refine pLo hO 1 (.int _ _) tA3 ?_
        refine pBi ?_
        obtain ⟨v6, hv6, hk⟩ := bs hk
        refine pCall (fun _ => f127_run hv6) ?_
        refine pU ?_
        refine pM (.bool _) ?_
        obtain ⟨t7, ht, hk⟩ := bs hk
        refine wpR_mid (l1 := [_, _, _, _, _, _, _, _]) (fun S' => ∃ J, S' = ⟨hav [(1, .ptr b1 0), (4, .ptr b5 0), (16, .lit l1 aL0.Counters.length ((flatL 0) aL0.Counters)), (17, .int .i64 (aL0.Counters.length : Int)), (18, .int .i64 x3), (37, .bool t7)] J, G⟩) ?_ ?_
        · refine bc (b := !v6) (fun hg1 => ?_) (fun hg1 => ?_)
          · replace hk := ct hg1 ht
            refine pGn hg1 ?_
            refine pGn hg1 ?_
            refine pGn hg1 ?_
            refine pGn hg1 ?_
            refine pGn hg1 ?_
            refine pGn hg1 ?_
            refine pGn hg1 ?_
            refine pPt hg1 (.bool _) ?_
            cases hk; exact pE ⟨_, St.hav _ ⟨rfl, rfl, rfl, rfl, rfl, rfl, trivial⟩⟩
          · replace hk := cf hg1 ht
            refine pGy hg1 ?_
            refine pF tF184_1 ?_
            refine pGy hg1 ?_
            refine pLo hO 0 (.int _ _) tA3 ?_
            refine pGy hg1 ?_
            refine pF tF30_0 ?_
            refine pGy hg1 ?_
            refine pLo hO 1 (.int _ _) tA3 ?_
            refine pGy hg1 ?_
            refine pBi ?_
            refine pGy hg1 ?_
            obtain ⟨v8, hv8, hk⟩ := bs hk
            refine pCall (fun _ => f127_run hv8) ?_
            refine pGy hg1 ?_
            refine pU ?_
            refine pPf hg1 (.bool _) ?_
            cases hk; exact pE ⟨_, St.hav _ ⟨rfl, rfl, rfl, rfl, rfl, rfl, trivial⟩⟩
        · rintro _ ⟨J, rfl⟩
          refine pM (.bool _) ?_
          refine wpR_mid (l1 := [_, _, _, _, _, _]) (fun S' => ∃ J, S' = ⟨hav [(1, .ptr b1 0), (16, .lit l1 aL0.Counters.length ((flatL 0) aL0.Counters)), (17, .int .i64 (aL0.Counters.length : Int)), (18, .int .i64 x3), (44, .bool (t7 || (c4.From == c4.To)))] J, G⟩) ?_ ?_
          · refine bc (b := t7) (fun hg1 => ?_) (fun hg1 => ?_)
            · refine pGn hg1 ?_
              refine pGn hg1 ?_
              refine pGn hg1 ?_
              refine pGn hg1 ?_
              refine pGn hg1 ?_
              refine pPt hg1 (.bool _) ?_
              exact pE ⟨_, St.hav _ ⟨rfl, rfl, rfl, rfl, by rw [hg1]; rfl, trivial⟩⟩
            · refine pGy hg1 ?_
              refine pF tF184_0 ?_
              refine pGy hg1 ?_
              refine pLo hO 0 (.int _ _) tA3 ?_
              refine pGy hg1 ?_
              refine pF tF184_1 ?_
              refine pGy hg1 ?_
              refine pLo hO 0 (.int _ _) tA3 ?_
              refine pGy hg1 ?_
              refine pBi ?_
              refine pPf hg1 (.bool _) ?_
              exact pE ⟨_, St.hav _ ⟨rfl, rfl, rfl, rfl, by rw [hg1]; rfl, trivial⟩⟩
          · rintro _ ⟨J, rfl⟩
            refine pE ?_
            refine gn ?_
            refine wpL_cd (b := (t7 || (c4.From == c4.To))) (fun hb => ?_) (fun hb => ?_)
            · replace hk := ct hb hk
              refine wpL_sq ?_
              refine wpL_rg ?_
              refine pA (.int _ _) ?_
              refine pE ?_
              refine gn ?_
              refine wpL_rt ?_
              refine br (gr (gr (br (gr ?_))))
              replace hk := lx hx1 hk
              replace hk := Option.some.inj hk; subst hk; exact fin0 hO
            · replace hk := cf hb hk
              refine wpL_sk ?_
              refine bn (gn ?_)
              refine wpL_rg ?_
              refine pBi ?_
              refine pM (.int _ _) ?_
              refine pE ?_
              refine gn ?_
              cases hk; exact ⟨_, rfl, _, _, (Owns.pick hO [1] (by decide) rfl), St.hav _ ⟨rfl, rfl, rfl, rfl, trivial⟩⟩
      · replace hk := cf hb hk
        refine wpL_ex ?_
        refine ge (ge (be (gn ?_)))
        replace hk := lx hx1 hk
        refine wpL_sq ?_
        refine wpL_rg ?_
        refine pA (.int _ _) ?_
        refine pE ?_
        refine gn ?_
        refine wpL_rt ?_
        replace hk := Option.some.inj hk; subst hk; exact fin0 hO
/-- spec.Around -/
def f25_k2 (x7 : Int) (x8 : List Int) : Option (((List Int) × Int) ⊕ (List Int)) :=
  some (.inl (x8, w64 (x7 + (1:Int))))
def f25_L1 (aL0 : Layout) (aSection1 : Int) : ((List Int) × Int) → Option (((List Int) × Int) ⊕ (List Int)) := fun s =>
  (bif decide (s.2 < (aL0.Counters.length : Int)) then ((getI aL0.Counters s.2).bind fun c10 => (bif ((c10.From == aSection1) || (c10.To == aSection1)) then ((appB 8 s.1 ([s.2] : List Int)).bind fun z12 => (f25_k2 s.2 z12)) else (f25_k2 s.2 s.1))) else ((some s.1).map Sum.inr))
def f25 (aL0 : Layout) (aSection1 : Int) : Option (List Int) :=
  ((f126 aL0).bind fun v2 => ((bif (v2 != (0:Int)) then some true else ((f127 aSection1 (0:Int) (w64 (aL0.Sections - (1:Int)))).bind fun v4 => some (!v4))).bind fun t3 => (bif t3 then some ([] : List Int) else (loopO (f25_L1 aL0 aSection1) (([] : List Int), (0:Int))))))
theorem f25_run {aL0 : Layout} {aSection1 : Int} {r : (List Int)} {l1 : Nat} {H : Heap} {lk : Lk} (hk : f25 aL0 aSection1 = some r) (hlk : 0 < lk.length := by simp) : runL Try.prog hh 25 [.agg [.int .i64 aL0.Sections, .lit l1 aL0.Counters.length ((flatL 0) aL0.Counters)], .int .i64 aSection1] H lk = some (.lit 0 r.length ((flatL 0) r), H) := by
  refine run_start Try.func25 rfl Try.ntmps25 Try.results25 rfl rfl fun hO => ?_
  unfold f25 at hk
  refine wpL_sq ?_
  refine wpL_rg ?_
  refine pBox (cs := [_, _]) hO tZ30 (fun b1 G hO => ?_)
  refine pA (.tl 0 []) ?_
  refine pE ?_
  refine gn ?_
  refine wpL_sq ?_
  refine wpL_sq ?_
  refine wpL_rg ?_
  refine pLs hO 0 [_, _] tA30 tZ30 ?_
  obtain ⟨v2, hv2, hk⟩ := bs hk
  refine pCall (fun _ => f126_run hv2) ?_
  refine pBi ?_
  refine pM (.bool _) ?_
  obtain ⟨t3, ht, hk⟩ := bs hk
  refine wpR_mid (l1 := [_, _, _, _, _, _, _]) (fun S' => ∃ J, S' = ⟨hav [(1, .int .i64 aSection1), (2, .ptr b1 0), (18, .bool t3)] J, G⟩) ?_ ?_
  · refine bc (b := (v2 != (0:Int))) (fun hg1 => ?_) (fun hg1 => ?_)
    · replace hk := ct hg1 ht
      refine pGn hg1 ?_
      refine pGn hg1 ?_
      refine pGn hg1 ?_
      refine pGn hg1 ?_
      refine pGn hg1 ?_
      refine pGn hg1 ?_
      refine pPt hg1 (.bool _) ?_
      cases hk; exact pE ⟨_, St.hav _ ⟨rfl, rfl, rfl, trivial⟩⟩
    · replace hk := cf hg1 ht
      refine pGy hg1 ?_
      refine pM (.int _ _) ?_
      refine pGy hg1 ?_
      refine pF tF30_0 ?_
      refine pGy hg1 ?_
      refine pLo hO 0 (.int _ _) tA3 ?_
      refine pGy hg1 ?_
      refine pBi ?_
      refine pGy hg1 ?_
      obtain ⟨v4, hv4, hk⟩ := bs hk
      refine pCall (fun _ => f127_run hv4) ?_
      refine pGy hg1 ?_
      refine pU ?_
      refine pPf hg1 (.bool _) ?_
      cases hk; exact pE ⟨_, St.hav _ ⟨rfl, rfl, rfl, trivial⟩⟩
  · rintro _ ⟨J, rfl⟩
    refine pE ?_
    refine gn ?_
    refine wpL_cd (b := t3) (fun hb => ?_) (fun hb => ?_)
    · replace hk := ct hb hk
      refine wpL_sq ?_
      refine wpL_rg ?_
      refine pA (.tl 0 []) ?_
      refine pE ?_
      refine gn ?_
      refine wpL_rt ?_
      refine gr ?_
      replace hk := Option.some.inj hk; subst hk; exact finZ hO (fz_nil (k := 0) Int) (resT (.tl 0 []) resN)
    · replace hk := cf hb hk
      refine wpL_sk ?_
      refine gn ?_
      refine wpL_sq ?_
      refine wpL_rg ?_
      refine pA (.tl 0 []) ?_
      refine pE ?_
      refine gn ?_
      refine wpL_sq ?_
      refine wpL_sq ?_
      refine wpL_rg ?_
      refine pF tF30_1 ?_
      refine pLo hO 0 (.lit _ _ _) tA28 ?_
      refine pLen tS28 ?_
      refine pM (.int _ _) ?_
      refine pE ?_
      refine gn ?_
      refine wpL_bl ?_
      refine wpL_loopO (F := f25_L1 aL0 aSection1) (fun s S' => ∃ (o5 : V) (J : Nat → V) (G : Heap), Owns H G [.own o5 lk.length 1 s.1.length ((flatL 0) s.1)] ∧ S' = ⟨hav [(1, .int .i64 aSection1), (5, o5), (20, .lit l1 aL0.Counters.length ((flatL 0) aL0.Counters)), (21, .int .i64 (aL0.Counters.length : Int)), (22, .int .i64 s.2)] J, G⟩) hk ⟨(.tl 0 []), _, _, (Owns.pick (Owns.addTl hO lk.length ([] : List Int)) [0] (by decide) rfl), St.hav _ ⟨rfl, rfl, rfl, rfl, rfl, trivial⟩⟩ ?_
      rintro ⟨x5, x7⟩ _ y1 ⟨o5, J, G, hO, rfl⟩ hk hx1
      refine wpL_sq ?_
      refine wpL_rg ?_
      refine pBi ?_
      refine pE ?_
      refine gn ?_
      refine wpL_sq ?_
      refine wpL_cd (b := decide (x7 < (aL0.Counters.length : Int))) (fun hb => ?_) (fun hb => ?_)
      · replace hk := ct hb hk
        refine wpL_sk ?_
        refine gn ?_
        refine wpL_mid (fun S' => ∃ (x8 : List Int) (o8 : V) (J : Nat → V) (G : Heap), f25_k2 x7 x8 = some y1 ∧ Owns H G [.own o8 lk.length 1 x8.length ((flatL 0) x8)] ∧ S' = ⟨hav [(1, .int .i64 aSection1), (5, o8), (20, .lit l1 aL0.Counters.length ((flatL 0) aL0.Counters)), (21, .int .i64 (aL0.Counters.length : Int)), (22, .int .i64 x7)] J, G⟩) ?_ ?_
        · refine wpL_bl ?_
          refine wpL_sq ?_
          refine wpL_rg ?_
          refine pM (.int _ _) ?_
          obtain ⟨c10, hc10, hk⟩ := bs hk
          refine pX hc10 tE28 tZ184 ?_
          refine pLp (.agg [_, _]) (rd2 (lm := 0) (off := 0) hc10 tA184 tZ184) ?_
          refine pNew hO tZ184 t0184 (fun b11 G hO => ?_)
          refine pA (.int _ _) ?_
          refine pSt (xs := [_, _]) hO 0 tZ184 rfl (fun G hO => ?_)
          refine pE ?_
          refine gn ?_
          refine wpL_sq ?_
          refine wpL_rg ?_
          refine pF tF184_0 ?_
          refine pLo hO 0 (.int _ _) tA3 ?_
          refine pM (.int _ _) ?_
          refine pBi ?_
          refine pM (.bool _) ?_
          refine wpR_mid (l1 := [_, _, _, _, _]) (fun S' => ∃ J, S' = ⟨hav [(1, .int .i64 aSection1), (5, o5), (6, .int .i64 x7), (20, .lit l1 aL0.Counters.length ((flatL 0) aL0.Counters)), (21, .int .i64 (aL0.Counters.length : Int)), (22, .int .i64 x7), (36, .bool ((c10.From == aSection1) || (c10.To == aSection1)))] J, G⟩) ?_ ?_
          · refine bc (b := (c10.From == aSection1)) (fun hg1 => ?_) (fun hg1 => ?_)
            · refine pGn hg1 ?_
              refine pGn hg1 ?_
              refine pGn hg1 ?_
              refine pGn hg1 ?_
              refine pPt hg1 (.bool _) ?_
              exact pE ⟨_, St.hav _ ⟨rfl, rfl, rfl, rfl, rfl, rfl, by rw [hg1]; rfl, trivial⟩⟩
            · refine pGy hg1 ?_
              refine pF tF184_1 ?_
              refine pGy hg1 ?_
              refine pLo hO 0 (.int _ _) tA3 ?_
              refine pGy hg1 ?_
              refine pM (.int _ _) ?_
              refine pGy hg1 ?_
              refine pBi ?_
              refine pPf hg1 (.bool _) ?_
              exact pE ⟨_, St.hav _ ⟨rfl, rfl, rfl, rfl, rfl, rfl, by rw [hg1]; rfl, trivial⟩⟩
          · rintro _ ⟨J, rfl⟩
            refine pE ?_
            refine gn ?_
            refine wpL_cd (b := ((c10.From == aSection1) || (c10.To == aSection1))) (fun hb => ?_) (fun hb => ?_)
            · replace hk := ct hb hk
              refine wpL_rg ?_
              refine pM o5 ?_
              refine pM (.int _ _) ?_
              refine pBs (ps := [(0, (.int _ _))]) ([x7] : List Int) tE26 tZ3 t03 (emb_cons (emb_int rfl _ _) (emb_nil)) ?_
              obtain ⟨z12, hz12, hk⟩ := bs hk
              refine pAp (xs := x5) hO 1 hz12 (bears_tl ([x7] : List Int)) tE26 tZ3 tB3 t03 tE26 rfl (fun o12 G hno12 hO => ?_)
              refine pA o12 ?_
              refine pE ?_
              refine bn (gn ?_)
              exact ⟨z12, o12, _, _, hk, (Owns.pick hO [1] (by decide) rfl), St.hav _ ⟨rfl, rfl, rfl, rfl, rfl, trivial⟩⟩
            · replace hk := cf hb hk
              refine wpL_sk ?_
              refine bn (gn ?_)
              exact ⟨x5, o5, _, _, hk, (Owns.pick hO [1] (by decide) rfl), St.hav _ ⟨rfl, rfl, rfl, rfl, rfl, trivial⟩⟩
        · rintro _ ⟨x8, o8, J, G, hk, hO, rfl⟩
          refine wpL_rg ?_
          refine pBi ?_
          refine pM (.int _ _) ?_
          refine pE ?_
          refine gn ?_
          cases hk; exact ⟨_, rfl, o8, _, _, hO, St.hav _ ⟨rfl, rfl, rfl, rfl, rfl, trivial⟩⟩
      · replace hk := cf hb hk
        refine wpL_ex ?_
        refine ge (ge (be (gn ?_)))
        replace hk := lx hx1 hk
        refine wpL_sq ?_
        refine wpL_rg ?_
        refine pM o5 ?_
        refine pA o5 ?_
        refine pE ?_
        refine gn ?_
        refine wpL_rt ?_
        replace hk := Option.some.inj hk; subst hk; exact finZ hO (fz_own (xs := x5) hlk 0) (resT o5 resN)
/-- impl.LayoutOk$1 -/
def f250 (aX0 : Int) (aA1 : Layout) : Option Bool :=
  some (decide (aX0 ≥ (-1:Int)) && decide (aX0 < aA1.Sections))
theorem f250_run {aX0 : Int} {aA1 : Layout} {r : Bool} {l1 : Nat} {H : Heap} {lk : Lk} {q0 : Nat} (hk : f250 aX0 aA1 = some r) (hq0 : H[q0]? = some (.cells 2 [.int .i64 aA1.Sections, .lit l1 aA1.Counters.length ((flatL 0) aA1.Counters)])) (hlk : 0 < lk.length := by simp) : runL Try.prog hh 250 [.int .i64 aX0, .ptr q0 0] H lk = some (.bool r, H) := by
  refine run_start Try.func250 rfl Try.ntmps250 Try.results250 rfl rfl fun hO => ?_
  unfold f250 at hk
  refine wpL_sq ?_
  refine wpL_rg ?_
  refine pA (.bool _) ?_
  refine pE ?_
  refine gn ?_
  refine wpL_sq ?_
  refine wpL_rg ?_
  refine pM (.int _ _) ?_
  refine pBi ?_
  refine pM (.bool _) ?_
  refine wpR_mid (l1 := [_, _, _, _, _]) (fun S' => ∃ J, S' = ⟨hav [(11, .bool (decide (aX0 ≥ (-1:Int)) && decide (aX0 < aA1.Sections)))] J, H⟩) ?_ ?_
  · refine bc (b := decide (aX0 ≥ (-1:Int))) (fun hg1 => ?_) (fun hg1 => ?_)
    · refine pGy hg1 ?_
      refine pM (.int _ _) ?_
      refine pGy hg1 ?_
      refine pF tF30_0 ?_
      refine pGy hg1 ?_
      refine pLf (.int _ _) hO hq0 tA3 ?_
      refine pGy hg1 ?_
      refine pBi ?_
      refine pPt hg1 (.bool _) ?_
      exact pE ⟨_, St.hav _ ⟨by rw [hg1]; rfl, trivial⟩⟩
    · refine pGn hg1 ?_
      refine pGn hg1 ?_
      refine pGn hg1 ?_
      refine pGn hg1 ?_
      refine pPf hg1 (.bool _) ?_
      exact pE ⟨_, St.hav _ ⟨by rw [hg1]; rfl, trivial⟩⟩
  · rintro _ ⟨J, rfl⟩
    refine pA (.bool _) ?_
    refine pE ?_
    refine gn ?_
    refine wpL_rt ?_
    replace hk := Option.some.inj hk; subst hk; exact fin0 hO
/-- impl.LayoutOk -/
def f129_L1 (aL0 : Layout) : Int → Option (Int ⊕ Int) := fun s =>
  (bif decide (s < (aL0.Counters.length : Int)) then ((getI aL0.Counters s).bind fun c3 => ((f250 c3.From aL0).bind fun v5 => ((bif !v5 then some true else ((f250 c3.To aL0).bind fun v7 => some (!v7))).bind fun t6 => (bif (t6 || (c3.From == c3.To)) then ((some (2:Int)).map Sum.inr) else some (.inl (w64 (s + (1:Int)))))))) else ((some (0:Int)).map Sum.inr))
def f129 (aL0 : Layout) : Option Int :=
  (bif ((decide (aL0.Sections < (1:Int)) || decide (aL0.Sections > (60:Int))) || decide ((aL0.Counters.length : Int) > (120:Int))) then some (1:Int) else (loopO (f129_L1 aL0) ((0:Int))))
theorem f129_run {aL0 : Layout} {r : Int} {l1 : Nat} {H : Heap} {lk : Lk} (hk : f129 aL0 = some r) (hlk : 0 < lk.length := by simp) : runL Try.prog hh 129 [.agg [.int .i64 aL0.Sections, .lit l1 aL0.Counters.length ((flatL 0) aL0.Counters)]] H lk = some (.int .i64 r, H) := by
  refine run_start Try.func129 rfl Try.ntmps129 Try.results129 rfl rfl fun hO => ?_
  unfold f129 at hk
  refine wpL_sq ?_
  refine wpL_rg ?_
  refine pBox (cs := [_, _]) hO tZ30 (fun b1 G hO => ?_)
  refine pA (.int _ _) ?_
  refine pE ?_
  refine gn ?_
  refine wpL_sq ?_
  refine wpL_sq ?_
  refine wpL_rg ?_
  refine pF tF30_0 ?_
  refine pLo hO 0 (.int _ _) tA3 ?_
  refine pBi ?_
  refine pM (.bool _) ?_
  refine wpR_mid (l1 := [_, _, _, _]) (fun S' => ∃ J, S' = ⟨hav [(1, .ptr b1 0), (13, .bool (decide (aL0.Sections < (1:Int)) || decide (aL0.Sections > (60:Int))))] J, G⟩) ?_ ?_
  · refine bc (b := decide (aL0.Sections < (1:Int))) (fun hg1 => ?_) (fun hg1 => ?_)
    · refine pGn hg1 ?_
      refine pGn hg1 ?_
      refine pGn hg1 ?_
      refine pPt hg1 (.bool _) ?_
      exact pE ⟨_, St.hav _ ⟨rfl, by rw [hg1]; rfl, trivial⟩⟩
    · refine pGy hg1 ?_
      refine pF tF30_0 ?_
      refine pGy hg1 ?_
      refine pLo hO 0 (.int _ _) tA3 ?_
      refine pGy hg1 ?_
      refine pBi ?_
      refine pPf hg1 (.bool _) ?_
      exact pE ⟨_, St.hav _ ⟨rfl, by rw [hg1]; rfl, trivial⟩⟩
  · rintro _ ⟨J, rfl⟩
    refine pM (.bool _) ?_
    refine wpR_mid (l1 := [_, _, _, _, _]) (fun S' => ∃ J, S' = ⟨hav [(1, .ptr b1 0), (19, .bool ((decide (aL0.Sections < (1:Int)) || decide (aL0.Sections > (60:Int))) || decide ((aL0.Counters.length : Int) > (120:Int))))] J, G⟩) ?_ ?_
    · refine bc (b := (decide (aL0.Sections < (1:Int)) || decide (aL0.Sections > (60:Int)))) (fun hg1 => ?_) (fun hg1 => ?_)
      · refine pGn hg1 ?_
        refine pGn hg1 ?_
        refine pGn hg1 ?_
        refine pGn hg1 ?_
        refine pPt hg1 (.bool _) ?_
        exact pE ⟨_, St.hav _ ⟨rfl, by rw [hg1]; rfl, trivial⟩⟩
      · refine pGy hg1 ?_
        refine pF tF30_1 ?_
        refine pGy hg1 ?_
        refine pLo hO 0 (.lit _ _ _) tA28 ?_
        refine pGy hg1 ?_
        refine pLen tS28 ?_
        refine pGy hg1 ?_
        refine pBi ?_
        refine pPf hg1 (.bool _) ?_
        exact pE ⟨_, St.hav _ ⟨rfl, by rw [hg1]; rfl, trivial⟩⟩
    · rintro _ ⟨J, rfl⟩
      refine pE ?_
      refine gn ?_
      refine wpL_cd (b := ((decide (aL0.Sections < (1:Int)) || decide (aL0.Sections > (60:Int))) || decide ((aL0.Counters.length : Int) > (120:Int)))) (fun hb => ?_) (fun hb => ?_)
      · replace hk := ct hb hk
        refine wpL_sq ?_
        refine wpL_rg ?_
        refine pA (.int _ _) ?_
        refine pE ?_
        refine gn ?_
        refine wpL_rt ?_
        refine gr ?_
        replace hk := Option.some.inj hk; subst hk; exact fin0 hO
      · replace hk := cf hb hk
        refine wpL_sk ?_
        refine gn ?_
        refine wpL_sq ?_
        refine wpL_rg ?_
        refine pFn (vs := [_]) ?_
        refine pA (.fn _ _) ?_
        refine pE ?_
        refine gn ?_
        refine wpL_sq ?_
        refine wpL_sq ?_
        refine wpL_rg ?_
        refine pF tF30_1 ?_
        refine pLo hO 0 (.lit _ _ _) tA28 ?_
        refine pLen tS28 ?_
        refine pM (.int _ _) ?_
        refine pE ?_
        refine gn ?_
        refine wpL_bl ?_
        refine wpL_loopO (F := f129_L1 aL0) (fun s S' => ∃ (J : Nat → V) (G : Heap), Owns H G [.blk b1 (.cells 2 [.int .i64 aL0.Sections, .lit l1 aL0.Counters.length ((flatL 0) aL0.Counters)])] ∧ S' = ⟨hav [(3, .fn 250 [.ptr b1 0]), (22, .lit l1 aL0.Counters.length ((flatL 0) aL0.Counters)), (23, .int .i64 (aL0.Counters.length : Int)), (24, .int .i64 s)] J, G⟩) hk ⟨_, _, hO, St.hav _ ⟨rfl, rfl, rfl, rfl, trivial⟩⟩ ?_
        rintro x2 _ y1 ⟨J, G, hO, rfl⟩ hk hx1
        refine wpL_sq ?_
        refine wpL_rg ?_
        refine pBi ?_
        refine pE ?_
        refine gn ?_
        refine wpL_sq ?_
        refine wpL_cd (b := decide (x2 < (aL0.Counters.length : Int))) (fun hb => ?_) (fun hb => ?_)
        · replace hk := ct hb hk
          refine wpL_sk ?_
          refine gn ?_
          refine wpL_sq ?_
          refine wpL_bl ?_
          refine wpL_sq ?_
          refine wpL_rg ?_
          obtain ⟨c3, hc3, hk⟩ := bs hk
          refine pX hc3 tE28 tZ184 ?_
          refine pLp (.agg [_, _]) (rd2 (lm := 0) (off := 0) hc3 tA184 tZ184) ?_
          refine pNew hO tZ184 t0184 (fun b4 G hO => ?_)
          refine pSt (xs := [_, _]) hO 0 tZ184 rfl (fun G hO => ?_)
          refine pE ?_
          refine gn ?_
          refine wpL_sq ?_
          refine wpL_rg ?_
          refine pM (.fn _ _) ?_
          refine pF tF184_0 ?_
          refine pLo hO 0 (.int _ _) tA3 ?_
          obtain ⟨v5, hv5, hk⟩ := bs hk
          refine pCall (fun _ => f250_run hv5 (hO.get (k := 1) rfl).1) ?_
          refine pU ?_
          refine pM (.bool _) ?_
          obtain ⟨t6, ht, hk⟩ := bs hk
          refine wpR_mid (l1 := [_, _, _, _, _, _]) (fun S' => ∃ J, S' = ⟨hav [(3, .fn 250 [.ptr b1 0]), (5, .ptr b4 0), (22, .lit l1 aL0.Counters.length ((flatL 0) aL0.Counters)), (23, .int .i64 (aL0.Counters.length : Int)), (24, .int .i64 x2), (39, .bool t6)] J, G⟩) ?_ ?_
          · refine bc (b := !v5) (fun hg1 => ?_) (fun hg1 => ?_)
            · replace hk := ct hg1 ht
              refine pGn hg1 ?_
              refine pGn hg1 ?_
              refine pGn hg1 ?_
              refine pGn hg1 ?_
              refine pGn hg1 ?_
              refine pPt hg1 (.bool _) ?_
              cases hk; exact pE ⟨_, St.hav _ ⟨rfl, rfl, rfl, rfl, rfl, rfl, trivial⟩⟩
            · replace hk := cf hg1 ht
              refine pGy hg1 ?_
              refine pM (.fn _ _) ?_
              refine pGy hg1 ?_
              refine pF tF184_1 ?_
              refine pGy hg1 ?_
              refine pLo hO 0 (.int _ _) tA3 ?_
              refine pGy hg1 ?_
              obtain ⟨v7, hv7, hk⟩ := bs hk
              refine pCall (fun _ => f250_run hv7 (hO.get (k := 1) rfl).1) ?_
              refine pGy hg1 ?_
              refine pU ?_
              refine pPf hg1 (.bool _) ?_
              cases hk; exact pE ⟨_, St.hav _ ⟨rfl, rfl, rfl, rfl, rfl, rfl, trivial⟩⟩
          · rintro _ ⟨J, rfl⟩
            refine pM (.bool _) ?_
            refine wpR_mid (l1 := [_, _, _, _, _, _]) (fun S' => ∃ J, S' = ⟨hav [(3, .fn 250 [.ptr b1 0]), (22, .lit l1 aL0.Counters.length ((flatL 0) aL0.Counters)), (23, .int .i64 (aL0.Counters.length : Int)), (24, .int .i64 x2), (46, .bool (t6 || (c3.From == c3.To)))] J, G⟩) ?_ ?_
            · refine bc (b := t6) (fun hg1 => ?_) (fun hg1 => ?_)
              · refine pGn hg1 ?_
                refine pGn hg1 ?_
                refine pGn hg1 ?_
                refine pGn hg1 ?_
                refine pGn hg1 ?_
                refine pPt hg1 (.bool _) ?_
                exact pE ⟨_, St.hav _ ⟨rfl, rfl, rfl, rfl, by rw [hg1]; rfl, trivial⟩⟩
              · refine pGy hg1 ?_
                refine pF tF184_0 ?_
                refine pGy hg1 ?_
                refine pLo hO 0 (.int _ _) tA3 ?_
                refine pGy hg1 ?_
                refine pF tF184_1 ?_
                refine pGy hg1 ?_
                refine pLo hO 0 (.int _ _) tA3 ?_
                refine pGy hg1 ?_
                refine pBi ?_
                refine pPf hg1 (.bool _) ?_
                exact pE ⟨_, St.hav _ ⟨rfl, rfl, rfl, rfl, by rw [hg1]; rfl, trivial⟩⟩
            · rintro _ ⟨J, rfl⟩
              refine pE ?_
              refine gn ?_
              refine wpL_cd (b := (t6 || (c3.From == c3.To))) (fun hb => ?_) (fun hb => ?_)
              · replace hk := ct hb hk
                refine wpL_sq ?_
                refine wpL_rg ?_
                refine pA (.int _ _) ?_
                refine pE ?_
                refine gn ?_
                refine wpL_rt ?_
                refine br (gr (gr (br (gr ?_))))
                replace hk := lx hx1 hk
                replace hk := Option.some.inj hk; subst hk; exact fin0 hO
              · replace hk := cf hb hk
                refine wpL_sk ?_
                refine bn (gn ?_)
                refine wpL_rg ?_
                refine pBi ?_
                refine pM (.int _ _) ?_
                refine pE ?_
                refine gn ?_
                cases hk; exact ⟨_, rfl, _, _, (Owns.pick hO [1] (by decide) rfl), St.hav _ ⟨rfl, rfl, rfl, rfl, trivial⟩⟩
        · replace hk := cf hb hk
          refine wpL_ex ?_
          refine ge (ge (be (gn ?_)))
          replace hk := lx hx1 hk
          refine wpL_sq ?_
          refine wpL_rg ?_
          refine pA (.int _ _) ?_
          refine pE ?_
          refine gn ?_
          refine wpL_rt ?_
          replace hk := Option.some.inj hk; subst hk; exact fin0 hO
/-- impl.Around -/
def f27_k2 (x5 : Int) (x6 : List Int) : Option (((List Int) × Int) ⊕ (List Int)) :=
  some (.inl (x6, w64 (x5 + (1:Int))))
def f27_L1 (aL0 : Layout) (aSection1 : Int) : ((List Int) × Int) → Option (((List Int) × Int) ⊕ (List Int)) := fun s =>
  (bif decide (s.2 < (aL0.Counters.length : Int)) then ((getI aL0.Counters s.2).bind fun c8 => (bif ((c8.From == aSection1) || (c8.To == aSection1)) then ((appB 8 s.1 ([s.2] : List Int)).bind fun z10 => (f27_k2 s.2 z10)) else (f27_k2 s.2 s.1))) else ((some s.1).map Sum.inr))
def f27 (aL0 : Layout) (aSection1 : Int) : Option (List Int) :=
  ((f129 aL0).bind fun v2 => (bif (((v2 != (0:Int)) || decide (aSection1 < (0:Int))) || decide (aSection1 ≥ aL0.Sections)) then some ([] : List Int) else (loopO (f27_L1 aL0 aSection1) (([] : List Int), (0:Int)))))
theorem f27_run {aL0 : Layout} {aSection1 : Int} {r : (List Int)} {l1 : Nat} {H : Heap} {lk : Lk} (hk : f27 aL0 aSection1 = some r) (hlk : 0 < lk.length := by simp) : ∃ v H1, runL Try.prog hh 27 [.agg [.int .i64 aL0.Sections, .lit l1 aL0.Counters.length ((flatL 0) aL0.Counters)], .int .i64 aSection1] H lk = some (v, H1) ∧ FreshL H r v H1 := by
  refine run_startR Try.func27 rfl Try.ntmps27 Try.results27 rfl rfl ?_
  have hO := Owns.nil H
  unfold f27 at hk
  refine wpL_sq ?_
  refine wpL_rg ?_
  refine pBox (cs := [_, _]) hO tZ30 (fun b1 G hO => ?_)
  refine pA (.tl 0 []) ?_
  refine pE ?_
  refine gn ?_
  refine wpL_sq ?_
  refine wpL_sq ?_
  refine wpL_rg ?_
  refine pLs hO 0 [_, _] tA30 tZ30 ?_
  obtain ⟨v2, hv2, hk⟩ := bs hk
  refine pCall (fun _ => f129_run hv2) ?_
  refine pBi ?_
  refine pM (.bool _) ?_
  refine wpR_mid (l1 := [_, _, _]) (fun S' => ∃ J, S' = ⟨hav [(1, .int .i64 aSection1), (2, .ptr b1 0), (14, .bool ((v2 != (0:Int)) || decide (aSection1 < (0:Int))))] J, G⟩) ?_ ?_
  · refine bc (b := (v2 != (0:Int))) (fun hg1 => ?_) (fun hg1 => ?_)
    · refine pGn hg1 ?_
      refine pGn hg1 ?_
      refine pPt hg1 (.bool _) ?_
      exact pE ⟨_, St.hav _ ⟨rfl, rfl, by rw [hg1]; rfl, trivial⟩⟩
    · refine pGy hg1 ?_
      refine pM (.int _ _) ?_
      refine pGy hg1 ?_
      refine pBi ?_
      refine pPf hg1 (.bool _) ?_
      exact pE ⟨_, St.hav _ ⟨rfl, rfl, by rw [hg1]; rfl, trivial⟩⟩
  · rintro _ ⟨J, rfl⟩
    refine pM (.bool _) ?_
    refine wpR_mid (l1 := [_, _, _, _, _]) (fun S' => ∃ J, S' = ⟨hav [(1, .int .i64 aSection1), (2, .ptr b1 0), (20, .bool (((v2 != (0:Int)) || decide (aSection1 < (0:Int))) || decide (aSection1 ≥ aL0.Sections)))] J, G⟩) ?_ ?_
    · refine bc (b := ((v2 != (0:Int)) || decide (aSection1 < (0:Int)))) (fun hg1 => ?_) (fun hg1 => ?_)
      · refine pGn hg1 ?_
        refine pGn hg1 ?_
        refine pGn hg1 ?_
        refine pGn hg1 ?_
        refine pPt hg1 (.bool _) ?_
        exact pE ⟨_, St.hav _ ⟨rfl, rfl, by rw [hg1]; rfl, trivial⟩⟩
      · refine pGy hg1 ?_
        refine pM (.int _ _) ?_
        refine pGy hg1 ?_
        refine pF tF30_0 ?_
        refine pGy hg1 ?_
        refine pLo hO 0 (.int _ _) tA3 ?_
        refine pGy hg1 ?_
        refine pBi ?_
        refine pPf hg1 (.bool _) ?_
        exact pE ⟨_, St.hav _ ⟨rfl, rfl, by rw [hg1]; rfl, trivial⟩⟩
    · rintro _ ⟨J, rfl⟩
      refine pE ?_
      refine gn ?_
      refine wpL_cd (b := (((v2 != (0:Int)) || decide (aSection1 < (0:Int))) || decide (aSection1 ≥ aL0.Sections))) (fun hb => ?_) (fun hb => ?_)
      · replace hk := ct hb hk
        refine wpL_sq ?_
        refine wpL_rg ?_
        refine pA (.tl 0 []) ?_
        refine pE ?_
        refine gn ?_
        refine wpL_rt ?_
        refine gr ?_
        replace hk := Option.some.inj hk; subst hk; exact finThL hO (th_nil Int) (resT (.tl 0 []) resN)
      · replace hk := cf hb hk
        refine wpL_sk ?_
        refine gn ?_
        refine wpL_sq ?_
        refine wpL_rg ?_
        refine pA (.tl 0 []) ?_
        refine pE ?_
        refine gn ?_
        refine wpL_sq ?_
        refine wpL_sq ?_
        refine wpL_rg ?_
        refine pF tF30_1 ?_
        refine pLo hO 0 (.lit _ _ _) tA28 ?_
        refine pLen tS28 ?_
        refine pM (.int _ _) ?_
        refine pE ?_
        refine gn ?_
        refine wpL_bl ?_
        refine wpL_loopO (F := f27_L1 aL0 aSection1) (fun s S' => ∃ (o3 : V) (J : Nat → V) (G : Heap), Nz o3 ∧ Owns H G [.own o3 lk.length 1 s.1.length ((flatL 0) s.1)] ∧ S' = ⟨hav [(1, .int .i64 aSection1), (5, o3), (22, .lit l1 aL0.Counters.length ((flatL 0) aL0.Counters)), (23, .int .i64 (aL0.Counters.length : Int)), (24, .int .i64 s.2)] J, G⟩) hk ⟨(.tl 0 []), _, _, Nz.nil, (Owns.pick (Owns.addTl hO lk.length ([] : List Int)) [0] (by decide) rfl), St.hav _ ⟨rfl, rfl, rfl, rfl, rfl, trivial⟩⟩ ?_
        rintro ⟨x3, x5⟩ _ y1 ⟨o3, J, G, hno3, hO, rfl⟩ hk hx1
        refine wpL_sq ?_
        refine wpL_rg ?_
        refine pBi ?_
        refine pE ?_
        refine gn ?_
        refine wpL_sq ?_
        refine wpL_cd (b := decide (x5 < (aL0.Counters.length : Int))) (fun hb => ?_) (fun hb => ?_)
        · replace hk := ct hb hk
          refine wpL_sk ?_
          refine gn ?_
          refine wpL_mid (fun S' => ∃ (x6 : List Int) (o6 : V) (J : Nat → V) (G : Heap), f27_k2 x5 x6 = some y1 ∧ Nz o6 ∧ Owns H G [.own o6 lk.length 1 x6.length ((flatL 0) x6)] ∧ S' = ⟨hav [(1, .int .i64 aSection1), (5, o6), (22, .lit l1 aL0.Counters.length ((flatL 0) aL0.Counters)), (23, .int .i64 (aL0.Counters.length : Int)), (24, .int .i64 x5)] J, G⟩) ?_ ?_
          · refine wpL_bl ?_
            refine wpL_sq ?_
            refine wpL_rg ?_
            refine pM (.int _ _) ?_
            obtain ⟨c8, hc8, hk⟩ := bs hk
            refine pX hc8 tE28 tZ184 ?_
            refine pLp (.agg [_, _]) (rd2 (lm := 0) (off := 0) hc8 tA184 tZ184) ?_
            refine pNew hO tZ184 t0184 (fun b9 G hO => ?_)
            refine pA (.int _ _) ?_
            refine pSt (xs := [_, _]) hO 0 tZ184 rfl (fun G hO => ?_)
            refine pE ?_
            refine gn ?_
            refine wpL_sq ?_
            refine wpL_rg ?_
            refine pF tF184_0 ?_
            refine pLo hO 0 (.int _ _) tA3 ?_
            refine pM (.int _ _) ?_
            refine pBi ?_
            refine pM (.bool _) ?_
            refine wpR_mid (l1 := [_, _, _, _, _]) (fun S' => ∃ J, S' = ⟨hav [(1, .int .i64 aSection1), (5, o3), (6, .int .i64 x5), (22, .lit l1 aL0.Counters.length ((flatL 0) aL0.Counters)), (23, .int .i64 (aL0.Counters.length : Int)), (24, .int .i64 x5), (38, .bool ((c8.From == aSection1) || (c8.To == aSection1)))] J, G⟩) ?_ ?_
            · refine bc (b := (c8.From == aSection1)) (fun hg1 => ?_) (fun hg1 => ?_)
              · refine pGn hg1 ?_
                refine pGn hg1 ?_
                refine pGn hg1 ?_
                refine pGn hg1 ?_
                refine pPt hg1 (.bool _) ?_
                exact pE ⟨_, St.hav _ ⟨rfl, rfl, rfl, rfl, rfl, rfl, by rw [hg1]; rfl, trivial⟩⟩
              · refine pGy hg1 ?_
                refine pF tF184_1 ?_
                refine pGy hg1 ?_
                refine pLo hO 0 (.int _ _) tA3 ?_
                refine pGy hg1 ?_
                refine pM (.int _ _) ?_
                refine pGy hg1 ?_
                refine pBi ?_
                refine pPf hg1 (.bool _) ?_
                exact pE ⟨_, St.hav _ ⟨rfl, rfl, rfl, rfl, rfl, rfl, by rw [hg1]; rfl, trivial⟩⟩
            · rintro _ ⟨J, rfl⟩
              refine pE ?_
              refine gn ?_
              refine wpL_cd (b := ((c8.From == aSection1) || (c8.To == aSection1))) (fun hb => ?_) (fun hb => ?_)
              · replace hk := ct hb hk
                refine wpL_rg ?_
                refine pM o3 ?_
                refine pM (.int _ _) ?_
                refine pBs (ps := [(0, (.int _ _))]) ([x5] : List Int) tE26 tZ3 t03 (emb_cons (emb_int rfl _ _) (emb_nil)) ?_
                obtain ⟨z10, hz10, hk⟩ := bs hk
                refine pAp (xs := x3) hO 1 hz10 (bears_tl ([x5] : List Int)) tE26 tZ3 tB3 t03 tE26 rfl (fun o10 G hno10 hO => ?_)
                replace hno10 := hno10 hno3
                refine pA o10 ?_
                refine pE ?_
                refine bn (gn ?_)
                exact ⟨z10, o10, _, _, hk, hno10, (Owns.pick hO [1] (by decide) rfl), St.hav _ ⟨rfl, rfl, rfl, rfl, rfl, trivial⟩⟩
              · replace hk := cf hb hk
                refine wpL_sk ?_
                refine bn (gn ?_)
                exact ⟨x3, o3, _, _, hk, hno3, (Owns.pick hO [1] (by decide) rfl), St.hav _ ⟨rfl, rfl, rfl, rfl, rfl, trivial⟩⟩
          · rintro _ ⟨x6, o6, J, G, hk, hno6, hO, rfl⟩
            refine wpL_rg ?_
            refine pBi ?_
            refine pM (.int _ _) ?_
            refine pE ?_
            refine gn ?_
            cases hk; exact ⟨_, rfl, o6, _, _, hno6, hO, St.hav _ ⟨rfl, rfl, rfl, rfl, rfl, trivial⟩⟩
        · replace hk := cf hb hk
          refine wpL_ex ?_
          refine ge (ge (be (gn ?_)))
          replace hk := lx hx1 hk
          refine wpL_sq ?_
          refine wpL_rg ?_
          refine pM o3 ?_
          refine pA o3 ?_
          refine pE ?_
          refine gn ?_
          refine wpL_rt ?_
          replace hk := Option.some.inj hk; subst hk; exact finThL hO (th_own (xs := x3) hno3 hlk 0) (resT o3 resN)
/-- laws.eqIntS -/
def f28_L1 (aA0 : List Int) (aB1 : List Int) : Int → Option (Int ⊕ Bool) := fun s =>
  (bif decide (s < (aA0.length : Int)) then ((getI aA0 s).bind fun c2 => ((getI aB1 s).bind fun c3 => (bif (c2 != c3) then ((some false).map Sum.inr) else some (.inl (w64 (s + (1:Int))))))) else ((some true).map Sum.inr))
def f28 (aA0 : List Int) (aB1 : List Int) : Option Bool :=
  (bif ((aA0.length : Int) != (aB1.length : Int)) then some false else (loopO (f28_L1 aA0 aB1) ((0:Int))))
theorem f28_run {aA0 : List Int} {aB1 : List Int} {r : Bool} {l1 l2 : Nat} {H : Heap} {lk : Lk} (hk : f28 aA0 aB1 = some r) (hlk : 0 < lk.length := by simp) : runL Try.prog hh 28 [.lit l1 aA0.length ((flatL 0) aA0), .lit l2 aB1.length ((flatL 0) aB1)] H lk = some (.bool r, H) := by
  refine run_start Try.func28 rfl Try.ntmps28 Try.results28 rfl rfl fun hO => ?_
  unfold f28 at hk
  refine wpL_sq ?_
  refine wpL_rg ?_
  refine pA (.bool _) ?_
  refine pE ?_
  refine gn ?_
  refine wpL_sq ?_
  refine wpL_sq ?_
  refine wpL_rg ?_
  refine pM (.lit _ _ _) ?_
  refine pLen tS26 ?_
  refine pM (.lit _ _ _) ?_
  refine pLen tS26 ?_
  refine pBi ?_
  refine pE ?_
  refine gn ?_
  refine wpL_cd (b := ((aA0.length : Int) != (aB1.length : Int))) (fun hb => ?_) (fun hb => ?_)
  · replace hk := ct hb hk
    refine wpL_sq ?_
    refine wpL_rg ?_
    refine pA (.bool _) ?_
    refine pE ?_
    refine gn ?_
    refine wpL_rt ?_
    refine gr ?_
    replace hk := Option.some.inj hk; subst hk; exact fin0 hO
  · replace hk := cf hb hk
    refine wpL_sk ?_
    refine gn ?_
    refine wpL_sq ?_
    refine wpL_sq ?_
    refine wpL_rg ?_
    refine pA (.int _ _) ?_
    refine pE ?_
    refine gn ?_
    refine wpL_bl ?_
    refine wpL_loopO (F := f28_L1 aA0 aB1) (fun s S' => ∃ (J : Nat → V) (G : Heap), Owns H G [] ∧ S' = ⟨hav [(0, .lit l1 aA0.length ((flatL 0) aA0)), (1, .lit l2 aB1.length ((flatL 0) aB1)), (5, .int .i64 s)] J, G⟩) hk ⟨_, _, hO, St.hav _ ⟨rfl, rfl, rfl, trivial⟩⟩ ?_
    rintro x1 _ y1 ⟨J, G, hO, rfl⟩ hk hx1
    refine wpL_sq ?_
    refine wpL_sq ?_
    refine wpL_rg ?_
    refine pM (.int _ _) ?_
    refine pM (.lit _ _ _) ?_
    refine pLen tS26 ?_
    refine pBi ?_
    refine pE ?_
    refine gn ?_
    refine wpL_cd (b := decide (x1 < (aA0.length : Int))) (fun hb => ?_) (fun hb => ?_)
    · replace hk := ct hb hk
      refine wpL_sk ?_
      refine gn ?_
      refine wpL_sq ?_
      refine wpL_bl ?_
      refine wpL_sq ?_
      refine wpL_drw [(0, true), (1, true), (2, true), (3, true), (4, true), (5, true), (6, true), (7, true), (8, false)] [_, _, _, _, _, _, _, _, _] (by decide +kernel) (by rfl) ?_
      refine pM (.lit _ _ _) ?_
      refine pM (.int _ _) ?_
      obtain ⟨c2, hc2, hk⟩ := bs hk
      refine pX hc2 tE26 tZ3 ?_
      refine pLp (.int _ _) (rd1 (lm := 0) (off := 0) hc2 tA3) ?_
      refine pM (.lit _ _ _) ?_
      refine pM (.int _ _) ?_
      obtain ⟨c3, hc3, hk⟩ := bs hk
      refine pX hc3 tE26 tZ3 ?_
      refine pLp (.int _ _) (rd1 (lm := 0) (off := 0) hc3 tA3) ?_
      refine pBi ?_
      refine pE ?_
      refine gn ?_
      refine wpL_cd (b := (c2 != c3)) (fun hb => ?_) (fun hb => ?_)
      · replace hk := ct hb hk
        refine wpL_sq ?_
        refine wpL_rg ?_
        refine pA (.bool _) ?_
        refine pE ?_
        refine gn ?_
        refine wpL_rt ?_
        refine br (gr (gr (br (gr ?_))))
        replace hk := lx hx1 hk
        replace hk := Option.some.inj hk; subst hk; exact fin0 hO
      · replace hk := cf hb hk
        refine wpL_sk ?_
        refine bn (gn ?_)
        refine wpL_rg ?_
        refine pM (.int _ _) ?_
        refine pBi ?_
        refine pA (.int _ _) ?_
        refine pE ?_
        refine gn ?_
        cases hk; exact ⟨_, rfl, _, _, hO, St.hav _ ⟨rfl, rfl, rfl, trivial⟩⟩
    · replace hk := cf hb hk
      refine wpL_ex ?_
      refine ge (ge (be (gn ?_)))
      replace hk := lx hx1 hk
      refine wpL_sq ?_
      refine wpL_rg ?_
      refine pA (.bool _) ?_
      refine pE ?_
      refine gn ?_
      refine wpL_rt ?_
      replace hk := Option.some.inj hk; subst hk; exact fin0 hO
/-- laws.eqCounter -/
def f251 (aA0 : Counter) (aB1 : Counter) : Option Bool :=
  (bif (aA0.From != aB1.From) then some false else (bif (aA0.To != aB1.To) then some false else some true))
theorem f251_run {aA0 : Counter} {aB1 : Counter} {r : Bool} {H : Heap} {lk : Lk} (hk : f251 aA0 aB1 = some r) (hlk : 0 < lk.length := by simp) : runL Try.prog hh 251 [.agg [.int .i64 aA0.From, .int .i64 aA0.To], .agg [.int .i64 aB1.From, .int .i64 aB1.To]] H lk = some (.bool r, H) := by
  refine run_start Try.func251 rfl Try.ntmps251 Try.results251 rfl rfl fun hO => ?_
  unfold f251 at hk
  refine wpL_sq ?_
  refine wpL_rg ?_
  refine pBox (cs := [_, _]) hO tZ184 (fun b1 G hO => ?_)
  refine pBox (cs := [_, _]) hO tZ184 (fun b2 G hO => ?_)
  refine pA (.bool _) ?_
  refine pE ?_
  refine gn ?_
  refine wpL_sq ?_
  refine wpL_sq ?_
  refine wpL_rg ?_
  refine pF tF184_0 ?_
  refine pLo hO 1 (.int _ _) tA3 ?_
  refine pF tF184_0 ?_
  refine pLo hO 0 (.int _ _) tA3 ?_
  refine pBi ?_
  refine pE ?_
  refine gn ?_
  refine wpL_cd (b := (aA0.From != aB1.From)) (fun hb => ?_) (fun hb => ?_)
  · replace hk := ct hb hk
    refine wpL_sq ?_
    refine wpL_rg ?_
    refine pA (.bool _) ?_
    refine pE ?_
    refine gn ?_
    refine wpL_rt ?_
    refine gr ?_
    replace hk := Option.some.inj hk; subst hk; exact fin0 hO
  · replace hk := cf hb hk
    refine wpL_sk ?_
    refine gn ?_
    refine wpL_sq ?_
    refine wpL_sq ?_
    refine wpL_rg ?_
    refine pF tF184_1 ?_
    refine pLo hO 1 (.int _ _) tA3 ?_
    refine pF tF184_1 ?_
    refine pLo hO 0 (.int _ _) tA3 ?_
    refine pBi ?_
    refine pE ?_
    refine gn ?_
    refine wpL_cd (b := (aA0.To != aB1.To)) (fun hb => ?_) (fun hb => ?_)
    · replace hk := ct hb hk
      refine wpL_sq ?_
      refine wpL_rg ?_
      refine pA (.bool _) ?_
      refine pE ?_
      refine gn ?_
      refine wpL_rt ?_
      refine gr ?_
      replace hk := Option.some.inj hk; subst hk; exact fin0 hO
    · replace hk := cf hb hk
      refine wpL_sk ?_
      refine gn ?_
      refine wpL_sq ?_
      refine wpL_rg ?_
      refine pA (.bool _) ?_
      refine pE ?_
      refine gn ?_
      refine wpL_rt ?_
      replace hk := Option.some.inj hk; subst hk; exact fin0 hO
/-- laws.eqCounterS -/
def f130_L1 (aA0 : List Counter) (aB1 : List Counter) : Int → Option (Int ⊕ Bool) := fun s =>
  (bif decide (s < (aA0.length : Int)) then ((getI aA0 s).bind fun c2 => ((getI aB1 s).bind fun c3 => ((f251 c2 c3).bind fun v4 => (bif !v4 then ((some false).map Sum.inr) else some (.inl (w64 (s + (1:Int)))))))) else ((some true).map Sum.inr))
def f130 (aA0 : List Counter) (aB1 : List Counter) : Option Bool :=
  (bif ((aA0.length : Int) != (aB1.length : Int)) then some false else (loopO (f130_L1 aA0 aB1) ((0:Int))))
theorem f130_run {aA0 : List Counter} {aB1 : List Counter} {r : Bool} {l1 l2 : Nat} {H : Heap} {lk : Lk} (hk : f130 aA0 aB1 = some r) (hlk : 0 < lk.length := by simp) : runL Try.prog hh 130 [.lit l1 aA0.length ((flatL 0) aA0), .lit l2 aB1.length ((flatL 0) aB1)] H lk = some (.bool r, H) := by
  refine run_start Try.func130 rfl Try.ntmps130 Try.results130 rfl rfl fun hO => ?_
  unfold f130 at hk
  refine wpL_sq ?_
  refine wpL_rg ?_
  refine pA (.bool _) ?_
  refine pE ?_
  refine gn ?_
  refine wpL_sq ?_
  refine wpL_sq ?_
  refine wpL_rg ?_
  refine pM (.lit _ _ _) ?_
  refine pLen tS28 ?_
  refine pM (.lit _ _ _) ?_
  refine pLen tS28 ?_
  refine pBi ?_
  refine pE ?_
  refine gn ?_
  refine wpL_cd (b := ((aA0.length : Int) != (aB1.length : Int))) (fun hb => ?_) (fun hb => ?_)
  · replace hk := ct hb hk
    refine wpL_sq ?_
    refine wpL_rg ?_
    refine pA (.bool _) ?_
    refine pE ?_
    refine gn ?_
    refine wpL_rt ?_
    refine gr ?_
    replace hk := Option.some.inj hk; subst hk; exact fin0 hO
  · replace hk := cf hb hk
    refine wpL_sk ?_
    refine gn ?_
    refine wpL_sq ?_
    refine wpL_sq ?_
    refine wpL_rg ?_
    refine pA (.int _ _) ?_
    refine pE ?_
    refine gn ?_
    refine wpL_bl ?_
    refine wpL_loopO (F := f130_L1 aA0 aB1) (fun s S' => ∃ (J : Nat → V) (G : Heap), Owns H G [] ∧ S' = ⟨hav [(0, .lit l1 aA0.length ((flatL 0) aA0)), (1, .lit l2 aB1.length ((flatL 0) aB1)), (5, .int .i64 s)] J, G⟩) hk ⟨_, _, hO, St.hav _ ⟨rfl, rfl, rfl, trivial⟩⟩ ?_
    rintro x1 _ y1 ⟨J, G, hO, rfl⟩ hk hx1
    refine wpL_sq ?_
    refine wpL_sq ?_
    refine wpL_rg ?_
    refine pM (.int _ _) ?_
    refine pM (.lit _ _ _) ?_
    refine pLen tS28 ?_
    refine pBi ?_
    refine pE ?_
    refine gn ?_
    refine wpL_cd (b := decide (x1 < (aA0.length : Int))) (fun hb => ?_) (fun hb => ?_)
    · replace hk := ct hb hk
      refine wpL_sk ?_
      refine gn ?_
      refine wpL_sq ?_
      refine wpL_bl ?_
      refine wpL_sq ?_
      refine wpL_drw [(0, true), (1, true), (2, true), (3, true), (4, true), (5, true), (6, true), (7, true), (8, false), (9, false)] [_, _, _, _, _, _, _, _, _, _] (by decide +kernel) (by rfl) ?_
      refine pM (.lit _ _ _) ?_
      refine pM (.int _ _) ?_
      obtain ⟨c2, hc2, hk⟩ := bs hk
      refine pX hc2 tE28 tZ184 ?_
      refine pLp (.agg [_, _]) (rd2 (lm := 0) (off := 0) hc2 tA184 tZ184) ?_
      refine pM (.lit _ _ _) ?_
      refine pM (.int _ _) ?_
      obtain ⟨c3, hc3, hk⟩ := bs hk
      refine pX hc3 tE28 tZ184 ?_
      refine pLp (.agg [_, _]) (rd2 (lm := 0) (off := 0) hc3 tA184 tZ184) ?_
      obtain ⟨v4, hv4, hk⟩ := bs hk
      refine pCall (fun _ => f251_run hv4) ?_
      refine pU ?_
      refine pE ?_
      refine gn ?_
      refine wpL_cd (b := !v4) (fun hb => ?_) (fun hb => ?_)
      · replace hk := ct hb hk
        refine wpL_sq ?_
        refine wpL_rg ?_
        refine pA (.bool _) ?_
        refine pE ?_
        refine gn ?_
        refine wpL_rt ?_
        refine br (gr (gr (br (gr ?_))))
        replace hk := lx hx1 hk
        replace hk := Option.some.inj hk; subst hk; exact fin0 hO
      · replace hk := cf hb hk
        refine wpL_sk ?_
        refine bn (gn ?_)
        refine wpL_rg ?_
        refine pM (.int _ _) ?_
        refine pBi ?_
        refine pA (.int _ _) ?_
        refine pE ?_
        refine gn ?_
        cases hk; exact ⟨_, rfl, _, _, hO, St.hav _ ⟨rfl, rfl, rfl, trivial⟩⟩
    · replace hk := cf hb hk
      refine wpL_ex ?_
      refine ge (ge (be (gn ?_)))
      replace hk := lx hx1 hk
      refine wpL_sq ?_
      refine wpL_rg ?_
      refine pA (.bool _) ?_
      refine pE ?_
      refine gn ?_
      refine wpL_rt ?_
      replace hk := Option.some.inj hk; subst hk; exact fin0 hO
/-- laws.eqLayout -/
def f29 (aA0 : Layout) (aB1 : Layout) : Option Bool :=
  (bif (aA0.Sections != aB1.Sections) then some false else ((f130 aA0.Counters aB1.Counters).bind fun v3 => (bif !v3 then some false else some true)))
theorem f29_run {aA0 : Layout} {aB1 : Layout} {r : Bool} {l1 l2 : Nat} {H : Heap} {lk : Lk} (hk : f29 aA0 aB1 = some r) (hlk : 0 < lk.length := by simp) : runL Try.prog hh 29 [.agg [.int .i64 aA0.Sections, .lit l1 aA0.Counters.length ((flatL 0) aA0.Counters)], .agg [.int .i64 aB1.Sections, .lit l2 aB1.Counters.length ((flatL 0) aB1.Counters)]] H lk = some (.bool r, H) := by
  refine run_start Try.func29 rfl Try.ntmps29 Try.results29 rfl rfl fun hO => ?_
  unfold f29 at hk
  refine wpL_sq ?_
  refine wpL_rg ?_
  refine pBox (cs := [_, _]) hO tZ30 (fun b1 G hO => ?_)
  refine pBox (cs := [_, _]) hO tZ30 (fun b2 G hO => ?_)
  refine pA (.bool _) ?_
  refine pE ?_
  refine gn ?_
  refine wpL_sq ?_
  refine wpL_sq ?_
  refine wpL_rg ?_
  refine pF tF30_0 ?_
  refine pLo hO 1 (.int _ _) tA3 ?_
  refine pF tF30_0 ?_
  refine pLo hO 0 (.int _ _) tA3 ?_
  refine pBi ?_
  refine pE ?_
  refine gn ?_
  refine wpL_cd (b := (aA0.Sections != aB1.Sections)) (fun hb => ?_) (fun hb => ?_)
  · replace hk := ct hb hk
    refine wpL_sq ?_
    refine wpL_rg ?_
    refine pA (.bool _) ?_
    refine pE ?_
    refine gn ?_
    refine wpL_rt ?_
    refine gr ?_
    replace hk := Option.some.inj hk; subst hk; exact fin0 hO
  · replace hk := cf hb hk
    refine wpL_sk ?_
    refine gn ?_
    refine wpL_sq ?_
    refine wpL_sq ?_
    refine wpL_rg ?_
    refine pF tF30_1 ?_
    refine pLo hO 1 (.lit _ _ _) tA28 ?_
    refine pF tF30_1 ?_
    refine pLo hO 0 (.lit _ _ _) tA28 ?_
    obtain ⟨v3, hv3, hk⟩ := bs hk
    refine pCall (fun _ => f130_run hv3) ?_
    refine pU ?_
    refine pE ?_
    refine gn ?_
    refine wpL_cd (b := !v3) (fun hb => ?_) (fun hb => ?_)
    · replace hk := ct hb hk
      refine wpL_sq ?_
      refine wpL_rg ?_
      refine pA (.bool _) ?_
      refine pE ?_
      refine gn ?_
      refine wpL_rt ?_
      refine gr ?_
      replace hk := Option.some.inj hk; subst hk; exact fin0 hO
    · replace hk := cf hb hk
      refine wpL_sk ?_
      refine gn ?_
      refine wpL_sq ?_
      refine wpL_rg ?_
      refine pA (.bool _) ?_
      refine pE ?_
      refine gn ?_
      refine wpL_rt ?_
      replace hk := Option.some.inj hk; subst hk; exact fin0 hO
/-- laws.markCounterS -/
def f131_L1 : ((List Counter) × Int × Int) → Option (((List Counter) × Int × Int) ⊕ (List Counter × Int)) := fun s =>
  (bif decide (s.2.2 < (s.1.length : Int)) then ((getI s.1 s.2.2).bind fun c4 => ((getI (s.1.set s.2.2.toNat ({ c4 with From := s.2.1 })) s.2.2).bind fun c6 => some (.inl ((s.1.set s.2.2.toNat ({ c4 with From := s.2.1 })).set s.2.2.toNat ({ c6 with To := w64 (s.2.1 + (1:Int)) }), w64 ((w64 (s.2.1 + (1:Int))) + (1:Int)), w64 (s.2.2 + (1:Int)))))) else ((some (s.1, s.2.1)).map Sum.inr))
def f131 (aA0 : List Counter) (aK1 : Int) : Option (List Counter × Int) :=
  (loopO (f131_L1) (aA0, aK1, (0:Int)))
theorem f131_run {aA0 : List Counter} {aK1 : Int} {r : (List Counter × Int)} {v0 : V} {F0 : List Nat} {H : Heap} {lk : Lk} (hk : f131 aA0 aK1 = some r) (ha : TrIn H aA0 [v0] F0) (hF : ∀ b ∈ F0, b < H.length) (hS : ∀ b ∈ F0, unlocked lk b = true) (hlk : 0 < lk.length := by simp) : ∃ v H1, runL Try.prog hh 131 [v0, .int .i64 aK1] H lk = some (v, H1) ∧ v = .int .i64 r.2 ∧ TrIn H1 r.1 [v0] F0 ∧ H1.length = H.length ∧ ∀ b, b ∉ F0 → H1[b]? = H[b]? := by
  refine run_startR Try.func131 rfl Try.ntmps131 Try.results131 rfl rfl ?_
  have hO := tree_start ha hF
  have hFr := Sees.refl H F0
  unfold f131 at hk
  refine wpL_sq ?_
  refine wpL_rg ?_
  refine pA (.int _ _) ?_
  refine pE ?_
  refine gn ?_
  refine wpL_sq ?_
  refine wpL_sq ?_
  refine wpL_rg ?_
  refine pA (.int _ _) ?_
  refine pE ?_
  refine gn ?_
  refine wpL_bl ?_
  refine wpL_loopO (F := f131_L1) (fun s S' => ∃ (J : Nat → V) (G : Heap) (H1 : Heap), Sees H H1 F0 ∧ Owns H1 G [Tree F0 F0 s.1 [v0]] ∧ S' = ⟨hav [(0, v0), (1, .int .i64 s.2.1), (5, .int .i64 s.2.2)] J, G⟩) hk ⟨_, _, _, hFr, hO, St.hav _ ⟨rfl, rfl, rfl, trivial⟩⟩ ?_
  rintro ⟨x1, x2, x3⟩ _ y1 ⟨J, G, H1, hFr, hO, rfl⟩ hk hx1
  refine wpL_sq ?_
  refine wpL_sq ?_
  refine wpL_rg ?_
  refine pM (.int _ _) ?_
  refine pM v0 ?_
  refine pLenT hO 0 tS28 ?_
  refine pBi ?_
  refine pE ?_
  refine gn ?_
  refine wpL_cd (b := decide (x3 < (x1.length : Int))) (fun hb => ?_) (fun hb => ?_)
  · replace hk := ct hb hk
    refine wpL_sk ?_
    refine gn ?_
    refine wpL_sq ?_
    refine wpL_bl ?_
    refine wpL_sq ?_
    refine wpL_rg ?_
    refine pM v0 ?_
    refine pM (.int _ _) ?_
    refine pM (.int _ _) ?_
    obtain ⟨c4, hc4, hk⟩ := bs hk
    refine pXT hO 0 hc4 tE28 tZ184 (fun b5 hb5 => ?_)
    refine pF tF184_0 ?_
    refine pST foc_Counter_From (y' := x2) hO 0 hb5 hc4 tZ3 (fun _ => ⟨rfl, rfl⟩) hFr hS rfl (fun H1 G hFr hO => ?_)
    refine pE ?_
    refine gn ?_
    refine wpL_sq ?_
    refine wpL_rg ?_
    refine pM (.int _ _) ?_
    refine pBi ?_
    refine pA (.int _ _) ?_
    refine pE ?_
    refine gn ?_
    refine wpL_sq ?_
    refine wpL_rg ?_
    refine pM v0 ?_
    refine pM (.int _ _) ?_
    refine pM (.int _ _) ?_
    obtain ⟨c6, hc6, hk⟩ := bs hk
    refine pXT hO 0 hc6 tE28 tZ184 (fun b7 hb7 => ?_)
    refine pF tF184_1 ?_
    refine pST foc_Counter_To (y' := (w64 (x2 + (1:Int)))) hO 0 hb7 hc6 tZ3 (fun _ => ⟨rfl, rfl⟩) hFr hS rfl (fun H1 G hFr hO => ?_)
    refine pE ?_
    refine gn ?_
    refine wpL_rg ?_
    refine pM (.int _ _) ?_
    refine pBi ?_
    refine pA (.int _ _) ?_
    refine pE ?_
    refine bn (gn ?_)
    refine wpL_rg ?_
    refine pM (.int _ _) ?_
    refine pBi ?_
    refine pA (.int _ _) ?_
    refine pE ?_
    refine gn ?_
    cases hk; exact ⟨_, rfl, _, _, _, hFr, hO, St.hav _ ⟨rfl, rfl, rfl, trivial⟩⟩
  · replace hk := cf hb hk
    refine wpL_ex ?_
    refine ge (ge (be (gn ?_)))
    replace hk := lx hx1 hk
    refine wpL_sq ?_
    refine wpL_rg ?_
    refine pM (.int _ _) ?_
    refine pA (.int _ _) ?_
    refine pE ?_
    refine gn ?_
    refine wpL_rt ?_
    replace hk := Option.some.inj hk; subst hk; exact finT hO 0 hFr hF
/-- laws.markLayout -/
def f30 (aA0 : Layout) (aK1 : Int) : Option (Layout × Int) :=
  ((f131 aA0.Counters aK1).bind fun z3 => some ({ aA0 with Counters := z3.1 }, z3.2))
theorem f30_run {aA0 : Layout} {aK1 : Int} {r : (Layout × Int)} {v0 : List V} {F0 : List Nat} {H : Heap} {lk : Lk} (hk : f30 aA0 aK1 = some r) (ha : TrIn H aA0 v0 F0) (hF : ∀ b ∈ F0, b < H.length) (hS : ∀ b ∈ F0, unlocked lk b = true) (hlk : 0 < lk.length := by simp) : ∃ v H1, runL Try.prog hh 30 [.agg v0, .int .i64 aK1] H lk = some (v, H1) ∧ v = .int .i64 r.2 ∧ TrIn H1 r.1 v0 F0 ∧ H1.length = H.length ∧ ∀ b, b ∉ F0 → H1[b]? = H[b]? := by
  refine run_startR Try.func30 rfl Try.ntmps30 Try.results30 rfl rfl ?_
  have hO := tree_start ha hF
  have hFr := Sees.refl H F0
  unfold f30 at hk
  refine wpL_sq ?_
  refine wpL_rg ?_
  refine pBoxT hO 0 tZ30 (fun b1 G hO => ?_)
  refine pA (.int _ _) ?_
  refine pE ?_
  refine gn ?_
  refine wpL_sq ?_
  refine wpL_rg ?_
  refine pF tF30_1 ?_
  refine pLTs foc_Layout_Counters hO 0 1 tA28 (fun u2 fs2 hs2 => ?_)
  refine pM (.int _ _) ?_
  obtain ⟨z3, hz3, hk⟩ := bs hk
  refine pCT (y' := z3.1) (r := .int .i64 z3.2) hO 1 hs2 (fun _ h => h) hFr hS (fun hF1 hS1 ht1 => f131_run hz3 ht1 hF1 hS1) (fun H1 G hFr hO => ?_)
  refine pA (.int _ _) ?_
  refine pE ?_
  refine gn ?_
  refine wpL_sq ?_
  refine wpL_rg ?_
  refine pM (.int _ _) ?_
  refine pA (.int _ _) ?_
  refine pE ?_
  refine gn ?_
  refine wpL_rt ?_
  replace hk := Option.some.inj hk; subst hk; exact finT hO 1 hFr hF
/-- laws.markIntS -/
def f31_L1 : ((List Int) × Int × Int) → Option (((List Int) × Int × Int) ⊕ (List Int × Int)) := fun s =>
  (bif decide (s.2.2 < (s.1.length : Int)) then ((getI s.1 s.2.2).bind fun c4 => some (.inl (s.1.set s.2.2.toNat s.2.1, w64 (s.2.1 + (1:Int)), w64 (s.2.2 + (1:Int))))) else ((some (s.1, s.2.1)).map Sum.inr))
def f31 (aA0 : List Int) (aK1 : Int) : Option (List Int × Int) :=
  (loopO (f31_L1) (aA0, aK1, (0:Int)))
theorem f31_run {aA0 : List Int} {aK1 : Int} {r : (List Int × Int)} {v0 : V} {F0 : List Nat} {H : Heap} {lk : Lk} (hk : f31 aA0 aK1 = some r) (ha : TrIn H aA0 [v0] F0) (hF : ∀ b ∈ F0, b < H.length) (hS : ∀ b ∈ F0, unlocked lk b = true) (hlk : 0 < lk.length := by simp) : ∃ v H1, runL Try.prog hh 31 [v0, .int .i64 aK1] H lk = some (v, H1) ∧ v = .int .i64 r.2 ∧ TrIn H1 r.1 [v0] F0 ∧ H1.length = H.length ∧ ∀ b, b ∉ F0 → H1[b]? = H[b]? := by
  refine run_startR Try.func31 rfl Try.ntmps31 Try.results31 rfl rfl ?_
  have hO := tree_start ha hF
  have hFr := Sees.refl H F0
  unfold f31 at hk
  refine wpL_sq ?_
  refine wpL_rg ?_
  refine pA (.int _ _) ?_
  refine pE ?_
  refine gn ?_
  refine wpL_sq ?_
  refine wpL_sq ?_
  refine wpL_rg ?_
  refine pA (.int _ _) ?_
  refine pE ?_
  refine gn ?_
  refine wpL_bl ?_
  refine wpL_loopO (F := f31_L1) (fun s S' => ∃ (J : Nat → V) (G : Heap) (H1 : Heap), Sees H H1 F0 ∧ Owns H1 G [Tree F0 F0 s.1 [v0]] ∧ S' = ⟨hav [(0, v0), (1, .int .i64 s.2.1), (5, .int .i64 s.2.2)] J, G⟩) hk ⟨_, _, _, hFr, hO, St.hav _ ⟨rfl, rfl, rfl, trivial⟩⟩ ?_
  rintro ⟨x1, x2, x3⟩ _ y1 ⟨J, G, H1, hFr, hO, rfl⟩ hk hx1
  refine wpL_sq ?_
  refine wpL_sq ?_
  refine wpL_rg ?_
  refine pM (.int _ _) ?_
  refine pM v0 ?_
  refine pLenT hO 0 tS26 ?_
  refine pBi ?_
  refine pE ?_
  refine gn ?_
  refine wpL_cd (b := decide (x3 < (x1.length : Int))) (fun hb => ?_) (fun hb => ?_)
  · replace hk := ct hb hk
    refine wpL_sk ?_
    refine gn ?_
    refine wpL_sq ?_
    refine wpL_bl ?_
    refine wpL_sq ?_
    refine wpL_rg ?_
    refine pM v0 ?_
    refine pM (.int _ _) ?_
    refine pM (.int _ _) ?_
    obtain ⟨c4, hc4, hk⟩ := bs hk
    refine pXT hO 0 hc4 tE26 tZ3 (fun b5 hb5 => ?_)
    refine pST (Foc.all (α := Int)) (y' := x2) hO 0 hb5 hc4 tZ3 (fun _ => ⟨rfl, rfl⟩) hFr hS rfl (fun H1 G hFr hO => ?_)
    refine pE ?_
    refine gn ?_
    refine wpL_rg ?_
    refine pM (.int _ _) ?_
    refine pBi ?_
    refine pA (.int _ _) ?_
    refine pE ?_
    refine bn (gn ?_)
    refine wpL_rg ?_
    refine pM (.int _ _) ?_
    refine pBi ?_
    refine pA (.int _ _) ?_
    refine pE ?_
    refine gn ?_
    cases hk; exact ⟨_, rfl, _, _, _, hFr, hO, St.hav _ ⟨rfl, rfl, rfl, trivial⟩⟩
  · replace hk := cf hb hk
    refine wpL_ex ?_
    refine ge (ge (be (gn ?_)))
    replace hk := lx hx1 hk
    refine wpL_sq ?_
    refine wpL_rg ?_
    refine pM (.int _ _) ?_
    refine pA (.int _ _) ?_
    refine pE ?_
    refine gn ?_
    refine wpL_rt ?_
    replace hk := Option.some.inj hk; subst hk; exact finT hO 0 hFr hF
/-- laws.heldIntS -/
def f32_L1 (aA0 : List Int) : (Int × Int) → Option ((Int × Int) ⊕ Int) := fun s =>
  (bif decide (s.2 < (aA0.length : Int)) then ((getI aA0 s.2).bind fun c3 => (bif (c3 != s.1) then ((some (-1:Int)).map Sum.inr) else some (.inl (w64 (s.1 + (1:Int)), w64 (s.2 + (1:Int)))))) else ((some s.1).map Sum.inr))
def f32 (aA0 : List Int) (aK1 : Int) : Option Int :=
  (loopO (f32_L1 aA0) (aK1, (0:Int)))
theorem f32_run {aA0 : List Int} {aK1 : Int} {r : Int} {l1 : Nat} {H : Heap} {lk : Lk} (hk : f32 aA0 aK1 = some r) (hlk : 0 < lk.length := by simp) : runL Try.prog hh 32 [.lit l1 aA0.length ((flatL 0) aA0), .int .i64 aK1] H lk = some (.int .i64 r, H) := by
  refine run_start Try.func32 rfl Try.ntmps32 Try.results32 rfl rfl fun hO => ?_
  unfold f32 at hk
  refine wpL_sq ?_
  refine wpL_rg ?_
  refine pA (.int _ _) ?_
  refine pE ?_
  refine gn ?_
  refine wpL_sq ?_
  refine wpL_sq ?_
  refine wpL_rg ?_
  refine pA (.int _ _) ?_
  refine pE ?_
  refine gn ?_
  refine wpL_bl ?_
  refine wpL_loopO (F := f32_L1 aA0) (fun s S' => ∃ (J : Nat → V) (G : Heap), Owns H G [] ∧ S' = ⟨hav [(0, .lit l1 aA0.length ((flatL 0) aA0)), (1, .int .i64 s.1), (5, .int .i64 s.2)] J, G⟩) hk ⟨_, _, hO, St.hav _ ⟨rfl, rfl, rfl, trivial⟩⟩ ?_
  rintro ⟨x1, x2⟩ _ y1 ⟨J, G, hO, rfl⟩ hk hx1
  refine wpL_sq ?_
  refine wpL_sq ?_
  refine wpL_rg ?_
  refine pM (.int _ _) ?_
  refine pM (.lit _ _ _) ?_
  refine pLen tS26 ?_
  refine pBi ?_
  refine pE ?_
  refine gn ?_
  refine wpL_cd (b := decide (x2 < (aA0.length : Int))) (fun hb => ?_) (fun hb => ?_)
  · replace hk := ct hb hk
    refine wpL_sk ?_
    refine gn ?_
    refine wpL_sq ?_
    refine wpL_bl ?_
    refine wpL_sq ?_
    refine wpL_sq ?_
    refine wpL_rg ?_
    refine pM (.lit _ _ _) ?_
    refine pM (.int _ _) ?_
    obtain ⟨c3, hc3, hk⟩ := bs hk
    refine pX hc3 tE26 tZ3 ?_
    refine pLp (.int _ _) (rd1 (lm := 0) (off := 0) hc3 tA3) ?_
    refine pM (.int _ _) ?_
    refine pBi ?_
    refine pE ?_
    refine gn ?_
    refine wpL_cd (b := (c3 != x1)) (fun hb => ?_) (fun hb => ?_)
    · replace hk := ct hb hk
      refine wpL_sq ?_
      refine wpL_rg ?_
      refine pA (.int _ _) ?_
      refine pE ?_
      refine gn ?_
      refine wpL_rt ?_
      refine gr (br (gr (gr (br (gr ?_)))))
      replace hk := lx hx1 hk
      replace hk := Option.some.inj hk; subst hk; exact fin0 hO
    · replace hk := cf hb hk
      refine wpL_sk ?_
      refine gn ?_
      refine wpL_rg ?_
      refine pM (.int _ _) ?_
      refine pBi ?_
      refine pA (.int _ _) ?_
      refine pE ?_
      refine bn (gn ?_)
      refine wpL_rg ?_
      refine pM (.int _ _) ?_
      refine pBi ?_
      refine pA (.int _ _) ?_
      refine pE ?_
      refine gn ?_
      cases hk; exact ⟨_, rfl, _, _, hO, St.hav _ ⟨rfl, rfl, rfl, trivial⟩⟩
  · replace hk := cf hb hk
    refine wpL_ex ?_
    refine ge (ge (be (gn ?_)))
    replace hk := lx hx1 hk
    refine wpL_sq ?_
    refine wpL_rg ?_
    refine pM (.int _ _) ?_
    refine pA (.int _ _) ?_
    refine pE ?_
    refine gn ?_
    refine wpL_rt ?_
    replace hk := Option.some.inj hk; subst hk; exact fin0 hO
/-- laws.FnExactAround -/
def f3 (aAL0 : Layout) (aASection1 : Int) : Option Bool :=
  ((f24 aAL0 (1048576:Int)).bind fun v2 => (bif decide (v2 < (0:Int)) then some true else ((f26 aAL0).bind fun v3 => ((f25 v3 aASection1).bind fun v5 => ((f26 aAL0).bind fun v7 => ((f27 v7 aASection1).bind fun v10 => ((f28 v10 v5).bind fun v13 => (bif !v13 then some false else ((f26 aAL0).bind fun v15 => ((f29 v7 v15).bind fun v17 => (bif !v17 then some false else ((f30 v7 (1:Int)).bind fun z20 => ((bif decide (z20.2 < (0:Int)) then some true else ((f28 v10 v5).bind fun v22 => some (!v22))).bind fun t21 => (bif t21 then some false else ((f31 v10 (1:Int)).bind fun z24 => ((f32 z24.1 (1:Int)).bind fun v25 => (bif decide (v25 < (0:Int)) then some false else (bif (v25 != z24.2) then some false else ((f26 aAL0).bind fun v27 => ((f27 v27 aASection1).bind fun v29 => ((f28 v29 v5).bind fun v32 => (bif !v32 then some false else ((f32 z24.1 (1:Int)).bind fun v34 => (bif decide (v34 < (0:Int)) then some false else (bif (v34 != z24.2) then some false else some true)))))))))))))))))))))))))
theorem f3_run {aAL0 : Layout} {aASection1 : Int} {r : Bool} {l1 : Nat} {H : Heap} {lk : Lk} (hk : f3 aAL0 aASection1 = some r) (hlk : 0 < lk.length := by simp) (hlo : LkOk lk H.length := by simp [LkOk]) : runL Try.prog hh 3 [.agg [.int .i64 aAL0.Sections, .lit l1 aAL0.Counters.length ((flatL 0) aAL0.Counters)], .int .i64 aASection1] H lk = some (.bool r, H) := by
  refine run_start Try.func3 rfl Try.ntmps3 Try.results3 rfl rfl fun hO => ?_
  unfold f3 at hk
  refine wpL_sq ?_
  refine wpL_rg ?_
  refine pBox (cs := [_, _]) hO tZ24 (fun b1 G hO => ?_)
  refine pA (.bool _) ?_
  refine pE ?_
  refine gn ?_
  refine wpL_sq ?_
  refine wpL_rg ?_
  refine pA (.int _ _) ?_
  refine pE ?_
  refine gn ?_
  refine wpL_sq ?_
  refine wpL_rg ?_
  refine pLs hO 0 [_, _] tA24 tZ24 ?_
  refine pM (.int _ _) ?_
  obtain ⟨v2, hv2, hk⟩ := bs hk
  refine pCall (fun _ => f24_run hv2) ?_
  refine pA (.int _ _) ?_
  refine pE ?_
  refine gn ?_
  refine wpL_sq ?_
  refine wpL_sq ?_
  refine wpL_rg ?_
  refine pM (.int _ _) ?_
  refine pBi ?_
  refine pE ?_
  refine gn ?_
  refine wpL_cd (b := decide (v2 < (0:Int))) (fun hb => ?_) (fun hb => ?_)
  · replace hk := ct hb hk
    refine wpL_sq ?_
    refine wpL_rg ?_
    refine pA (.bool _) ?_
    refine pE ?_
    refine gn ?_
    refine wpL_rt ?_
    refine gr ?_
    replace hk := Option.some.inj hk; subst hk; exact fin0 hO
  · replace hk := cf hb hk
    refine wpL_sk ?_
    refine gn ?_
    refine wpL_sq ?_
    refine wpL_rg ?_
    refine pLs hO 0 [_, _] tA24 tZ24 ?_
    obtain ⟨v3, hv3, hk⟩ := bs hk
    refine pCNs hO (fun _ => f26_run hv3) (fun u4 F4 G hO => ?_)
    refine pM (.int _ _) ?_
    obtain ⟨v5, hv5, hk⟩ := bs hk
    obtain ⟨_, hm6⟩ := ls_Layout hO (j := 0) rfl (lk.length + 1) 7
    refine pCall (vs := [(.agg u4), (.int _ _)]) (caps := []) (fun _ => f25_run hv5) ?_ (h3 := (la_cons hm6 (la_cons rfl la_nil)))
    refine pA (.lit _ _ _) ?_
    refine pE ?_
    refine gn ?_
    refine wpL_sq ?_
    refine wpL_rg ?_
    refine pLs hO 1 [_, _] tA24 tZ24 ?_
    obtain ⟨v7, hv7, hk⟩ := bs hk
    refine pCNs hO (fun _ => f26_run hv7) (fun u8 F8 G hO => ?_)
    refine pNew hO tZ30 t030 (fun b9 G hO => ?_)
    refine pStS hO 0 1 tZ30 rfl (fun G hO => ?_)
    refine pE ?_
    refine gn ?_
    refine wpL_sq ?_
    refine wpL_rg ?_
    refine pLdS hO 0 1 tA30 tZ30 ?_
    refine pM (.int _ _) ?_
    obtain ⟨v10, hv10, hk⟩ := bs hk
    obtain ⟨_, hm11⟩ := ls_Layout hO (j := 1) rfl (lk.length + 1) 7
    refine pCN (vs := [(.agg u8), (.int _ _)]) (caps := []) hO (fun _ => f27_run hv10) (fun u12 F12 G hO => ?_) (h3 := (la_cons hm11 (la_cons rfl la_nil)))
    refine pA u12 ?_
    refine pE ?_
    refine gn ?_
    refine wpL_sq ?_
    refine wpL_sq ?_
    refine wpL_rg ?_
    refine pM u12 ?_
    refine pM (.lit _ _ _) ?_
    obtain ⟨v13, hv13, hk⟩ := bs hk
    obtain ⟨_, hm14⟩ := ld_trF hO (j := 0) rfl (lk.length + 1) 8
    refine pCall (vs := [u12, (.lit _ _ _)]) (caps := []) (fun _ => f28_run hv13) ?_ (h3 := (la_cons hm14 (la_cons rfl la_nil)))
    refine pU ?_
    refine pE ?_
    refine gn ?_
    refine wpL_cd (b := !v13) (fun hb => ?_) (fun hb => ?_)
    · replace hk := ct hb hk
      refine wpL_sq ?_
      refine wpL_rg ?_
      refine pA (.bool _) ?_
      refine pE ?_
      refine gn ?_
      refine wpL_rt ?_
      refine gr ?_
      replace hk := Option.some.inj hk; subst hk; exact fin0 hO
    · replace hk := cf hb hk
      refine wpL_sk ?_
      refine gn ?_
      refine wpL_sq ?_
      refine wpL_sq ?_
      refine wpL_drw [(0, true), (1, true), (2, true), (3, false), (4, false)] [_, _, _, _, _] (by decide +kernel) (by rfl) ?_
      refine pLdS hO 1 2 tA30 tZ30 ?_
      refine pLs hO 4 [_, _] tA24 tZ24 ?_
      obtain ⟨v15, hv15, hk⟩ := bs hk
      refine pCNs hO (fun _ => f26_run hv15) (fun u16 F16 G hO => ?_)
      obtain ⟨v17, hv17, hk⟩ := bs hk
      obtain ⟨_, hm18⟩ := ls_Layout hO (j := 3) rfl (lk.length + 1) 7
      obtain ⟨_, hm19⟩ := ls_Layout hO (j := 0) rfl (lk.length + 1) 7
      refine pCall (vs := [(.agg u8), (.agg u16)]) (caps := []) (fun _ => f29_run hv17) ?_ (h3 := (la_cons hm18 (la_cons hm19 la_nil)))
      refine pU ?_
      refine pE ?_
      refine gn ?_
      refine wpL_cd (b := !v17) (fun hb => ?_) (fun hb => ?_)
      · replace hk := ct hb hk
        refine wpL_sq ?_
        refine wpL_rg ?_
        refine pA (.bool _) ?_
        refine pE ?_
        refine gn ?_
        refine wpL_rt ?_
        refine gr ?_
        replace hk := Option.some.inj hk; subst hk; exact fin0 hO
      · replace hk := cf hb hk
        refine wpL_sk ?_
        refine gn ?_
        refine wpL_sq ?_
        refine wpL_rg ?_
        refine pA (.int _ _) ?_
        refine pE ?_
        refine gn ?_
        refine wpL_sq ?_
        refine wpL_rg ?_
        refine pLdS hO 2 3 tA30 tZ30 ?_
        refine pM (.int _ _) ?_
        obtain ⟨z20, hz20, hk⟩ := bs hk
        refine pCTo (y' := z20.1) (r := .int .i64 z20.2) hO 3 (Sub.all hO (j := 3) rfl) hlo (fun hF1 hS1 ht1 => f30_run hz20 ht1 hF1 hS1) (fun G hO => ?_)
        refine pA (.int _ _) ?_
        refine pE ?_
        refine gn ?_
        refine wpL_sq ?_
        refine wpL_sq ?_
        refine wpL_rg ?_
        refine pM (.int _ _) ?_
        refine pBi ?_
        refine pM (.bool _) ?_
        obtain ⟨t21, ht, hk⟩ := bs hk
        refine wpR_mid (l1 := [_, _, _, _, _]) (fun S' => ∃ J, S' = ⟨hav [(1, .int .i64 aASection1), (2, .ptr b1 0), (6, .lit 0 v5.length ((flatL 0) v5)), (8, u12), (46, .bool t21)] J, G⟩) ?_ ?_
        · refine bc (b := decide (z20.2 < (0:Int))) (fun hg1 => ?_) (fun hg1 => ?_)
          · replace hk := ct hg1 ht
            refine pGn hg1 ?_
            refine pGn hg1 ?_
            refine pGn hg1 ?_
            refine pGn hg1 ?_
            refine pPt hg1 (.bool _) ?_
            cases hk; exact pE ⟨_, St.hav _ ⟨rfl, rfl, rfl, rfl, rfl, trivial⟩⟩
          · replace hk := cf hg1 ht
            refine pGy hg1 ?_
            refine pM u12 ?_
            refine pGy hg1 ?_
            refine pM (.lit _ _ _) ?_
            refine pGy hg1 ?_
            obtain ⟨v22, hv22, hk⟩ := bs hk
            obtain ⟨_, hm23⟩ := ld_trF hO (j := 1) rfl (lk.length + 1) 8
            refine pCall (vs := [u12, (.lit _ _ _)]) (caps := []) (fun _ => f28_run hv22) ?_ (h3 := (la_cons hm23 (la_cons rfl la_nil)))
            refine pGy hg1 ?_
            refine pU ?_
            refine pPf hg1 (.bool _) ?_
            cases hk; exact pE ⟨_, St.hav _ ⟨rfl, rfl, rfl, rfl, rfl, trivial⟩⟩
        · rintro _ ⟨J, rfl⟩
          refine pE ?_
          refine gn ?_
          refine wpL_cd (b := t21) (fun hb => ?_) (fun hb => ?_)
          · replace hk := ct hb hk
            refine wpL_sq ?_
            refine wpL_rg ?_
            refine pA (.bool _) ?_
            refine pE ?_
            refine gn ?_
            refine wpL_rt ?_
            refine gr ?_
            replace hk := Option.some.inj hk; subst hk; exact fin0 hO
          · replace hk := cf hb hk
            refine wpL_sk ?_
            refine gn ?_
            refine wpL_sq ?_
            refine wpL_rg ?_
            refine pA (.int _ _) ?_
            refine pE ?_
            refine gn ?_
            refine wpL_sq ?_
            refine wpL_rg ?_
            refine pM u12 ?_
            refine pM (.int _ _) ?_
            obtain ⟨z24, hz24, hk⟩ := bs hk
            refine pCTo (y' := z24.1) (r := .int .i64 z24.2) hO 1 (Sub.all hO (j := 1) rfl) hlo (fun hF1 hS1 ht1 => f31_run hz24 ht1 hF1 hS1) (fun G hO => ?_)
            refine pA (.int _ _) ?_
            refine pE ?_
            refine gn ?_
            refine wpL_sq ?_
            refine wpL_rg ?_
            refine pA (.int _ _) ?_
            refine pE ?_
            refine gn ?_
            refine wpL_sq ?_
            refine wpL_rg ?_
            refine pM u12 ?_
            refine pM (.int _ _) ?_
            obtain ⟨v25, hv25, hk⟩ := bs hk
            obtain ⟨_, hm26⟩ := ld_trF hO (j := 1) rfl (lk.length + 1) 8
            refine pCall (vs := [u12, (.int _ _)]) (caps := []) (fun _ => f32_run hv25) ?_ (h3 := (la_cons hm26 (la_cons rfl la_nil)))
            refine pA (.int _ _) ?_
            refine pE ?_
            refine gn ?_
            refine wpL_sq ?_
            refine wpL_sq ?_
            refine wpL_rg ?_
            refine pM (.int _ _) ?_
            refine pBi ?_
            refine pE ?_
            refine gn ?_
            refine wpL_cd (b := decide (v25 < (0:Int))) (fun hb => ?_) (fun hb => ?_)
            · replace hk := ct hb hk
              refine wpL_sq ?_
              refine wpL_rg ?_
              refine pA (.bool _) ?_
              refine pE ?_
              refine gn ?_
              refine wpL_rt ?_
              refine gr ?_
              replace hk := Option.some.inj hk; subst hk; exact fin0 hO
            · replace hk := cf hb hk
              refine wpL_sk ?_
              refine gn ?_
              refine wpL_sq ?_
              refine wpL_sq ?_
              refine wpL_rg ?_
              refine pM (.int _ _) ?_
              refine pM (.int _ _) ?_
              refine pBi ?_
              refine pE ?_
              refine gn ?_
              refine wpL_cd (b := (v25 != z24.2)) (fun hb => ?_) (fun hb => ?_)
              · replace hk := ct hb hk
                refine wpL_sq ?_
                refine wpL_rg ?_
                refine pA (.bool _) ?_
                refine pE ?_
                refine gn ?_
                refine wpL_rt ?_
                refine gr ?_
                replace hk := Option.some.inj hk; subst hk; exact fin0 hO
              · replace hk := cf hb hk
                refine wpL_sk ?_
                refine gn ?_
                refine wpL_sq ?_
                refine wpL_rg ?_
                refine pLs hO 5 [_, _] tA24 tZ24 ?_
                obtain ⟨v27, hv27, hk⟩ := bs hk
                refine pCNs hO (fun _ => f26_run hv27) (fun u28 F28 G hO => ?_)
                refine pM (.int _ _) ?_
                obtain ⟨v29, hv29, hk⟩ := bs hk
                obtain ⟨_, hm30⟩ := ls_Layout hO (j := 0) rfl (lk.length + 1) 7
                refine pCN (vs := [(.agg u28), (.int _ _)]) (caps := []) hO (fun _ => f27_run hv29) (fun u31 F31 G hO => ?_) (h3 := (la_cons hm30 (la_cons rfl la_nil)))
                refine pA u31 ?_
                refine pE ?_
                refine gn ?_
                refine wpL_sq ?_
                refine wpL_sq ?_
                refine wpL_rg ?_
                refine pM u31 ?_
                refine pM (.lit _ _ _) ?_
                obtain ⟨v32, hv32, hk⟩ := bs hk
                obtain ⟨_, hm33⟩ := ld_trF hO (j := 0) rfl (lk.length + 1) 8
                refine pCall (vs := [u31, (.lit _ _ _)]) (caps := []) (fun _ => f28_run hv32) ?_ (h3 := (la_cons hm33 (la_cons rfl la_nil)))
                refine pU ?_
                refine pE ?_
                refine gn ?_
                refine wpL_cd (b := !v32) (fun hb => ?_) (fun hb => ?_)
                · replace hk := ct hb hk
                  refine wpL_sq ?_
                  refine wpL_rg ?_
                  refine pA (.bool _) ?_
                  refine pE ?_
                  refine gn ?_
                  refine wpL_rt ?_
                  refine gr ?_
                  replace hk := Option.some.inj hk; subst hk; exact fin0 hO
                · replace hk := cf hb hk
                  refine wpL_sk ?_
                  refine gn ?_
                  refine wpL_sq ?_
                  refine wpL_rg ?_
                  refine pA (.int _ _) ?_
                  refine pE ?_
                  refine gn ?_
                  refine wpL_sq ?_
                  refine wpL_rg ?_
                  refine pM u12 ?_
                  refine pM (.int _ _) ?_
                  obtain ⟨v34, hv34, hk⟩ := bs hk
                  obtain ⟨_, hm35⟩ := ld_trF hO (j := 3) rfl (lk.length + 1) 8
                  refine pCall (vs := [u12, (.int _ _)]) (caps := []) (fun _ => f32_run hv34) ?_ (h3 := (la_cons hm35 (la_cons rfl la_nil)))
                  refine pA (.int _ _) ?_
                  refine pE ?_
                  refine gn ?_
                  refine wpL_sq ?_
                  refine wpL_sq ?_
                  refine wpL_rg ?_
                  refine pM (.int _ _) ?_
                  refine pBi ?_
                  refine pE ?_
                  refine gn ?_
                  refine wpL_cd (b := decide (v34 < (0:Int))) (fun hb => ?_) (fun hb => ?_)
                  · replace hk := ct hb hk
                    refine wpL_sq ?_
                    refine wpL_rg ?_
                    refine pA (.bool _) ?_
                    refine pE ?_
                    refine gn ?_
                    refine wpL_rt ?_
                    refine gr ?_
                    replace hk := Option.some.inj hk; subst hk; exact fin0 hO
                  · replace hk := cf hb hk
                    refine wpL_sk ?_
                    refine gn ?_
                    refine wpL_sq ?_
                    refine wpL_sq ?_
                    refine wpL_rg ?_
                    refine pM (.int _ _) ?_
                    refine pM (.int _ _) ?_
                    refine pBi ?_
                    refine pE ?_
                    refine gn ?_
                    refine wpL_cd (b := (v34 != z24.2)) (fun hb => ?_) (fun hb => ?_)
                    · replace hk := ct hb hk
                      refine wpL_sq ?_
                      refine wpL_rg ?_
                      refine pA (.bool _) ?_
                      refine pE ?_
                      refine gn ?_
                      refine wpL_rt ?_
                      refine gr ?_
                      replace hk := Option.some.inj hk; subst hk; exact fin0 hO
                    · replace hk := cf hb hk
                      refine wpL_sk ?_
                      refine gn ?_
                      refine wpL_sq ?_
                      refine wpL_rg ?_
                      refine pA (.bool _) ?_
                      refine pE ?_
                      refine gn ?_
                      refine wpL_rt ?_
                      replace hk := Option.some.inj hk; subst hk; exact fin0 hO
end
end Go.Proofs.Ytkfekjcahepfnaa.K
