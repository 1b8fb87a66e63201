/-
  The functions that FnExactDoCount reaches, as typed Lean functions, and that the interpreter computes them. Part 2 of 2. No conditions.
-/
import Derived.Test.YtkfekjcahepfnaaDDca
set_option linter.unusedVariables false
set_option linter.unusedSimpArgs false
set_option maxRecDepth 100000
namespace Go.Proofs.Ytkfekjcahepfnaa.K
noncomputable section
/-- impl.doCount -/
def f192_L2 (aL0 : Layout) (x13 : Bool) (x14 : List Section) (x15 : List Bool) : ((List Section) × Int) → Option (((List Section) × Int) ⊕ CountDone) := fun s =>
  (bif decide (s.2 < (x14.length : Int)) then ((f276 aL0 ({ Ok := x13, Sections := s.1, Dead := x15 } : CountState) s.2).bind fun v18 => ((getI s.1 s.2).bind fun c21 => some (.inl (s.1.set s.2.toNat ({ c21 with Told := v18 }), w64 (s.2 + (1:Int)))))) else ((some ({ Code := (0:Int), State := ({ Ok := x13, Sections := s.1, Dead := x15 } : CountState) } : CountDone)).map Sum.inr))
def f192_k1 (aL0 : Layout) (x13 : Bool) (x14 : List Section) (x15 : List Bool) : Option CountDone :=
  (loopO (f192_L2 aL0 x13 x14 x15) (x14, (0:Int)))
def f192_k5 (aL0 : Layout) (x38 : Int) (x39 : Bool) (x40 : List Section) (x41 : List Bool) : Option CountDone :=
  ((f280 x38 (1:Int) ({ Ok := x39, Sections := x40, Dead := x41 } : CountState)).bind fun z42 => (f192_k1 aL0 z42.Ok z42.Sections z42.Dead))
def f192_k4 (aL0 : Layout) (aE2 : CountEvent) (z5 : List Section) (z7 : List Bool) (x37 : Int) (x38 : Int) : Option CountDone :=
  (bif (aE2.Op == (1:Int)) then ((f280 x37 (-1:Int) ({ Ok := true, Sections := z5, Dead := z7 } : CountState)).bind fun z43 => (f192_k5 aL0 x38 z43.Ok z43.Sections z43.Dead)) else (f192_k5 aL0 x38 true z5 z7))
def f192_k3 (aL0 : Layout) (aE2 : CountEvent) (z5 : List Section) (z7 : List Bool) (x28 : Bool) : Option CountDone :=
  (bif x28 then ((getI z7 aE2.Of).bind fun c29 => (bif c29 then some ({ Code := (2:Int), State := ({ Ok := true, Sections := z5, Dead := z7 } : CountState) } : CountDone) else ((getI aL0.Counters aE2.Of).bind fun c35 => (bif (aE2.Dir == (-1:Int)) then (f192_k4 aL0 aE2 z5 z7 c35.To c35.From) else (f192_k4 aL0 aE2 z5 z7 c35.From c35.To))))) else (bif (aE2.Op == (3:Int)) then ((getI z7 aE2.Of).bind fun c44 => ((getI aL0.Counters aE2.Of).bind fun c47 => ((f281 c47.From ({ Ok := true, Sections := z5, Dead := z7.set aE2.Of.toNat true } : CountState)).bind fun z48 => ((getI aL0.Counters aE2.Of).bind fun c49 => ((f281 c49.To z48).bind fun z50 => (f192_k1 aL0 z50.Ok z50.Sections z50.Dead)))))) else (bif (aE2.Op == (4:Int)) then ((getI z7 aE2.Of).bind fun c51 => (f192_k1 aL0 true z5 (z7.set aE2.Of.toNat false))) else (bif (aE2.Op == (5:Int)) then ((f277 aL0 ({ Ok := true, Sections := z5, Dead := z7 } : CountState) aE2.Of).bind fun v54 => (bif v54 then some ({ Code := (3:Int), State := ({ Ok := true, Sections := z5, Dead := z7 } : CountState) } : CountDone) else ((getI z5 aE2.Of).bind fun c61 => (bif (c61.Last == (1:Int)) then some ({ Code := (4:Int), State := ({ Ok := true, Sections := z5, Dead := z7 } : CountState) } : CountDone) else (f192_k1 aL0 true (z5.set aE2.Of.toNat ({ Told := 0, Count := 0, Lost := false, Sweep := true, Last := 0 } : Section)) z7))))) else (f192_k1 aL0 true z5 z7)))))
def f192 (aL0 : Layout) (aS1 : CountState) (aE2 : CountEvent) : Option CountDone :=
  ((appB 32 ([] : List Section) aS1.Sections).bind fun z5 => ((appB 1 ([] : List Bool) aS1.Dead).bind fun z7 => (bif (aE2.Op == (1:Int)) then (f192_k3 aL0 aE2 z5 z7 (aE2.Op == (1:Int))) else (f192_k3 aL0 aE2 z5 z7 (aE2.Op == (2:Int))))))
theorem f192_run {aL0 : Layout} {aS1 : CountState} {aE2 : CountEvent} {r : CountDone} {l1 l2 l3 : Nat} {H : Heap} {lk : Lk} (hk : f192 aL0 aS1 aE2 = some r) (hlk : 0 < lk.length := by simp) (hlo : LkOk lk H.length := by simp [LkOk]) : ∃ v H1, runL Try.prog hh 192 [.agg [.int .i64 aL0.Sections, .lit l1 aL0.Counters.length ((flatL 0) aL0.Counters)], .agg [.bool aS1.Ok, .lit l2 aS1.Sections.length ((flatL 0) aS1.Sections), .lit l3 aS1.Dead.length ((flatL 0) aS1.Dead)], .agg [.int .i64 aE2.Op, .int .i64 aE2.Of, .int .i64 aE2.Dir]] H lk = some (v, H1) ∧ FreshS H r v H1 := by
  refine run_startR Try.func192 rfl Try.ntmps192 Try.results192 rfl rfl ?_
  have hO := Owns.nil H
  unfold f192 at hk
  refine wpL_sq (wpL_rg ?_)
  refine pBox (cs := [_, _]) hO tZ30 (fun b1 G hO => ?_)
  refine pBox (cs := [_, _, _]) hO tZ40 (fun b2 G hO => ?_)
  refine pBox (cs := [_, _, _]) hO tZ113 (fun b3 G hO => ?_)
  refine pNew hO tZ110 t0110 (fun b4 G hO => ?_)
  refine pE (gn (wpL_sq ?_))
  refine wpL_drw [(0, true), (1, true), (3, true), (4, true), (2, true), (5, false), (6, false), (7, false)] [_, _, _, _, _, _, _, _] (by decide +kernel) (by rfl) ?_
  refine pF tF40_1 ?_
  refine pLo hO 2 (.lit _ _ _) tA37 ?_
  refine pF tF40_2 ?_
  refine pLo hO 2 (.lit _ _ _) tA38 ?_
  obtain ⟨z5, hz5, hk⟩ := bs hk
  refine pCloneT (xs := aS1.Sections) hO hz5 Try.func278 tC278 tE37 tZ233 tB233 t0233 (fun u6 F6 G hO => ?_)
  obtain ⟨z7, hz7, hk⟩ := bs hk
  refine pCloneT (xs := aS1.Dead) hO hz7 Try.func279 tC279 tE38 tZ4 tB4 t04 (fun u8 F8 G hO => ?_)
  have hc9 := tl_cells hO (j := 0) rfl
  have hc10 := tl_cells hO (j := 1) rfl
  refine pBd [.bool true, u6, u8] t040 tP40 ?_ (ps := [(0, .bool true), (1, u6), (2, u8)]) (h2 := (partsK_cons (i := 0) (off := 0) (sz := 1) (v := .bool true) (ce := [.bool true]) rfl (all_c rfl all_n) (partsK_cons (i := 1) (off := 1) (sz := 1) (v := u6) (ce := [u6]) hc10.1 (all_c hc10.2 all_n) (partsK_cons (i := 2) (off := 2) (sz := 1) (v := u8) (ce := [u8]) hc9.1 (all_c hc9.2 all_n) rfl))))
  have hc11 := tl_cells hO (j := 1) rfl
  have hc12 := tl_cells hO (j := 0) rfl
  refine pSt (xs := [_, _, _]) hO 4 tZ40 rfl (fun G hO => ?_) (h6 := (all_c rfl (all_c hc11.2 (all_c hc12.2 all_n))))
  refine pE (gn (wpL_sq (wpL_rg ?_)))
  refine pFn (vs := [_]) ?_
  refine pA (.fn _ _) ?_
  refine pE (gn (wpL_sq (wpL_rg ?_)))
  refine pFn (vs := [_]) ?_
  refine pA (.fn _ _) ?_
  refine pE (gn ?_)
  refine wpL_mid (fun S' => ∃ (x13 : Bool) (x14 : List Section) (x15 : List Bool) (J : Nat → V) (G : Heap), f192_k1 aL0 x13 x14 x15 = some r ∧ Owns H G [.blk b2 (.cells 3 [.bool x13, u6, u8]), Tree [] F6 x14 [u6], Tree [] F8 x15 [u8], .blk b4 (.cells 4 [.int .i64 0, .bool false, (.tl 0 []), (.tl 0 [])]), .blk b1 (.cells 2 [.int .i64 aL0.Sections, .lit l1 aL0.Counters.length ((flatL 0) aL0.Counters)])] ∧ S' = ⟨hav [(3, .ptr b1 0), (4, .ptr b2 0), (6, .ptr b4 0)] J, G⟩) ?_ ?_
  · refine wpL_sq (wpL_rg ?_)
    refine pF tF113_0 ?_
    refine pLo hO 3 (.int _ _) tA3 ?_
    refine pE (gn (wpL_bl ?_))
    refine wpL_mid (fun S' => ∃ (x28 : Bool) (J : Nat → V) (G : Heap), f192_k3 aL0 aE2 z5 z7 x28 = some r ∧ Owns H G [Tree [] F8 z7 [u8], Tree [] F6 z5 [u6], .blk b4 (.cells 4 [.int .i64 0, .bool false, (.tl 0 []), (.tl 0 [])]), .blk b3 (.cells 3 [.int .i64 aE2.Op, .int .i64 aE2.Of, .int .i64 aE2.Dir]), .blk b2 (.cells 3 [.bool true, u6, u8]), .blk b1 (.cells 2 [.int .i64 aL0.Sections, .lit l1 aL0.Counters.length ((flatL 0) aL0.Counters)])] ∧ S' = ⟨hav [(3, .ptr b1 0), (4, .ptr b2 0), (5, .ptr b3 0), (6, .ptr b4 0), (7, .fn 280 [.ptr b2 0]), (8, .fn 281 [.ptr b2 0]), (22, .int .i64 aE2.Op), (23, .bool x28)] J, G⟩) ?_ ?_
    · refine wpL_sq (wpL_rg ?_)
      refine pBi ?_
      refine pA (.bool _) ?_
      refine pE (gn ?_)
      refine wpL_cd (b := (aE2.Op == (1:Int))) (fun hb => ?_) (fun hb => ?_)
      · replace hk := ct hb hk
        refine wpL_sk (gn ?_)
        exact ⟨(aE2.Op == (1:Int)), _, _, hk, hO, St.hav _ ⟨rfl, rfl, rfl, rfl, rfl, rfl, rfl, rfl, trivial⟩⟩
      · replace hk := cf hb hk
        refine wpL_rg ?_
        refine pBi ?_
        refine pA (.bool _) ?_
        refine pE (gn ?_)
        exact ⟨(aE2.Op == (2:Int)), _, _, hk, hO, St.hav _ ⟨rfl, rfl, rfl, rfl, rfl, rfl, rfl, rfl, trivial⟩⟩
    · rintro _ ⟨x28, J, G, hk, hO, rfl⟩
      refine wpL_cd (b := x28) (fun hb => ?_) (fun hb => ?_)
      · replace hk := ct hb hk
        refine wpL_sq (wpL_sq (wpL_rg ?_))
        refine pF tF40_2 ?_
        refine pLo hO 4 u8 tA38 ?_
        refine pF tF113_1 ?_
        refine pLo hO 3 (.int _ _) tA3 ?_
        obtain ⟨c29, hc29, hk⟩ := bs hk
        refine pXT hO 0 hc29 tE38 tZ4 (fun b30 hb30 => ?_)
        refine pLTv (Foc.all (α := Bool)) (.bool _) hO 0 hb30 hc29 tA4 ?_
        refine pE (gn ?_)
        refine wpL_cd (b := c29) (fun hb => ?_) (fun hb => ?_)
        · replace hk := ct hb hk
          refine wpL_sq (wpL_rg ?_)
          refine pLs hO 4 [_, _, _] tA40 tZ40 ?_
          have hc31 := tl_cells hO (j := 1) rfl
          have hc32 := tl_cells hO (j := 0) rfl
          refine pBd [.int .i64 (2:Int), .bool true, u6, u8] t0110 tP110 ?_ (ps := [(0, .int .i64 (2:Int)), (1, .agg [.bool true, u6, u8])]) (h2 := (partsK_cons (i := 0) (off := 0) (sz := 1) (v := .int .i64 (2:Int)) (ce := [.int .i64 (2:Int)]) rfl (all_c rfl all_n) (partsK_cons (i := 1) (off := 1) (sz := 3) (v := .agg [.bool true, u6, u8]) (ce := [.bool true, u6, u8]) rfl (all_c rfl (all_c hc31.2 (all_c hc32.2 all_n))) rfl)))
          have hc33 := tl_cells hO (j := 1) rfl
          have hc34 := tl_cells hO (j := 0) rfl
          refine pSt (xs := [_, _, _, _]) hO 2 tZ110 rfl (fun G hO => ?_) (h6 := (all_c rfl (all_c rfl (all_c hc33.2 (all_c hc34.2 all_n)))))
          refine pE (gn (wpL_rt (gr (br (gr ?_)))))
          replace hk := Option.some.inj hk; subst hk; exact finThS hO (th_CountDone (x := ({ Code := (2:Int), State := ({ Ok := true, Sections := z5, Dead := z7 } : CountState) } : CountDone)) (th_pair (c1 := [_]) (th_int (2:Int)) (th_CountState (x := ({ Ok := true, Sections := z5, Dead := z7 } : CountState)) (th_pair (c1 := [_]) (th_bool true) (th_pair (c1 := [_]) (th_tree (x := z5) 1) (th_tree (x := z7) 0)))))) (resS hO 2 [_, _, _, _] tA110 tZ110 resN)
        · replace hk := cf hb hk
          refine wpL_sk (gn (wpL_sq (wpL_rg ?_)))
          refine pF tF30_1 ?_
          refine pLo hO 5 (.lit _ _ _) tA28 ?_
          refine pF tF113_1 ?_
          refine pLo hO 3 (.int _ _) tA3 ?_
          obtain ⟨c35, hc35, hk⟩ := bs hk
          refine pX hc35 tE28 tZ184 ?_
          refine pLp (.agg [_, _]) (rd2 (lm := 0) (off := 0) hc35 tA184 tZ184) ?_
          refine pNew hO tZ184 t0184 (fun b36 G hO => ?_)
          refine pSt (xs := [_, _]) hO 0 tZ184 rfl (fun G hO => ?_)
          refine pE (gn ?_)
          refine wpL_mid (fun S' => ∃ (x37 : Int) (x38 : Int) (J : Nat → V) (G : Heap), f192_k4 aL0 aE2 z5 z7 x37 x38 = some r ∧ Owns H G [.blk b36 (.cells 2 [.int .i64 x37, .int .i64 x38]), Tree [] F8 z7 [u8], Tree [] F6 z5 [u6], .blk b4 (.cells 4 [.int .i64 0, .bool false, (.tl 0 []), (.tl 0 [])]), .blk b3 (.cells 3 [.int .i64 aE2.Op, .int .i64 aE2.Of, .int .i64 aE2.Dir]), .blk b2 (.cells 3 [.bool true, u6, u8]), .blk b1 (.cells 2 [.int .i64 aL0.Sections, .lit l1 aL0.Counters.length ((flatL 0) aL0.Counters)])] ∧ S' = ⟨hav [(3, .ptr b1 0), (4, .ptr b2 0), (5, .ptr b3 0), (6, .ptr b4 0), (7, .fn 280 [.ptr b2 0]), (9, .ptr b36 0)] J, G⟩) ?_ ?_
          · refine wpL_sq (wpL_rg ?_)
            refine pF tF113_2 ?_
            refine pLo hO 4 (.int _ _) tA3 ?_
            refine pBi ?_
            refine pE (gn ?_)
            refine wpL_cd (b := (aE2.Dir == (-1:Int))) (fun hb => ?_) (fun hb => ?_)
            · replace hk := ct hb hk
              refine wpL_rg ?_
              refine pF tF184_1 ?_
              refine pLo hO 0 (.int _ _) tA3 ?_
              refine pF tF184_0 ?_
              refine pLo hO 0 (.int _ _) tA3 ?_
              refine pF tF184_0 ?_
              refine pSt (xs := [_]) hO 0 tZ3 rfl (fun G hO => ?_)
              refine pF tF184_1 ?_
              refine pSt (xs := [_]) hO 0 tZ3 rfl (fun G hO => ?_)
              refine pE (gn ?_)
              exact ⟨c35.To, c35.From, _, _, hk, hO, St.hav _ ⟨rfl, rfl, rfl, rfl, rfl, rfl, trivial⟩⟩
            · replace hk := cf hb hk
              refine wpL_sk (gn ?_)
              exact ⟨c35.From, c35.To, _, _, hk, hO, St.hav _ ⟨rfl, rfl, rfl, rfl, rfl, rfl, trivial⟩⟩
          · rintro _ ⟨x37, x38, J, G, hk, hO, rfl⟩
            refine wpL_mid (fun S' => ∃ (x39 : Bool) (x40 : List Section) (x41 : List Bool) (J : Nat → V) (G : Heap), f192_k5 aL0 x38 x39 x40 x41 = some r ∧ Owns H G [.blk b2 (.cells 3 [.bool x39, u6, u8]), Tree [] F6 x40 [u6], Tree [] F8 x41 [u8], .blk b36 (.cells 2 [.int .i64 x37, .int .i64 x38]), .blk b4 (.cells 4 [.int .i64 0, .bool false, (.tl 0 []), (.tl 0 [])]), .blk b1 (.cells 2 [.int .i64 aL0.Sections, .lit l1 aL0.Counters.length ((flatL 0) aL0.Counters)])] ∧ S' = ⟨hav [(3, .ptr b1 0), (4, .ptr b2 0), (6, .ptr b4 0), (7, .fn 280 [.ptr b2 0]), (9, .ptr b36 0)] J, G⟩) ?_ ?_
            · refine wpL_sq (wpL_rg ?_)
              refine pF tF113_0 ?_
              refine pLo hO 4 (.int _ _) tA3 ?_
              refine pBi ?_
              refine pE (gn ?_)
              refine wpL_cd (b := (aE2.Op == (1:Int))) (fun hb => ?_) (fun hb => ?_)
              · replace hk := ct hb hk
                refine wpL_rg ?_
                refine pM (.fn _ _) ?_
                refine pF tF184_0 ?_
                refine pLo hO 0 (.int _ _) tA3 ?_
                replace hO := (Owns.pick hO [5, 2, 1, 0, 3, 4, 6] (by decide) rfl : Owns H G ([.blk b2 (.cells 3 [.bool true, u6, u8]), Tree [] F6 z5 [u6], Tree [] F8 z7 [u8]] ++ [.blk b36 (.cells 2 [.int .i64 x37, .int .i64 x38]), .blk b4 (.cells 4 [.int .i64 0, .bool false, (.tl 0 []), (.tl 0 [])]), .blk b3 (.cells 3 [.int .i64 aE2.Op, .int .i64 aE2.Of, .int .i64 aE2.Dir]), .blk b1 (.cells 2 [.int .i64 aL0.Sections, .lit l1 aL0.Counters.length ((flatL 0) aL0.Counters)])]))
                obtain ⟨z43, hz43, hk⟩ := bs hk
                refine pCPd (rs0 := [.blk b2 (.cells 3 [.bool true, u6, u8]), Tree [] F6 z5 [u6], Tree [] F8 z7 [u8]]) (rs0' := [.blk b2 (.cells 3 [.bool z43.Ok, u6, u8]), Tree [] F6 z43.Sections [u6], Tree [] F8 z43.Dead [u8]]) (rest := [.blk b36 (.cells 2 [.int .i64 x37, .int .i64 x38]), .blk b4 (.cells 4 [.int .i64 0, .bool false, (.tl 0 []), (.tl 0 [])]), .blk b3 (.cells 3 [.int .i64 aE2.Op, .int .i64 aE2.Of, .int .i64 aE2.Dir]), .blk b1 (.cells 2 [.int .i64 aL0.Sections, .lit l1 aL0.Counters.length ((flatL 0) aL0.Counters)])]) (S := (b2 :: (F6 ++ (F8 ++ [])))) hO hlo (nums_S rfl) (nums_S' rfl) (Owns.lo hO) (fun hlt1 hun1 ho1 => f280_run hz43 ho1 hun1 hlt1) (fun G hO => ?_)
                refine pE (gn ?_)
                exact ⟨z43.Ok, z43.Sections, z43.Dead, _, _, hk, (Owns.pick hO [0, 1, 2, 3, 4, 6] (by decide) rfl), St.hav _ ⟨rfl, rfl, rfl, rfl, rfl, trivial⟩⟩
              · replace hk := cf hb hk
                refine wpL_sk (gn ?_)
                exact ⟨true, z5, z7, _, _, hk, (Owns.pick hO [5, 2, 1, 0, 3, 6] (by decide) rfl), St.hav _ ⟨rfl, rfl, rfl, rfl, rfl, trivial⟩⟩
            · rintro _ ⟨x39, x40, x41, J, G, hk, hO, rfl⟩
              refine wpL_rg ?_
              refine pM (.fn _ _) ?_
              refine pF tF184_1 ?_
              refine pLo hO 3 (.int _ _) tA3 ?_
              replace hO := (Owns.pick hO [0, 1, 2, 3, 4, 5] (by decide) rfl : Owns H G ([.blk b2 (.cells 3 [.bool x39, u6, u8]), Tree [] F6 x40 [u6], Tree [] F8 x41 [u8]] ++ [.blk b36 (.cells 2 [.int .i64 x37, .int .i64 x38]), .blk b4 (.cells 4 [.int .i64 0, .bool false, (.tl 0 []), (.tl 0 [])]), .blk b1 (.cells 2 [.int .i64 aL0.Sections, .lit l1 aL0.Counters.length ((flatL 0) aL0.Counters)])]))
              obtain ⟨z42, hz42, hk⟩ := bs hk
              refine pCPd (rs0 := [.blk b2 (.cells 3 [.bool x39, u6, u8]), Tree [] F6 x40 [u6], Tree [] F8 x41 [u8]]) (rs0' := [.blk b2 (.cells 3 [.bool z42.Ok, u6, u8]), Tree [] F6 z42.Sections [u6], Tree [] F8 z42.Dead [u8]]) (rest := [.blk b36 (.cells 2 [.int .i64 x37, .int .i64 x38]), .blk b4 (.cells 4 [.int .i64 0, .bool false, (.tl 0 []), (.tl 0 [])]), .blk b1 (.cells 2 [.int .i64 aL0.Sections, .lit l1 aL0.Counters.length ((flatL 0) aL0.Counters)])]) (S := (b2 :: (F6 ++ (F8 ++ [])))) hO hlo (nums_S rfl) (nums_S' rfl) (Owns.lo hO) (fun hlt1 hun1 ho1 => f280_run hz42 ho1 hun1 hlt1) (fun G hO => ?_)
              refine pE (bn (gn ?_))
              exact ⟨z42.Ok, z42.Sections, z42.Dead, _, _, hk, (Owns.pick hO [0, 1, 2, 4, 5] (by decide) rfl), St.hav _ ⟨rfl, rfl, rfl, trivial⟩⟩
      · replace hk := cf hb hk
        refine wpL_sq (wpL_rg ?_)
        refine pBi ?_
        refine pA (.bool _) ?_
        refine pE (gn ?_)
        refine wpL_cd (b := (aE2.Op == (3:Int))) (fun hb => ?_) (fun hb => ?_)
        · replace hk := ct hb hk
          refine wpL_sq (wpL_rg ?_)
          refine pF tF40_2 ?_
          refine pLo hO 4 u8 tA38 ?_
          refine pF tF113_1 ?_
          refine pLo hO 3 (.int _ _) tA3 ?_
          obtain ⟨c44, hc44, hk⟩ := bs hk
          refine pXT hO 0 hc44 tE38 tZ4 (fun b45 hb45 => ?_)
          refine pSTo (Foc.all (α := Bool)) (y' := true) hO 0 hb45 hc44 tZ4 (fun _ => ⟨rfl, rfl⟩) rfl (fun G hO => ?_)
          have hc_46 := getI_set hc44 true
          have hv_46 := sl_set (j := aE2.Of.toNat) (y := true) hb45
          refine pE (gn (wpL_sq (wpL_rg ?_)))
          refine pM (.fn _ _) ?_
          refine pF tF30_1 ?_
          refine pLo hO 5 (.lit _ _ _) tA28 ?_
          refine pF tF113_1 ?_
          refine pLo hO 3 (.int _ _) tA3 ?_
          obtain ⟨c47, hc47, hk⟩ := bs hk
          refine pX hc47 tE28 tZ184 ?_
          refine pF tF184_0 ?_
          refine pLp (.int _ _) (rd1 (lm := 0) (off := 0) hc47 tA3) ?_
          replace hO := (Owns.pick hO [4, 1, 0, 2, 3, 5] (by decide) rfl : Owns H G ([.blk b2 (.cells 3 [.bool true, u6, u8]), Tree [] F6 z5 [u6], Tree [] F8 (z7.set aE2.Of.toNat true) [u8]] ++ [.blk b4 (.cells 4 [.int .i64 0, .bool false, (.tl 0 []), (.tl 0 [])]), .blk b3 (.cells 3 [.int .i64 aE2.Op, .int .i64 aE2.Of, .int .i64 aE2.Dir]), .blk b1 (.cells 2 [.int .i64 aL0.Sections, .lit l1 aL0.Counters.length ((flatL 0) aL0.Counters)])]))
          obtain ⟨z48, hz48, hk⟩ := bs hk
          refine pCPd (rs0 := [.blk b2 (.cells 3 [.bool true, u6, u8]), Tree [] F6 z5 [u6], Tree [] F8 (z7.set aE2.Of.toNat true) [u8]]) (rs0' := [.blk b2 (.cells 3 [.bool z48.Ok, u6, u8]), Tree [] F6 z48.Sections [u6], Tree [] F8 z48.Dead [u8]]) (rest := [.blk b4 (.cells 4 [.int .i64 0, .bool false, (.tl 0 []), (.tl 0 [])]), .blk b3 (.cells 3 [.int .i64 aE2.Op, .int .i64 aE2.Of, .int .i64 aE2.Dir]), .blk b1 (.cells 2 [.int .i64 aL0.Sections, .lit l1 aL0.Counters.length ((flatL 0) aL0.Counters)])]) (S := (b2 :: (F6 ++ (F8 ++ [])))) hO hlo (nums_S rfl) (nums_S' rfl) (Owns.lo hO) (fun hlt1 hun1 ho1 => f281_run hz48 ho1 hun1 hlt1) (fun G hO => ?_)
          refine pE (gn (wpL_rg ?_))
          refine pM (.fn _ _) ?_
          refine pF tF30_1 ?_
          refine pLo hO 5 (.lit _ _ _) tA28 ?_
          refine pF tF113_1 ?_
          refine pLo hO 4 (.int _ _) tA3 ?_
          obtain ⟨c49, hc49, hk⟩ := bs hk
          refine pX hc49 tE28 tZ184 ?_
          refine pF tF184_1 ?_
          refine pLp (.int _ _) (rd1 (lm := 0) (off := 1) hc49 tA3) ?_
          replace hO := (Owns.pick hO [0, 1, 2, 3, 4, 5] (by decide) rfl : Owns H G ([.blk b2 (.cells 3 [.bool z48.Ok, u6, u8]), Tree [] F6 z48.Sections [u6], Tree [] F8 z48.Dead [u8]] ++ [.blk b4 (.cells 4 [.int .i64 0, .bool false, (.tl 0 []), (.tl 0 [])]), .blk b3 (.cells 3 [.int .i64 aE2.Op, .int .i64 aE2.Of, .int .i64 aE2.Dir]), .blk b1 (.cells 2 [.int .i64 aL0.Sections, .lit l1 aL0.Counters.length ((flatL 0) aL0.Counters)])]))
          obtain ⟨z50, hz50, hk⟩ := bs hk
          refine pCPd (rs0 := [.blk b2 (.cells 3 [.bool z48.Ok, u6, u8]), Tree [] F6 z48.Sections [u6], Tree [] F8 z48.Dead [u8]]) (rs0' := [.blk b2 (.cells 3 [.bool z50.Ok, u6, u8]), Tree [] F6 z50.Sections [u6], Tree [] F8 z50.Dead [u8]]) (rest := [.blk b4 (.cells 4 [.int .i64 0, .bool false, (.tl 0 []), (.tl 0 [])]), .blk b3 (.cells 3 [.int .i64 aE2.Op, .int .i64 aE2.Of, .int .i64 aE2.Dir]), .blk b1 (.cells 2 [.int .i64 aL0.Sections, .lit l1 aL0.Counters.length ((flatL 0) aL0.Counters)])]) (S := (b2 :: (F6 ++ (F8 ++ [])))) hO hlo (nums_S rfl) (nums_S' rfl) (Owns.lo hO) (fun hlt1 hun1 ho1 => f281_run hz50 ho1 hun1 hlt1) (fun G hO => ?_)
          refine pE (bn (gn ?_))
          exact ⟨z50.Ok, z50.Sections, z50.Dead, _, _, hk, (Owns.pick hO [0, 1, 2, 3, 5] (by decide) rfl), St.hav _ ⟨rfl, rfl, rfl, trivial⟩⟩
        · replace hk := cf hb hk
          refine wpL_sq (wpL_rg ?_)
          refine pBi ?_
          refine pA (.bool _) ?_
          refine pE (gn ?_)
          refine wpL_cd (b := (aE2.Op == (4:Int))) (fun hb => ?_) (fun hb => ?_)
          · replace hk := ct hb hk
            refine wpL_rg ?_
            refine pF tF40_2 ?_
            refine pLo hO 4 u8 tA38 ?_
            refine pF tF113_1 ?_
            refine pLo hO 3 (.int _ _) tA3 ?_
            obtain ⟨c51, hc51, hk⟩ := bs hk
            refine pXT hO 0 hc51 tE38 tZ4 (fun b52 hb52 => ?_)
            refine pSTo (Foc.all (α := Bool)) (y' := false) hO 0 hb52 hc51 tZ4 (fun _ => ⟨rfl, rfl⟩) rfl (fun G hO => ?_)
            have hc_53 := getI_set hc51 false
            have hv_53 := sl_set (j := aE2.Of.toNat) (y := false) hb52
            refine pE (bn (gn ?_))
            exact ⟨true, z5, z7.set aE2.Of.toNat false, _, _, hk, (Owns.pick hO [4, 1, 0, 2, 5] (by decide) rfl), St.hav _ ⟨rfl, rfl, rfl, trivial⟩⟩
          · replace hk := cf hb hk
            refine wpL_sq (wpL_rg ?_)
            refine pBi ?_
            refine pA (.bool _) ?_
            refine pE (gn ?_)
            refine wpL_cd (b := (aE2.Op == (5:Int))) (fun hb => ?_) (fun hb => ?_)
            · replace hk := ct hb hk
              refine wpL_sq (wpL_sq (wpL_rg ?_))
              refine pLs hO 5 [_, _] tA30 tZ30 ?_
              refine pLs hO 4 [_, _, _] tA40 tZ40 ?_
              refine pF tF113_1 ?_
              refine pLo hO 3 (.int _ _) tA3 ?_
              obtain ⟨v54, hv54, hk⟩ := bs hk
              obtain ⟨_, hm55⟩ := ld_trF hO (j := 0) rfl (lk.length + 1) 7
              obtain ⟨_, hm56⟩ := ld_trF hO (j := 1) rfl (lk.length + 1) 7
              refine pCall (vs := [(.agg [_, _]), (.agg [_, _, _]), (.int _ _)]) (caps := []) (fun _ => f277_run hv54) ?_ (h3 := (la_cons rfl (la_cons (ld_agg (ll_cons rfl (ll_cons hm56 (ll_cons hm55 ll_nil)))) (la_cons rfl la_nil))))
              refine pE (gn ?_)
              refine wpL_cd (b := v54) (fun hb => ?_) (fun hb => ?_)
              · replace hk := ct hb hk
                refine wpL_sq (wpL_rg ?_)
                refine pLs hO 4 [_, _, _] tA40 tZ40 ?_
                have hc57 := tl_cells hO (j := 1) rfl
                have hc58 := tl_cells hO (j := 0) rfl
                refine pBd [.int .i64 (3:Int), .bool true, u6, u8] t0110 tP110 ?_ (ps := [(0, .int .i64 (3:Int)), (1, .agg [.bool true, u6, u8])]) (h2 := (partsK_cons (i := 0) (off := 0) (sz := 1) (v := .int .i64 (3:Int)) (ce := [.int .i64 (3:Int)]) rfl (all_c rfl all_n) (partsK_cons (i := 1) (off := 1) (sz := 3) (v := .agg [.bool true, u6, u8]) (ce := [.bool true, u6, u8]) rfl (all_c rfl (all_c hc57.2 (all_c hc58.2 all_n))) rfl)))
                have hc59 := tl_cells hO (j := 1) rfl
                have hc60 := tl_cells hO (j := 0) rfl
                refine pSt (xs := [_, _, _, _]) hO 2 tZ110 rfl (fun G hO => ?_) (h6 := (all_c rfl (all_c rfl (all_c hc59.2 (all_c hc60.2 all_n)))))
                refine pE (gn (wpL_rt (gr (br (gr ?_)))))
                replace hk := Option.some.inj hk; subst hk; exact finThS hO (th_CountDone (x := ({ Code := (3:Int), State := ({ Ok := true, Sections := z5, Dead := z7 } : CountState) } : CountDone)) (th_pair (c1 := [_]) (th_int (3:Int)) (th_CountState (x := ({ Ok := true, Sections := z5, Dead := z7 } : CountState)) (th_pair (c1 := [_]) (th_bool true) (th_pair (c1 := [_]) (th_tree (x := z5) 1) (th_tree (x := z7) 0)))))) (resS hO 2 [_, _, _, _] tA110 tZ110 resN)
              · replace hk := cf hb hk
                refine wpL_sk (gn (wpL_sq (wpL_rg ?_)))
                refine pF tF40_1 ?_
                refine pLo hO 4 u6 tA37 ?_
                refine pF tF113_1 ?_
                refine pLo hO 3 (.int _ _) tA3 ?_
                obtain ⟨c61, hc61, hk⟩ := bs hk
                refine pXT hO 1 hc61 tE37 tZ233 (fun b62 hb62 => ?_)
                refine pA (.ptr _ _) ?_
                refine pE (gn (wpL_sq (wpL_sq (wpL_rg ?_))))
                refine pM (.ptr _ _) ?_
                refine pNil ?_
                refine pF tF233_4 ?_
                refine pLTv foc_Section_Last (.int _ _) hO 1 hb62 hc61 tA3 ?_
                refine pBi ?_
                refine pE (gn ?_)
                refine wpL_cd (b := (c61.Last == (1:Int))) (fun hb => ?_) (fun hb => ?_)
                · replace hk := ct hb hk
                  refine wpL_sq (wpL_rg ?_)
                  refine pLs hO 4 [_, _, _] tA40 tZ40 ?_
                  have hc63 := tl_cells hO (j := 1) rfl
                  have hc64 := tl_cells hO (j := 0) rfl
                  refine pBd [.int .i64 (4:Int), .bool true, u6, u8] t0110 tP110 ?_ (ps := [(0, .int .i64 (4:Int)), (1, .agg [.bool true, u6, u8])]) (h2 := (partsK_cons (i := 0) (off := 0) (sz := 1) (v := .int .i64 (4:Int)) (ce := [.int .i64 (4:Int)]) rfl (all_c rfl all_n) (partsK_cons (i := 1) (off := 1) (sz := 3) (v := .agg [.bool true, u6, u8]) (ce := [.bool true, u6, u8]) rfl (all_c rfl (all_c hc63.2 (all_c hc64.2 all_n))) rfl)))
                  have hc65 := tl_cells hO (j := 1) rfl
                  have hc66 := tl_cells hO (j := 0) rfl
                  refine pSt (xs := [_, _, _, _]) hO 2 tZ110 rfl (fun G hO => ?_) (h6 := (all_c rfl (all_c rfl (all_c hc65.2 (all_c hc66.2 all_n)))))
                  refine pE (gn (wpL_rt (gr (br (gr ?_)))))
                  replace hk := Option.some.inj hk; subst hk; exact finThS hO (th_CountDone (x := ({ Code := (4:Int), State := ({ Ok := true, Sections := z5, Dead := z7 } : CountState) } : CountDone)) (th_pair (c1 := [_]) (th_int (4:Int)) (th_CountState (x := ({ Ok := true, Sections := z5, Dead := z7 } : CountState)) (th_pair (c1 := [_]) (th_bool true) (th_pair (c1 := [_]) (th_tree (x := z5) 1) (th_tree (x := z7) 0)))))) (resS hO 2 [_, _, _, _] tA110 tZ110 resN)
                · replace hk := cf hb hk
                  refine wpL_sk (gn (wpL_rg ?_))
                  refine pM (.ptr _ _) ?_
                  refine pBd [_, _, _, _, _] t0233 tP233 ?_
                  refine pNil ?_
                  refine pSTg (Foc.all (α := Section)) (({ Told := 0, Count := 0, Lost := false, Sweep := true, Last := 0 } : Section) : Section) hO 1 hb62 hc61 tZ233 rfl (fun G hO => ?_)
                  have hc_67 := getI_set hc61 ({ Told := 0, Count := 0, Lost := false, Sweep := true, Last := 0 } : Section)
                  have hv_67 := sl_set (j := aE2.Of.toNat) (y := ({ Told := 0, Count := 0, Lost := false, Sweep := true, Last := 0 } : Section)) hb62
                  refine pE (bn (gn ?_))
                  exact ⟨true, z5.set aE2.Of.toNat ({ Told := 0, Count := 0, Lost := false, Sweep := true, Last := 0 } : Section), z7, _, _, hk, (Owns.pick hO [4, 1, 0, 2, 5] (by decide) rfl), St.hav _ ⟨rfl, rfl, rfl, trivial⟩⟩
            · replace hk := cf hb hk
              refine wpL_sk (bn (gn ?_))
              exact ⟨true, z5, z7, _, _, hk, (Owns.pick hO [4, 1, 0, 2, 5] (by decide) rfl), St.hav _ ⟨rfl, rfl, rfl, trivial⟩⟩
  · rintro _ ⟨x13, x14, x15, J, G, hk, hO, rfl⟩
    refine wpL_sq (wpL_sq (wpL_rg ?_))
    refine pF tF40_1 ?_
    refine pLo hO 0 u6 tA37 ?_
    refine pLenT hO 1 tS37 ?_
    refine pM (.int _ _) ?_
    refine pE (gn (wpL_bl ?_))
    refine wpL_loopO (F := f192_L2 aL0 x13 x14 x15) (fun s S' => ∃ (J : Nat → V) (G : Heap), Owns H G [.blk b2 (.cells 3 [.bool x13, u6, u8]), Tree [] F6 s.1 [u6], Tree [] F8 x15 [u8], .blk b4 (.cells 4 [.int .i64 0, .bool false, (.tl 0 []), (.tl 0 [])]), .blk b1 (.cells 2 [.int .i64 aL0.Sections, .lit l1 aL0.Counters.length ((flatL 0) aL0.Counters)])] ∧ S' = ⟨hav [(3, .ptr b1 0), (4, .ptr b2 0), (6, .ptr b4 0), (118, .int .i64 (x14.length : Int)), (119, .int .i64 s.2)] J, G⟩) hk ⟨_, _, hO, St.hav _ ⟨rfl, rfl, rfl, rfl, rfl, trivial⟩⟩ ?_
    rintro ⟨x16, x17⟩ _ y1 ⟨J, G, hO, rfl⟩ hk hx1
    refine wpL_sq (wpL_rg ?_)
    refine pBi ?_
    refine pE (gn (wpL_sq ?_))
    refine wpL_cd (b := decide (x17 < (x14.length : Int))) (fun hb => ?_) (fun hb => ?_)
    · replace hk := ct hb hk
      refine wpL_sk (gn (wpL_sq (wpL_bl (wpL_sq (wpL_rg ?_)))))
      refine pM (.int _ _) ?_
      refine pA (.int _ _) ?_
      refine pE (gn ?_)
      refine wpL_drw [(0, true), (1, true), (2, true), (3, true), (4, true), (5, true), (6, true), (7, false), (8, false), (9, false)] [_, _, _, _, _, _, _, _, _, _] (by decide +kernel) (by rfl) ?_
      refine pF tF40_1 ?_
      refine pLo hO 0 u6 tA37 ?_
      refine pM (.int _ _) ?_
      refine pLs hO 4 [_, _] tA30 tZ30 ?_
      refine pLs hO 0 [_, _, _] tA40 tZ40 ?_
      refine pM (.int _ _) ?_
      obtain ⟨v18, hv18, hk⟩ := bs hk
      obtain ⟨_, hm19⟩ := ld_trF hO (j := 2) rfl (lk.length + 1) 7
      obtain ⟨_, hm20⟩ := ld_trF hO (j := 1) rfl (lk.length + 1) 7
      refine pCall (vs := [(.agg [_, _]), (.agg [_, _, _]), (.int _ _)]) (caps := []) (fun _ => f276_run hv18) ?_ (h3 := (la_cons rfl (la_cons (ld_agg (ll_cons rfl (ll_cons hm20 (ll_cons hm19 ll_nil)))) (la_cons rfl la_nil))))
      obtain ⟨c21, hc21, hk⟩ := bs hk
      refine pXT hO 1 hc21 tE37 tZ233 (fun b22 hb22 => ?_)
      refine pF tF233_0 ?_
      refine pSTo foc_Section_Told (y' := v18) hO 1 hb22 hc21 tZ3 (fun _ => ⟨rfl, rfl⟩) rfl (fun G hO => ?_)
      have hc_23 := getI_set hc21 ({ c21 with Told := v18 } : Section)
      have hv_23 := sl_set (j := x17.toNat) (y := ({ c21 with Told := v18 } : Section)) hb22
      refine pE (bn (gn (wpL_rg ?_)))
      refine pBi ?_
      refine pM (.int _ _) ?_
      refine pE (gn ?_)
      cases hk; exact ⟨_, rfl, _, _, hO, St.hav _ ⟨rfl, rfl, rfl, rfl, rfl, trivial⟩⟩
    · replace hk := cf hb hk
      refine wpL_ex (ge (ge (be (gn ?_))))
      replace hk := lx hx1 hk
      refine wpL_sq (wpL_rg ?_)
      refine pLs hO 0 [_, _, _] tA40 tZ40 ?_
      have hc24 := tl_cells hO (j := 1) rfl
      have hc25 := tl_cells hO (j := 2) rfl
      refine pBd [.int .i64 (0:Int), .bool x13, u6, u8] t0110 tP110 ?_ (ps := [(0, .int .i64 (0:Int)), (1, .agg [.bool x13, u6, u8])]) (h2 := (partsK_cons (i := 0) (off := 0) (sz := 1) (v := .int .i64 (0:Int)) (ce := [.int .i64 (0:Int)]) rfl (all_c rfl all_n) (partsK_cons (i := 1) (off := 1) (sz := 3) (v := .agg [.bool x13, u6, u8]) (ce := [.bool x13, u6, u8]) rfl (all_c rfl (all_c hc24.2 (all_c hc25.2 all_n))) rfl)))
      have hc26 := tl_cells hO (j := 1) rfl
      have hc27 := tl_cells hO (j := 2) rfl
      refine pSt (xs := [_, _, _, _]) hO 3 tZ110 rfl (fun G hO => ?_) (h6 := (all_c rfl (all_c rfl (all_c hc26.2 (all_c hc27.2 all_n)))))
      refine pE (gn (wpL_rt ?_))
      replace hk := Option.some.inj hk; subst hk; exact finThS hO (th_CountDone (x := ({ Code := (0:Int), State := ({ Ok := x13, Sections := x16, Dead := x15 } : CountState) } : CountDone)) (th_pair (c1 := [_]) (th_int (0:Int)) (th_CountState (x := ({ Ok := x13, Sections := x16, Dead := x15 } : CountState)) (th_pair (c1 := [_]) (th_bool x13) (th_pair (c1 := [_]) (th_tree (x := x16) 1) (th_tree (x := x15) 1)))))) (resS hO 3 [_, _, _, _] tA110 tZ110 resN)
/-- impl.DoCount -/
def f73 (aL0 : Layout) (aS1 : CountState) (aE2 : CountEvent) : Option CountDone :=
  ((f190 aL0 aS1).bind fun v5 => ((bif !v5 then some true else ((f191 aL0 aE2).bind fun v7 => some (!v7))).bind fun t6 => (bif t6 then some ({ Code := (1:Int), State := ({ Ok := false, Sections := ([] : List Section), Dead := ([] : List Bool) } : CountState) } : CountDone) else ((f192 aL0 aS1 aE2).bind fun v8 => some v8))))
theorem f73_run {aL0 : Layout} {aS1 : CountState} {aE2 : CountEvent} {r : CountDone} {l1 l2 l3 : Nat} {H : Heap} {lk : Lk} (hk : f73 aL0 aS1 aE2 = some r) (hlk : 0 < lk.length := by simp) (hlo : LkOk lk H.length := by simp [LkOk]) : ∃ v H1, runL Try.prog hh 73 [.agg [.int .i64 aL0.Sections, .lit l1 aL0.Counters.length ((flatL 0) aL0.Counters)], .agg [.bool aS1.Ok, .lit l2 aS1.Sections.length ((flatL 0) aS1.Sections), .lit l3 aS1.Dead.length ((flatL 0) aS1.Dead)], .agg [.int .i64 aE2.Op, .int .i64 aE2.Of, .int .i64 aE2.Dir]] H lk = some (v, H1) ∧ FreshS H r v H1 := by
  refine run_startR Try.func73 rfl Try.ntmps73 Try.results73 rfl rfl ?_
  have hO := Owns.nil H
  unfold f73 at hk
  refine wpL_sq (wpL_rg ?_)
  refine pBox (cs := [_, _]) hO tZ30 (fun b1 G hO => ?_)
  refine pBox (cs := [_, _, _]) hO tZ40 (fun b2 G hO => ?_)
  refine pBox (cs := [_, _, _]) hO tZ113 (fun b3 G hO => ?_)
  refine pNew hO tZ110 t0110 (fun b4 G hO => ?_)
  refine pE (gn (wpL_sq (wpL_sq (wpL_rg ?_))))
  refine pLs hO 3 [_, _] tA30 tZ30 ?_
  refine pLs hO 2 [_, _, _] tA40 tZ40 ?_
  obtain ⟨v5, hv5, hk⟩ := bs hk
  refine pCall (fun _ => f190_run hv5) ?_
  refine pU ?_
  refine pM (.bool _) ?_
  obtain ⟨t6, ht, hk⟩ := bs hk
  refine wpR_mid (l1 := [_, _, _, _, _]) (fun S' => ∃ J, S' = ⟨hav [(3, .ptr b1 0), (4, .ptr b2 0), (5, .ptr b3 0), (6, .ptr b4 0), (16, .bool t6)] J, G⟩) ?_ ?_
  · refine bc (b := !v5) (fun hg1 => ?_) (fun hg1 => ?_)
    · replace hk := ct hg1 ht
      refine pGn hg1 ?_
      refine pGn hg1 ?_
      refine pGn hg1 ?_
      refine pGn hg1 ?_
      refine pPt hg1 (.bool _) ?_
      cases hk; exact pE ⟨_, St.hav _ ⟨rfl, rfl, rfl, rfl, rfl, trivial⟩⟩
    · replace hk := cf hg1 ht
      refine pGy hg1 ?_
      refine pLs hO 3 [_, _] tA30 tZ30 ?_
      refine pGy hg1 ?_
      refine pLs hO 1 [_, _, _] tA113 tZ113 ?_
      refine pGy hg1 ?_
      obtain ⟨v7, hv7, hk⟩ := bs hk
      refine pCall (fun _ => f191_run hv7) ?_
      refine pGy hg1 ?_
      refine pU ?_
      refine pPf hg1 (.bool _) ?_
      cases hk; exact pE ⟨_, St.hav _ ⟨rfl, rfl, rfl, rfl, rfl, trivial⟩⟩
  · rintro _ ⟨J, rfl⟩
    refine pE (gn ?_)
    refine wpL_cd (b := t6) (fun hb => ?_) (fun hb => ?_)
    · replace hk := ct hb hk
      refine wpL_sq (wpL_rg ?_)
      refine pBd [_, _, _, _] t0110 tP110 ?_
      refine pSt (xs := [_, _, _, _]) hO 0 tZ110 rfl (fun G hO => ?_)
      refine pE (gn (wpL_rt (gr ?_)))
      replace hk := Option.some.inj hk; subst hk; exact finThS hO (th_CountDone (x := ({ Code := (1:Int), State := ({ Ok := false, Sections := ([] : List Section), Dead := ([] : List Bool) } : CountState) } : CountDone)) (th_pair (c1 := [_]) (th_int (1:Int)) (th_CountState (x := ({ Ok := false, Sections := ([] : List Section), Dead := ([] : List Bool) } : CountState)) (th_pair (c1 := [_]) (th_bool false) (th_pair (c1 := [_]) (th_nil Section) (th_nil Bool)))))) (resS hO 0 [_, _, _, _] tA110 tZ110 resN)
    · replace hk := cf hb hk
      refine wpL_sk (gn (wpL_sq (wpL_rg ?_)))
      refine pLs hO 3 [_, _] tA30 tZ30 ?_
      refine pLs hO 2 [_, _, _] tA40 tZ40 ?_
      refine pLs hO 1 [_, _, _] tA113 tZ113 ?_
      obtain ⟨v8, hv8, hk⟩ := bs hk
      refine pCNsL hO hlo rfl (fun _ hl => f192_run hv8 (hlo := hl)) (fun u9 F9 G hO => ?_)
      refine pStS hO 1 0 tZ110 rfl (fun G hO => ?_)
      refine pE (gn (wpL_rt ?_))
      replace hk := Option.some.inj hk; subst hk; exact finThS hO (th_tree (x := v8) 0) (resSr hO 1 0 tA110 tZ110 resN)
/-- laws.eqSection -/
def f252 (aA0 : Section) (aB1 : Section) : Option Bool :=
  (bif (aA0.Told != aB1.Told) then some false else (bif (aA0.Count != aB1.Count) then some false else (bif !(aA0.Lost == aB1.Lost) then some false else (bif !(aA0.Sweep == aB1.Sweep) then some false else (bif (aA0.Last != aB1.Last) then some false else some true)))))
theorem f252_run {aA0 : Section} {aB1 : Section} {r : Bool} {H : Heap} {lk : Lk} (hk : f252 aA0 aB1 = some r) (hlk : 0 < lk.length := by simp) : runL Try.prog hh 252 [.agg [.int .i64 aA0.Told, .int .i64 aA0.Count, .bool aA0.Lost, .bool aA0.Sweep, .int .i64 aA0.Last], .agg [.int .i64 aB1.Told, .int .i64 aB1.Count, .bool aB1.Lost, .bool aB1.Sweep, .int .i64 aB1.Last]] H lk = some (.bool r, H) := by
  refine run_start Try.func252 rfl Try.ntmps252 Try.results252 rfl rfl fun hO => ?_
  unfold f252 at hk
  refine wpL_sq (wpL_rg ?_)
  refine pBox (cs := [_, _, _, _, _]) hO tZ233 (fun b1 G hO => ?_)
  refine pBox (cs := [_, _, _, _, _]) hO tZ233 (fun b2 G hO => ?_)
  refine pA (.bool _) ?_
  refine pE (gn (wpL_sq (wpL_sq (wpL_rg ?_))))
  refine pF tF233_0 ?_
  refine pLo hO 1 (.int _ _) tA3 ?_
  refine pF tF233_0 ?_
  refine pLo hO 0 (.int _ _) tA3 ?_
  refine pBi ?_
  refine pE (gn ?_)
  refine wpL_cd (b := (aA0.Told != aB1.Told)) (fun hb => ?_) (fun hb => ?_)
  · replace hk := ct hb hk
    refine wpL_sq (wpL_rg ?_)
    refine pA (.bool _) ?_
    refine pE (gn (wpL_rt (gr ?_)))
    replace hk := Option.some.inj hk; subst hk; exact fin0 hO
  · replace hk := cf hb hk
    refine wpL_sk (gn (wpL_sq (wpL_sq (wpL_rg ?_))))
    refine pF tF233_1 ?_
    refine pLo hO 1 (.int _ _) tA3 ?_
    refine pF tF233_1 ?_
    refine pLo hO 0 (.int _ _) tA3 ?_
    refine pBi ?_
    refine pE (gn ?_)
    refine wpL_cd (b := (aA0.Count != aB1.Count)) (fun hb => ?_) (fun hb => ?_)
    · replace hk := ct hb hk
      refine wpL_sq (wpL_rg ?_)
      refine pA (.bool _) ?_
      refine pE (gn (wpL_rt (gr ?_)))
      replace hk := Option.some.inj hk; subst hk; exact fin0 hO
    · replace hk := cf hb hk
      refine wpL_sk (gn (wpL_sq (wpL_sq (wpL_rg ?_))))
      refine pF tF233_2 ?_
      refine pLo hO 1 (.bool _) tA4 ?_
      refine pF tF233_2 ?_
      refine pLo hO 0 (.bool _) tA4 ?_
      refine pBn Try.underlying4 ?_
      refine pE (gn ?_)
      refine wpL_cd (b := !(aA0.Lost == aB1.Lost)) (fun hb => ?_) (fun hb => ?_)
      · replace hk := ct hb hk
        refine wpL_sq (wpL_rg ?_)
        refine pA (.bool _) ?_
        refine pE (gn (wpL_rt (gr ?_)))
        replace hk := Option.some.inj hk; subst hk; exact fin0 hO
      · replace hk := cf hb hk
        refine wpL_sk (gn (wpL_sq (wpL_sq (wpL_rg ?_))))
        refine pF tF233_3 ?_
        refine pLo hO 1 (.bool _) tA4 ?_
        refine pF tF233_3 ?_
        refine pLo hO 0 (.bool _) tA4 ?_
        refine pBn Try.underlying4 ?_
        refine pE (gn ?_)
        refine wpL_cd (b := !(aA0.Sweep == aB1.Sweep)) (fun hb => ?_) (fun hb => ?_)
        · replace hk := ct hb hk
          refine wpL_sq (wpL_rg ?_)
          refine pA (.bool _) ?_
          refine pE (gn (wpL_rt (gr ?_)))
          replace hk := Option.some.inj hk; subst hk; exact fin0 hO
        · replace hk := cf hb hk
          refine wpL_sk (gn (wpL_sq (wpL_sq (wpL_rg ?_))))
          refine pF tF233_4 ?_
          refine pLo hO 1 (.int _ _) tA3 ?_
          refine pF tF233_4 ?_
          refine pLo hO 0 (.int _ _) tA3 ?_
          refine pBi ?_
          refine pE (gn ?_)
          refine wpL_cd (b := (aA0.Last != aB1.Last)) (fun hb => ?_) (fun hb => ?_)
          · replace hk := ct hb hk
            refine wpL_sq (wpL_rg ?_)
            refine pA (.bool _) ?_
            refine pE (gn (wpL_rt (gr ?_)))
            replace hk := Option.some.inj hk; subst hk; exact fin0 hO
          · replace hk := cf hb hk
            refine wpL_sk (gn (wpL_sq (wpL_rg ?_)))
            refine pA (.bool _) ?_
            refine pE (gn (wpL_rt ?_))
            replace hk := Option.some.inj hk; subst hk; exact fin0 hO
/-- laws.eqSectionS -/
def f132_L1 (aA0 : List Section) (aB1 : List Section) : Int → Option (Int ⊕ Bool) := fun s =>
  (bif decide (s < (aA0.length : Int)) then ((getI aA0 s).bind fun c2 => ((getI aB1 s).bind fun c3 => ((f252 c2 c3).bind fun v4 => (bif !v4 then ((some false).map Sum.inr) else some (.inl (w64 (s + (1:Int)))))))) else ((some true).map Sum.inr))
def f132 (aA0 : List Section) (aB1 : List Section) : Option Bool :=
  (bif ((aA0.length : Int) != (aB1.length : Int)) then some false else (loopO (f132_L1 aA0 aB1) ((0:Int))))
theorem f132_run {aA0 : List Section} {aB1 : List Section} {r : Bool} {l1 l2 : Nat} {H : Heap} {lk : Lk} (hk : f132 aA0 aB1 = some r) (hlk : 0 < lk.length := by simp) : runL Try.prog hh 132 [.lit l1 aA0.length ((flatL 0) aA0), .lit l2 aB1.length ((flatL 0) aB1)] H lk = some (.bool r, H) := by
  refine run_start Try.func132 rfl Try.ntmps132 Try.results132 rfl rfl fun hO => ?_
  unfold f132 at hk
  refine wpL_sq (wpL_rg ?_)
  refine pA (.bool _) ?_
  refine pE (gn (wpL_sq (wpL_sq (wpL_rg ?_))))
  refine pM (.lit _ _ _) ?_
  refine pLen tS37 ?_
  refine pM (.lit _ _ _) ?_
  refine pLen tS37 ?_
  refine pBi ?_
  refine pE (gn ?_)
  refine wpL_cd (b := ((aA0.length : Int) != (aB1.length : Int))) (fun hb => ?_) (fun hb => ?_)
  · replace hk := ct hb hk
    refine wpL_sq (wpL_rg ?_)
    refine pA (.bool _) ?_
    refine pE (gn (wpL_rt (gr ?_)))
    replace hk := Option.some.inj hk; subst hk; exact fin0 hO
  · replace hk := cf hb hk
    refine wpL_sk (gn (wpL_sq (wpL_sq (wpL_rg ?_))))
    refine pA (.int _ _) ?_
    refine pE (gn (wpL_bl ?_))
    refine wpL_loopO (F := f132_L1 aA0 aB1) (fun s S' => ∃ (J : Nat → V) (G : Heap), Owns H G [] ∧ S' = ⟨hav [(0, .lit l1 aA0.length ((flatL 0) aA0)), (1, .lit l2 aB1.length ((flatL 0) aB1)), (5, .int .i64 s)] J, G⟩) hk ⟨_, _, hO, St.hav _ ⟨rfl, rfl, rfl, trivial⟩⟩ ?_
    rintro x1 _ y1 ⟨J, G, hO, rfl⟩ hk hx1
    refine wpL_sq (wpL_sq (wpL_rg ?_))
    refine pM (.int _ _) ?_
    refine pM (.lit _ _ _) ?_
    refine pLen tS37 ?_
    refine pBi ?_
    refine pE (gn ?_)
    refine wpL_cd (b := decide (x1 < (aA0.length : Int))) (fun hb => ?_) (fun hb => ?_)
    · replace hk := ct hb hk
      refine wpL_sk (gn (wpL_sq (wpL_bl (wpL_sq ?_))))
      refine wpL_drw [(0, true), (1, true), (2, true), (3, true), (4, true), (5, true), (6, true), (7, true), (8, false), (9, false)] [_, _, _, _, _, _, _, _, _, _] (by decide +kernel) (by rfl) ?_
      refine pM (.lit _ _ _) ?_
      refine pM (.int _ _) ?_
      obtain ⟨c2, hc2, hk⟩ := bs hk
      refine pX hc2 tE37 tZ233 ?_
      refine pLp (.agg [_, _, _, _, _]) (rd2 (lm := 0) (off := 0) hc2 tA233 tZ233) ?_
      refine pM (.lit _ _ _) ?_
      refine pM (.int _ _) ?_
      obtain ⟨c3, hc3, hk⟩ := bs hk
      refine pX hc3 tE37 tZ233 ?_
      refine pLp (.agg [_, _, _, _, _]) (rd2 (lm := 0) (off := 0) hc3 tA233 tZ233) ?_
      obtain ⟨v4, hv4, hk⟩ := bs hk
      refine pCall (fun _ => f252_run hv4) ?_
      refine pU ?_
      refine pE (gn ?_)
      refine wpL_cd (b := !v4) (fun hb => ?_) (fun hb => ?_)
      · replace hk := ct hb hk
        refine wpL_sq (wpL_rg ?_)
        refine pA (.bool _) ?_
        refine pE (gn (wpL_rt (br (gr (gr (br (gr ?_)))))))
        replace hk := lx hx1 hk
        replace hk := Option.some.inj hk; subst hk; exact fin0 hO
      · replace hk := cf hb hk
        refine wpL_sk (bn (gn (wpL_rg ?_)))
        refine pM (.int _ _) ?_
        refine pBi ?_
        refine pA (.int _ _) ?_
        refine pE (gn ?_)
        cases hk; exact ⟨_, rfl, _, _, hO, St.hav _ ⟨rfl, rfl, rfl, trivial⟩⟩
    · replace hk := cf hb hk
      refine wpL_ex (ge (ge (be (gn ?_))))
      replace hk := lx hx1 hk
      refine wpL_sq (wpL_rg ?_)
      refine pA (.bool _) ?_
      refine pE (gn (wpL_rt ?_))
      replace hk := Option.some.inj hk; subst hk; exact fin0 hO
/-- laws.eqBoolS -/
def f133_L1 (aA0 : List Bool) (aB1 : List Bool) : Int → Option (Int ⊕ Bool) := fun s =>
  (bif decide (s < (aA0.length : Int)) then ((getI aA0 s).bind fun c2 => ((getI aB1 s).bind fun c3 => (bif !(c2 == c3) then ((some false).map Sum.inr) else some (.inl (w64 (s + (1:Int))))))) else ((some true).map Sum.inr))
def f133 (aA0 : List Bool) (aB1 : List Bool) : Option Bool :=
  (bif ((aA0.length : Int) != (aB1.length : Int)) then some false else (loopO (f133_L1 aA0 aB1) ((0:Int))))
theorem f133_run {aA0 : List Bool} {aB1 : List Bool} {r : Bool} {l1 l2 : Nat} {H : Heap} {lk : Lk} (hk : f133 aA0 aB1 = some r) (hlk : 0 < lk.length := by simp) : runL Try.prog hh 133 [.lit l1 aA0.length ((flatL 0) aA0), .lit l2 aB1.length ((flatL 0) aB1)] H lk = some (.bool r, H) := by
  refine run_start Try.func133 rfl Try.ntmps133 Try.results133 rfl rfl fun hO => ?_
  unfold f133 at hk
  refine wpL_sq (wpL_rg ?_)
  refine pA (.bool _) ?_
  refine pE (gn (wpL_sq (wpL_sq (wpL_rg ?_))))
  refine pM (.lit _ _ _) ?_
  refine pLen tS38 ?_
  refine pM (.lit _ _ _) ?_
  refine pLen tS38 ?_
  refine pBi ?_
  refine pE (gn ?_)
  refine wpL_cd (b := ((aA0.length : Int) != (aB1.length : Int))) (fun hb => ?_) (fun hb => ?_)
  · replace hk := ct hb hk
    refine wpL_sq (wpL_rg ?_)
    refine pA (.bool _) ?_
    refine pE (gn (wpL_rt (gr ?_)))
    replace hk := Option.some.inj hk; subst hk; exact fin0 hO
  · replace hk := cf hb hk
    refine wpL_sk (gn (wpL_sq (wpL_sq (wpL_rg ?_))))
    refine pA (.int _ _) ?_
    refine pE (gn (wpL_bl ?_))
    refine wpL_loopO (F := f133_L1 aA0 aB1) (fun s S' => ∃ (J : Nat → V) (G : Heap), Owns H G [] ∧ S' = ⟨hav [(0, .lit l1 aA0.length ((flatL 0) aA0)), (1, .lit l2 aB1.length ((flatL 0) aB1)), (5, .int .i64 s)] J, G⟩) hk ⟨_, _, hO, St.hav _ ⟨rfl, rfl, rfl, trivial⟩⟩ ?_
    rintro x1 _ y1 ⟨J, G, hO, rfl⟩ hk hx1
    refine wpL_sq (wpL_sq (wpL_rg ?_))
    refine pM (.int _ _) ?_
    refine pM (.lit _ _ _) ?_
    refine pLen tS38 ?_
    refine pBi ?_
    refine pE (gn ?_)
    refine wpL_cd (b := decide (x1 < (aA0.length : Int))) (fun hb => ?_) (fun hb => ?_)
    · replace hk := ct hb hk
      refine wpL_sk (gn (wpL_sq (wpL_bl (wpL_sq ?_))))
      refine wpL_drw [(0, true), (1, true), (2, true), (3, true), (4, true), (5, true), (6, true), (7, true), (8, false)] [_, _, _, _, _, _, _, _, _] (by decide +kernel) (by rfl) ?_
      refine pM (.lit _ _ _) ?_
      refine pM (.int _ _) ?_
      obtain ⟨c2, hc2, hk⟩ := bs hk
      refine pX hc2 tE38 tZ4 ?_
      refine pLp (.bool _) (rd1 (lm := 0) (off := 0) hc2 tA4) ?_
      refine pM (.lit _ _ _) ?_
      refine pM (.int _ _) ?_
      obtain ⟨c3, hc3, hk⟩ := bs hk
      refine pX hc3 tE38 tZ4 ?_
      refine pLp (.bool _) (rd1 (lm := 0) (off := 0) hc3 tA4) ?_
      refine pBn Try.underlying4 ?_
      refine pE (gn ?_)
      refine wpL_cd (b := !(c2 == c3)) (fun hb => ?_) (fun hb => ?_)
      · replace hk := ct hb hk
        refine wpL_sq (wpL_rg ?_)
        refine pA (.bool _) ?_
        refine pE (gn (wpL_rt (br (gr (gr (br (gr ?_)))))))
        replace hk := lx hx1 hk
        replace hk := Option.some.inj hk; subst hk; exact fin0 hO
      · replace hk := cf hb hk
        refine wpL_sk (bn (gn (wpL_rg ?_)))
        refine pM (.int _ _) ?_
        refine pBi ?_
        refine pA (.int _ _) ?_
        refine pE (gn ?_)
        cases hk; exact ⟨_, rfl, _, _, hO, St.hav _ ⟨rfl, rfl, rfl, trivial⟩⟩
    · replace hk := cf hb hk
      refine wpL_ex (ge (ge (be (gn ?_))))
      replace hk := lx hx1 hk
      refine wpL_sq (wpL_rg ?_)
      refine pA (.bool _) ?_
      refine pE (gn (wpL_rt ?_))
      replace hk := Option.some.inj hk; subst hk; exact fin0 hO
/-- laws.eqCountState -/
def f35 (aA0 : CountState) (aB1 : CountState) : Option Bool :=
  (bif !(aA0.Ok == aB1.Ok) then some false else ((f132 aA0.Sections aB1.Sections).bind fun v3 => (bif !v3 then some false else ((f133 aA0.Dead aB1.Dead).bind fun v4 => (bif !v4 then some false else some true)))))
theorem f35_run {aA0 : CountState} {aB1 : CountState} {r : Bool} {l1 l2 l3 l4 : Nat} {H : Heap} {lk : Lk} (hk : f35 aA0 aB1 = some r) (hlk : 0 < lk.length := by simp) : runL Try.prog hh 35 [.agg [.bool aA0.Ok, .lit l1 aA0.Sections.length ((flatL 0) aA0.Sections), .lit l2 aA0.Dead.length ((flatL 0) aA0.Dead)], .agg [.bool aB1.Ok, .lit l3 aB1.Sections.length ((flatL 0) aB1.Sections), .lit l4 aB1.Dead.length ((flatL 0) aB1.Dead)]] H lk = some (.bool r, H) := by
  refine run_start Try.func35 rfl Try.ntmps35 Try.results35 rfl rfl fun hO => ?_
  unfold f35 at hk
  refine wpL_sq (wpL_rg ?_)
  refine pBox (cs := [_, _, _]) hO tZ40 (fun b1 G hO => ?_)
  refine pBox (cs := [_, _, _]) hO tZ40 (fun b2 G hO => ?_)
  refine pA (.bool _) ?_
  refine pE (gn (wpL_sq (wpL_sq (wpL_rg ?_))))
  refine pF tF40_0 ?_
  refine pLo hO 1 (.bool _) tA4 ?_
  refine pF tF40_0 ?_
  refine pLo hO 0 (.bool _) tA4 ?_
  refine pBn Try.underlying4 ?_
  refine pE (gn ?_)
  refine wpL_cd (b := !(aA0.Ok == aB1.Ok)) (fun hb => ?_) (fun hb => ?_)
  · replace hk := ct hb hk
    refine wpL_sq (wpL_rg ?_)
    refine pA (.bool _) ?_
    refine pE (gn (wpL_rt (gr ?_)))
    replace hk := Option.some.inj hk; subst hk; exact fin0 hO
  · replace hk := cf hb hk
    refine wpL_sk (gn (wpL_sq (wpL_sq (wpL_rg ?_))))
    refine pF tF40_1 ?_
    refine pLo hO 1 (.lit _ _ _) tA37 ?_
    refine pF tF40_1 ?_
    refine pLo hO 0 (.lit _ _ _) tA37 ?_
    obtain ⟨v3, hv3, hk⟩ := bs hk
    refine pCall (fun _ => f132_run hv3) ?_
    refine pU ?_
    refine pE (gn ?_)
    refine wpL_cd (b := !v3) (fun hb => ?_) (fun hb => ?_)
    · replace hk := ct hb hk
      refine wpL_sq (wpL_rg ?_)
      refine pA (.bool _) ?_
      refine pE (gn (wpL_rt (gr ?_)))
      replace hk := Option.some.inj hk; subst hk; exact fin0 hO
    · replace hk := cf hb hk
      refine wpL_sk (gn (wpL_sq (wpL_sq (wpL_rg ?_))))
      refine pF tF40_2 ?_
      refine pLo hO 1 (.lit _ _ _) tA38 ?_
      refine pF tF40_2 ?_
      refine pLo hO 0 (.lit _ _ _) tA38 ?_
      obtain ⟨v4, hv4, hk⟩ := bs hk
      refine pCall (fun _ => f133_run hv4) ?_
      refine pU ?_
      refine pE (gn ?_)
      refine wpL_cd (b := !v4) (fun hb => ?_) (fun hb => ?_)
      · replace hk := ct hb hk
        refine wpL_sq (wpL_rg ?_)
        refine pA (.bool _) ?_
        refine pE (gn (wpL_rt (gr ?_)))
        replace hk := Option.some.inj hk; subst hk; exact fin0 hO
      · replace hk := cf hb hk
        refine wpL_sk (gn (wpL_sq (wpL_rg ?_)))
        refine pA (.bool _) ?_
        refine pE (gn (wpL_rt ?_))
        replace hk := Option.some.inj hk; subst hk; exact fin0 hO
/-- laws.eqCountDone -/
def f74 (aA0 : CountDone) (aB1 : CountDone) : Option Bool :=
  (bif (aA0.Code != aB1.Code) then some false else ((f35 aA0.State aB1.State).bind fun v3 => (bif !v3 then some false else some true)))
theorem f74_run {aA0 : CountDone} {aB1 : CountDone} {r : Bool} {l1 l2 l3 l4 : Nat} {H : Heap} {lk : Lk} (hk : f74 aA0 aB1 = some r) (hlk : 0 < lk.length := by simp) : runL Try.prog hh 74 [.agg [.int .i64 aA0.Code, .bool aA0.State.Ok, .lit l1 aA0.State.Sections.length ((flatL 0) aA0.State.Sections), .lit l2 aA0.State.Dead.length ((flatL 0) aA0.State.Dead)], .agg [.int .i64 aB1.Code, .bool aB1.State.Ok, .lit l3 aB1.State.Sections.length ((flatL 0) aB1.State.Sections), .lit l4 aB1.State.Dead.length ((flatL 0) aB1.State.Dead)]] H lk = some (.bool r, H) := by
  refine run_start Try.func74 rfl Try.ntmps74 Try.results74 rfl rfl fun hO => ?_
  unfold f74 at hk
  refine wpL_sq (wpL_rg ?_)
  refine pBox (cs := [_, _, _, _]) hO tZ110 (fun b1 G hO => ?_)
  refine pBox (cs := [_, _, _, _]) hO tZ110 (fun b2 G hO => ?_)
  refine pA (.bool _) ?_
  refine pE (gn (wpL_sq (wpL_sq (wpL_rg ?_))))
  refine pF tF110_0 ?_
  refine pLo hO 1 (.int _ _) tA3 ?_
  refine pF tF110_0 ?_
  refine pLo hO 0 (.int _ _) tA3 ?_
  refine pBi ?_
  refine pE (gn ?_)
  refine wpL_cd (b := (aA0.Code != aB1.Code)) (fun hb => ?_) (fun hb => ?_)
  · replace hk := ct hb hk
    refine wpL_sq (wpL_rg ?_)
    refine pA (.bool _) ?_
    refine pE (gn (wpL_rt (gr ?_)))
    replace hk := Option.some.inj hk; subst hk; exact fin0 hO
  · replace hk := cf hb hk
    refine wpL_sk (gn (wpL_sq (wpL_sq (wpL_rg ?_))))
    refine pF tF110_1 ?_
    refine pLs hO 1 [_, _, _] tA40 tZ40 ?_
    refine pF tF110_1 ?_
    refine pLs hO 0 [_, _, _] tA40 tZ40 ?_
    obtain ⟨v3, hv3, hk⟩ := bs hk
    refine pCall (fun _ => f35_run hv3) ?_
    refine pU ?_
    refine pE (gn ?_)
    refine wpL_cd (b := !v3) (fun hb => ?_) (fun hb => ?_)
    · replace hk := ct hb hk
      refine wpL_sq (wpL_rg ?_)
      refine pA (.bool _) ?_
      refine pE (gn (wpL_rt (gr ?_)))
      replace hk := Option.some.inj hk; subst hk; exact fin0 hO
    · replace hk := cf hb hk
      refine wpL_sk (gn (wpL_sq (wpL_rg ?_)))
      refine pA (.bool _) ?_
      refine pE (gn (wpL_rt ?_))
      replace hk := Option.some.inj hk; subst hk; exact fin0 hO
/-- laws.eqCounter -/
def f251 (aA0 : Counter) (aB1 : Counter) : Option Bool :=
  (bif (aA0.From != aB1.From) then some false else (bif (aA0.To != aB1.To) then some false else some true))
theorem f251_run {aA0 : Counter} {aB1 : Counter} {r : Bool} {H : Heap} {lk : Lk} (hk : f251 aA0 aB1 = some r) (hlk : 0 < lk.length := by simp) : runL Try.prog hh 251 [.agg [.int .i64 aA0.From, .int .i64 aA0.To], .agg [.int .i64 aB1.From, .int .i64 aB1.To]] H lk = some (.bool r, H) := by
  refine run_start Try.func251 rfl Try.ntmps251 Try.results251 rfl rfl fun hO => ?_
  unfold f251 at hk
  refine wpL_sq (wpL_rg ?_)
  refine pBox (cs := [_, _]) hO tZ184 (fun b1 G hO => ?_)
  refine pBox (cs := [_, _]) hO tZ184 (fun b2 G hO => ?_)
  refine pA (.bool _) ?_
  refine pE (gn (wpL_sq (wpL_sq (wpL_rg ?_))))
  refine pF tF184_0 ?_
  refine pLo hO 1 (.int _ _) tA3 ?_
  refine pF tF184_0 ?_
  refine pLo hO 0 (.int _ _) tA3 ?_
  refine pBi ?_
  refine pE (gn ?_)
  refine wpL_cd (b := (aA0.From != aB1.From)) (fun hb => ?_) (fun hb => ?_)
  · replace hk := ct hb hk
    refine wpL_sq (wpL_rg ?_)
    refine pA (.bool _) ?_
    refine pE (gn (wpL_rt (gr ?_)))
    replace hk := Option.some.inj hk; subst hk; exact fin0 hO
  · replace hk := cf hb hk
    refine wpL_sk (gn (wpL_sq (wpL_sq (wpL_rg ?_))))
    refine pF tF184_1 ?_
    refine pLo hO 1 (.int _ _) tA3 ?_
    refine pF tF184_1 ?_
    refine pLo hO 0 (.int _ _) tA3 ?_
    refine pBi ?_
    refine pE (gn ?_)
    refine wpL_cd (b := (aA0.To != aB1.To)) (fun hb => ?_) (fun hb => ?_)
    · replace hk := ct hb hk
      refine wpL_sq (wpL_rg ?_)
      refine pA (.bool _) ?_
      refine pE (gn (wpL_rt (gr ?_)))
      replace hk := Option.some.inj hk; subst hk; exact fin0 hO
    · replace hk := cf hb hk
      refine wpL_sk (gn (wpL_sq (wpL_rg ?_)))
      refine pA (.bool _) ?_
      refine pE (gn (wpL_rt ?_))
      replace hk := Option.some.inj hk; subst hk; exact fin0 hO
/-- laws.eqCounterS -/
def f130_L1 (aA0 : List Counter) (aB1 : List Counter) : Int → Option (Int ⊕ Bool) := fun s =>
  (bif decide (s < (aA0.length : Int)) then ((getI aA0 s).bind fun c2 => ((getI aB1 s).bind fun c3 => ((f251 c2 c3).bind fun v4 => (bif !v4 then ((some false).map Sum.inr) else some (.inl (w64 (s + (1:Int)))))))) else ((some true).map Sum.inr))
def f130 (aA0 : List Counter) (aB1 : List Counter) : Option Bool :=
  (bif ((aA0.length : Int) != (aB1.length : Int)) then some false else (loopO (f130_L1 aA0 aB1) ((0:Int))))
theorem f130_run {aA0 : List Counter} {aB1 : List Counter} {r : Bool} {l1 l2 : Nat} {H : Heap} {lk : Lk} (hk : f130 aA0 aB1 = some r) (hlk : 0 < lk.length := by simp) : runL Try.prog hh 130 [.lit l1 aA0.length ((flatL 0) aA0), .lit l2 aB1.length ((flatL 0) aB1)] H lk = some (.bool r, H) := by
  refine run_start Try.func130 rfl Try.ntmps130 Try.results130 rfl rfl fun hO => ?_
  unfold f130 at hk
  refine wpL_sq (wpL_rg ?_)
  refine pA (.bool _) ?_
  refine pE (gn (wpL_sq (wpL_sq (wpL_rg ?_))))
  refine pM (.lit _ _ _) ?_
  refine pLen tS28 ?_
  refine pM (.lit _ _ _) ?_
  refine pLen tS28 ?_
  refine pBi ?_
  refine pE (gn ?_)
  refine wpL_cd (b := ((aA0.length : Int) != (aB1.length : Int))) (fun hb => ?_) (fun hb => ?_)
  · replace hk := ct hb hk
    refine wpL_sq (wpL_rg ?_)
    refine pA (.bool _) ?_
    refine pE (gn (wpL_rt (gr ?_)))
    replace hk := Option.some.inj hk; subst hk; exact fin0 hO
  · replace hk := cf hb hk
    refine wpL_sk (gn (wpL_sq (wpL_sq (wpL_rg ?_))))
    refine pA (.int _ _) ?_
    refine pE (gn (wpL_bl ?_))
    refine wpL_loopO (F := f130_L1 aA0 aB1) (fun s S' => ∃ (J : Nat → V) (G : Heap), Owns H G [] ∧ S' = ⟨hav [(0, .lit l1 aA0.length ((flatL 0) aA0)), (1, .lit l2 aB1.length ((flatL 0) aB1)), (5, .int .i64 s)] J, G⟩) hk ⟨_, _, hO, St.hav _ ⟨rfl, rfl, rfl, trivial⟩⟩ ?_
    rintro x1 _ y1 ⟨J, G, hO, rfl⟩ hk hx1
    refine wpL_sq (wpL_sq (wpL_rg ?_))
    refine pM (.int _ _) ?_
    refine pM (.lit _ _ _) ?_
    refine pLen tS28 ?_
    refine pBi ?_
    refine pE (gn ?_)
    refine wpL_cd (b := decide (x1 < (aA0.length : Int))) (fun hb => ?_) (fun hb => ?_)
    · replace hk := ct hb hk
      refine wpL_sk (gn (wpL_sq (wpL_bl (wpL_sq ?_))))
      refine wpL_drw [(0, true), (1, true), (2, true), (3, true), (4, true), (5, true), (6, true), (7, true), (8, false), (9, false)] [_, _, _, _, _, _, _, _, _, _] (by decide +kernel) (by rfl) ?_
      refine pM (.lit _ _ _) ?_
      refine pM (.int _ _) ?_
      obtain ⟨c2, hc2, hk⟩ := bs hk
      refine pX hc2 tE28 tZ184 ?_
      refine pLp (.agg [_, _]) (rd2 (lm := 0) (off := 0) hc2 tA184 tZ184) ?_
      refine pM (.lit _ _ _) ?_
      refine pM (.int _ _) ?_
      obtain ⟨c3, hc3, hk⟩ := bs hk
      refine pX hc3 tE28 tZ184 ?_
      refine pLp (.agg [_, _]) (rd2 (lm := 0) (off := 0) hc3 tA184 tZ184) ?_
      obtain ⟨v4, hv4, hk⟩ := bs hk
      refine pCall (fun _ => f251_run hv4) ?_
      refine pU ?_
      refine pE (gn ?_)
      refine wpL_cd (b := !v4) (fun hb => ?_) (fun hb => ?_)
      · replace hk := ct hb hk
        refine wpL_sq (wpL_rg ?_)
        refine pA (.bool _) ?_
        refine pE (gn (wpL_rt (br (gr (gr (br (gr ?_)))))))
        replace hk := lx hx1 hk
        replace hk := Option.some.inj hk; subst hk; exact fin0 hO
      · replace hk := cf hb hk
        refine wpL_sk (bn (gn (wpL_rg ?_)))
        refine pM (.int _ _) ?_
        refine pBi ?_
        refine pA (.int _ _) ?_
        refine pE (gn ?_)
        cases hk; exact ⟨_, rfl, _, _, hO, St.hav _ ⟨rfl, rfl, rfl, trivial⟩⟩
    · replace hk := cf hb hk
      refine wpL_ex (ge (ge (be (gn ?_))))
      replace hk := lx hx1 hk
      refine wpL_sq (wpL_rg ?_)
      refine pA (.bool _) ?_
      refine pE (gn (wpL_rt ?_))
      replace hk := Option.some.inj hk; subst hk; exact fin0 hO
/-- laws.eqLayout -/
def f29 (aA0 : Layout) (aB1 : Layout) : Option Bool :=
  (bif (aA0.Sections != aB1.Sections) then some false else ((f130 aA0.Counters aB1.Counters).bind fun v3 => (bif !v3 then some false else some true)))
theorem f29_run {aA0 : Layout} {aB1 : Layout} {r : Bool} {l1 l2 : Nat} {H : Heap} {lk : Lk} (hk : f29 aA0 aB1 = some r) (hlk : 0 < lk.length := by simp) : runL Try.prog hh 29 [.agg [.int .i64 aA0.Sections, .lit l1 aA0.Counters.length ((flatL 0) aA0.Counters)], .agg [.int .i64 aB1.Sections, .lit l2 aB1.Counters.length ((flatL 0) aB1.Counters)]] H lk = some (.bool r, H) := by
  refine run_start Try.func29 rfl Try.ntmps29 Try.results29 rfl rfl fun hO => ?_
  unfold f29 at hk
  refine wpL_sq (wpL_rg ?_)
  refine pBox (cs := [_, _]) hO tZ30 (fun b1 G hO => ?_)
  refine pBox (cs := [_, _]) hO tZ30 (fun b2 G hO => ?_)
  refine pA (.bool _) ?_
  refine pE (gn (wpL_sq (wpL_sq (wpL_rg ?_))))
  refine pF tF30_0 ?_
  refine pLo hO 1 (.int _ _) tA3 ?_
  refine pF tF30_0 ?_
  refine pLo hO 0 (.int _ _) tA3 ?_
  refine pBi ?_
  refine pE (gn ?_)
  refine wpL_cd (b := (aA0.Sections != aB1.Sections)) (fun hb => ?_) (fun hb => ?_)
  · replace hk := ct hb hk
    refine wpL_sq (wpL_rg ?_)
    refine pA (.bool _) ?_
    refine pE (gn (wpL_rt (gr ?_)))
    replace hk := Option.some.inj hk; subst hk; exact fin0 hO
  · replace hk := cf hb hk
    refine wpL_sk (gn (wpL_sq (wpL_sq (wpL_rg ?_))))
    refine pF tF30_1 ?_
    refine pLo hO 1 (.lit _ _ _) tA28 ?_
    refine pF tF30_1 ?_
    refine pLo hO 0 (.lit _ _ _) tA28 ?_
    obtain ⟨v3, hv3, hk⟩ := bs hk
    refine pCall (fun _ => f130_run hv3) ?_
    refine pU ?_
    refine pE (gn ?_)
    refine wpL_cd (b := !v3) (fun hb => ?_) (fun hb => ?_)
    · replace hk := ct hb hk
      refine wpL_sq (wpL_rg ?_)
      refine pA (.bool _) ?_
      refine pE (gn (wpL_rt (gr ?_)))
      replace hk := Option.some.inj hk; subst hk; exact fin0 hO
    · replace hk := cf hb hk
      refine wpL_sk (gn (wpL_sq (wpL_rg ?_)))
      refine pA (.bool _) ?_
      refine pE (gn (wpL_rt ?_))
      replace hk := Option.some.inj hk; subst hk; exact fin0 hO
/-- laws.markCounterS -/
def f131_L1 : ((List Counter) × Int × Int) → Option (((List Counter) × Int × Int) ⊕ (List Counter × Int)) := fun s =>
  (bif decide (s.2.2 < (s.1.length : Int)) then ((getI s.1 s.2.2).bind fun c4 => ((getI (s.1.set s.2.2.toNat ({ c4 with From := s.2.1 })) s.2.2).bind fun c7 => some (.inl ((s.1.set s.2.2.toNat ({ c4 with From := s.2.1 })).set s.2.2.toNat ({ c7 with To := w64 (s.2.1 + (1:Int)) }), w64 ((w64 (s.2.1 + (1:Int))) + (1:Int)), w64 (s.2.2 + (1:Int)))))) else ((some (s.1, s.2.1)).map Sum.inr))
def f131 (aA0 : List Counter) (aK1 : Int) : Option (List Counter × Int) :=
  (loopO (f131_L1) (aA0, aK1, (0:Int)))
theorem f131_run {aA0 : List Counter} {aK1 : Int} {r : (List Counter × Int)} {v0 : V} {F0 : List Nat} {H : Heap} {lk : Lk} (hk : f131 aA0 aK1 = some r) (ha : TrIn H aA0 [v0] F0) (hF : ∀ b ∈ F0, b < H.length) (hS : ∀ b ∈ F0, unlocked lk b = true) (hlk : 0 < lk.length := by simp) : ∃ v H1, runL Try.prog hh 131 [v0, .int .i64 aK1] H lk = some (v, H1) ∧ v = .int .i64 r.2 ∧ TrIn H1 r.1 [v0] F0 ∧ H1.length = H.length ∧ ∀ b, b ∉ F0 → H1[b]? = H[b]? := by
  refine run_startR Try.func131 rfl Try.ntmps131 Try.results131 rfl rfl ?_
  have hO := tree_start ha hF
  have hFr := Sees.refl H F0
  unfold f131 at hk
  refine wpL_sq (wpL_rg ?_)
  refine pA (.int _ _) ?_
  refine pE (gn (wpL_sq (wpL_sq (wpL_rg ?_))))
  refine pA (.int _ _) ?_
  refine pE (gn (wpL_bl ?_))
  refine wpL_loopO (F := f131_L1) (fun s S' => ∃ (J : Nat → V) (G : Heap) (H1 : Heap), Sees H H1 F0 ∧ Owns H1 G [Tree F0 F0 s.1 [v0]] ∧ S' = ⟨hav [(0, v0), (1, .int .i64 s.2.1), (5, .int .i64 s.2.2)] J, G⟩) hk ⟨_, _, _, hFr, hO, St.hav _ ⟨rfl, rfl, rfl, trivial⟩⟩ ?_
  rintro ⟨x1, x2, x3⟩ _ y1 ⟨J, G, H1, hFr, hO, rfl⟩ hk hx1
  refine wpL_sq (wpL_sq (wpL_rg ?_))
  refine pM (.int _ _) ?_
  refine pM v0 ?_
  refine pLenT hO 0 tS28 ?_
  refine pBi ?_
  refine pE (gn ?_)
  refine wpL_cd (b := decide (x3 < (x1.length : Int))) (fun hb => ?_) (fun hb => ?_)
  · replace hk := ct hb hk
    refine wpL_sk (gn (wpL_sq (wpL_bl (wpL_sq (wpL_rg ?_)))))
    refine pM v0 ?_
    refine pM (.int _ _) ?_
    refine pM (.int _ _) ?_
    obtain ⟨c4, hc4, hk⟩ := bs hk
    refine pXT hO 0 hc4 tE28 tZ184 (fun b5 hb5 => ?_)
    refine pF tF184_0 ?_
    refine pST foc_Counter_From (y' := x2) hO 0 hb5 hc4 tZ3 (fun _ => ⟨rfl, rfl⟩) hFr hS rfl (fun H1 G hFr hO => ?_)
    have hc_6 := getI_set hc4 ({ c4 with From := x2 } : Counter)
    have hv_6 := sl_set (j := x3.toNat) (y := ({ c4 with From := x2 } : Counter)) hb5
    refine pE (gn (wpL_sq (wpL_rg ?_)))
    refine pM (.int _ _) ?_
    refine pBi ?_
    refine pA (.int _ _) ?_
    refine pE (gn (wpL_sq (wpL_rg ?_)))
    refine pM v0 ?_
    refine pM (.int _ _) ?_
    refine pM (.int _ _) ?_
    obtain ⟨c7, hc7, hk⟩ := bs hk
    refine pXT hO 0 hc7 tE28 tZ184 (fun b8 hb8 => ?_)
    refine pF tF184_1 ?_
    refine pST foc_Counter_To (y' := (w64 (x2 + (1:Int)))) hO 0 hb8 hc7 tZ3 (fun _ => ⟨rfl, rfl⟩) hFr hS rfl (fun H1 G hFr hO => ?_)
    have hc_9 := getI_set hc7 ({ c7 with To := w64 (x2 + (1:Int)) } : Counter)
    have hv_9 := sl_set (j := x3.toNat) (y := ({ c7 with To := w64 (x2 + (1:Int)) } : Counter)) hb8
    refine pE (gn (wpL_rg ?_))
    refine pM (.int _ _) ?_
    refine pBi ?_
    refine pA (.int _ _) ?_
    refine pE (bn (gn (wpL_rg ?_)))
    refine pM (.int _ _) ?_
    refine pBi ?_
    refine pA (.int _ _) ?_
    refine pE (gn ?_)
    cases hk; exact ⟨_, rfl, _, _, _, hFr, hO, St.hav _ ⟨rfl, rfl, rfl, trivial⟩⟩
  · replace hk := cf hb hk
    refine wpL_ex (ge (ge (be (gn ?_))))
    replace hk := lx hx1 hk
    refine wpL_sq (wpL_rg ?_)
    refine pM (.int _ _) ?_
    refine pA (.int _ _) ?_
    refine pE (gn (wpL_rt ?_))
    replace hk := Option.some.inj hk; subst hk; exact finT hO 0 hFr hF
/-- laws.markLayout -/
def f30 (aA0 : Layout) (aK1 : Int) : Option (Layout × Int) :=
  ((f131 aA0.Counters aK1).bind fun z3 => some ({ aA0 with Counters := z3.1 }, z3.2))
theorem f30_run {aA0 : Layout} {aK1 : Int} {r : (Layout × Int)} {v0 : List V} {F0 : List Nat} {H : Heap} {lk : Lk} (hk : f30 aA0 aK1 = some r) (ha : TrIn H aA0 v0 F0) (hF : ∀ b ∈ F0, b < H.length) (hS : ∀ b ∈ F0, unlocked lk b = true) (hlk : 0 < lk.length := by simp) : ∃ v H1, runL Try.prog hh 30 [.agg v0, .int .i64 aK1] H lk = some (v, H1) ∧ v = .int .i64 r.2 ∧ TrIn H1 r.1 v0 F0 ∧ H1.length = H.length ∧ ∀ b, b ∉ F0 → H1[b]? = H[b]? := by
  refine run_startR Try.func30 rfl Try.ntmps30 Try.results30 rfl rfl ?_
  have hO := tree_start ha hF
  have hFr := Sees.refl H F0
  unfold f30 at hk
  refine wpL_sq (wpL_rg ?_)
  refine pBoxT hO 0 tZ30 (fun b1 G hO => ?_)
  refine pA (.int _ _) ?_
  refine pE (gn (wpL_sq (wpL_rg ?_)))
  refine pF tF30_1 ?_
  refine pLTs foc_Layout_Counters hO 0 1 tA28 (fun u2 fs2 hs2 => ?_)
  refine pM (.int _ _) ?_
  obtain ⟨z3, hz3, hk⟩ := bs hk
  refine pCT (y' := z3.1) (r := .int .i64 z3.2) hO 1 hs2 (fun _ h => h) hFr hS (fun hF1 hS1 ht1 => f131_run hz3 ht1 hF1 hS1) (fun H1 G hFr hO => ?_)
  refine pA (.int _ _) ?_
  refine pE (gn (wpL_sq (wpL_rg ?_)))
  refine pM (.int _ _) ?_
  refine pA (.int _ _) ?_
  refine pE (gn (wpL_rt ?_))
  replace hk := Option.some.inj hk; subst hk; exact finT hO 1 hFr hF
/-- laws.markSectionS -/
def f134_L1 : ((List Section) × Int × Int) → Option (((List Section) × Int × Int) ⊕ (List Section × Int)) := fun s =>
  (bif decide (s.2.2 < (s.1.length : Int)) then ((getI s.1 s.2.2).bind fun c4 => ((getI (s.1.set s.2.2.toNat ({ c4 with Told := s.2.1 })) s.2.2).bind fun c7 => ((getI ((s.1.set s.2.2.toNat ({ c4 with Told := s.2.1 })).set s.2.2.toNat ({ c7 with Count := w64 (s.2.1 + (1:Int)) })) s.2.2).bind fun c10 => ((getI (((s.1.set s.2.2.toNat ({ c4 with Told := s.2.1 })).set s.2.2.toNat ({ c7 with Count := w64 (s.2.1 + (1:Int)) })).set s.2.2.toNat ({ c10 with Lost := ((Int.tmod (w64 ((w64 (s.2.1 + (1:Int))) + (1:Int))) (3:Int)) == (0:Int)) })) s.2.2).bind fun c13 => ((getI ((((s.1.set s.2.2.toNat ({ c4 with Told := s.2.1 })).set s.2.2.toNat ({ c7 with Count := w64 (s.2.1 + (1:Int)) })).set s.2.2.toNat ({ c10 with Lost := ((Int.tmod (w64 ((w64 (s.2.1 + (1:Int))) + (1:Int))) (3:Int)) == (0:Int)) })).set s.2.2.toNat ({ c13 with Sweep := ((Int.tmod (w64 ((w64 ((w64 (s.2.1 + (1:Int))) + (1:Int))) + (1:Int))) (3:Int)) == (0:Int)) })) s.2.2).bind fun c16 => some (.inl (((((s.1.set s.2.2.toNat ({ c4 with Told := s.2.1 })).set s.2.2.toNat ({ c7 with Count := w64 (s.2.1 + (1:Int)) })).set s.2.2.toNat ({ c10 with Lost := ((Int.tmod (w64 ((w64 (s.2.1 + (1:Int))) + (1:Int))) (3:Int)) == (0:Int)) })).set s.2.2.toNat ({ c13 with Sweep := ((Int.tmod (w64 ((w64 ((w64 (s.2.1 + (1:Int))) + (1:Int))) + (1:Int))) (3:Int)) == (0:Int)) })).set s.2.2.toNat ({ c16 with Last := w64 ((w64 ((w64 ((w64 (s.2.1 + (1:Int))) + (1:Int))) + (1:Int))) + (1:Int)) }), w64 ((w64 ((w64 ((w64 ((w64 (s.2.1 + (1:Int))) + (1:Int))) + (1:Int))) + (1:Int))) + (1:Int)), w64 (s.2.2 + (1:Int))))))))) else ((some (s.1, s.2.1)).map Sum.inr))
def f134 (aA0 : List Section) (aK1 : Int) : Option (List Section × Int) :=
  (loopO (f134_L1) (aA0, aK1, (0:Int)))
theorem f134_run {aA0 : List Section} {aK1 : Int} {r : (List Section × Int)} {v0 : V} {F0 : List Nat} {H : Heap} {lk : Lk} (hk : f134 aA0 aK1 = some r) (ha : TrIn H aA0 [v0] F0) (hF : ∀ b ∈ F0, b < H.length) (hS : ∀ b ∈ F0, unlocked lk b = true) (hlk : 0 < lk.length := by simp) : ∃ v H1, runL Try.prog hh 134 [v0, .int .i64 aK1] H lk = some (v, H1) ∧ v = .int .i64 r.2 ∧ TrIn H1 r.1 [v0] F0 ∧ H1.length = H.length ∧ ∀ b, b ∉ F0 → H1[b]? = H[b]? := by
  refine run_startR Try.func134 rfl Try.ntmps134 Try.results134 rfl rfl ?_
  have hO := tree_start ha hF
  have hFr := Sees.refl H F0
  unfold f134 at hk
  refine wpL_sq (wpL_rg ?_)
  refine pA (.int _ _) ?_
  refine pE (gn (wpL_sq (wpL_sq (wpL_rg ?_))))
  refine pA (.int _ _) ?_
  refine pE (gn (wpL_bl ?_))
  refine wpL_loopO (F := f134_L1) (fun s S' => ∃ (J : Nat → V) (G : Heap) (H1 : Heap), Sees H H1 F0 ∧ Owns H1 G [Tree F0 F0 s.1 [v0]] ∧ S' = ⟨hav [(0, v0), (1, .int .i64 s.2.1), (5, .int .i64 s.2.2)] J, G⟩) hk ⟨_, _, _, hFr, hO, St.hav _ ⟨rfl, rfl, rfl, trivial⟩⟩ ?_
  rintro ⟨x1, x2, x3⟩ _ y1 ⟨J, G, H1, hFr, hO, rfl⟩ hk hx1
  refine wpL_sq (wpL_sq (wpL_rg ?_))
  refine pM (.int _ _) ?_
  refine pM v0 ?_
  refine pLenT hO 0 tS37 ?_
  refine pBi ?_
  refine pE (gn ?_)
  refine wpL_cd (b := decide (x3 < (x1.length : Int))) (fun hb => ?_) (fun hb => ?_)
  · replace hk := ct hb hk
    refine wpL_sk (gn (wpL_sq (wpL_bl (wpL_sq (wpL_rg ?_)))))
    refine pM v0 ?_
    refine pM (.int _ _) ?_
    refine pM (.int _ _) ?_
    obtain ⟨c4, hc4, hk⟩ := bs hk
    refine pXT hO 0 hc4 tE37 tZ233 (fun b5 hb5 => ?_)
    refine pF tF233_0 ?_
    refine pST foc_Section_Told (y' := x2) hO 0 hb5 hc4 tZ3 (fun _ => ⟨rfl, rfl⟩) hFr hS rfl (fun H1 G hFr hO => ?_)
    have hc_6 := getI_set hc4 ({ c4 with Told := x2 } : Section)
    have hv_6 := sl_set (j := x3.toNat) (y := ({ c4 with Told := x2 } : Section)) hb5
    refine pE (gn (wpL_sq (wpL_rg ?_)))
    refine pM (.int _ _) ?_
    refine pBi ?_
    refine pA (.int _ _) ?_
    refine pE (gn (wpL_sq (wpL_rg ?_)))
    refine pM v0 ?_
    refine pM (.int _ _) ?_
    refine pM (.int _ _) ?_
    obtain ⟨c7, hc7, hk⟩ := bs hk
    refine pXT hO 0 hc7 tE37 tZ233 (fun b8 hb8 => ?_)
    refine pF tF233_1 ?_
    refine pST foc_Section_Count (y' := (w64 (x2 + (1:Int)))) hO 0 hb8 hc7 tZ3 (fun _ => ⟨rfl, rfl⟩) hFr hS rfl (fun H1 G hFr hO => ?_)
    have hc_9 := getI_set hc7 ({ c7 with Count := w64 (x2 + (1:Int)) } : Section)
    have hv_9 := sl_set (j := x3.toNat) (y := ({ c7 with Count := w64 (x2 + (1:Int)) } : Section)) hb8
    refine pE (gn (wpL_sq (wpL_rg ?_)))
    refine pM (.int _ _) ?_
    refine pBi ?_
    refine pA (.int _ _) ?_
    refine pE (gn (wpL_sq (wpL_rg ?_)))
    refine pM v0 ?_
    refine pM (.int _ _) ?_
    refine pM (.int _ _) ?_
    refine pBi ?_
    refine pBi ?_
    obtain ⟨c10, hc10, hk⟩ := bs hk
    refine pXT hO 0 hc10 tE37 tZ233 (fun b11 hb11 => ?_)
    refine pF tF233_2 ?_
    refine pST foc_Section_Lost (y' := ((Int.tmod (w64 ((w64 (x2 + (1:Int))) + (1:Int))) (3:Int)) == (0:Int))) hO 0 hb11 hc10 tZ4 (fun _ => ⟨rfl, rfl⟩) hFr hS rfl (fun H1 G hFr hO => ?_)
    have hc_12 := getI_set hc10 ({ c10 with Lost := ((Int.tmod (w64 ((w64 (x2 + (1:Int))) + (1:Int))) (3:Int)) == (0:Int)) } : Section)
    have hv_12 := sl_set (j := x3.toNat) (y := ({ c10 with Lost := ((Int.tmod (w64 ((w64 (x2 + (1:Int))) + (1:Int))) (3:Int)) == (0:Int)) } : Section)) hb11
    refine pE (gn (wpL_sq (wpL_rg ?_)))
    refine pM (.int _ _) ?_
    refine pBi ?_
    refine pA (.int _ _) ?_
    refine pE (gn (wpL_sq (wpL_rg ?_)))
    refine pM v0 ?_
    refine pM (.int _ _) ?_
    refine pM (.int _ _) ?_
    refine pBi ?_
    refine pBi ?_
    obtain ⟨c13, hc13, hk⟩ := bs hk
    refine pXT hO 0 hc13 tE37 tZ233 (fun b14 hb14 => ?_)
    refine pF tF233_3 ?_
    refine pST foc_Section_Sweep (y' := ((Int.tmod (w64 ((w64 ((w64 (x2 + (1:Int))) + (1:Int))) + (1:Int))) (3:Int)) == (0:Int))) hO 0 hb14 hc13 tZ4 (fun _ => ⟨rfl, rfl⟩) hFr hS rfl (fun H1 G hFr hO => ?_)
    have hc_15 := getI_set hc13 ({ c13 with Sweep := ((Int.tmod (w64 ((w64 ((w64 (x2 + (1:Int))) + (1:Int))) + (1:Int))) (3:Int)) == (0:Int)) } : Section)
    have hv_15 := sl_set (j := x3.toNat) (y := ({ c13 with Sweep := ((Int.tmod (w64 ((w64 ((w64 (x2 + (1:Int))) + (1:Int))) + (1:Int))) (3:Int)) == (0:Int)) } : Section)) hb14
    refine pE (gn (wpL_sq (wpL_rg ?_)))
    refine pM (.int _ _) ?_
    refine pBi ?_
    refine pA (.int _ _) ?_
    refine pE (gn (wpL_sq (wpL_rg ?_)))
    refine pM v0 ?_
    refine pM (.int _ _) ?_
    refine pM (.int _ _) ?_
    obtain ⟨c16, hc16, hk⟩ := bs hk
    refine pXT hO 0 hc16 tE37 tZ233 (fun b17 hb17 => ?_)
    refine pF tF233_4 ?_
    refine pST foc_Section_Last (y' := (w64 ((w64 ((w64 ((w64 (x2 + (1:Int))) + (1:Int))) + (1:Int))) + (1:Int)))) hO 0 hb17 hc16 tZ3 (fun _ => ⟨rfl, rfl⟩) hFr hS rfl (fun H1 G hFr hO => ?_)
    have hc_18 := getI_set hc16 ({ c16 with Last := w64 ((w64 ((w64 ((w64 (x2 + (1:Int))) + (1:Int))) + (1:Int))) + (1:Int)) } : Section)
    have hv_18 := sl_set (j := x3.toNat) (y := ({ c16 with Last := w64 ((w64 ((w64 ((w64 (x2 + (1:Int))) + (1:Int))) + (1:Int))) + (1:Int)) } : Section)) hb17
    refine pE (gn (wpL_rg ?_))
    refine pM (.int _ _) ?_
    refine pBi ?_
    refine pA (.int _ _) ?_
    refine pE (bn (gn (wpL_rg ?_)))
    refine pM (.int _ _) ?_
    refine pBi ?_
    refine pA (.int _ _) ?_
    refine pE (gn ?_)
    cases hk; exact ⟨_, rfl, _, _, _, hFr, hO, St.hav _ ⟨rfl, rfl, rfl, trivial⟩⟩
  · replace hk := cf hb hk
    refine wpL_ex (ge (ge (be (gn ?_))))
    replace hk := lx hx1 hk
    refine wpL_sq (wpL_rg ?_)
    refine pM (.int _ _) ?_
    refine pA (.int _ _) ?_
    refine pE (gn (wpL_rt ?_))
    replace hk := Option.some.inj hk; subst hk; exact finT hO 0 hFr hF
/-- laws.markBoolS -/
def f135_L1 : ((List Bool) × Int × Int) → Option (((List Bool) × Int × Int) ⊕ (List Bool × Int)) := fun s =>
  (bif decide (s.2.2 < (s.1.length : Int)) then ((getI s.1 s.2.2).bind fun c4 => some (.inl (s.1.set s.2.2.toNat ((Int.tmod s.2.1 (3:Int)) == (0:Int)), w64 (s.2.1 + (1:Int)), w64 (s.2.2 + (1:Int))))) else ((some (s.1, s.2.1)).map Sum.inr))
def f135 (aA0 : List Bool) (aK1 : Int) : Option (List Bool × Int) :=
  (loopO (f135_L1) (aA0, aK1, (0:Int)))
theorem f135_run {aA0 : List Bool} {aK1 : Int} {r : (List Bool × Int)} {v0 : V} {F0 : List Nat} {H : Heap} {lk : Lk} (hk : f135 aA0 aK1 = some r) (ha : TrIn H aA0 [v0] F0) (hF : ∀ b ∈ F0, b < H.length) (hS : ∀ b ∈ F0, unlocked lk b = true) (hlk : 0 < lk.length := by simp) : ∃ v H1, runL Try.prog hh 135 [v0, .int .i64 aK1] H lk = some (v, H1) ∧ v = .int .i64 r.2 ∧ TrIn H1 r.1 [v0] F0 ∧ H1.length = H.length ∧ ∀ b, b ∉ F0 → H1[b]? = H[b]? := by
  refine run_startR Try.func135 rfl Try.ntmps135 Try.results135 rfl rfl ?_
  have hO := tree_start ha hF
  have hFr := Sees.refl H F0
  unfold f135 at hk
  refine wpL_sq (wpL_rg ?_)
  refine pA (.int _ _) ?_
  refine pE (gn (wpL_sq (wpL_sq (wpL_rg ?_))))
  refine pA (.int _ _) ?_
  refine pE (gn (wpL_bl ?_))
  refine wpL_loopO (F := f135_L1) (fun s S' => ∃ (J : Nat → V) (G : Heap) (H1 : Heap), Sees H H1 F0 ∧ Owns H1 G [Tree F0 F0 s.1 [v0]] ∧ S' = ⟨hav [(0, v0), (1, .int .i64 s.2.1), (5, .int .i64 s.2.2)] J, G⟩) hk ⟨_, _, _, hFr, hO, St.hav _ ⟨rfl, rfl, rfl, trivial⟩⟩ ?_
  rintro ⟨x1, x2, x3⟩ _ y1 ⟨J, G, H1, hFr, hO, rfl⟩ hk hx1
  refine wpL_sq (wpL_sq (wpL_rg ?_))
  refine pM (.int _ _) ?_
  refine pM v0 ?_
  refine pLenT hO 0 tS38 ?_
  refine pBi ?_
  refine pE (gn ?_)
  refine wpL_cd (b := decide (x3 < (x1.length : Int))) (fun hb => ?_) (fun hb => ?_)
  · replace hk := ct hb hk
    refine wpL_sk (gn (wpL_sq (wpL_bl (wpL_sq (wpL_rg ?_)))))
    refine pM v0 ?_
    refine pM (.int _ _) ?_
    refine pM (.int _ _) ?_
    refine pBi ?_
    refine pBi ?_
    obtain ⟨c4, hc4, hk⟩ := bs hk
    refine pXT hO 0 hc4 tE38 tZ4 (fun b5 hb5 => ?_)
    refine pST (Foc.all (α := Bool)) (y' := ((Int.tmod x2 (3:Int)) == (0:Int))) hO 0 hb5 hc4 tZ4 (fun _ => ⟨rfl, rfl⟩) hFr hS rfl (fun H1 G hFr hO => ?_)
    have hc_6 := getI_set hc4 ((Int.tmod x2 (3:Int)) == (0:Int))
    have hv_6 := sl_set (j := x3.toNat) (y := ((Int.tmod x2 (3:Int)) == (0:Int))) hb5
    refine pE (gn (wpL_rg ?_))
    refine pM (.int _ _) ?_
    refine pBi ?_
    refine pA (.int _ _) ?_
    refine pE (bn (gn (wpL_rg ?_)))
    refine pM (.int _ _) ?_
    refine pBi ?_
    refine pA (.int _ _) ?_
    refine pE (gn ?_)
    cases hk; exact ⟨_, rfl, _, _, _, hFr, hO, St.hav _ ⟨rfl, rfl, rfl, trivial⟩⟩
  · replace hk := cf hb hk
    refine wpL_ex (ge (ge (be (gn ?_))))
    replace hk := lx hx1 hk
    refine wpL_sq (wpL_rg ?_)
    refine pM (.int _ _) ?_
    refine pA (.int _ _) ?_
    refine pE (gn (wpL_rt ?_))
    replace hk := Option.some.inj hk; subst hk; exact finT hO 0 hFr hF
/-- laws.markCountState -/
def f36 (aA0 : CountState) (aK1 : Int) : Option (CountState × Int) :=
  ((f134 aA0.Sections aK1).bind fun z3 => ((f135 (({ aA0 with Sections := z3.1 }).Dead) z3.2).bind fun z5 => some ({ { aA0 with Sections := z3.1 } with Dead := z5.1 }, z5.2)))
theorem f36_run {aA0 : CountState} {aK1 : Int} {r : (CountState × Int)} {v0 : List V} {F0 : List Nat} {H : Heap} {lk : Lk} (hk : f36 aA0 aK1 = some r) (ha : TrIn H aA0 v0 F0) (hF : ∀ b ∈ F0, b < H.length) (hS : ∀ b ∈ F0, unlocked lk b = true) (hlk : 0 < lk.length := by simp) : ∃ v H1, runL Try.prog hh 36 [.agg v0, .int .i64 aK1] H lk = some (v, H1) ∧ v = .int .i64 r.2 ∧ TrIn H1 r.1 v0 F0 ∧ H1.length = H.length ∧ ∀ b, b ∉ F0 → H1[b]? = H[b]? := by
  refine run_startR Try.func36 rfl Try.ntmps36 Try.results36 rfl rfl ?_
  have hO := tree_start ha hF
  have hFr := Sees.refl H F0
  unfold f36 at hk
  refine wpL_sq (wpL_rg ?_)
  refine pBoxT hO 0 tZ40 (fun b1 G hO => ?_)
  refine pA (.int _ _) ?_
  refine pE (gn (wpL_sq (wpL_rg ?_)))
  refine pF tF40_1 ?_
  refine pLTs foc_CountState_Sections hO 0 1 tA37 (fun u2 fs2 hs2 => ?_)
  refine pM (.int _ _) ?_
  obtain ⟨z3, hz3, hk⟩ := bs hk
  refine pCT (y' := z3.1) (r := .int .i64 z3.2) hO 1 hs2 (fun _ h => h) hFr hS (fun hF1 hS1 ht1 => f134_run hz3 ht1 hF1 hS1) (fun H1 G hFr hO => ?_)
  refine pA (.int _ _) ?_
  refine pE (gn (wpL_sq (wpL_rg ?_)))
  refine pF tF40_2 ?_
  refine pLTs foc_CountState_Dead hO 0 1 tA38 (fun u4 fs4 hs4 => ?_)
  refine pM (.int _ _) ?_
  obtain ⟨z5, hz5, hk⟩ := bs hk
  refine pCT (y' := z5.1) (r := .int .i64 z5.2) hO 1 hs4 (fun _ h => h) hFr hS (fun hF1 hS1 ht1 => f135_run hz5 ht1 hF1 hS1) (fun H1 G hFr hO => ?_)
  refine pA (.int _ _) ?_
  refine pE (gn (wpL_sq (wpL_rg ?_)))
  refine pM (.int _ _) ?_
  refine pA (.int _ _) ?_
  refine pE (gn (wpL_rt ?_))
  replace hk := Option.some.inj hk; subst hk; exact finT hO 1 hFr hF
/-- laws.markCountDone -/
def f75 (aA0 : CountDone) (aK1 : Int) : Option (CountDone × Int) :=
  ((f36 aA0.State aK1).bind fun z3 => some ({ aA0 with State := z3.1 }, z3.2))
theorem f75_run {aA0 : CountDone} {aK1 : Int} {r : (CountDone × Int)} {v0 : List V} {F0 : List Nat} {H : Heap} {lk : Lk} (hk : f75 aA0 aK1 = some r) (ha : TrIn H aA0 v0 F0) (hF : ∀ b ∈ F0, b < H.length) (hS : ∀ b ∈ F0, unlocked lk b = true) (hlk : 0 < lk.length := by simp) : ∃ v H1, runL Try.prog hh 75 [.agg v0, .int .i64 aK1] H lk = some (v, H1) ∧ v = .int .i64 r.2 ∧ TrIn H1 r.1 v0 F0 ∧ H1.length = H.length ∧ ∀ b, b ∉ F0 → H1[b]? = H[b]? := by
  refine run_startR Try.func75 rfl Try.ntmps75 Try.results75 rfl rfl ?_
  have hO := tree_start ha hF
  have hFr := Sees.refl H F0
  unfold f75 at hk
  refine wpL_sq (wpL_rg ?_)
  refine pBoxT hO 0 tZ110 (fun b1 G hO => ?_)
  refine pA (.int _ _) ?_
  refine pE (gn (wpL_sq (wpL_rg ?_)))
  refine pF tF110_1 ?_
  refine pLTa foc_CountDone_State hO 0 1 tA40 tZ40 (fun u2 fs2 hs2 => ?_)
  refine pM (.int _ _) ?_
  obtain ⟨z3, hz3, hk⟩ := bs hk
  refine pCT (y' := z3.1) (r := .int .i64 z3.2) hO 1 hs2 (fun _ h => h) hFr hS (fun hF1 hS1 ht1 => f36_run hz3 ht1 hF1 hS1) (fun H1 G hFr hO => ?_)
  refine pA (.int _ _) ?_
  refine pE (gn (wpL_sq (wpL_rg ?_)))
  refine pM (.int _ _) ?_
  refine pA (.int _ _) ?_
  refine pE (gn (wpL_rt ?_))
  replace hk := Option.some.inj hk; subst hk; exact finT hO 1 hFr hF
/-- laws.heldSectionS -/
def f136_L1 (aA0 : List Section) : (Int × Int) → Option ((Int × Int) ⊕ Int) := fun s =>
  (bif decide (s.2 < (aA0.length : Int)) then ((getI aA0 s.2).bind fun c3 => (bif (c3.Told != s.1) then ((some (-1:Int)).map Sum.inr) else ((getI aA0 s.2).bind fun c4 => (bif (c4.Count != (w64 (s.1 + (1:Int)))) then ((some (-1:Int)).map Sum.inr) else ((getI aA0 s.2).bind fun c5 => (bif !(c5.Lost == ((Int.tmod (w64 ((w64 (s.1 + (1:Int))) + (1:Int))) (3:Int)) == (0:Int))) then ((some (-1:Int)).map Sum.inr) else ((getI aA0 s.2).bind fun c6 => (bif !(c6.Sweep == ((Int.tmod (w64 ((w64 ((w64 (s.1 + (1:Int))) + (1:Int))) + (1:Int))) (3:Int)) == (0:Int))) then ((some (-1:Int)).map Sum.inr) else ((getI aA0 s.2).bind fun c7 => (bif (c7.Last != (w64 ((w64 ((w64 ((w64 (s.1 + (1:Int))) + (1:Int))) + (1:Int))) + (1:Int)))) then ((some (-1:Int)).map Sum.inr) else some (.inl (w64 ((w64 ((w64 ((w64 ((w64 (s.1 + (1:Int))) + (1:Int))) + (1:Int))) + (1:Int))) + (1:Int)), w64 (s.2 + (1:Int)))))))))))))) else ((some s.1).map Sum.inr))
def f136 (aA0 : List Section) (aK1 : Int) : Option Int :=
  (loopO (f136_L1 aA0) (aK1, (0:Int)))
theorem f136_run {aA0 : List Section} {aK1 : Int} {r : Int} {l1 : Nat} {H : Heap} {lk : Lk} (hk : f136 aA0 aK1 = some r) (hlk : 0 < lk.length := by simp) : runL Try.prog hh 136 [.lit l1 aA0.length ((flatL 0) aA0), .int .i64 aK1] H lk = some (.int .i64 r, H) := by
  refine run_start Try.func136 rfl Try.ntmps136 Try.results136 rfl rfl fun hO => ?_
  unfold f136 at hk
  refine wpL_sq (wpL_rg ?_)
  refine pA (.int _ _) ?_
  refine pE (gn (wpL_sq (wpL_sq (wpL_rg ?_))))
  refine pA (.int _ _) ?_
  refine pE (gn (wpL_bl ?_))
  refine wpL_loopO (F := f136_L1 aA0) (fun s S' => ∃ (J : Nat → V) (G : Heap), Owns H G [] ∧ S' = ⟨hav [(0, .lit l1 aA0.length ((flatL 0) aA0)), (1, .int .i64 s.1), (5, .int .i64 s.2)] J, G⟩) hk ⟨_, _, hO, St.hav _ ⟨rfl, rfl, rfl, trivial⟩⟩ ?_
  rintro ⟨x1, x2⟩ _ y1 ⟨J, G, hO, rfl⟩ hk hx1
  refine wpL_sq (wpL_sq (wpL_rg ?_))
  refine pM (.int _ _) ?_
  refine pM (.lit _ _ _) ?_
  refine pLen tS37 ?_
  refine pBi ?_
  refine pE (gn ?_)
  refine wpL_cd (b := decide (x2 < (aA0.length : Int))) (fun hb => ?_) (fun hb => ?_)
  · replace hk := ct hb hk
    refine wpL_sk (gn (wpL_sq (wpL_bl (wpL_sq (wpL_sq (wpL_rg ?_))))))
    refine pM (.lit _ _ _) ?_
    refine pM (.int _ _) ?_
    obtain ⟨c3, hc3, hk⟩ := bs hk
    refine pX hc3 tE37 tZ233 ?_
    refine pF tF233_0 ?_
    refine pLp (.int _ _) (rd1 (lm := 0) (off := 0) hc3 tA3) ?_
    refine pM (.int _ _) ?_
    refine pBi ?_
    refine pE (gn ?_)
    refine wpL_cd (b := (c3.Told != x1)) (fun hb => ?_) (fun hb => ?_)
    · replace hk := ct hb hk
      refine wpL_sq (wpL_rg ?_)
      refine pA (.int _ _) ?_
      refine pE (gn (wpL_rt (gr (br (gr (gr (br (gr ?_))))))))
      replace hk := lx hx1 hk
      replace hk := Option.some.inj hk; subst hk; exact fin0 hO
    · replace hk := cf hb hk
      refine wpL_sk (gn (wpL_sq (wpL_rg ?_)))
      refine pM (.int _ _) ?_
      refine pBi ?_
      refine pA (.int _ _) ?_
      refine pE (gn (wpL_sq (wpL_sq (wpL_rg ?_))))
      refine pM (.lit _ _ _) ?_
      refine pM (.int _ _) ?_
      obtain ⟨c4, hc4, hk⟩ := bs hk
      refine pX hc4 tE37 tZ233 ?_
      refine pF tF233_1 ?_
      refine pLp (.int _ _) (rd1 (lm := 0) (off := 1) hc4 tA3) ?_
      refine pM (.int _ _) ?_
      refine pBi ?_
      refine pE (gn ?_)
      refine wpL_cd (b := (c4.Count != (w64 (x1 + (1:Int))))) (fun hb => ?_) (fun hb => ?_)
      · replace hk := ct hb hk
        refine wpL_sq (wpL_rg ?_)
        refine pA (.int _ _) ?_
        refine pE (gn (wpL_rt (gr (br (gr (gr (br (gr ?_))))))))
        replace hk := lx hx1 hk
        replace hk := Option.some.inj hk; subst hk; exact fin0 hO
      · replace hk := cf hb hk
        refine wpL_sk (gn (wpL_sq (wpL_rg ?_)))
        refine pM (.int _ _) ?_
        refine pBi ?_
        refine pA (.int _ _) ?_
        refine pE (gn (wpL_sq (wpL_sq (wpL_rg ?_))))
        refine pM (.lit _ _ _) ?_
        refine pM (.int _ _) ?_
        obtain ⟨c5, hc5, hk⟩ := bs hk
        refine pX hc5 tE37 tZ233 ?_
        refine pF tF233_2 ?_
        refine pLp (.bool _) (rd1 (lm := 0) (off := 2) hc5 tA4) ?_
        refine pM (.int _ _) ?_
        refine pBi ?_
        refine pBi ?_
        refine pBn Try.underlying4 ?_
        refine pE (gn ?_)
        refine wpL_cd (b := !(c5.Lost == ((Int.tmod (w64 ((w64 (x1 + (1:Int))) + (1:Int))) (3:Int)) == (0:Int)))) (fun hb => ?_) (fun hb => ?_)
        · replace hk := ct hb hk
          refine wpL_sq (wpL_rg ?_)
          refine pA (.int _ _) ?_
          refine pE (gn (wpL_rt (gr (br (gr (gr (br (gr ?_))))))))
          replace hk := lx hx1 hk
          replace hk := Option.some.inj hk; subst hk; exact fin0 hO
        · replace hk := cf hb hk
          refine wpL_sk (gn (wpL_sq (wpL_rg ?_)))
          refine pM (.int _ _) ?_
          refine pBi ?_
          refine pA (.int _ _) ?_
          refine pE (gn (wpL_sq (wpL_sq (wpL_rg ?_))))
          refine pM (.lit _ _ _) ?_
          refine pM (.int _ _) ?_
          obtain ⟨c6, hc6, hk⟩ := bs hk
          refine pX hc6 tE37 tZ233 ?_
          refine pF tF233_3 ?_
          refine pLp (.bool _) (rd1 (lm := 0) (off := 3) hc6 tA4) ?_
          refine pM (.int _ _) ?_
          refine pBi ?_
          refine pBi ?_
          refine pBn Try.underlying4 ?_
          refine pE (gn ?_)
          refine wpL_cd (b := !(c6.Sweep == ((Int.tmod (w64 ((w64 ((w64 (x1 + (1:Int))) + (1:Int))) + (1:Int))) (3:Int)) == (0:Int)))) (fun hb => ?_) (fun hb => ?_)
          · replace hk := ct hb hk
            refine wpL_sq (wpL_rg ?_)
            refine pA (.int _ _) ?_
            refine pE (gn (wpL_rt (gr (br (gr (gr (br (gr ?_))))))))
            replace hk := lx hx1 hk
            replace hk := Option.some.inj hk; subst hk; exact fin0 hO
          · replace hk := cf hb hk
            refine wpL_sk (gn (wpL_sq (wpL_rg ?_)))
            refine pM (.int _ _) ?_
            refine pBi ?_
            refine pA (.int _ _) ?_
            refine pE (gn (wpL_sq (wpL_sq (wpL_rg ?_))))
            refine pM (.lit _ _ _) ?_
            refine pM (.int _ _) ?_
            obtain ⟨c7, hc7, hk⟩ := bs hk
            refine pX hc7 tE37 tZ233 ?_
            refine pF tF233_4 ?_
            refine pLp (.int _ _) (rd1 (lm := 0) (off := 4) hc7 tA3) ?_
            refine pM (.int _ _) ?_
            refine pBi ?_
            refine pE (gn ?_)
            refine wpL_cd (b := (c7.Last != (w64 ((w64 ((w64 ((w64 (x1 + (1:Int))) + (1:Int))) + (1:Int))) + (1:Int))))) (fun hb => ?_) (fun hb => ?_)
            · replace hk := ct hb hk
              refine wpL_sq (wpL_rg ?_)
              refine pA (.int _ _) ?_
              refine pE (gn (wpL_rt (gr (br (gr (gr (br (gr ?_))))))))
              replace hk := lx hx1 hk
              replace hk := Option.some.inj hk; subst hk; exact fin0 hO
            · replace hk := cf hb hk
              refine wpL_sk (gn (wpL_rg ?_))
              refine pM (.int _ _) ?_
              refine pBi ?_
              refine pA (.int _ _) ?_
              refine pE (bn (gn (wpL_rg ?_)))
              refine pM (.int _ _) ?_
              refine pBi ?_
              refine pA (.int _ _) ?_
              refine pE (gn ?_)
              cases hk; exact ⟨_, rfl, _, _, hO, St.hav _ ⟨rfl, rfl, rfl, trivial⟩⟩
  · replace hk := cf hb hk
    refine wpL_ex (ge (ge (be (gn ?_))))
    replace hk := lx hx1 hk
    refine wpL_sq (wpL_rg ?_)
    refine pM (.int _ _) ?_
    refine pA (.int _ _) ?_
    refine pE (gn (wpL_rt ?_))
    replace hk := Option.some.inj hk; subst hk; exact fin0 hO
/-- laws.heldBoolS -/
def f137_L1 (aA0 : List Bool) : (Int × Int) → Option ((Int × Int) ⊕ Int) := fun s =>
  (bif decide (s.2 < (aA0.length : Int)) then ((getI aA0 s.2).bind fun c3 => (bif !(c3 == ((Int.tmod s.1 (3:Int)) == (0:Int))) then ((some (-1:Int)).map Sum.inr) else some (.inl (w64 (s.1 + (1:Int)), w64 (s.2 + (1:Int)))))) else ((some s.1).map Sum.inr))
def f137 (aA0 : List Bool) (aK1 : Int) : Option Int :=
  (loopO (f137_L1 aA0) (aK1, (0:Int)))
theorem f137_run {aA0 : List Bool} {aK1 : Int} {r : Int} {l1 : Nat} {H : Heap} {lk : Lk} (hk : f137 aA0 aK1 = some r) (hlk : 0 < lk.length := by simp) : runL Try.prog hh 137 [.lit l1 aA0.length ((flatL 0) aA0), .int .i64 aK1] H lk = some (.int .i64 r, H) := by
  refine run_start Try.func137 rfl Try.ntmps137 Try.results137 rfl rfl fun hO => ?_
  unfold f137 at hk
  refine wpL_sq (wpL_rg ?_)
  refine pA (.int _ _) ?_
  refine pE (gn (wpL_sq (wpL_sq (wpL_rg ?_))))
  refine pA (.int _ _) ?_
  refine pE (gn (wpL_bl ?_))
  refine wpL_loopO (F := f137_L1 aA0) (fun s S' => ∃ (J : Nat → V) (G : Heap), Owns H G [] ∧ S' = ⟨hav [(0, .lit l1 aA0.length ((flatL 0) aA0)), (1, .int .i64 s.1), (5, .int .i64 s.2)] J, G⟩) hk ⟨_, _, hO, St.hav _ ⟨rfl, rfl, rfl, trivial⟩⟩ ?_
  rintro ⟨x1, x2⟩ _ y1 ⟨J, G, hO, rfl⟩ hk hx1
  refine wpL_sq (wpL_sq (wpL_rg ?_))
  refine pM (.int _ _) ?_
  refine pM (.lit _ _ _) ?_
  refine pLen tS38 ?_
  refine pBi ?_
  refine pE (gn ?_)
  refine wpL_cd (b := decide (x2 < (aA0.length : Int))) (fun hb => ?_) (fun hb => ?_)
  · replace hk := ct hb hk
    refine wpL_sk (gn (wpL_sq (wpL_bl (wpL_sq (wpL_sq (wpL_rg ?_))))))
    refine pM (.lit _ _ _) ?_
    refine pM (.int _ _) ?_
    obtain ⟨c3, hc3, hk⟩ := bs hk
    refine pX hc3 tE38 tZ4 ?_
    refine pLp (.bool _) (rd1 (lm := 0) (off := 0) hc3 tA4) ?_
    refine pM (.int _ _) ?_
    refine pBi ?_
    refine pBi ?_
    refine pBn Try.underlying4 ?_
    refine pE (gn ?_)
    refine wpL_cd (b := !(c3 == ((Int.tmod x1 (3:Int)) == (0:Int)))) (fun hb => ?_) (fun hb => ?_)
    · replace hk := ct hb hk
      refine wpL_sq (wpL_rg ?_)
      refine pA (.int _ _) ?_
      refine pE (gn (wpL_rt (gr (br (gr (gr (br (gr ?_))))))))
      replace hk := lx hx1 hk
      replace hk := Option.some.inj hk; subst hk; exact fin0 hO
    · replace hk := cf hb hk
      refine wpL_sk (gn (wpL_rg ?_))
      refine pM (.int _ _) ?_
      refine pBi ?_
      refine pA (.int _ _) ?_
      refine pE (bn (gn (wpL_rg ?_)))
      refine pM (.int _ _) ?_
      refine pBi ?_
      refine pA (.int _ _) ?_
      refine pE (gn ?_)
      cases hk; exact ⟨_, rfl, _, _, hO, St.hav _ ⟨rfl, rfl, rfl, trivial⟩⟩
  · replace hk := cf hb hk
    refine wpL_ex (ge (ge (be (gn ?_))))
    replace hk := lx hx1 hk
    refine wpL_sq (wpL_rg ?_)
    refine pM (.int _ _) ?_
    refine pA (.int _ _) ?_
    refine pE (gn (wpL_rt ?_))
    replace hk := Option.some.inj hk; subst hk; exact fin0 hO
/-- laws.heldCountState -/
def f37 (aA0 : CountState) (aK1 : Int) : Option Int :=
  ((f136 aA0.Sections aK1).bind fun v2 => (bif decide (v2 < (0:Int)) then some (-1:Int) else ((f137 aA0.Dead v2).bind fun v3 => (bif decide (v3 < (0:Int)) then some (-1:Int) else some v3))))
theorem f37_run {aA0 : CountState} {aK1 : Int} {r : Int} {l1 l2 : Nat} {H : Heap} {lk : Lk} (hk : f37 aA0 aK1 = some r) (hlk : 0 < lk.length := by simp) : runL Try.prog hh 37 [.agg [.bool aA0.Ok, .lit l1 aA0.Sections.length ((flatL 0) aA0.Sections), .lit l2 aA0.Dead.length ((flatL 0) aA0.Dead)], .int .i64 aK1] H lk = some (.int .i64 r, H) := by
  refine run_start Try.func37 rfl Try.ntmps37 Try.results37 rfl rfl fun hO => ?_
  unfold f37 at hk
  refine wpL_sq (wpL_rg ?_)
  refine pBox (cs := [_, _, _]) hO tZ40 (fun b1 G hO => ?_)
  refine pA (.int _ _) ?_
  refine pE (gn (wpL_sq (wpL_rg ?_)))
  refine pF tF40_1 ?_
  refine pLo hO 0 (.lit _ _ _) tA37 ?_
  refine pM (.int _ _) ?_
  obtain ⟨v2, hv2, hk⟩ := bs hk
  refine pCall (fun _ => f136_run hv2) ?_
  refine pA (.int _ _) ?_
  refine pE (gn (wpL_sq (wpL_sq (wpL_rg ?_))))
  refine pM (.int _ _) ?_
  refine pBi ?_
  refine pE (gn ?_)
  refine wpL_cd (b := decide (v2 < (0:Int))) (fun hb => ?_) (fun hb => ?_)
  · replace hk := ct hb hk
    refine wpL_sq (wpL_rg ?_)
    refine pA (.int _ _) ?_
    refine pE (gn (wpL_rt (gr ?_)))
    replace hk := Option.some.inj hk; subst hk; exact fin0 hO
  · replace hk := cf hb hk
    refine wpL_sk (gn (wpL_sq (wpL_rg ?_)))
    refine pF tF40_2 ?_
    refine pLo hO 0 (.lit _ _ _) tA38 ?_
    refine pM (.int _ _) ?_
    obtain ⟨v3, hv3, hk⟩ := bs hk
    refine pCall (fun _ => f137_run hv3) ?_
    refine pA (.int _ _) ?_
    refine pE (gn (wpL_sq (wpL_sq (wpL_rg ?_))))
    refine pM (.int _ _) ?_
    refine pBi ?_
    refine pE (gn ?_)
    refine wpL_cd (b := decide (v3 < (0:Int))) (fun hb => ?_) (fun hb => ?_)
    · replace hk := ct hb hk
      refine wpL_sq (wpL_rg ?_)
      refine pA (.int _ _) ?_
      refine pE (gn (wpL_rt (gr ?_)))
      replace hk := Option.some.inj hk; subst hk; exact fin0 hO
    · replace hk := cf hb hk
      refine wpL_sk (gn (wpL_sq (wpL_rg ?_)))
      refine pM (.int _ _) ?_
      refine pA (.int _ _) ?_
      refine pE (gn (wpL_rt ?_))
      replace hk := Option.some.inj hk; subst hk; exact fin0 hO
/-- laws.heldCountDone -/
def f76 (aA0 : CountDone) (aK1 : Int) : Option Int :=
  ((f37 aA0.State aK1).bind fun v2 => (bif decide (v2 < (0:Int)) then some (-1:Int) else some v2))
theorem f76_run {aA0 : CountDone} {aK1 : Int} {r : Int} {l1 l2 : Nat} {H : Heap} {lk : Lk} (hk : f76 aA0 aK1 = some r) (hlk : 0 < lk.length := by simp) : runL Try.prog hh 76 [.agg [.int .i64 aA0.Code, .bool aA0.State.Ok, .lit l1 aA0.State.Sections.length ((flatL 0) aA0.State.Sections), .lit l2 aA0.State.Dead.length ((flatL 0) aA0.State.Dead)], .int .i64 aK1] H lk = some (.int .i64 r, H) := by
  refine run_start Try.func76 rfl Try.ntmps76 Try.results76 rfl rfl fun hO => ?_
  unfold f76 at hk
  refine wpL_sq (wpL_rg ?_)
  refine pBox (cs := [_, _, _, _]) hO tZ110 (fun b1 G hO => ?_)
  refine pA (.int _ _) ?_
  refine pE (gn (wpL_sq (wpL_rg ?_)))
  refine pF tF110_1 ?_
  refine pLs hO 0 [_, _, _] tA40 tZ40 ?_
  refine pM (.int _ _) ?_
  obtain ⟨v2, hv2, hk⟩ := bs hk
  refine pCall (fun _ => f37_run hv2) ?_
  refine pA (.int _ _) ?_
  refine pE (gn (wpL_sq (wpL_sq (wpL_rg ?_))))
  refine pM (.int _ _) ?_
  refine pBi ?_
  refine pE (gn ?_)
  refine wpL_cd (b := decide (v2 < (0:Int))) (fun hb => ?_) (fun hb => ?_)
  · replace hk := ct hb hk
    refine wpL_sq (wpL_rg ?_)
    refine pA (.int _ _) ?_
    refine pE (gn (wpL_rt (gr ?_)))
    replace hk := Option.some.inj hk; subst hk; exact fin0 hO
  · replace hk := cf hb hk
    refine wpL_sk (gn (wpL_sq (wpL_rg ?_)))
    refine pM (.int _ _) ?_
    refine pA (.int _ _) ?_
    refine pE (gn (wpL_rt ?_))
    replace hk := Option.some.inj hk; subst hk; exact fin0 hO
/-- laws.FnExactDoCount -/
def f11 (aAL0 : Layout) (aAS1 : CountState) (aAE2 : CountEvent) : Option Bool :=
  ((f24 aAL0 (1048576:Int)).bind fun v4 => (bif decide (v4 < (0:Int)) then some true else ((f69 aAS1 v4).bind fun v5 => (bif decide (v5 < (0:Int)) then some true else ((f26 aAL0).bind fun v6 => ((f71 aAS1).bind fun v8 => ((f72 aAE2).bind fun v10 => ((f70 v6 v8 v10).bind fun v11 => ((f26 aAL0).bind fun v16 => ((f71 aAS1).bind fun v19 => ((f72 aAE2).bind fun v22 => ((f73 v16 v19 v22).bind fun v23 => ((f74 v23 v11).bind fun v28 => (bif !v28 then some false else ((f26 aAL0).bind fun v31 => ((f29 v16 v31).bind fun v33 => (bif !v33 then some false else ((f71 aAS1).bind fun v36 => ((f35 v19 v36).bind fun v38 => (bif !v38 then some false else ((f30 v16 (1:Int)).bind fun z41 => ((f36 v19 z41.2).bind fun z42 => ((bif decide (z42.2 < (0:Int)) then some true else ((f74 v23 v11).bind fun v44 => some (!v44))).bind fun t43 => (bif t43 then some false else ((f75 v23 (1:Int)).bind fun z47 => ((f76 z47.1 (1:Int)).bind fun v48 => (bif decide (v48 < (0:Int)) then some false else (bif (v48 != z47.2) then some false else ((f26 aAL0).bind fun v50 => ((f71 aAS1).bind fun v52 => ((f72 aAE2).bind fun v54 => ((f73 v50 v52 v54).bind fun v55 => ((f74 v55 v11).bind fun v60 => (bif !v60 then some false else ((f76 z47.1 (1:Int)).bind fun v63 => (bif decide (v63 < (0:Int)) then some false else (bif (v63 != z47.2) then some false else some true)))))))))))))))))))))))))))))))))))))
theorem f11_run {aAL0 : Layout} {aAS1 : CountState} {aAE2 : CountEvent} {r : Bool} {l1 l2 l3 : Nat} {H : Heap} {lk : Lk} (hk : f11 aAL0 aAS1 aAE2 = some r) (hlk : 0 < lk.length := by simp) (hlo : LkOk lk H.length := by simp [LkOk]) : runL Try.prog hh 11 [.agg [.int .i64 aAL0.Sections, .lit l1 aAL0.Counters.length ((flatL 0) aAL0.Counters)], .agg [.bool aAS1.Ok, .lit l2 aAS1.Sections.length ((flatL 0) aAS1.Sections), .lit l3 aAS1.Dead.length ((flatL 0) aAS1.Dead)], .agg [.int .i64 aAE2.Op, .int .i64 aAE2.Of, .int .i64 aAE2.Dir]] H lk = some (.bool r, H) := by
  refine run_start Try.func11 rfl Try.ntmps11 Try.results11 rfl rfl fun hO => ?_
  unfold f11 at hk
  refine wpL_sq (wpL_rg ?_)
  refine pBox (cs := [_, _]) hO tZ24 (fun b1 G hO => ?_)
  refine pBox (cs := [_, _, _]) hO tZ105 (fun b2 G hO => ?_)
  refine pBox (cs := [_, _, _]) hO tZ107 (fun b3 G hO => ?_)
  refine pA (.bool _) ?_
  refine pE (gn (wpL_sq (wpL_rg ?_)))
  refine pA (.int _ _) ?_
  refine pE (gn (wpL_sq (wpL_rg ?_)))
  refine pLs hO 2 [_, _] tA24 tZ24 ?_
  refine pM (.int _ _) ?_
  obtain ⟨v4, hv4, hk⟩ := bs hk
  refine pCall (fun _ => f24_run hv4) ?_
  refine pA (.int _ _) ?_
  refine pE (gn (wpL_sq (wpL_sq (wpL_rg ?_))))
  refine pM (.int _ _) ?_
  refine pBi ?_
  refine pE (gn ?_)
  refine wpL_cd (b := decide (v4 < (0:Int))) (fun hb => ?_) (fun hb => ?_)
  · replace hk := ct hb hk
    refine wpL_sq (wpL_rg ?_)
    refine pA (.bool _) ?_
    refine pE (gn (wpL_rt (gr ?_)))
    replace hk := Option.some.inj hk; subst hk; exact fin0 hO
  · replace hk := cf hb hk
    refine wpL_sk (gn (wpL_sq (wpL_rg ?_)))
    refine pLs hO 1 [_, _, _] tA105 tZ105 ?_
    refine pM (.int _ _) ?_
    obtain ⟨v5, hv5, hk⟩ := bs hk
    refine pCall (fun _ => f69_run hv5) ?_
    refine pA (.int _ _) ?_
    refine pE (gn (wpL_sq (wpL_sq (wpL_rg ?_))))
    refine pM (.int _ _) ?_
    refine pBi ?_
    refine pE (gn ?_)
    refine wpL_cd (b := decide (v5 < (0:Int))) (fun hb => ?_) (fun hb => ?_)
    · replace hk := ct hb hk
      refine wpL_sq (wpL_rg ?_)
      refine pA (.bool _) ?_
      refine pE (gn (wpL_rt (gr ?_)))
      replace hk := Option.some.inj hk; subst hk; exact fin0 hO
    · replace hk := cf hb hk
      refine wpL_sk (gn (wpL_sq ?_))
      refine wpL_drw [(0, true), (2, true), (4, true), (1, true), (3, true), (5, false), (6, false), (7, true), (8, false)] [_, _, _, _, _, _, _, _, _] (by decide +kernel) (by rfl) ?_
      refine pLs hO 2 [_, _] tA24 tZ24 ?_
      refine pLs hO 1 [_, _, _] tA105 tZ105 ?_
      refine pLs hO 0 [_, _, _] tA107 tZ107 ?_
      obtain ⟨v6, hv6, hk⟩ := bs hk
      refine pCNs hO (fun _ => f26_run hv6) (fun u7 F7 G hO => ?_)
      obtain ⟨v8, hv8, hk⟩ := bs hk
      refine pCNs hO (fun _ => f71_run hv8) (fun u9 F9 G hO => ?_)
      obtain ⟨v10, hv10, hk⟩ := bs hk
      refine pCall (fun _ => f72_run hv10) ?_
      obtain ⟨v11, hv11, hk⟩ := bs hk
      obtain ⟨_, hm12⟩ := ls_Layout hO (j := 1) rfl (lk.length + 1) 7
      obtain ⟨_, hm13⟩ := ls_CountState hO (j := 0) rfl (lk.length + 1) 7
      refine pCNsL (vs := [(.agg u7), (.agg u9), (.agg [_, _, _])]) (caps := []) hO hlo rfl (fun _ hl => f70_run hv11 (hlo := hl)) (fun u14 F14 G hO => ?_) (h3 := (la_cons hm12 (la_cons hm13 (la_cons rfl la_nil))))
      refine pNew hO tZ110 t0110 (fun b15 G hO => ?_)
      refine pStS hO 0 1 tZ110 rfl (fun G hO => ?_)
      refine pE (gn (wpL_sq (wpL_rg ?_)))
      refine pLs hO 6 [_, _] tA24 tZ24 ?_
      obtain ⟨v16, hv16, hk⟩ := bs hk
      refine pCNs hO (fun _ => f26_run hv16) (fun u17 F17 G hO => ?_)
      refine pNew hO tZ30 t030 (fun b18 G hO => ?_)
      refine pStS hO 0 1 tZ30 rfl (fun G hO => ?_)
      refine pE (gn (wpL_sq (wpL_rg ?_)))
      refine pLs hO 7 [_, _, _] tA105 tZ105 ?_
      obtain ⟨v19, hv19, hk⟩ := bs hk
      refine pCNs hO (fun _ => f71_run hv19) (fun u20 F20 G hO => ?_)
      refine pNew hO tZ40 t040 (fun b21 G hO => ?_)
      refine pStS hO 0 1 tZ40 rfl (fun G hO => ?_)
      refine pE (gn (wpL_sq ?_))
      refine wpL_drw [(0, true), (1, true), (2, true), (3, true), (4, false), (5, true), (6, false)] [_, _, _, _, _, _, _] (by decide +kernel) (by rfl) ?_
      refine pLdS hO 2 3 tA30 tZ30 ?_
      refine pLdS hO 0 1 tA40 tZ40 ?_
      refine pLs hO 8 [_, _, _] tA107 tZ107 ?_
      obtain ⟨v22, hv22, hk⟩ := bs hk
      refine pCall (fun _ => f72_run hv22) ?_
      obtain ⟨v23, hv23, hk⟩ := bs hk
      obtain ⟨_, hm24⟩ := ls_Layout hO (j := 3) rfl (lk.length + 1) 7
      obtain ⟨_, hm25⟩ := ls_CountState hO (j := 1) rfl (lk.length + 1) 7
      refine pCNsL (vs := [(.agg u17), (.agg u20), (.agg [_, _, _])]) (caps := []) hO hlo rfl (fun _ hl => f73_run hv23 (hlo := hl)) (fun u26 F26 G hO => ?_) (h3 := (la_cons hm24 (la_cons hm25 (la_cons rfl la_nil))))
      refine pNew hO tZ110 t0110 (fun b27 G hO => ?_)
      refine pStS hO 0 1 tZ110 rfl (fun G hO => ?_)
      refine pE (gn (wpL_sq (wpL_sq (wpL_rg ?_))))
      refine pLdS hO 0 1 tA110 tZ110 ?_
      refine pLdS hO 6 7 tA110 tZ110 ?_
      obtain ⟨v28, hv28, hk⟩ := bs hk
      obtain ⟨_, hm29⟩ := ls_CountDone hO (j := 1) rfl (lk.length + 1) 7
      obtain ⟨_, hm30⟩ := ls_CountDone hO (j := 7) rfl (lk.length + 1) 7
      refine pCall (vs := [(.agg u26), (.agg u14)]) (caps := []) (fun _ => f74_run hv28) ?_ (h3 := (la_cons hm29 (la_cons hm30 la_nil)))
      refine pU ?_
      refine pE (gn ?_)
      refine wpL_cd (b := !v28) (fun hb => ?_) (fun hb => ?_)
      · replace hk := ct hb hk
        refine wpL_sq (wpL_rg ?_)
        refine pA (.bool _) ?_
        refine pE (gn (wpL_rt (gr ?_)))
        replace hk := Option.some.inj hk; subst hk; exact fin0 hO
      · replace hk := cf hb hk
        refine wpL_sk (gn (wpL_sq (wpL_sq ?_)))
        refine wpL_drw [(0, true), (1, true), (2, true), (3, false), (4, false)] [_, _, _, _, _] (by decide +kernel) (by rfl) ?_
        refine pLdS hO 4 5 tA30 tZ30 ?_
        refine pLs hO 12 [_, _] tA24 tZ24 ?_
        obtain ⟨v31, hv31, hk⟩ := bs hk
        refine pCNs hO (fun _ => f26_run hv31) (fun u32 F32 G hO => ?_)
        obtain ⟨v33, hv33, hk⟩ := bs hk
        obtain ⟨_, hm34⟩ := ls_Layout hO (j := 6) rfl (lk.length + 1) 7
        obtain ⟨_, hm35⟩ := ls_Layout hO (j := 0) rfl (lk.length + 1) 7
        refine pCall (vs := [(.agg u17), (.agg u32)]) (caps := []) (fun _ => f29_run hv33) ?_ (h3 := (la_cons hm34 (la_cons hm35 la_nil)))
        refine pU ?_
        refine pE (gn ?_)
        refine wpL_cd (b := !v33) (fun hb => ?_) (fun hb => ?_)
        · replace hk := ct hb hk
          refine wpL_sq (wpL_rg ?_)
          refine pA (.bool _) ?_
          refine pE (gn (wpL_rt (gr ?_)))
          replace hk := Option.some.inj hk; subst hk; exact fin0 hO
        · replace hk := cf hb hk
          refine wpL_sk (gn (wpL_sq (wpL_sq ?_)))
          refine wpL_drw [(0, true), (1, true), (2, true), (3, false), (4, false)] [_, _, _, _, _] (by decide +kernel) (by rfl) ?_
          refine pLdS hO 3 4 tA40 tZ40 ?_
          refine pLs hO 12 [_, _, _] tA105 tZ105 ?_
          obtain ⟨v36, hv36, hk⟩ := bs hk
          refine pCNs hO (fun _ => f71_run hv36) (fun u37 F37 G hO => ?_)
          obtain ⟨v38, hv38, hk⟩ := bs hk
          obtain ⟨_, hm39⟩ := ls_CountState hO (j := 5) rfl (lk.length + 1) 7
          obtain ⟨_, hm40⟩ := ls_CountState hO (j := 0) rfl (lk.length + 1) 7
          refine pCall (vs := [(.agg u20), (.agg u37)]) (caps := []) (fun _ => f35_run hv38) ?_ (h3 := (la_cons hm39 (la_cons hm40 la_nil)))
          refine pU ?_
          refine pE (gn ?_)
          refine wpL_cd (b := !v38) (fun hb => ?_) (fun hb => ?_)
          · replace hk := ct hb hk
            refine wpL_sq (wpL_rg ?_)
            refine pA (.bool _) ?_
            refine pE (gn (wpL_rt (gr ?_)))
            replace hk := Option.some.inj hk; subst hk; exact fin0 hO
          · replace hk := cf hb hk
            refine wpL_sk (gn (wpL_sq (wpL_rg ?_)))
            refine pA (.int _ _) ?_
            refine pE (gn (wpL_sq (wpL_rg ?_)))
            refine pLdS hO 6 7 tA30 tZ30 ?_
            refine pM (.int _ _) ?_
            obtain ⟨z41, hz41, hk⟩ := bs hk
            refine pCTo (y' := z41.1) (r := .int .i64 z41.2) hO 7 (Sub.all hO (j := 7) rfl) hlo (fun hF1 hS1 ht1 => f30_run hz41 ht1 hF1 hS1) (fun G hO => ?_)
            refine pA (.int _ _) ?_
            refine pE (gn (wpL_sq (wpL_rg ?_)))
            refine pLdS hO 4 5 tA40 tZ40 ?_
            refine pM (.int _ _) ?_
            obtain ⟨z42, hz42, hk⟩ := bs hk
            refine pCTo (y' := z42.1) (r := .int .i64 z42.2) hO 5 (Sub.all hO (j := 5) rfl) hlo (fun hF1 hS1 ht1 => f36_run hz42 ht1 hF1 hS1) (fun G hO => ?_)
            refine pA (.int _ _) ?_
            refine pE (gn (wpL_sq (wpL_sq (wpL_rg ?_))))
            refine pM (.int _ _) ?_
            refine pBi ?_
            refine pM (.bool _) ?_
            obtain ⟨t43, ht, hk⟩ := bs hk
            refine wpR_mid (l1 := [_, _, _, _, _]) (fun S' => ∃ J, S' = ⟨hav [(3, .ptr b1 0), (4, .ptr b2 0), (5, .ptr b3 0), (8, .ptr b15 0), (11, .ptr b27 0), (69, .bool t43)] J, G⟩) ?_ ?_
            · refine bc (b := decide (z42.2 < (0:Int))) (fun hg1 => ?_) (fun hg1 => ?_)
              · replace hk := ct hg1 ht
                refine pGn hg1 ?_
                refine pGn hg1 ?_
                refine pGn hg1 ?_
                refine pGn hg1 ?_
                refine pPt hg1 (.bool _) ?_
                cases hk; exact pE ⟨_, St.hav _ ⟨rfl, rfl, rfl, rfl, rfl, rfl, trivial⟩⟩
              · replace hk := cf hg1 ht
                refine pGy hg1 ?_
                refine pLdS hO 2 3 tA110 tZ110 ?_
                refine pGy hg1 ?_
                refine pLdS hO 8 9 tA110 tZ110 ?_
                refine pGy hg1 ?_
                obtain ⟨v44, hv44, hk⟩ := bs hk
                obtain ⟨_, hm45⟩ := ls_CountDone hO (j := 3) rfl (lk.length + 1) 7
                obtain ⟨_, hm46⟩ := ls_CountDone hO (j := 9) rfl (lk.length + 1) 7
                refine pCall (vs := [(.agg u26), (.agg u14)]) (caps := []) (fun _ => f74_run hv44) ?_ (h3 := (la_cons hm45 (la_cons hm46 la_nil)))
                refine pGy hg1 ?_
                refine pU ?_
                refine pPf hg1 (.bool _) ?_
                cases hk; exact pE ⟨_, St.hav _ ⟨rfl, rfl, rfl, rfl, rfl, rfl, trivial⟩⟩
            · rintro _ ⟨J, rfl⟩
              refine pE (gn ?_)
              refine wpL_cd (b := t43) (fun hb => ?_) (fun hb => ?_)
              · replace hk := ct hb hk
                refine wpL_sq (wpL_rg ?_)
                refine pA (.bool _) ?_
                refine pE (gn (wpL_rt (gr ?_)))
                replace hk := Option.some.inj hk; subst hk; exact fin0 hO
              · replace hk := cf hb hk
                refine wpL_sk (gn (wpL_sq (wpL_rg ?_)))
                refine pA (.int _ _) ?_
                refine pE (gn (wpL_sq (wpL_rg ?_)))
                refine pLdS hO 2 3 tA110 tZ110 ?_
                refine pM (.int _ _) ?_
                obtain ⟨z47, hz47, hk⟩ := bs hk
                refine pCTo (y' := z47.1) (r := .int .i64 z47.2) hO 3 (Sub.all hO (j := 3) rfl) hlo (fun hF1 hS1 ht1 => f75_run hz47 ht1 hF1 hS1) (fun G hO => ?_)
                refine pA (.int _ _) ?_
                refine pE (gn (wpL_sq (wpL_rg ?_)))
                refine pA (.int _ _) ?_
                refine pE (gn (wpL_sq (wpL_rg ?_)))
                refine pLdS hO 2 3 tA110 tZ110 ?_
                refine pM (.int _ _) ?_
                obtain ⟨v48, hv48, hk⟩ := bs hk
                obtain ⟨_, hm49⟩ := ls_CountDone hO (j := 3) rfl (lk.length + 1) 7
                refine pCall (vs := [(.agg u26), (.int _ _)]) (caps := []) (fun _ => f76_run hv48) ?_ (h3 := (la_cons hm49 (la_cons rfl la_nil)))
                refine pA (.int _ _) ?_
                refine pE (gn (wpL_sq (wpL_sq (wpL_rg ?_))))
                refine pM (.int _ _) ?_
                refine pBi ?_
                refine pE (gn ?_)
                refine wpL_cd (b := decide (v48 < (0:Int))) (fun hb => ?_) (fun hb => ?_)
                · replace hk := ct hb hk
                  refine wpL_sq (wpL_rg ?_)
                  refine pA (.bool _) ?_
                  refine pE (gn (wpL_rt (gr ?_)))
                  replace hk := Option.some.inj hk; subst hk; exact fin0 hO
                · replace hk := cf hb hk
                  refine wpL_sk (gn (wpL_sq (wpL_sq (wpL_rg ?_))))
                  refine pM (.int _ _) ?_
                  refine pM (.int _ _) ?_
                  refine pBi ?_
                  refine pE (gn ?_)
                  refine wpL_cd (b := (v48 != z47.2)) (fun hb => ?_) (fun hb => ?_)
                  · replace hk := ct hb hk
                    refine wpL_sq (wpL_rg ?_)
                    refine pA (.bool _) ?_
                    refine pE (gn (wpL_rt (gr ?_)))
                    replace hk := Option.some.inj hk; subst hk; exact fin0 hO
                  · replace hk := cf hb hk
                    refine wpL_sk (gn (wpL_sq ?_))
                    refine wpL_drw [(0, true), (2, true), (4, true), (1, true), (3, true), (5, false), (6, false), (7, true), (8, false)] [_, _, _, _, _, _, _, _, _] (by decide +kernel) (by rfl) ?_
                    refine pLs hO 14 [_, _] tA24 tZ24 ?_
                    refine pLs hO 13 [_, _, _] tA105 tZ105 ?_
                    refine pLs hO 12 [_, _, _] tA107 tZ107 ?_
                    obtain ⟨v50, hv50, hk⟩ := bs hk
                    refine pCNs hO (fun _ => f26_run hv50) (fun u51 F51 G hO => ?_)
                    obtain ⟨v52, hv52, hk⟩ := bs hk
                    refine pCNs hO (fun _ => f71_run hv52) (fun u53 F53 G hO => ?_)
                    obtain ⟨v54, hv54, hk⟩ := bs hk
                    refine pCall (fun _ => f72_run hv54) ?_
                    obtain ⟨v55, hv55, hk⟩ := bs hk
                    obtain ⟨_, hm56⟩ := ls_Layout hO (j := 1) rfl (lk.length + 1) 7
                    obtain ⟨_, hm57⟩ := ls_CountState hO (j := 0) rfl (lk.length + 1) 7
                    refine pCNsL (vs := [(.agg u51), (.agg u53), (.agg [_, _, _])]) (caps := []) hO hlo rfl (fun _ hl => f73_run hv55 (hlo := hl)) (fun u58 F58 G hO => ?_) (h3 := (la_cons hm56 (la_cons hm57 (la_cons rfl la_nil))))
                    refine pNew hO tZ110 t0110 (fun b59 G hO => ?_)
                    refine pStS hO 0 1 tZ110 rfl (fun G hO => ?_)
                    refine pE (gn (wpL_sq (wpL_sq (wpL_rg ?_))))
                    refine pLdS hO 0 1 tA110 tZ110 ?_
                    refine pLdS hO 12 13 tA110 tZ110 ?_
                    obtain ⟨v60, hv60, hk⟩ := bs hk
                    obtain ⟨_, hm61⟩ := ls_CountDone hO (j := 1) rfl (lk.length + 1) 7
                    obtain ⟨_, hm62⟩ := ls_CountDone hO (j := 13) rfl (lk.length + 1) 7
                    refine pCall (vs := [(.agg u58), (.agg u14)]) (caps := []) (fun _ => f74_run hv60) ?_ (h3 := (la_cons hm61 (la_cons hm62 la_nil)))
                    refine pU ?_
                    refine pE (gn ?_)
                    refine wpL_cd (b := !v60) (fun hb => ?_) (fun hb => ?_)
                    · replace hk := ct hb hk
                      refine wpL_sq (wpL_rg ?_)
                      refine pA (.bool _) ?_
                      refine pE (gn (wpL_rt (gr ?_)))
                      replace hk := Option.some.inj hk; subst hk; exact fin0 hO
                    · replace hk := cf hb hk
                      refine wpL_sk (gn (wpL_sq (wpL_rg ?_)))
                      refine pA (.int _ _) ?_
                      refine pE (gn (wpL_sq (wpL_rg ?_)))
                      refine pLdS hO 6 7 tA110 tZ110 ?_
                      refine pM (.int _ _) ?_
                      obtain ⟨v63, hv63, hk⟩ := bs hk
                      obtain ⟨_, hm64⟩ := ls_CountDone hO (j := 7) rfl (lk.length + 1) 7
                      refine pCall (vs := [(.agg u26), (.int _ _)]) (caps := []) (fun _ => f76_run hv63) ?_ (h3 := (la_cons hm64 (la_cons rfl la_nil)))
                      refine pA (.int _ _) ?_
                      refine pE (gn (wpL_sq (wpL_sq (wpL_rg ?_))))
                      refine pM (.int _ _) ?_
                      refine pBi ?_
                      refine pE (gn ?_)
                      refine wpL_cd (b := decide (v63 < (0:Int))) (fun hb => ?_) (fun hb => ?_)
                      · replace hk := ct hb hk
                        refine wpL_sq (wpL_rg ?_)
                        refine pA (.bool _) ?_
                        refine pE (gn (wpL_rt (gr ?_)))
                        replace hk := Option.some.inj hk; subst hk; exact fin0 hO
                      · replace hk := cf hb hk
                        refine wpL_sk (gn (wpL_sq (wpL_sq (wpL_rg ?_))))
                        refine pM (.int _ _) ?_
                        refine pM (.int _ _) ?_
                        refine pBi ?_
                        refine pE (gn ?_)
                        refine wpL_cd (b := (v63 != z47.2)) (fun hb => ?_) (fun hb => ?_)
                        · replace hk := ct hb hk
                          refine wpL_sq (wpL_rg ?_)
                          refine pA (.bool _) ?_
                          refine pE (gn (wpL_rt (gr ?_)))
                          replace hk := Option.some.inj hk; subst hk; exact fin0 hO
                        · replace hk := cf hb hk
                          refine wpL_sk (gn (wpL_sq (wpL_rg ?_)))
                          refine pA (.bool _) ?_
                          refine pE (gn (wpL_rt ?_))
                          replace hk := Option.some.inj hk; subst hk; exact fin0 hO
end
end Go.Proofs.Ytkfekjcahepfnaa.K
