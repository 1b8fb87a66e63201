/-
  The functions that FnExactBeginCount reaches, as typed Lean functions, and that the interpreter computes them. No conditions.
-/
import Derived.Test.YtkfekjcahepfnaaKzg
import Derived.Test.YtkfekjcahepfnaaProg
set_option linter.unusedVariables false
set_option linter.unusedSimpArgs false
set_option maxRecDepth 100000
namespace Go.Proofs.Ytkfekjcahepfnaa.K
noncomputable section
def hh : Hints := { modes := fun k => bif Nat.beq k 30 || Nat.beq k 36 || Nat.beq k 131 || Nat.beq k 134 || Nat.beq k 135 then [.exact] else [], thaw := fun k => Nat.beq k 26 || Nat.beq k 34 || Nat.beq k 128, grow := fun k => false, keep := fun k => false }
structure Counter where
  From : Int
  To : Int
instance : GoT Counter := ⟨2, by decide, fun l x => GoT.encL l x.From ++ (GoT.encL l x.To), fun x => by simp only [List.length_append, GoT.len]; rfl, fun x => by simp only [cleanL_append, GoT.clean]; rfl, fun x => by simp only [List.all_append, GoT.cell]; rfl⟩
instance : GoM Counter := GoM.via (fun x => (x.From, x.To) : Counter → Int × Int) rfl fun _ _ => rfl
instance : GoFl Counter := ⟨fun G x => GoFl.fl (α := Int × Int) G (x.From, x.To), fun l x => GoFl.lev (α := Int × Int) l (x.From, x.To), GoFl.pos (α := Int × Int)⟩
theorem foc_Counter_From : Foc Counter Int (fun x => x.From) (fun x y => { x with From := y }) 0 := Foc.via (α := Counter) (f := (fun x => (x.From, x.To) : Counter → Int × Int)) (hz := rfl) (he := fun _ _ => rfl) (Foc.fst) fun _ _ => rfl
theorem foc_Counter_To : Foc Counter Int (fun x => x.To) (fun x y => { x with To := y }) 1 := Foc.via (α := Counter) (f := (fun x => (x.From, x.To) : Counter → Int × Int)) (hz := rfl) (he := fun _ _ => rfl) (Foc.snd) fun _ _ => rfl
structure Layout where
  Sections : Int
  Counters : List Counter
instance : GoT Layout := ⟨2, by decide, fun l x => GoT.encL l x.Sections ++ (GoT.encL l x.Counters), fun x => by simp only [List.length_append, GoT.len]; rfl, fun x => by simp only [cleanL_append, GoT.clean]; rfl, fun x => by simp only [List.all_append, GoT.cell]; rfl⟩
instance : GoM Layout := GoM.via (fun x => (x.Sections, x.Counters) : Layout → Int × (List Counter)) rfl fun _ _ => rfl
theorem foc_Layout_Sections : Foc Layout Int (fun x => x.Sections) (fun x y => { x with Sections := y }) 0 := Foc.via (α := Layout) (f := (fun x => (x.Sections, x.Counters) : Layout → Int × (List Counter))) (hz := rfl) (he := fun _ _ => rfl) (Foc.fst) fun _ _ => rfl
theorem foc_Layout_Counters : Foc Layout (List Counter) (fun x => x.Counters) (fun x y => { x with Counters := y }) 1 := Foc.via (α := Layout) (f := (fun x => (x.Sections, x.Counters) : Layout → Int × (List Counter))) (hz := rfl) (he := fun _ _ => rfl) (Foc.snd) fun _ _ => rfl
theorem th_Layout {H : Heap} {d n : Nat} {rs rs1 : List Res} {cs : List V} {x : Layout} (h : ThV n H d rs cs (x.Sections, x.Counters) rs1) : ThV n H d rs cs x rs1 := h
theorem ls_Layout {H G : Heap} {rs : List Res} {S F : List Nat} {x : Layout} {cs : List V} {j : Nat} (hO : Owns H G rs) (hj : rs[j]? = some (Tree S F x cs)) (lv n : Nat) (hn : Nat.ble (GoM.dep Layout) n = true := by rfl) : ∃ M, lendV lv G (n + 1) (.agg cs) = some (.agg [.int .i64 x.Sections, .lit lv x.Counters.length ((flatL 0) x.Counters)], M) := by
  have h := ld_trS hO hj lv n hn
  have e : GoT.encL lv x = [.int .i64 x.Sections, .lit lv x.Counters.length ((flatL 0) x.Counters)] := by
    show ([.int .i64 x.Sections, .lit lv x.Counters.length (flatL lv x.Counters)] : List V) = _
    simp only [flat_lv]
  rwa [e] at h
structure Section where
  Told : Int
  Count : Int
  Lost : Bool
  Sweep : Bool
  Last : Int
instance : GoT Section := ⟨5, by decide, fun l x => GoT.encL l x.Told ++ (GoT.encL l x.Count ++ (GoT.encL l x.Lost ++ (GoT.encL l x.Sweep ++ (GoT.encL l x.Last)))), fun x => by simp only [List.length_append, GoT.len]; rfl, fun x => by simp only [cleanL_append, GoT.clean]; rfl, fun x => by simp only [List.all_append, GoT.cell]; rfl⟩
instance : GoM Section := GoM.via (fun x => (x.Told, x.Count, x.Lost, x.Sweep, x.Last) : Section → Int × Int × Bool × Bool × Int) rfl fun _ _ => rfl
instance : GoFl Section := ⟨fun G x => GoFl.fl (α := Int × Int × Bool × Bool × Int) G (x.Told, x.Count, x.Lost, x.Sweep, x.Last), fun l x => GoFl.lev (α := Int × Int × Bool × Bool × Int) l (x.Told, x.Count, x.Lost, x.Sweep, x.Last), GoFl.pos (α := Int × Int × Bool × Bool × Int)⟩
theorem foc_Section_Told : Foc Section Int (fun x => x.Told) (fun x y => { x with Told := y }) 0 := Foc.via (α := Section) (f := (fun x => (x.Told, x.Count, x.Lost, x.Sweep, x.Last) : Section → Int × Int × Bool × Bool × Int)) (hz := rfl) (he := fun _ _ => rfl) (Foc.fst) fun _ _ => rfl
theorem foc_Section_Count : Foc Section Int (fun x => x.Count) (fun x y => { x with Count := y }) 1 := Foc.via (α := Section) (f := (fun x => (x.Told, x.Count, x.Lost, x.Sweep, x.Last) : Section → Int × Int × Bool × Bool × Int)) (hz := rfl) (he := fun _ _ => rfl) (Foc.comp Foc.snd (Foc.fst)) fun _ _ => rfl
theorem foc_Section_Lost : Foc Section Bool (fun x => x.Lost) (fun x y => { x with Lost := y }) 2 := Foc.via (α := Section) (f := (fun x => (x.Told, x.Count, x.Lost, x.Sweep, x.Last) : Section → Int × Int × Bool × Bool × Int)) (hz := rfl) (he := fun _ _ => rfl) (Foc.comp Foc.snd (Foc.comp Foc.snd (Foc.fst))) fun _ _ => rfl
theorem foc_Section_Sweep : Foc Section Bool (fun x => x.Sweep) (fun x y => { x with Sweep := y }) 3 := Foc.via (α := Section) (f := (fun x => (x.Told, x.Count, x.Lost, x.Sweep, x.Last) : Section → Int × Int × Bool × Bool × Int)) (hz := rfl) (he := fun _ _ => rfl) (Foc.comp Foc.snd (Foc.comp Foc.snd (Foc.comp Foc.snd (Foc.fst)))) fun _ _ => rfl
theorem foc_Section_Last : Foc Section Int (fun x => x.Last) (fun x y => { x with Last := y }) 4 := Foc.via (α := Section) (f := (fun x => (x.Told, x.Count, x.Lost, x.Sweep, x.Last) : Section → Int × Int × Bool × Bool × Int)) (hz := rfl) (he := fun _ _ => rfl) (Foc.comp Foc.snd (Foc.comp Foc.snd (Foc.comp Foc.snd (Foc.snd)))) fun _ _ => rfl
structure CountState where
  Ok : Bool
  Sections : List Section
  Dead : List Bool
instance : GoT CountState := ⟨3, by decide, fun l x => GoT.encL l x.Ok ++ (GoT.encL l x.Sections ++ (GoT.encL l x.Dead)), fun x => by simp only [List.length_append, GoT.len]; rfl, fun x => by simp only [cleanL_append, GoT.clean]; rfl, fun x => by simp only [List.all_append, GoT.cell]; rfl⟩
instance : GoM CountState := GoM.via (fun x => (x.Ok, x.Sections, x.Dead) : CountState → Bool × (List Section) × (List Bool)) rfl fun _ _ => rfl
theorem foc_CountState_Ok : Foc CountState Bool (fun x => x.Ok) (fun x y => { x with Ok := y }) 0 := Foc.via (α := CountState) (f := (fun x => (x.Ok, x.Sections, x.Dead) : CountState → Bool × (List Section) × (List Bool))) (hz := rfl) (he := fun _ _ => rfl) (Foc.fst) fun _ _ => rfl
theorem foc_CountState_Sections : Foc CountState (List Section) (fun x => x.Sections) (fun x y => { x with Sections := y }) 1 := Foc.via (α := CountState) (f := (fun x => (x.Ok, x.Sections, x.Dead) : CountState → Bool × (List Section) × (List Bool))) (hz := rfl) (he := fun _ _ => rfl) (Foc.comp Foc.snd (Foc.fst)) fun _ _ => rfl
theorem foc_CountState_Dead : Foc CountState (List Bool) (fun x => x.Dead) (fun x y => { x with Dead := y }) 2 := Foc.via (α := CountState) (f := (fun x => (x.Ok, x.Sections, x.Dead) : CountState → Bool × (List Section) × (List Bool))) (hz := rfl) (he := fun _ _ => rfl) (Foc.comp Foc.snd (Foc.snd)) fun _ _ => rfl
theorem th_CountState {H : Heap} {d n : Nat} {rs rs1 : List Res} {cs : List V} {x : CountState} (h : ThV n H d rs cs (x.Ok, x.Sections, x.Dead) rs1) : ThV n H d rs cs x rs1 := h
theorem ls_CountState {H G : Heap} {rs : List Res} {S F : List Nat} {x : CountState} {cs : List V} {j : Nat} (hO : Owns H G rs) (hj : rs[j]? = some (Tree S F x cs)) (lv n : Nat) (hn : Nat.ble (GoM.dep CountState) n = true := by rfl) : ∃ M, lendV lv G (n + 1) (.agg cs) = some (.agg [.bool x.Ok, .lit lv x.Sections.length ((flatL 0) x.Sections), .lit lv x.Dead.length ((flatL 0) x.Dead)], M) := by
  have h := ld_trS hO hj lv n hn
  have e : GoT.encL lv x = [.bool x.Ok, .lit lv x.Sections.length ((flatL 0) x.Sections), .lit lv x.Dead.length ((flatL 0) x.Dead)] := by
    show ([.bool x.Ok, .lit lv x.Sections.length (flatL lv x.Sections), .lit lv x.Dead.length (flatL lv x.Dead)] : List V) = _
    simp only [flat_lv]
  rwa [e] at h
theorem tZ24 : szOf Try.prog 24 = some 2 := by rfl
theorem tA24 : aggT Try.prog 24 = some true := by rfl
theorem tF24_1 : fieldOff Try.prog 24 1 = some 1 := by rfl
theorem tA22 : aggT Try.prog 22 = some false := by rfl
theorem tS22 : strT Try.prog 22 = some false := by rfl
theorem tZ30 : szOf Try.prog 30 = some 2 := by rfl
theorem t030 : zeroOf Try.prog 30 = some [.int .i64 0, (.tl 0 [])] := by rfl
theorem tF24_0 : fieldOff Try.prog 24 0 = some 0 := by rfl
theorem tA3 : aggT Try.prog 3 = some false := by rfl
theorem tF30_0 : fieldOff Try.prog 30 0 = some 0 := by rfl
theorem tZ3 : szOf Try.prog 3 = some 1 := by rfl
theorem tE28 : elemT Try.prog 28 = some 184 := by rfl
theorem tZ184 : szOf Try.prog 184 = some 2 := by rfl
theorem tB184 : bytesOf Try.prog 184 = some 16 := by rfl
theorem t0184 : zeroOf Try.prog 184 = some [.int .i64 0, .int .i64 0] := by rfl
theorem tE22 : elemT Try.prog 22 = some 281 := by rfl
theorem tZ281 : szOf Try.prog 281 = some 2 := by rfl
theorem tA281 : aggT Try.prog 281 = some true := by rfl
theorem tF281_0 : fieldOff Try.prog 281 0 = some 0 := by rfl
theorem tF184_0 : fieldOff Try.prog 184 0 = some 0 := by rfl
theorem tF281_1 : fieldOff Try.prog 281 1 = some 1 := by rfl
theorem tF184_1 : fieldOff Try.prog 184 1 = some 1 := by rfl
theorem tA184 : aggT Try.prog 184 = some true := by rfl
theorem tF30_1 : fieldOff Try.prog 30 1 = some 1 := by rfl
theorem tZ28 : szOf Try.prog 28 = some 1 := by rfl
theorem tA30 : aggT Try.prog 30 = some true := by rfl
theorem tZ40 : szOf Try.prog 40 = some 3 := by rfl
theorem t040 : zeroOf Try.prog 40 = some [.bool false, (.tl 0 []), (.tl 0 [])] := by rfl
theorem tA28 : aggT Try.prog 28 = some false := by rfl
theorem tS28 : strT Try.prog 28 = some false := by rfl
theorem tP40 : placesK Try.prog 40 = some [(0, 1), (1, 1), (2, 1)] := by rfl
theorem tA40 : aggT Try.prog 40 = some true := by rfl
theorem tE37 : elemT Try.prog 37 = some 233 := by rfl
theorem tZ233 : szOf Try.prog 233 = some 5 := by rfl
theorem tB233 : bytesOf Try.prog 233 = some 32 := by rfl
theorem t0233 : zeroOf Try.prog 233 = some [.int .i64 0, .int .i64 0, .bool false, .bool false, .int .i64 0] := by rfl
theorem tE38 : elemT Try.prog 38 = some 4 := by rfl
theorem tZ4 : szOf Try.prog 4 = some 1 := by rfl
theorem tB4 : bytesOf Try.prog 4 = some 1 := by rfl
theorem t04 : zeroOf Try.prog 4 = some [.bool false] := by rfl
theorem tF40_0 : fieldOff Try.prog 40 0 = some 0 := by rfl
theorem tA4 : aggT Try.prog 4 = some false := by rfl
theorem tF40_1 : fieldOff Try.prog 40 1 = some 1 := by rfl
theorem tA37 : aggT Try.prog 37 = some false := by rfl
theorem tS37 : strT Try.prog 37 = some false := by rfl
theorem tA233 : aggT Try.prog 233 = some true := by rfl
theorem tF233_0 : fieldOff Try.prog 233 0 = some 0 := by rfl
theorem tF233_1 : fieldOff Try.prog 233 1 = some 1 := by rfl
theorem tF233_2 : fieldOff Try.prog 233 2 = some 2 := by rfl
theorem tF233_3 : fieldOff Try.prog 233 3 = some 3 := by rfl
theorem tF233_4 : fieldOff Try.prog 233 4 = some 4 := by rfl
theorem tF40_2 : fieldOff Try.prog 40 2 = some 2 := by rfl
theorem tA38 : aggT Try.prog 38 = some false := by rfl
theorem tS38 : strT Try.prog 38 = some false := by rfl
/-- laws.szCounterS -/
def f125 (aA0 : List Counter) (aLeft1 : Int) : Option Int :=
  (bif decide ((w64 (aLeft1 - (aA0.length : Int))) < (0:Int)) then some (-1:Int) else some (w64 (aLeft1 - (aA0.length : Int))))
theorem f125_run {aA0 : List Counter} {aLeft1 : Int} {r : Int} {l1 : Nat} {H : Heap} {lk : Lk} (hk : f125 aA0 aLeft1 = some r) (hlk : 0 < lk.length := by simp) : runL Try.prog hh 125 [.lit l1 aA0.length ((flatL 0) aA0), .int .i64 aLeft1] H lk = some (.int .i64 r, H) := by
  refine run_start Try.func125 rfl Try.ntmps125 Try.results125 rfl rfl fun hO => ?_
  unfold f125 at hk
  refine wpL_sq ?_
  refine wpL_rg ?_
  refine pA (.int _ _) ?_
  refine pE ?_
  refine gn ?_
  refine wpL_sq ?_
  refine wpL_rg ?_
  refine pM (.int _ _) ?_
  refine pM (.lit _ _ _) ?_
  refine pLen tS22 ?_
  refine pBi ?_
  refine pA (.int _ _) ?_
  refine pE ?_
  refine gn ?_
  refine wpL_sq ?_
  refine wpL_sq ?_
  refine wpL_rg ?_
  refine pM (.int _ _) ?_
  refine pBi ?_
  refine pE ?_
  refine gn ?_
  refine wpL_cd (b := decide ((w64 (aLeft1 - (aA0.length : Int))) < (0:Int))) (fun hb => ?_) (fun hb => ?_)
  · replace hk := ct hb hk
    refine wpL_sq ?_
    refine wpL_rg ?_
    refine pA (.int _ _) ?_
    refine pE ?_
    refine gn ?_
    refine wpL_rt ?_
    refine gr ?_
    replace hk := Option.some.inj hk; subst hk; exact fin0 hO
  · replace hk := cf hb hk
    refine wpL_sk ?_
    refine gn ?_
    refine wpL_sq ?_
    refine wpL_rg ?_
    refine pM (.int _ _) ?_
    refine pA (.int _ _) ?_
    refine pE ?_
    refine gn ?_
    refine wpL_rt ?_
    replace hk := Option.some.inj hk; subst hk; exact fin0 hO
/-- laws.szLayout -/
def f24 (aA0 : Layout) (aLeft1 : Int) : Option Int :=
  ((f125 aA0.Counters aLeft1).bind fun v2 => (bif decide (v2 < (0:Int)) then some (-1:Int) else some v2))
theorem f24_run {aA0 : Layout} {aLeft1 : Int} {r : Int} {l1 : Nat} {H : Heap} {lk : Lk} (hk : f24 aA0 aLeft1 = some r) (hlk : 0 < lk.length := by simp) : runL Try.prog hh 24 [.agg [.int .i64 aA0.Sections, .lit l1 aA0.Counters.length ((flatL 0) aA0.Counters)], .int .i64 aLeft1] H lk = some (.int .i64 r, H) := by
  refine run_start Try.func24 rfl Try.ntmps24 Try.results24 rfl rfl fun hO => ?_
  unfold f24 at hk
  refine wpL_sq ?_
  refine wpL_rg ?_
  refine pBox (cs := [_, _]) hO tZ24 (fun b1 G hO => ?_)
  refine pA (.int _ _) ?_
  refine pE ?_
  refine gn ?_
  refine wpL_sq ?_
  refine wpL_rg ?_
  refine pF tF24_1 ?_
  refine pLo hO 0 (.lit _ _ _) tA22 ?_
  refine pM (.int _ _) ?_
  obtain ⟨v2, hv2, hk⟩ := bs hk
  refine pCall (fun _ => f125_run hv2) ?_
  refine pA (.int _ _) ?_
  refine pE ?_
  refine gn ?_
  refine wpL_sq ?_
  refine wpL_sq ?_
  refine wpL_rg ?_
  refine pM (.int _ _) ?_
  refine pBi ?_
  refine pE ?_
  refine gn ?_
  refine wpL_cd (b := decide (v2 < (0:Int))) (fun hb => ?_) (fun hb => ?_)
  · replace hk := ct hb hk
    refine wpL_sq ?_
    refine wpL_rg ?_
    refine pA (.int _ _) ?_
    refine pE ?_
    refine gn ?_
    refine wpL_rt ?_
    refine gr ?_
    replace hk := Option.some.inj hk; subst hk; exact fin0 hO
  · replace hk := cf hb hk
    refine wpL_sk ?_
    refine gn ?_
    refine wpL_sq ?_
    refine wpL_rg ?_
    refine pM (.int _ _) ?_
    refine pA (.int _ _) ?_
    refine pE ?_
    refine gn ?_
    refine wpL_rt ?_
    replace hk := Option.some.inj hk; subst hk; exact fin0 hO
/-- laws.toCounter -/
def f249 (aA0 : Counter) : Option Counter :=
  some aA0
theorem f249_run {aA0 : Counter} {r : Counter} {H : Heap} {lk : Lk} (hk : f249 aA0 = some r) (hlk : 0 < lk.length := by simp) : runL Try.prog hh 249 [.agg [.int .i64 aA0.From, .int .i64 aA0.To]] H lk = some (.agg [.int .i64 r.From, .int .i64 r.To], H) := by
  refine run_start Try.func249 rfl Try.ntmps249 Try.results249 rfl rfl fun hO => ?_
  unfold f249 at hk
  refine wpL_sq ?_
  refine wpL_rg ?_
  refine pBox (cs := [_, _]) hO tZ281 (fun b1 G hO => ?_)
  refine pNew hO tZ184 t0184 (fun b2 G hO => ?_)
  refine pE ?_
  refine gn ?_
  refine wpL_sq ?_
  refine wpL_rg ?_
  refine pNew hO tZ184 t0184 (fun b3 G hO => ?_)
  refine pE ?_
  refine gn ?_
  refine wpL_sq ?_
  refine wpL_rg ?_
  refine pF tF281_0 ?_
  refine pLo hO 2 (.int _ _) tA3 ?_
  refine pF tF184_0 ?_
  refine pSt (xs := [_]) hO 0 tZ3 rfl (fun G hO => ?_)
  refine pE ?_
  refine gn ?_
  refine wpL_sq ?_
  refine wpL_rg ?_
  refine pF tF281_1 ?_
  refine pLo hO 2 (.int _ _) tA3 ?_
  refine pF tF184_1 ?_
  refine pSt (xs := [_]) hO 0 tZ3 rfl (fun G hO => ?_)
  refine pE ?_
  refine gn ?_
  refine wpL_sq ?_
  refine wpL_rg ?_
  refine pLs hO 0 [_, _] tA184 tZ184 ?_
  refine pSt (xs := [_, _]) hO 1 tZ184 rfl (fun G hO => ?_)
  refine pE ?_
  refine gn ?_
  refine wpL_rt ?_
  replace hk := Option.some.inj hk; subst hk; exact finZ hO (fz_agg (n := 2) (fz_c (fz_int _ _) (fz_c (fz_int _ _) (fz_n)))) (resS hO 1 [_, _] tA184 tZ184 resN)
/-- laws.toCounterS -/
def f128_L1 (aA0 : List Counter) : ((List Counter) × Int) → Option (((List Counter) × Int) ⊕ (List Counter)) := fun s =>
  (bif decide (s.2 < (aA0.length : Int)) then ((getI aA0 s.2).bind fun c5 => ((f249 c5).bind fun v6 => ((getI s.1 s.2).bind fun c7 => some (.inl (s.1.set s.2.toNat v6, w64 (s.2 + (1:Int))))))) else ((some s.1).map Sum.inr))
def f128 (aA0 : List Counter) : Option (List Counter) :=
  ((makeB 16 (aA0.length : Int)).bind fun m1 => (loopO (f128_L1 aA0) (List.replicate m1 (⟨0, 0⟩ : Counter), (0:Int))))
theorem f128_run {aA0 : List Counter} {r : (List Counter)} {l1 : Nat} {H : Heap} {lk : Lk} (hk : f128 aA0 = some r) (hlk : 0 < lk.length := by simp) : ∃ v H1, runL Try.prog hh 128 [.lit l1 aA0.length ((flatL 0) aA0)] H lk = some (v, H1) ∧ FreshL H r v H1 := by
  refine run_startR Try.func128 rfl Try.ntmps128 Try.results128 rfl rfl ?_
  have hO := Owns.nil H
  unfold f128 at hk
  refine wpL_sq ?_
  refine wpL_rg ?_
  refine pA (.tl 0 []) ?_
  refine pE ?_
  refine gn ?_
  refine wpL_sq ?_
  refine wpL_rg ?_
  refine pM (.lit _ _ _) ?_
  refine pLen tS22 ?_
  obtain ⟨m1, hm1, hk⟩ := bs hk
  refine pMk hO hm1 (⟨0, 0⟩ : Counter) tE28 tZ184 tB184 t0184 (fun b2 G hO => ?_)
  refine pA (.sl _ _ _) ?_
  refine pE ?_
  refine gn ?_
  refine wpL_sq ?_
  refine wpL_sq ?_
  refine wpL_rg ?_
  refine pA (.int _ _) ?_
  refine pE ?_
  refine gn ?_
  refine wpL_bl ?_
  refine wpL_loopO (F := f128_L1 aA0) (fun s S' => ∃ (J : Nat → V) (G : Heap), s.1.length = m1 ∧ Owns H G [.blk b2 (.cells 2 ((flatL 0) s.1))] ∧ S' = ⟨hav [(0, .lit l1 aA0.length ((flatL 0) aA0)), (3, .sl b2 0 m1), (4, .int .i64 s.2)] J, G⟩) hk ⟨_, _, List.length_replicate, hO, St.hav _ ⟨rfl, rfl, rfl, trivial⟩⟩ ?_
  rintro ⟨x3, x4⟩ _ y1 ⟨J, G, hl3, hO, rfl⟩ hk hx1
  refine wpL_sq ?_
  refine wpL_sq ?_
  refine wpL_rg ?_
  refine pM (.int _ _) ?_
  refine pM (.lit _ _ _) ?_
  refine pLen tS22 ?_
  refine pBi ?_
  refine pE ?_
  refine gn ?_
  refine wpL_cd (b := decide (x4 < (aA0.length : Int))) (fun hb => ?_) (fun hb => ?_)
  · replace hk := ct hb hk
    refine wpL_sk ?_
    refine gn ?_
    refine wpL_sq ?_
    refine wpL_bl ?_
    refine wpL_rg ?_
    refine pM (.sl _ _ _) ?_
    refine pM (.int _ _) ?_
    refine pM (.lit _ _ _) ?_
    refine pM (.int _ _) ?_
    obtain ⟨c5, hc5, hk⟩ := bs hk
    refine pX hc5 tE22 tZ281 ?_
    refine pLp (.agg [_, _]) (rd2 (lm := 0) (off := 0) hc5 tA281 tZ281) ?_
    obtain ⟨v6, hv6, hk⟩ := bs hk
    refine pCall (fun _ => f249_run hv6) ?_
    obtain ⟨c7, hc7, hk⟩ := bs hk
    refine pXm hl3 hc7 tE28 tZ184 ?_
    refine pSm hO 0 hc7 tZ184 rfl v6 (.agg [_, _]) (fun G hO => ?_)
    refine pE ?_
    refine bn (gn ?_)
    refine wpL_rg ?_
    refine pM (.int _ _) ?_
    refine pBi ?_
    refine pA (.int _ _) ?_
    refine pE ?_
    refine gn ?_
    cases hk; exact ⟨_, rfl, _, _, (List.length_set.trans hl3), hO, St.hav _ ⟨rfl, rfl, rfl, trivial⟩⟩
  · replace hk := cf hb hk
    refine wpL_ex ?_
    refine ge (ge (be (gn ?_)))
    replace hk := lx hx1 hk
    refine wpL_sq ?_
    refine wpL_rg ?_
    refine pM (.sl _ _ _) ?_
    refine pA (.sl _ _ _) ?_
    refine pE ?_
    refine gn ?_
    refine wpL_rt ?_
    replace hk := Option.some.inj hk; subst hk; exact finThL hO (th_made (xs := x3) hl3 hlk 0) (resT (.sl _ _ _) resN)
/-- laws.toLayout -/
def f26 (aA0 : Layout) : Option Layout :=
  ((f128 aA0.Counters).bind fun v4 => some ({ Sections := aA0.Sections, Counters := v4 } : Layout))
theorem f26_run {aA0 : Layout} {r : Layout} {l1 : Nat} {H : Heap} {lk : Lk} (hk : f26 aA0 = some r) (hlk : 0 < lk.length := by simp) : ∃ v H1, runL Try.prog hh 26 [.agg [.int .i64 aA0.Sections, .lit l1 aA0.Counters.length ((flatL 0) aA0.Counters)]] H lk = some (v, H1) ∧ FreshS H r v H1 := by
  refine run_startR Try.func26 rfl Try.ntmps26 Try.results26 rfl rfl ?_
  have hO := Owns.nil H
  unfold f26 at hk
  refine wpL_sq ?_
  refine wpL_rg ?_
  refine pBox (cs := [_, _]) hO tZ24 (fun b1 G hO => ?_)
  refine pNew hO tZ30 t030 (fun b2 G hO => ?_)
  refine pE ?_
  refine gn ?_
  refine wpL_sq ?_
  refine wpL_rg ?_
  refine pNew hO tZ30 t030 (fun b3 G hO => ?_)
  refine pE ?_
  refine gn ?_
  refine wpL_sq ?_
  refine wpL_rg ?_
  refine pF tF24_0 ?_
  refine pLo hO 2 (.int _ _) tA3 ?_
  refine pF tF30_0 ?_
  refine pSt (xs := [_]) hO 0 tZ3 rfl (fun G hO => ?_)
  refine pE ?_
  refine gn ?_
  refine wpL_sq ?_
  refine wpL_rg ?_
  refine pF tF24_1 ?_
  refine pLo hO 2 (.lit _ _ _) tA22 ?_
  obtain ⟨v4, hv4, hk⟩ := bs hk
  refine pCN hO (fun _ => f128_run hv4) (fun u5 F5 G hO => ?_)
  refine pF tF30_1 ?_
  have hc6 := tl_cells hO (j := 0) rfl
  refine pSt (xs := [_]) hO 1 tZ28 rfl (fun G hO => ?_) (h3 := hc6.1) (h6 := one_cell hc6.2)
  refine pE ?_
  refine gn ?_
  refine wpL_sq ?_
  refine wpL_rg ?_
  refine pLs hO 1 [_, _] tA30 tZ30 ?_
  have hc7 := tl_cells hO (j := 0) rfl
  refine pSt (xs := [_, _]) hO 2 tZ30 rfl (fun G hO => ?_) (h6 := (all_c rfl (all_c hc7.2 all_n)))
  refine pE ?_
  refine gn ?_
  refine wpL_rt ?_
  replace hk := Option.some.inj hk; subst hk; exact finThS hO (th_Layout (x := ({ Sections := aA0.Sections, Counters := v4 } : Layout)) (th_pair (c1 := [_]) (th_int aA0.Sections) (th_tree (x := v4) 0))) (resS hO 2 [_, _] tA30 tZ30 resN)
/-- spec.l14in -/
def f127 (aX0 : Int) (aA1 : Int) (aB2 : Int) : Option Bool :=
  some (decide (aX0 ≥ aA1) && decide (aX0 ≤ aB2))
theorem f127_run {aX0 : Int} {aA1 : Int} {aB2 : Int} {r : Bool} {H : Heap} {lk : Lk} (hk : f127 aX0 aA1 aB2 = some r) (hlk : 0 < lk.length := by simp) : runL Try.prog hh 127 [.int .i64 aX0, .int .i64 aA1, .int .i64 aB2] H lk = some (.bool r, H) := by
  refine run_start Try.func127 rfl Try.ntmps127 Try.results127 rfl rfl fun hO => ?_
  unfold f127 at hk
  refine wpL_sq ?_
  refine wpL_rg ?_
  refine pA (.bool _) ?_
  refine pE ?_
  refine gn ?_
  refine wpL_sq ?_
  refine wpL_rg ?_
  refine pM (.int _ _) ?_
  refine pM (.int _ _) ?_
  refine pBi ?_
  refine pM (.bool _) ?_
  refine wpR_mid (l1 := [_, _, _, _]) (fun S' => ∃ J, S' = ⟨hav [(14, .bool (decide (aX0 ≥ aA1) && decide (aX0 ≤ aB2)))] J, H⟩) ?_ ?_
  · refine bc (b := decide (aX0 ≥ aA1)) (fun hg1 => ?_) (fun hg1 => ?_)
    · refine pGy hg1 ?_
      refine pM (.int _ _) ?_
      refine pGy hg1 ?_
      refine pM (.int _ _) ?_
      refine pGy hg1 ?_
      refine pBi ?_
      refine pPt hg1 (.bool _) ?_
      exact pE ⟨_, St.hav _ ⟨by rw [hg1]; rfl, trivial⟩⟩
    · refine pGn hg1 ?_
      refine pGn hg1 ?_
      refine pGn hg1 ?_
      refine pPf hg1 (.bool _) ?_
      exact pE ⟨_, St.hav _ ⟨by rw [hg1]; rfl, trivial⟩⟩
  · rintro _ ⟨J, rfl⟩
    refine pA (.bool _) ?_
    refine pE ?_
    refine gn ?_
    refine wpL_rt ?_
    replace hk := Option.some.inj hk; subst hk; exact fin0 hO
/-- spec.LayoutOk -/
def f126_L1 (aL0 : Layout) : Int → Option (Int ⊕ Int) := fun s =>
  (bif decide (s < (aL0.Counters.length : Int)) then ((getI aL0.Counters s).bind fun c4 => ((f127 c4.From (-1:Int) (w64 (aL0.Sections - (1:Int)))).bind fun v6 => ((bif !v6 then some true else ((f127 c4.To (-1:Int) (w64 (aL0.Sections - (1:Int)))).bind fun v8 => some (!v8))).bind fun t7 => (bif (t7 || (c4.From == c4.To)) then ((some (2:Int)).map Sum.inr) else some (.inl (w64 (s + (1:Int)))))))) else ((some (0:Int)).map Sum.inr))
def f126 (aL0 : Layout) : Option Int :=
  ((f127 aL0.Sections (1:Int) (60:Int)).bind fun v2 => (bif (!v2 || decide ((aL0.Counters.length : Int) > (120:Int))) then some (1:Int) else (loopO (f126_L1 aL0) ((0:Int)))))
theorem f126_run {aL0 : Layout} {r : Int} {l1 : Nat} {H : Heap} {lk : Lk} (hk : f126 aL0 = some r) (hlk : 0 < lk.length := by simp) : runL Try.prog hh 126 [.agg [.int .i64 aL0.Sections, .lit l1 aL0.Counters.length ((flatL 0) aL0.Counters)]] H lk = some (.int .i64 r, H) := by
  refine run_start Try.func126 rfl Try.ntmps126 Try.results126 rfl rfl fun hO => ?_
  unfold f126 at hk
  refine wpL_sq ?_
  refine wpL_rg ?_
  refine pBox (cs := [_, _]) hO tZ30 (fun b1 G hO => ?_)
  refine pA (.int _ _) ?_
  refine pE ?_
  refine gn ?_
  refine wpL_sq ?_
  refine wpL_sq ?_
  refine wpL_rg ?_
  refine pF tF30_0 ?_
  refine pLo hO 0 (.int _ _) tA3 ?_
  obtain ⟨v2, hv2, hk⟩ := bs hk
  refine pCall (fun _ => f127_run hv2) ?_
  refine pU ?_
  refine pM (.bool _) ?_
  refine wpR_mid (l1 := [_, _, _, _, _]) (fun S' => ∃ J, S' = ⟨hav [(1, .ptr b1 0), (14, .bool (!v2 || decide ((aL0.Counters.length : Int) > (120:Int))))] J, G⟩) ?_ ?_
  · refine bc (b := !v2) (fun hg1 => ?_) (fun hg1 => ?_)
    · refine pGn hg1 ?_
      refine pGn hg1 ?_
      refine pGn hg1 ?_
      refine pGn hg1 ?_
      refine pPt hg1 (.bool _) ?_
      exact pE ⟨_, St.hav _ ⟨rfl, by rw [hg1]; rfl, trivial⟩⟩
    · refine pGy hg1 ?_
      refine pF tF30_1 ?_
      refine pGy hg1 ?_
      refine pLo hO 0 (.lit _ _ _) tA28 ?_
      refine pGy hg1 ?_
      refine pLen tS28 ?_
      refine pGy hg1 ?_
      refine pBi ?_
      refine pPf hg1 (.bool _) ?_
      exact pE ⟨_, St.hav _ ⟨rfl, by rw [hg1]; rfl, trivial⟩⟩
  · rintro _ ⟨J, rfl⟩
    refine pE ?_
    refine gn ?_
    refine wpL_cd (b := (!v2 || decide ((aL0.Counters.length : Int) > (120:Int)))) (fun hb => ?_) (fun hb => ?_)
    · replace hk := ct hb hk
      refine wpL_sq ?_
      refine wpL_rg ?_
      refine pA (.int _ _) ?_
      refine pE ?_
      refine gn ?_
      refine wpL_rt ?_
      refine gr ?_
      replace hk := Option.some.inj hk; subst hk; exact fin0 hO
    · replace hk := cf hb hk
      refine wpL_sk ?_
      refine gn ?_
      refine wpL_sq ?_
      refine wpL_sq ?_
      refine wpL_rg ?_
      refine pF tF30_1 ?_
      refine pLo hO 0 (.lit _ _ _) tA28 ?_
      refine pLen tS28 ?_
      refine pM (.int _ _) ?_
      refine pE ?_
      refine gn ?_
      refine wpL_bl ?_
      refine wpL_loopO (F := f126_L1 aL0) (fun s S' => ∃ (J : Nat → V) (G : Heap), Owns H G [.blk b1 (.cells 2 [.int .i64 aL0.Sections, .lit l1 aL0.Counters.length ((flatL 0) aL0.Counters)])] ∧ S' = ⟨hav [(1, .ptr b1 0), (16, .lit l1 aL0.Counters.length ((flatL 0) aL0.Counters)), (17, .int .i64 (aL0.Counters.length : Int)), (18, .int .i64 s)] J, G⟩) hk ⟨_, _, hO, St.hav _ ⟨rfl, rfl, rfl, rfl, trivial⟩⟩ ?_
      rintro x3 _ y1 ⟨J, G, hO, rfl⟩ hk hx1
      refine wpL_sq ?_
      refine wpL_rg ?_
      refine pBi ?_
      refine pE ?_
      refine gn ?_
      refine wpL_sq ?_
      refine wpL_cd (b := decide (x3 < (aL0.Counters.length : Int))) (fun hb => ?_) (fun hb => ?_)
      · replace hk := ct hb hk
        refine wpL_sk ?_
        refine gn ?_
        refine wpL_sq ?_
        refine wpL_bl ?_
        refine wpL_sq ?_
        refine wpL_rg ?_
        obtain ⟨c4, hc4, hk⟩ := bs hk
        refine pX hc4 tE28 tZ184 ?_
        refine pLp (.agg [_, _]) (rd2 (lm := 0) (off := 0) hc4 tA184 tZ184) ?_
        refine pNew hO tZ184 t0184 (fun b5 G hO => ?_)
        refine pSt (xs := [_, _]) hO 0 tZ184 rfl (fun G hO => ?_)
        refine pE ?_
        refine gn ?_
        refine wpL_sq ?_
        refine wpL_rg ?_
        refine pF tF184_0 ?_
        refine pLo hO 0 (.int _ _) tA3 ?_
        refine pF tF30_0 ?_
        refine pLo hO 1 (.int _ _) tA3 ?_
        refine pBi ?_
        obtain ⟨v6, hv6, hk⟩ := bs hk
        refine pCall (fun _ => f127_run hv6) ?_
        refine pU ?_
        refine pM (.bool _) ?_
        obtain ⟨t7, ht, hk⟩ := bs hk
        refine wpR_mid (l1 := [_, _, _, _, _, _, _, _]) (fun S' => ∃ J, S' = ⟨hav [(1, .ptr b1 0), (4, .ptr b5 0), (16, .lit l1 aL0.Counters.length ((flatL 0) aL0.Counters)), (17, .int .i64 (aL0.Counters.length : Int)), (18, .int .i64 x3), (37, .bool t7)] J, G⟩) ?_ ?_
        · refine bc (b := !v6) (fun hg1 => ?_) (fun hg1 => ?_)
          · replace hk := ct hg1 ht
            refine pGn hg1 ?_
            refine pGn hg1 ?_
            refine pGn hg1 ?_
            refine pGn hg1 ?_
            refine pGn hg1 ?_
            refine pGn hg1 ?_
            refine pGn hg1 ?_
            refine pPt hg1 (.bool _) ?_
            cases hk; exact pE ⟨_, St.hav _ ⟨rfl, rfl, rfl, rfl, rfl, rfl, trivial⟩⟩
          · replace hk := cf hg1 ht
            refine pGy hg1 ?_
            refine pF tF184_1 ?_
            refine pGy hg1 ?_
            refine pLo hO 0 (.int _ _) tA3 ?_
            refine pGy hg1 ?_
            refine pF tF30_0 ?_
            refine pGy hg1 ?_
            refine pLo hO 1 (.int _ _) tA3 ?_
            refine pGy hg1 ?_
            refine pBi ?_
            refine pGy hg1 ?_
            obtain ⟨v8, hv8, hk⟩ := bs hk
            refine pCall (fun _ => f127_run hv8) ?_
            refine pGy hg1 ?_
            refine pU ?_
            refine pPf hg1 (.bool _) ?_
            cases hk; exact pE ⟨_, St.hav _ ⟨rfl, rfl, rfl, rfl, rfl, rfl, trivial⟩⟩
        · rintro _ ⟨J, rfl⟩
          refine pM (.bool _) ?_
          refine wpR_mid (l1 := [_, _, _, _, _, _]) (fun S' => ∃ J, S' = ⟨hav [(1, .ptr b1 0), (16, .lit l1 aL0.Counters.length ((flatL 0) aL0.Counters)), (17, .int .i64 (aL0.Counters.length : Int)), (18, .int .i64 x3), (44, .bool (t7 || (c4.From == c4.To)))] J, G⟩) ?_ ?_
          · refine bc (b := t7) (fun hg1 => ?_) (fun hg1 => ?_)
            · refine pGn hg1 ?_
              refine pGn hg1 ?_
              refine pGn hg1 ?_
              refine pGn hg1 ?_
              refine pGn hg1 ?_
              refine pPt hg1 (.bool _) ?_
              exact pE ⟨_, St.hav _ ⟨rfl, rfl, rfl, rfl, by rw [hg1]; rfl, trivial⟩⟩
            · refine pGy hg1 ?_
              refine pF tF184_0 ?_
              refine pGy hg1 ?_
              refine pLo hO 0 (.int _ _) tA3 ?_
              refine pGy hg1 ?_
              refine pF tF184_1 ?_
              refine pGy hg1 ?_
              refine pLo hO 0 (.int _ _) tA3 ?_
              refine pGy hg1 ?_
              refine pBi ?_
              refine pPf hg1 (.bool _) ?_
              exact pE ⟨_, St.hav _ ⟨rfl, rfl, rfl, rfl, by rw [hg1]; rfl, trivial⟩⟩
          · rintro _ ⟨J, rfl⟩
            refine pE ?_
            refine gn ?_
            refine wpL_cd (b := (t7 || (c4.From == c4.To))) (fun hb => ?_) (fun hb => ?_)
            · replace hk := ct hb hk
              refine wpL_sq ?_
              refine wpL_rg ?_
              refine pA (.int _ _) ?_
              refine pE ?_
              refine gn ?_
              refine wpL_rt ?_
              refine br (gr (gr (br (gr ?_))))
              replace hk := lx hx1 hk
              replace hk := Option.some.inj hk; subst hk; exact fin0 hO
            · replace hk := cf hb hk
              refine wpL_sk ?_
              refine bn (gn ?_)
              refine wpL_rg ?_
              refine pBi ?_
              refine pM (.int _ _) ?_
              refine pE ?_
              refine gn ?_
              cases hk; exact ⟨_, rfl, _, _, (Owns.pick hO [1] (by decide) rfl), St.hav _ ⟨rfl, rfl, rfl, rfl, trivial⟩⟩
      · replace hk := cf hb hk
        refine wpL_ex ?_
        refine ge (ge (be (gn ?_)))
        replace hk := lx hx1 hk
        refine wpL_sq ?_
        refine wpL_rg ?_
        refine pA (.int _ _) ?_
        refine pE ?_
        refine gn ?_
        refine wpL_rt ?_
        replace hk := Option.some.inj hk; subst hk; exact fin0 hO
/-- spec.BeginCount -/
def f33 (aL0 : Layout) : Option CountState :=
  ((f126 aL0).bind fun v3 => (bif (v3 != (0:Int)) then some ({ Ok := false, Sections := ([] : List Section), Dead := ([] : List Bool) } : CountState) else ((makeB 32 aL0.Sections).bind fun m4 => ((makeB 1 (aL0.Counters.length : Int)).bind fun m6 => some ({ Ok := true, Sections := List.replicate m4 (⟨0, 0, false, false, 0⟩ : Section), Dead := List.replicate m6 (false : Bool) } : CountState)))))
theorem f33_run {aL0 : Layout} {r : CountState} {l1 : Nat} {H : Heap} {lk : Lk} (hk : f33 aL0 = some r) (hlk : 0 < lk.length := by simp) : runL Try.prog hh 33 [.agg [.int .i64 aL0.Sections, .lit l1 aL0.Counters.length ((flatL 0) aL0.Counters)]] H lk = some (.agg [.bool r.Ok, .lit 0 r.Sections.length ((flatL 0) r.Sections), .lit 0 r.Dead.length ((flatL 0) r.Dead)], H) := by
  refine run_start Try.func33 rfl Try.ntmps33 Try.results33 rfl rfl fun hO => ?_
  unfold f33 at hk
  refine wpL_sq ?_
  refine wpL_rg ?_
  refine pBox (cs := [_, _]) hO tZ30 (fun b1 G hO => ?_)
  refine pNew hO tZ40 t040 (fun b2 G hO => ?_)
  refine pE ?_
  refine gn ?_
  refine wpL_sq ?_
  refine wpL_sq ?_
  refine wpL_rg ?_
  refine pLs hO 1 [_, _] tA30 tZ30 ?_
  obtain ⟨v3, hv3, hk⟩ := bs hk
  refine pCall (fun _ => f126_run hv3) ?_
  refine pBi ?_
  refine pE ?_
  refine gn ?_
  refine wpL_cd (b := (v3 != (0:Int))) (fun hb => ?_) (fun hb => ?_)
  · replace hk := ct hb hk
    refine wpL_sq ?_
    refine wpL_rg ?_
    refine pBd [_, _, _] t040 tP40 ?_
    refine pSt (xs := [_, _, _]) hO 0 tZ40 rfl (fun G hO => ?_)
    refine pE ?_
    refine gn ?_
    refine wpL_rt ?_
    refine gr ?_
    replace hk := Option.some.inj hk; subst hk; exact finZ hO (fz_agg (n := 2) (fz_c (fz_bool _) (fz_c (fz_nil (k := 0) Section) (fz_c (fz_nil (k := 0) Bool) (fz_n))))) (resS hO 0 [_, _, _] tA40 tZ40 resN)
  · replace hk := cf hb hk
    refine wpL_sk ?_
    refine gn ?_
    refine wpL_sq ?_
    refine wpL_drw [(0, true), (1, true), (3, true), (4, true), (5, true), (2, true), (6, true), (7, false), (8, false)] [_, _, _, _, _, _, _, _, _] (by decide +kernel) (by rfl) ?_
    refine pF tF30_0 ?_
    refine pLo hO 1 (.int _ _) tA3 ?_
    refine pF tF30_1 ?_
    refine pLo hO 1 (.lit _ _ _) tA28 ?_
    refine pLen tS28 ?_
    obtain ⟨m4, hm4, hk⟩ := bs hk
    refine pMk hO hm4 (⟨0, 0, false, false, 0⟩ : Section) tE37 tZ233 tB233 t0233 (fun b5 G hO => ?_)
    obtain ⟨m6, hm6, hk⟩ := bs hk
    refine pMk hO hm6 (false : Bool) tE38 tZ4 tB4 t04 (fun b7 G hO => ?_)
    refine pBd [_, _, _] t040 tP40 ?_
    refine pSt (xs := [_, _, _]) hO 2 tZ40 rfl (fun G hO => ?_)
    refine pE ?_
    refine gn ?_
    refine wpL_rt ?_
    replace hk := Option.some.inj hk; subst hk; exact finZ hO (fz_agg (n := 2) (fz_c (fz_bool _) (fz_c (fz_made (xs := (List.replicate m4 (⟨0, 0, false, false, 0⟩ : Section))) List.length_replicate hlk 1) (fz_c (fz_made (xs := (List.replicate m6 (false : Bool))) List.length_replicate hlk 0) (fz_n))))) (resS hO 2 [_, _, _] tA40 tZ40 resN)
/-- impl.LayoutOk$1 -/
def f250 (aX0 : Int) (aA1 : Layout) : Option Bool :=
  some (decide (aX0 ≥ (-1:Int)) && decide (aX0 < aA1.Sections))
theorem f250_run {aX0 : Int} {aA1 : Layout} {r : Bool} {l1 : Nat} {H : Heap} {lk : Lk} {q0 : Nat} (hk : f250 aX0 aA1 = some r) (hq0 : H[q0]? = some (.cells 2 [.int .i64 aA1.Sections, .lit l1 aA1.Counters.length ((flatL 0) aA1.Counters)])) (hlk : 0 < lk.length := by simp) : runL Try.prog hh 250 [.int .i64 aX0, .ptr q0 0] H lk = some (.bool r, H) := by
  refine run_start Try.func250 rfl Try.ntmps250 Try.results250 rfl rfl fun hO => ?_
  unfold f250 at hk
  refine wpL_sq ?_
  refine wpL_rg ?_
  refine pA (.bool _) ?_
  refine pE ?_
  refine gn ?_
  refine wpL_sq ?_
  refine wpL_rg ?_
  refine pM (.int _ _) ?_
  refine pBi ?_
  refine pM (.bool _) ?_
  refine wpR_mid (l1 := [_, _, _, _, _]) (fun S' => ∃ J, S' = ⟨hav [(11, .bool (decide (aX0 ≥ (-1:Int)) && decide (aX0 < aA1.Sections)))] J, H⟩) ?_ ?_
  · refine bc (b := decide (aX0 ≥ (-1:Int))) (fun hg1 => ?_) (fun hg1 => ?_)
    · refine pGy hg1 ?_
      refine pM (.int _ _) ?_
      refine pGy hg1 ?_
      refine pF tF30_0 ?_
      refine pGy hg1 ?_
      refine pLf (.int _ _) hO hq0 tA3 ?_
      refine pGy hg1 ?_
      refine pBi ?_
      refine pPt hg1 (.bool _) ?_
      exact pE ⟨_, St.hav _ ⟨by rw [hg1]; rfl, trivial⟩⟩
    · refine pGn hg1 ?_
      refine pGn hg1 ?_
      refine pGn hg1 ?_
      refine pGn hg1 ?_
      refine pPf hg1 (.bool _) ?_
      exact pE ⟨_, St.hav _ ⟨by rw [hg1]; rfl, trivial⟩⟩
  · rintro _ ⟨J, rfl⟩
    refine pA (.bool _) ?_
    refine pE ?_
    refine gn ?_
    refine wpL_rt ?_
    replace hk := Option.some.inj hk; subst hk; exact fin0 hO
/-- impl.LayoutOk -/
def f129_L1 (aL0 : Layout) : Int → Option (Int ⊕ Int) := fun s =>
  (bif decide (s < (aL0.Counters.length : Int)) then ((getI aL0.Counters s).bind fun c3 => ((f250 c3.From aL0).bind fun v5 => ((bif !v5 then some true else ((f250 c3.To aL0).bind fun v7 => some (!v7))).bind fun t6 => (bif (t6 || (c3.From == c3.To)) then ((some (2:Int)).map Sum.inr) else some (.inl (w64 (s + (1:Int)))))))) else ((some (0:Int)).map Sum.inr))
def f129 (aL0 : Layout) : Option Int :=
  (bif ((decide (aL0.Sections < (1:Int)) || decide (aL0.Sections > (60:Int))) || decide ((aL0.Counters.length : Int) > (120:Int))) then some (1:Int) else (loopO (f129_L1 aL0) ((0:Int))))
theorem f129_run {aL0 : Layout} {r : Int} {l1 : Nat} {H : Heap} {lk : Lk} (hk : f129 aL0 = some r) (hlk : 0 < lk.length := by simp) : runL Try.prog hh 129 [.agg [.int .i64 aL0.Sections, .lit l1 aL0.Counters.length ((flatL 0) aL0.Counters)]] H lk = some (.int .i64 r, H) := by
  refine run_start Try.func129 rfl Try.ntmps129 Try.results129 rfl rfl fun hO => ?_
  unfold f129 at hk
  refine wpL_sq ?_
  refine wpL_rg ?_
  refine pBox (cs := [_, _]) hO tZ30 (fun b1 G hO => ?_)
  refine pA (.int _ _) ?_
  refine pE ?_
  refine gn ?_
  refine wpL_sq ?_
  refine wpL_sq ?_
  refine wpL_rg ?_
  refine pF tF30_0 ?_
  refine pLo hO 0 (.int _ _) tA3 ?_
  refine pBi ?_
  refine pM (.bool _) ?_
  refine wpR_mid (l1 := [_, _, _, _]) (fun S' => ∃ J, S' = ⟨hav [(1, .ptr b1 0), (13, .bool (decide (aL0.Sections < (1:Int)) || decide (aL0.Sections > (60:Int))))] J, G⟩) ?_ ?_
  · refine bc (b := decide (aL0.Sections < (1:Int))) (fun hg1 => ?_) (fun hg1 => ?_)
    · refine pGn hg1 ?_
      refine pGn hg1 ?_
      refine pGn hg1 ?_
      refine pPt hg1 (.bool _) ?_
      exact pE ⟨_, St.hav _ ⟨rfl, by rw [hg1]; rfl, trivial⟩⟩
    · refine pGy hg1 ?_
      refine pF tF30_0 ?_
      refine pGy hg1 ?_
      refine pLo hO 0 (.int _ _) tA3 ?_
      refine pGy hg1 ?_
      refine pBi ?_
      refine pPf hg1 (.bool _) ?_
      exact pE ⟨_, St.hav _ ⟨rfl, by rw [hg1]; rfl, trivial⟩⟩
  · rintro _ ⟨J, rfl⟩
    refine pM (.bool _) ?_
    refine wpR_mid (l1 := [_, _, _, _, _]) (fun S' => ∃ J, S' = ⟨hav [(1, .ptr b1 0), (19, .bool ((decide (aL0.Sections < (1:Int)) || decide (aL0.Sections > (60:Int))) || decide ((aL0.Counters.length : Int) > (120:Int))))] J, G⟩) ?_ ?_
    · refine bc (b := (decide (aL0.Sections < (1:Int)) || decide (aL0.Sections > (60:Int)))) (fun hg1 => ?_) (fun hg1 => ?_)
      · refine pGn hg1 ?_
        refine pGn hg1 ?_
        refine pGn hg1 ?_
        refine pGn hg1 ?_
        refine pPt hg1 (.bool _) ?_
        exact pE ⟨_, St.hav _ ⟨rfl, by rw [hg1]; rfl, trivial⟩⟩
      · refine pGy hg1 ?_
        refine pF tF30_1 ?_
        refine pGy hg1 ?_
        refine pLo hO 0 (.lit _ _ _) tA28 ?_
        refine pGy hg1 ?_
        refine pLen tS28 ?_
        refine pGy hg1 ?_
        refine pBi ?_
        refine pPf hg1 (.bool _) ?_
        exact pE ⟨_, St.hav _ ⟨rfl, by rw [hg1]; rfl, trivial⟩⟩
    · rintro _ ⟨J, rfl⟩
      refine pE ?_
      refine gn ?_
      refine wpL_cd (b := ((decide (aL0.Sections < (1:Int)) || decide (aL0.Sections > (60:Int))) || decide ((aL0.Counters.length : Int) > (120:Int)))) (fun hb => ?_) (fun hb => ?_)
      · replace hk := ct hb hk
        refine wpL_sq ?_
        refine wpL_rg ?_
        refine pA (.int _ _) ?_
        refine pE ?_
        refine gn ?_
        refine wpL_rt ?_
        refine gr ?_
        replace hk := Option.some.inj hk; subst hk; exact fin0 hO
      · replace hk := cf hb hk
        refine wpL_sk ?_
        refine gn ?_
        refine wpL_sq ?_
        refine wpL_rg ?_
        refine pFn (vs := [_]) ?_
        refine pA (.fn _ _) ?_
        refine pE ?_
        refine gn ?_
        refine wpL_sq ?_
        refine wpL_sq ?_
        refine wpL_rg ?_
        refine pF tF30_1 ?_
        refine pLo hO 0 (.lit _ _ _) tA28 ?_
        refine pLen tS28 ?_
        refine pM (.int _ _) ?_
        refine pE ?_
        refine gn ?_
        refine wpL_bl ?_
        refine wpL_loopO (F := f129_L1 aL0) (fun s S' => ∃ (J : Nat → V) (G : Heap), Owns H G [.blk b1 (.cells 2 [.int .i64 aL0.Sections, .lit l1 aL0.Counters.length ((flatL 0) aL0.Counters)])] ∧ S' = ⟨hav [(3, .fn 250 [.ptr b1 0]), (22, .lit l1 aL0.Counters.length ((flatL 0) aL0.Counters)), (23, .int .i64 (aL0.Counters.length : Int)), (24, .int .i64 s)] J, G⟩) hk ⟨_, _, hO, St.hav _ ⟨rfl, rfl, rfl, rfl, trivial⟩⟩ ?_
        rintro x2 _ y1 ⟨J, G, hO, rfl⟩ hk hx1
        refine wpL_sq ?_
        refine wpL_rg ?_
        refine pBi ?_
        refine pE ?_
        refine gn ?_
        refine wpL_sq ?_
        refine wpL_cd (b := decide (x2 < (aL0.Counters.length : Int))) (fun hb => ?_) (fun hb => ?_)
        · replace hk := ct hb hk
          refine wpL_sk ?_
          refine gn ?_
          refine wpL_sq ?_
          refine wpL_bl ?_
          refine wpL_sq ?_
          refine wpL_rg ?_
          obtain ⟨c3, hc3, hk⟩ := bs hk
          refine pX hc3 tE28 tZ184 ?_
          refine pLp (.agg [_, _]) (rd2 (lm := 0) (off := 0) hc3 tA184 tZ184) ?_
          refine pNew hO tZ184 t0184 (fun b4 G hO => ?_)
          refine pSt (xs := [_, _]) hO 0 tZ184 rfl (fun G hO => ?_)
          refine pE ?_
          refine gn ?_
          refine wpL_sq ?_
          refine wpL_rg ?_
          refine pM (.fn _ _) ?_
          refine pF tF184_0 ?_
          refine pLo hO 0 (.int _ _) tA3 ?_
          obtain ⟨v5, hv5, hk⟩ := bs hk
          refine pCall (fun _ => f250_run hv5 (hO.get (k := 1) rfl).1) ?_
          refine pU ?_
          refine pM (.bool _) ?_
          obtain ⟨t6, ht, hk⟩ := bs hk
          refine wpR_mid (l1 := [_, _, _, _, _, _]) (fun S' => ∃ J, S' = ⟨hav [(3, .fn 250 [.ptr b1 0]), (5, .ptr b4 0), (22, .lit l1 aL0.Counters.length ((flatL 0) aL0.Counters)), (23, .int .i64 (aL0.Counters.length : Int)), (24, .int .i64 x2), (39, .bool t6)] J, G⟩) ?_ ?_
          · refine bc (b := !v5) (fun hg1 => ?_) (fun hg1 => ?_)
            · replace hk := ct hg1 ht
              refine pGn hg1 ?_
              refine pGn hg1 ?_
              refine pGn hg1 ?_
              refine pGn hg1 ?_
              refine pGn hg1 ?_
              refine pPt hg1 (.bool _) ?_
              cases hk; exact pE ⟨_, St.hav _ ⟨rfl, rfl, rfl, rfl, rfl, rfl, trivial⟩⟩
            · replace hk := cf hg1 ht
              refine pGy hg1 ?_
              refine pM (.fn _ _) ?_
              refine pGy hg1 ?_
              refine pF tF184_1 ?_
              refine pGy hg1 ?_
              refine pLo hO 0 (.int _ _) tA3 ?_
              refine pGy hg1 ?_
              obtain ⟨v7, hv7, hk⟩ := bs hk
              refine pCall (fun _ => f250_run hv7 (hO.get (k := 1) rfl).1) ?_
              refine pGy hg1 ?_
              refine pU ?_
              refine pPf hg1 (.bool _) ?_
              cases hk; exact pE ⟨_, St.hav _ ⟨rfl, rfl, rfl, rfl, rfl, rfl, trivial⟩⟩
          · rintro _ ⟨J, rfl⟩
            refine pM (.bool _) ?_
            refine wpR_mid (l1 := [_, _, _, _, _, _]) (fun S' => ∃ J, S' = ⟨hav [(3, .fn 250 [.ptr b1 0]), (22, .lit l1 aL0.Counters.length ((flatL 0) aL0.Counters)), (23, .int .i64 (aL0.Counters.length : Int)), (24, .int .i64 x2), (46, .bool (t6 || (c3.From == c3.To)))] J, G⟩) ?_ ?_
            · refine bc (b := t6) (fun hg1 => ?_) (fun hg1 => ?_)
              · refine pGn hg1 ?_
                refine pGn hg1 ?_
                refine pGn hg1 ?_
                refine pGn hg1 ?_
                refine pGn hg1 ?_
                refine pPt hg1 (.bool _) ?_
                exact pE ⟨_, St.hav _ ⟨rfl, rfl, rfl, rfl, by rw [hg1]; rfl, trivial⟩⟩
              · refine pGy hg1 ?_
                refine pF tF184_0 ?_
                refine pGy hg1 ?_
                refine pLo hO 0 (.int _ _) tA3 ?_
                refine pGy hg1 ?_
                refine pF tF184_1 ?_
                refine pGy hg1 ?_
                refine pLo hO 0 (.int _ _) tA3 ?_
                refine pGy hg1 ?_
                refine pBi ?_
                refine pPf hg1 (.bool _) ?_
                exact pE ⟨_, St.hav _ ⟨rfl, rfl, rfl, rfl, by rw [hg1]; rfl, trivial⟩⟩
            · rintro _ ⟨J, rfl⟩
              refine pE ?_
              refine gn ?_
              refine wpL_cd (b := (t6 || (c3.From == c3.To))) (fun hb => ?_) (fun hb => ?_)
              · replace hk := ct hb hk
                refine wpL_sq ?_
                refine wpL_rg ?_
                refine pA (.int _ _) ?_
                refine pE ?_
                refine gn ?_
                refine wpL_rt ?_
                refine br (gr (gr (br (gr ?_))))
                replace hk := lx hx1 hk
                replace hk := Option.some.inj hk; subst hk; exact fin0 hO
              · replace hk := cf hb hk
                refine wpL_sk ?_
                refine bn (gn ?_)
                refine wpL_rg ?_
                refine pBi ?_
                refine pM (.int _ _) ?_
                refine pE ?_
                refine gn ?_
                cases hk; exact ⟨_, rfl, _, _, (Owns.pick hO [1] (by decide) rfl), St.hav _ ⟨rfl, rfl, rfl, rfl, trivial⟩⟩
        · replace hk := cf hb hk
          refine wpL_ex ?_
          refine ge (ge (be (gn ?_)))
          replace hk := lx hx1 hk
          refine wpL_sq ?_
          refine wpL_rg ?_
          refine pA (.int _ _) ?_
          refine pE ?_
          refine gn ?_
          refine wpL_rt ?_
          replace hk := Option.some.inj hk; subst hk; exact fin0 hO
/-- impl.BeginCount -/
def f34 (aL0 : Layout) : Option CountState :=
  ((f129 aL0).bind fun v3 => (bif (v3 != (0:Int)) then some ({ Ok := false, Sections := ([] : List Section), Dead := ([] : List Bool) } : CountState) else ((makeB 32 aL0.Sections).bind fun m4 => ((makeB 1 (aL0.Counters.length : Int)).bind fun m6 => some ({ Ok := true, Sections := List.replicate m4 (⟨0, 0, false, false, 0⟩ : Section), Dead := List.replicate m6 (false : Bool) } : CountState)))))
theorem f34_run {aL0 : Layout} {r : CountState} {l1 : Nat} {H : Heap} {lk : Lk} (hk : f34 aL0 = some r) (hlk : 0 < lk.length := by simp) : ∃ v H1, runL Try.prog hh 34 [.agg [.int .i64 aL0.Sections, .lit l1 aL0.Counters.length ((flatL 0) aL0.Counters)]] H lk = some (v, H1) ∧ FreshS H r v H1 := by
  refine run_startR Try.func34 rfl Try.ntmps34 Try.results34 rfl rfl ?_
  have hO := Owns.nil H
  unfold f34 at hk
  refine wpL_sq ?_
  refine wpL_rg ?_
  refine pBox (cs := [_, _]) hO tZ30 (fun b1 G hO => ?_)
  refine pNew hO tZ40 t040 (fun b2 G hO => ?_)
  refine pE ?_
  refine gn ?_
  refine wpL_sq ?_
  refine wpL_sq ?_
  refine wpL_rg ?_
  refine pLs hO 1 [_, _] tA30 tZ30 ?_
  obtain ⟨v3, hv3, hk⟩ := bs hk
  refine pCall (fun _ => f129_run hv3) ?_
  refine pBi ?_
  refine pE ?_
  refine gn ?_
  refine wpL_cd (b := (v3 != (0:Int))) (fun hb => ?_) (fun hb => ?_)
  · replace hk := ct hb hk
    refine wpL_sq ?_
    refine wpL_rg ?_
    refine pBd [_, _, _] t040 tP40 ?_
    refine pSt (xs := [_, _, _]) hO 0 tZ40 rfl (fun G hO => ?_)
    refine pE ?_
    refine gn ?_
    refine wpL_rt ?_
    refine gr ?_
    replace hk := Option.some.inj hk; subst hk; exact finThS hO (th_CountState (x := ({ Ok := false, Sections := ([] : List Section), Dead := ([] : List Bool) } : CountState)) (th_pair (c1 := [_]) (th_bool false) (th_pair (c1 := [_]) (th_nil Section) (th_nil Bool)))) (resS hO 0 [_, _, _] tA40 tZ40 resN)
  · replace hk := cf hb hk
    refine wpL_sk ?_
    refine gn ?_
    refine wpL_sq ?_
    refine wpL_drw [(0, true), (1, true), (3, true), (4, true), (5, true), (2, true), (6, true), (7, false), (8, false)] [_, _, _, _, _, _, _, _, _] (by decide +kernel) (by rfl) ?_
    refine pF tF30_0 ?_
    refine pLo hO 1 (.int _ _) tA3 ?_
    refine pF tF30_1 ?_
    refine pLo hO 1 (.lit _ _ _) tA28 ?_
    refine pLen tS28 ?_
    obtain ⟨m4, hm4, hk⟩ := bs hk
    refine pMk hO hm4 (⟨0, 0, false, false, 0⟩ : Section) tE37 tZ233 tB233 t0233 (fun b5 G hO => ?_)
    obtain ⟨m6, hm6, hk⟩ := bs hk
    refine pMk hO hm6 (false : Bool) tE38 tZ4 tB4 t04 (fun b7 G hO => ?_)
    refine pBd [_, _, _] t040 tP40 ?_
    refine pSt (xs := [_, _, _]) hO 2 tZ40 rfl (fun G hO => ?_)
    refine pE ?_
    refine gn ?_
    refine wpL_rt ?_
    replace hk := Option.some.inj hk; subst hk; exact finThS hO (th_CountState (x := ({ Ok := true, Sections := List.replicate m4 (⟨0, 0, false, false, 0⟩ : Section), Dead := List.replicate m6 (false : Bool) } : CountState)) (th_pair (c1 := [_]) (th_bool true) (th_pair (c1 := [_]) (th_made (xs := (List.replicate m4 (⟨0, 0, false, false, 0⟩ : Section))) List.length_replicate hlk 1) (th_made (xs := (List.replicate m6 (false : Bool))) List.length_replicate hlk 0)))) (resS hO 2 [_, _, _] tA40 tZ40 resN)
/-- laws.eqSection -/
def f252 (aA0 : Section) (aB1 : Section) : Option Bool :=
  (bif (aA0.Told != aB1.Told) then some false else (bif (aA0.Count != aB1.Count) then some false else (bif !(aA0.Lost == aB1.Lost) then some false else (bif !(aA0.Sweep == aB1.Sweep) then some false else (bif (aA0.Last != aB1.Last) then some false else some true)))))
theorem f252_run {aA0 : Section} {aB1 : Section} {r : Bool} {H : Heap} {lk : Lk} (hk : f252 aA0 aB1 = some r) (hlk : 0 < lk.length := by simp) : runL Try.prog hh 252 [.agg [.int .i64 aA0.Told, .int .i64 aA0.Count, .bool aA0.Lost, .bool aA0.Sweep, .int .i64 aA0.Last], .agg [.int .i64 aB1.Told, .int .i64 aB1.Count, .bool aB1.Lost, .bool aB1.Sweep, .int .i64 aB1.Last]] H lk = some (.bool r, H) := by
  refine run_start Try.func252 rfl Try.ntmps252 Try.results252 rfl rfl fun hO => ?_
  unfold f252 at hk
  refine wpL_sq ?_
  refine wpL_rg ?_
  refine pBox (cs := [_, _, _, _, _]) hO tZ233 (fun b1 G hO => ?_)
  refine pBox (cs := [_, _, _, _, _]) hO tZ233 (fun b2 G hO => ?_)
  refine pA (.bool _) ?_
  refine pE ?_
  refine gn ?_
  refine wpL_sq ?_
  refine wpL_sq ?_
  refine wpL_rg ?_
  refine pF tF233_0 ?_
  refine pLo hO 1 (.int _ _) tA3 ?_
  refine pF tF233_0 ?_
  refine pLo hO 0 (.int _ _) tA3 ?_
  refine pBi ?_
  refine pE ?_
  refine gn ?_
  refine wpL_cd (b := (aA0.Told != aB1.Told)) (fun hb => ?_) (fun hb => ?_)
  · replace hk := ct hb hk
    refine wpL_sq ?_
    refine wpL_rg ?_
    refine pA (.bool _) ?_
    refine pE ?_
    refine gn ?_
    refine wpL_rt ?_
    refine gr ?_
    replace hk := Option.some.inj hk; subst hk; exact fin0 hO
  · replace hk := cf hb hk
    refine wpL_sk ?_
    refine gn ?_
    refine wpL_sq ?_
    refine wpL_sq ?_
    refine wpL_rg ?_
    refine pF tF233_1 ?_
    refine pLo hO 1 (.int _ _) tA3 ?_
    refine pF tF233_1 ?_
    refine pLo hO 0 (.int _ _) tA3 ?_
    refine pBi ?_
    refine pE ?_
    refine gn ?_
    refine wpL_cd (b := (aA0.Count != aB1.Count)) (fun hb => ?_) (fun hb => ?_)
    · replace hk := ct hb hk
      refine wpL_sq ?_
      refine wpL_rg ?_
      refine pA (.bool _) ?_
      refine pE ?_
      refine gn ?_
      refine wpL_rt ?_
      refine gr ?_
      replace hk := Option.some.inj hk; subst hk; exact fin0 hO
    · replace hk := cf hb hk
      refine wpL_sk ?_
      refine gn ?_
      refine wpL_sq ?_
      refine wpL_sq ?_
      refine wpL_rg ?_
      refine pF tF233_2 ?_
      refine pLo hO 1 (.bool _) tA4 ?_
      refine pF tF233_2 ?_
      refine pLo hO 0 (.bool _) tA4 ?_
      refine pBn Try.underlying4 ?_
      refine pE ?_
      refine gn ?_
      refine wpL_cd (b := !(aA0.Lost == aB1.Lost)) (fun hb => ?_) (fun hb => ?_)
      · replace hk := ct hb hk
        refine wpL_sq ?_
        refine wpL_rg ?_
        refine pA (.bool _) ?_
        refine pE ?_
        refine gn ?_
        refine wpL_rt ?_
        refine gr ?_
        replace hk := Option.some.inj hk; subst hk; exact fin0 hO
      · replace hk := cf hb hk
        refine wpL_sk ?_
        refine gn ?_
        refine wpL_sq ?_
        refine wpL_sq ?_
        refine wpL_rg ?_
        refine pF tF233_3 ?_
        refine pLo hO 1 (.bool _) tA4 ?_
        refine pF tF233_3 ?_
        refine pLo hO 0 (.bool _) tA4 ?_
        refine pBn Try.underlying4 ?_
        refine pE ?_
        refine gn ?_
        refine wpL_cd (b := !(aA0.Sweep == aB1.Sweep)) (fun hb => ?_) (fun hb => ?_)
        · replace hk := ct hb hk
          refine wpL_sq ?_
          refine wpL_rg ?_
          refine pA (.bool _) ?_
          refine pE ?_
          refine gn ?_
          refine wpL_rt ?_
          refine gr ?_
          replace hk := Option.some.inj hk; subst hk; exact fin0 hO
        · replace hk := cf hb hk
          refine wpL_sk ?_
          refine gn ?_
          refine wpL_sq ?_
          refine wpL_sq ?_
          refine wpL_rg ?_
          refine pF tF233_4 ?_
          refine pLo hO 1 (.int _ _) tA3 ?_
          refine pF tF233_4 ?_
          refine pLo hO 0 (.int _ _) tA3 ?_
          refine pBi ?_
          refine pE ?_
          refine gn ?_
          refine wpL_cd (b := (aA0.Last != aB1.Last)) (fun hb => ?_) (fun hb => ?_)
          · replace hk := ct hb hk
            refine wpL_sq ?_
            refine wpL_rg ?_
            refine pA (.bool _) ?_
            refine pE ?_
            refine gn ?_
            refine wpL_rt ?_
            refine gr ?_
            replace hk := Option.some.inj hk; subst hk; exact fin0 hO
          · replace hk := cf hb hk
            refine wpL_sk ?_
            refine gn ?_
            refine wpL_sq ?_
            refine wpL_rg ?_
            refine pA (.bool _) ?_
            refine pE ?_
            refine gn ?_
            refine wpL_rt ?_
            replace hk := Option.some.inj hk; subst hk; exact fin0 hO
/-- laws.eqSectionS -/
def f132_L1 (aA0 : List Section) (aB1 : List Section) : Int → Option (Int ⊕ Bool) := fun s =>
  (bif decide (s < (aA0.length : Int)) then ((getI aA0 s).bind fun c2 => ((getI aB1 s).bind fun c3 => ((f252 c2 c3).bind fun v4 => (bif !v4 then ((some false).map Sum.inr) else some (.inl (w64 (s + (1:Int)))))))) else ((some true).map Sum.inr))
def f132 (aA0 : List Section) (aB1 : List Section) : Option Bool :=
  (bif ((aA0.length : Int) != (aB1.length : Int)) then some false else (loopO (f132_L1 aA0 aB1) ((0:Int))))
theorem f132_run {aA0 : List Section} {aB1 : List Section} {r : Bool} {l1 l2 : Nat} {H : Heap} {lk : Lk} (hk : f132 aA0 aB1 = some r) (hlk : 0 < lk.length := by simp) : runL Try.prog hh 132 [.lit l1 aA0.length ((flatL 0) aA0), .lit l2 aB1.length ((flatL 0) aB1)] H lk = some (.bool r, H) := by
  refine run_start Try.func132 rfl Try.ntmps132 Try.results132 rfl rfl fun hO => ?_
  unfold f132 at hk
  refine wpL_sq ?_
  refine wpL_rg ?_
  refine pA (.bool _) ?_
  refine pE ?_
  refine gn ?_
  refine wpL_sq ?_
  refine wpL_sq ?_
  refine wpL_rg ?_
  refine pM (.lit _ _ _) ?_
  refine pLen tS37 ?_
  refine pM (.lit _ _ _) ?_
  refine pLen tS37 ?_
  refine pBi ?_
  refine pE ?_
  refine gn ?_
  refine wpL_cd (b := ((aA0.length : Int) != (aB1.length : Int))) (fun hb => ?_) (fun hb => ?_)
  · replace hk := ct hb hk
    refine wpL_sq ?_
    refine wpL_rg ?_
    refine pA (.bool _) ?_
    refine pE ?_
    refine gn ?_
    refine wpL_rt ?_
    refine gr ?_
    replace hk := Option.some.inj hk; subst hk; exact fin0 hO
  · replace hk := cf hb hk
    refine wpL_sk ?_
    refine gn ?_
    refine wpL_sq ?_
    refine wpL_sq ?_
    refine wpL_rg ?_
    refine pA (.int _ _) ?_
    refine pE ?_
    refine gn ?_
    refine wpL_bl ?_
    refine wpL_loopO (F := f132_L1 aA0 aB1) (fun s S' => ∃ (J : Nat → V) (G : Heap), Owns H G [] ∧ S' = ⟨hav [(0, .lit l1 aA0.length ((flatL 0) aA0)), (1, .lit l2 aB1.length ((flatL 0) aB1)), (5, .int .i64 s)] J, G⟩) hk ⟨_, _, hO, St.hav _ ⟨rfl, rfl, rfl, trivial⟩⟩ ?_
    rintro x1 _ y1 ⟨J, G, hO, rfl⟩ hk hx1
    refine wpL_sq ?_
    refine wpL_sq ?_
    refine wpL_rg ?_
    refine pM (.int _ _) ?_
    refine pM (.lit _ _ _) ?_
    refine pLen tS37 ?_
    refine pBi ?_
    refine pE ?_
    refine gn ?_
    refine wpL_cd (b := decide (x1 < (aA0.length : Int))) (fun hb => ?_) (fun hb => ?_)
    · replace hk := ct hb hk
      refine wpL_sk ?_
      refine gn ?_
      refine wpL_sq ?_
      refine wpL_bl ?_
      refine wpL_sq ?_
      refine wpL_drw [(0, true), (1, true), (2, true), (3, true), (4, true), (5, true), (6, true), (7, true), (8, false), (9, false)] [_, _, _, _, _, _, _, _, _, _] (by decide +kernel) (by rfl) ?_
      refine pM (.lit _ _ _) ?_
      refine pM (.int _ _) ?_
      obtain ⟨c2, hc2, hk⟩ := bs hk
      refine pX hc2 tE37 tZ233 ?_
      refine pLp (.agg [_, _, _, _, _]) (rd2 (lm := 0) (off := 0) hc2 tA233 tZ233) ?_
      refine pM (.lit _ _ _) ?_
      refine pM (.int _ _) ?_
      obtain ⟨c3, hc3, hk⟩ := bs hk
      refine pX hc3 tE37 tZ233 ?_
      refine pLp (.agg [_, _, _, _, _]) (rd2 (lm := 0) (off := 0) hc3 tA233 tZ233) ?_
      obtain ⟨v4, hv4, hk⟩ := bs hk
      refine pCall (fun _ => f252_run hv4) ?_
      refine pU ?_
      refine pE ?_
      refine gn ?_
      refine wpL_cd (b := !v4) (fun hb => ?_) (fun hb => ?_)
      · replace hk := ct hb hk
        refine wpL_sq ?_
        refine wpL_rg ?_
        refine pA (.bool _) ?_
        refine pE ?_
        refine gn ?_
        refine wpL_rt ?_
        refine br (gr (gr (br (gr ?_))))
        replace hk := lx hx1 hk
        replace hk := Option.some.inj hk; subst hk; exact fin0 hO
      · replace hk := cf hb hk
        refine wpL_sk ?_
        refine bn (gn ?_)
        refine wpL_rg ?_
        refine pM (.int _ _) ?_
        refine pBi ?_
        refine pA (.int _ _) ?_
        refine pE ?_
        refine gn ?_
        cases hk; exact ⟨_, rfl, _, _, hO, St.hav _ ⟨rfl, rfl, rfl, trivial⟩⟩
    · replace hk := cf hb hk
      refine wpL_ex ?_
      refine ge (ge (be (gn ?_)))
      replace hk := lx hx1 hk
      refine wpL_sq ?_
      refine wpL_rg ?_
      refine pA (.bool _) ?_
      refine pE ?_
      refine gn ?_
      refine wpL_rt ?_
      replace hk := Option.some.inj hk; subst hk; exact fin0 hO
/-- laws.eqBoolS -/
def f133_L1 (aA0 : List Bool) (aB1 : List Bool) : Int → Option (Int ⊕ Bool) := fun s =>
  (bif decide (s < (aA0.length : Int)) then ((getI aA0 s).bind fun c2 => ((getI aB1 s).bind fun c3 => (bif !(c2 == c3) then ((some false).map Sum.inr) else some (.inl (w64 (s + (1:Int))))))) else ((some true).map Sum.inr))
def f133 (aA0 : List Bool) (aB1 : List Bool) : Option Bool :=
  (bif ((aA0.length : Int) != (aB1.length : Int)) then some false else (loopO (f133_L1 aA0 aB1) ((0:Int))))
theorem f133_run {aA0 : List Bool} {aB1 : List Bool} {r : Bool} {l1 l2 : Nat} {H : Heap} {lk : Lk} (hk : f133 aA0 aB1 = some r) (hlk : 0 < lk.length := by simp) : runL Try.prog hh 133 [.lit l1 aA0.length ((flatL 0) aA0), .lit l2 aB1.length ((flatL 0) aB1)] H lk = some (.bool r, H) := by
  refine run_start Try.func133 rfl Try.ntmps133 Try.results133 rfl rfl fun hO => ?_
  unfold f133 at hk
  refine wpL_sq ?_
  refine wpL_rg ?_
  refine pA (.bool _) ?_
  refine pE ?_
  refine gn ?_
  refine wpL_sq ?_
  refine wpL_sq ?_
  refine wpL_rg ?_
  refine pM (.lit _ _ _) ?_
  refine pLen tS38 ?_
  refine pM (.lit _ _ _) ?_
  refine pLen tS38 ?_
  refine pBi ?_
  refine pE ?_
  refine gn ?_
  refine wpL_cd (b := ((aA0.length : Int) != (aB1.length : Int))) (fun hb => ?_) (fun hb => ?_)
  · replace hk := ct hb hk
    refine wpL_sq ?_
    refine wpL_rg ?_
    refine pA (.bool _) ?_
    refine pE ?_
    refine gn ?_
    refine wpL_rt ?_
    refine gr ?_
    replace hk := Option.some.inj hk; subst hk; exact fin0 hO
  · replace hk := cf hb hk
    refine wpL_sk ?_
    refine gn ?_
    refine wpL_sq ?_
    refine wpL_sq ?_
    refine wpL_rg ?_
    refine pA (.int _ _) ?_
    refine pE ?_
    refine gn ?_
    refine wpL_bl ?_
    refine wpL_loopO (F := f133_L1 aA0 aB1) (fun s S' => ∃ (J : Nat → V) (G : Heap), Owns H G [] ∧ S' = ⟨hav [(0, .lit l1 aA0.length ((flatL 0) aA0)), (1, .lit l2 aB1.length ((flatL 0) aB1)), (5, .int .i64 s)] J, G⟩) hk ⟨_, _, hO, St.hav _ ⟨rfl, rfl, rfl, trivial⟩⟩ ?_
    rintro x1 _ y1 ⟨J, G, hO, rfl⟩ hk hx1
    refine wpL_sq ?_
    refine wpL_sq ?_
    refine wpL_rg ?_
    refine pM (.int _ _) ?_
    refine pM (.lit _ _ _) ?_
    refine pLen tS38 ?_
    refine pBi ?_
    refine pE ?_
    refine gn ?_
    refine wpL_cd (b := decide (x1 < (aA0.length : Int))) (fun hb => ?_) (fun hb => ?_)
    · replace hk := ct hb hk
      refine wpL_sk ?_
      refine gn ?_
      refine wpL_sq ?_
      refine wpL_bl ?_
      refine wpL_sq ?_
      refine wpL_drw [(0, true), (1, true), (2, true), (3, true), (4, true), (5, true), (6, true), (7, true), (8, false)] [_, _, _, _, _, _, _, _, _] (by decide +kernel) (by rfl) ?_
      refine pM (.lit _ _ _) ?_
      refine pM (.int _ _) ?_
      obtain ⟨c2, hc2, hk⟩ := bs hk
      refine pX hc2 tE38 tZ4 ?_
      refine pLp (.bool _) (rd1 (lm := 0) (off := 0) hc2 tA4) ?_
      refine pM (.lit _ _ _) ?_
      refine pM (.int _ _) ?_
      obtain ⟨c3, hc3, hk⟩ := bs hk
      refine pX hc3 tE38 tZ4 ?_
      refine pLp (.bool _) (rd1 (lm := 0) (off := 0) hc3 tA4) ?_
      refine pBn Try.underlying4 ?_
      refine pE ?_
      refine gn ?_
      refine wpL_cd (b := !(c2 == c3)) (fun hb => ?_) (fun hb => ?_)
      · replace hk := ct hb hk
        refine wpL_sq ?_
        refine wpL_rg ?_
        refine pA (.bool _) ?_
        refine pE ?_
        refine gn ?_
        refine wpL_rt ?_
        refine br (gr (gr (br (gr ?_))))
        replace hk := lx hx1 hk
        replace hk := Option.some.inj hk; subst hk; exact fin0 hO
      · replace hk := cf hb hk
        refine wpL_sk ?_
        refine bn (gn ?_)
        refine wpL_rg ?_
        refine pM (.int _ _) ?_
        refine pBi ?_
        refine pA (.int _ _) ?_
        refine pE ?_
        refine gn ?_
        cases hk; exact ⟨_, rfl, _, _, hO, St.hav _ ⟨rfl, rfl, rfl, trivial⟩⟩
    · replace hk := cf hb hk
      refine wpL_ex ?_
      refine ge (ge (be (gn ?_)))
      replace hk := lx hx1 hk
      refine wpL_sq ?_
      refine wpL_rg ?_
      refine pA (.bool _) ?_
      refine pE ?_
      refine gn ?_
      refine wpL_rt ?_
      replace hk := Option.some.inj hk; subst hk; exact fin0 hO
/-- laws.eqCountState -/
def f35 (aA0 : CountState) (aB1 : CountState) : Option Bool :=
  (bif !(aA0.Ok == aB1.Ok) then some false else ((f132 aA0.Sections aB1.Sections).bind fun v3 => (bif !v3 then some false else ((f133 aA0.Dead aB1.Dead).bind fun v4 => (bif !v4 then some false else some true)))))
theorem f35_run {aA0 : CountState} {aB1 : CountState} {r : Bool} {l1 l2 l3 l4 : Nat} {H : Heap} {lk : Lk} (hk : f35 aA0 aB1 = some r) (hlk : 0 < lk.length := by simp) : runL Try.prog hh 35 [.agg [.bool aA0.Ok, .lit l1 aA0.Sections.length ((flatL 0) aA0.Sections), .lit l2 aA0.Dead.length ((flatL 0) aA0.Dead)], .agg [.bool aB1.Ok, .lit l3 aB1.Sections.length ((flatL 0) aB1.Sections), .lit l4 aB1.Dead.length ((flatL 0) aB1.Dead)]] H lk = some (.bool r, H) := by
  refine run_start Try.func35 rfl Try.ntmps35 Try.results35 rfl rfl fun hO => ?_
  unfold f35 at hk
  refine wpL_sq ?_
  refine wpL_rg ?_
  refine pBox (cs := [_, _, _]) hO tZ40 (fun b1 G hO => ?_)
  refine pBox (cs := [_, _, _]) hO tZ40 (fun b2 G hO => ?_)
  refine pA (.bool _) ?_
  refine pE ?_
  refine gn ?_
  refine wpL_sq ?_
  refine wpL_sq ?_
  refine wpL_rg ?_
  refine pF tF40_0 ?_
  refine pLo hO 1 (.bool _) tA4 ?_
  refine pF tF40_0 ?_
  refine pLo hO 0 (.bool _) tA4 ?_
  refine pBn Try.underlying4 ?_
  refine pE ?_
  refine gn ?_
  refine wpL_cd (b := !(aA0.Ok == aB1.Ok)) (fun hb => ?_) (fun hb => ?_)
  · replace hk := ct hb hk
    refine wpL_sq ?_
    refine wpL_rg ?_
    refine pA (.bool _) ?_
    refine pE ?_
    refine gn ?_
    refine wpL_rt ?_
    refine gr ?_
    replace hk := Option.some.inj hk; subst hk; exact fin0 hO
  · replace hk := cf hb hk
    refine wpL_sk ?_
    refine gn ?_
    refine wpL_sq ?_
    refine wpL_sq ?_
    refine wpL_rg ?_
    refine pF tF40_1 ?_
    refine pLo hO 1 (.lit _ _ _) tA37 ?_
    refine pF tF40_1 ?_
    refine pLo hO 0 (.lit _ _ _) tA37 ?_
    obtain ⟨v3, hv3, hk⟩ := bs hk
    refine pCall (fun _ => f132_run hv3) ?_
    refine pU ?_
    refine pE ?_
    refine gn ?_
    refine wpL_cd (b := !v3) (fun hb => ?_) (fun hb => ?_)
    · replace hk := ct hb hk
      refine wpL_sq ?_
      refine wpL_rg ?_
      refine pA (.bool _) ?_
      refine pE ?_
      refine gn ?_
      refine wpL_rt ?_
      refine gr ?_
      replace hk := Option.some.inj hk; subst hk; exact fin0 hO
    · replace hk := cf hb hk
      refine wpL_sk ?_
      refine gn ?_
      refine wpL_sq ?_
      refine wpL_sq ?_
      refine wpL_rg ?_
      refine pF tF40_2 ?_
      refine pLo hO 1 (.lit _ _ _) tA38 ?_
      refine pF tF40_2 ?_
      refine pLo hO 0 (.lit _ _ _) tA38 ?_
      obtain ⟨v4, hv4, hk⟩ := bs hk
      refine pCall (fun _ => f133_run hv4) ?_
      refine pU ?_
      refine pE ?_
      refine gn ?_
      refine wpL_cd (b := !v4) (fun hb => ?_) (fun hb => ?_)
      · replace hk := ct hb hk
        refine wpL_sq ?_
        refine wpL_rg ?_
        refine pA (.bool _) ?_
        refine pE ?_
        refine gn ?_
        refine wpL_rt ?_
        refine gr ?_
        replace hk := Option.some.inj hk; subst hk; exact fin0 hO
      · replace hk := cf hb hk
        refine wpL_sk ?_
        refine gn ?_
        refine wpL_sq ?_
        refine wpL_rg ?_
        refine pA (.bool _) ?_
        refine pE ?_
        refine gn ?_
        refine wpL_rt ?_
        replace hk := Option.some.inj hk; subst hk; exact fin0 hO
/-- laws.eqCounter -/
def f251 (aA0 : Counter) (aB1 : Counter) : Option Bool :=
  (bif (aA0.From != aB1.From) then some false else (bif (aA0.To != aB1.To) then some false else some true))
theorem f251_run {aA0 : Counter} {aB1 : Counter} {r : Bool} {H : Heap} {lk : Lk} (hk : f251 aA0 aB1 = some r) (hlk : 0 < lk.length := by simp) : runL Try.prog hh 251 [.agg [.int .i64 aA0.From, .int .i64 aA0.To], .agg [.int .i64 aB1.From, .int .i64 aB1.To]] H lk = some (.bool r, H) := by
  refine run_start Try.func251 rfl Try.ntmps251 Try.results251 rfl rfl fun hO => ?_
  unfold f251 at hk
  refine wpL_sq ?_
  refine wpL_rg ?_
  refine pBox (cs := [_, _]) hO tZ184 (fun b1 G hO => ?_)
  refine pBox (cs := [_, _]) hO tZ184 (fun b2 G hO => ?_)
  refine pA (.bool _) ?_
  refine pE ?_
  refine gn ?_
  refine wpL_sq ?_
  refine wpL_sq ?_
  refine wpL_rg ?_
  refine pF tF184_0 ?_
  refine pLo hO 1 (.int _ _) tA3 ?_
  refine pF tF184_0 ?_
  refine pLo hO 0 (.int _ _) tA3 ?_
  refine pBi ?_
  refine pE ?_
  refine gn ?_
  refine wpL_cd (b := (aA0.From != aB1.From)) (fun hb => ?_) (fun hb => ?_)
  · replace hk := ct hb hk
    refine wpL_sq ?_
    refine wpL_rg ?_
    refine pA (.bool _) ?_
    refine pE ?_
    refine gn ?_
    refine wpL_rt ?_
    refine gr ?_
    replace hk := Option.some.inj hk; subst hk; exact fin0 hO
  · replace hk := cf hb hk
    refine wpL_sk ?_
    refine gn ?_
    refine wpL_sq ?_
    refine wpL_sq ?_
    refine wpL_rg ?_
    refine pF tF184_1 ?_
    refine pLo hO 1 (.int _ _) tA3 ?_
    refine pF tF184_1 ?_
    refine pLo hO 0 (.int _ _) tA3 ?_
    refine pBi ?_
    refine pE ?_
    refine gn ?_
    refine wpL_cd (b := (aA0.To != aB1.To)) (fun hb => ?_) (fun hb => ?_)
    · replace hk := ct hb hk
      refine wpL_sq ?_
      refine wpL_rg ?_
      refine pA (.bool _) ?_
      refine pE ?_
      refine gn ?_
      refine wpL_rt ?_
      refine gr ?_
      replace hk := Option.some.inj hk; subst hk; exact fin0 hO
    · replace hk := cf hb hk
      refine wpL_sk ?_
      refine gn ?_
      refine wpL_sq ?_
      refine wpL_rg ?_
      refine pA (.bool _) ?_
      refine pE ?_
      refine gn ?_
      refine wpL_rt ?_
      replace hk := Option.some.inj hk; subst hk; exact fin0 hO
/-- laws.eqCounterS -/
def f130_L1 (aA0 : List Counter) (aB1 : List Counter) : Int → Option (Int ⊕ Bool) := fun s =>
  (bif decide (s < (aA0.length : Int)) then ((getI aA0 s).bind fun c2 => ((getI aB1 s).bind fun c3 => ((f251 c2 c3).bind fun v4 => (bif !v4 then ((some false).map Sum.inr) else some (.inl (w64 (s + (1:Int)))))))) else ((some true).map Sum.inr))
def f130 (aA0 : List Counter) (aB1 : List Counter) : Option Bool :=
  (bif ((aA0.length : Int) != (aB1.length : Int)) then some false else (loopO (f130_L1 aA0 aB1) ((0:Int))))
theorem f130_run {aA0 : List Counter} {aB1 : List Counter} {r : Bool} {l1 l2 : Nat} {H : Heap} {lk : Lk} (hk : f130 aA0 aB1 = some r) (hlk : 0 < lk.length := by simp) : runL Try.prog hh 130 [.lit l1 aA0.length ((flatL 0) aA0), .lit l2 aB1.length ((flatL 0) aB1)] H lk = some (.bool r, H) := by
  refine run_start Try.func130 rfl Try.ntmps130 Try.results130 rfl rfl fun hO => ?_
  unfold f130 at hk
  refine wpL_sq ?_
  refine wpL_rg ?_
  refine pA (.bool _) ?_
  refine pE ?_
  refine gn ?_
  refine wpL_sq ?_
  refine wpL_sq ?_
  refine wpL_rg ?_
  refine pM (.lit _ _ _) ?_
  refine pLen tS28 ?_
  refine pM (.lit _ _ _) ?_
  refine pLen tS28 ?_
  refine pBi ?_
  refine pE ?_
  refine gn ?_
  refine wpL_cd (b := ((aA0.length : Int) != (aB1.length : Int))) (fun hb => ?_) (fun hb => ?_)
  · replace hk := ct hb hk
    refine wpL_sq ?_
    refine wpL_rg ?_
    refine pA (.bool _) ?_
    refine pE ?_
    refine gn ?_
    refine wpL_rt ?_
    refine gr ?_
    replace hk := Option.some.inj hk; subst hk; exact fin0 hO
  · replace hk := cf hb hk
    refine wpL_sk ?_
    refine gn ?_
    refine wpL_sq ?_
    refine wpL_sq ?_
    refine wpL_rg ?_
    refine pA (.int _ _) ?_
    refine pE ?_
    refine gn ?_
    refine wpL_bl ?_
    refine wpL_loopO (F := f130_L1 aA0 aB1) (fun s S' => ∃ (J : Nat → V) (G : Heap), Owns H G [] ∧ S' = ⟨hav [(0, .lit l1 aA0.length ((flatL 0) aA0)), (1, .lit l2 aB1.length ((flatL 0) aB1)), (5, .int .i64 s)] J, G⟩) hk ⟨_, _, hO, St.hav _ ⟨rfl, rfl, rfl, trivial⟩⟩ ?_
    rintro x1 _ y1 ⟨J, G, hO, rfl⟩ hk hx1
    refine wpL_sq ?_
    refine wpL_sq ?_
    refine wpL_rg ?_
    refine pM (.int _ _) ?_
    refine pM (.lit _ _ _) ?_
    refine pLen tS28 ?_
    refine pBi ?_
    refine pE ?_
    refine gn ?_
    refine wpL_cd (b := decide (x1 < (aA0.length : Int))) (fun hb => ?_) (fun hb => ?_)
    · replace hk := ct hb hk
      refine wpL_sk ?_
      refine gn ?_
      refine wpL_sq ?_
      refine wpL_bl ?_
      refine wpL_sq ?_
      refine wpL_drw [(0, true), (1, true), (2, true), (3, true), (4, true), (5, true), (6, true), (7, true), (8, false), (9, false)] [_, _, _, _, _, _, _, _, _, _] (by decide +kernel) (by rfl) ?_
      refine pM (.lit _ _ _) ?_
      refine pM (.int _ _) ?_
      obtain ⟨c2, hc2, hk⟩ := bs hk
      refine pX hc2 tE28 tZ184 ?_
      refine pLp (.agg [_, _]) (rd2 (lm := 0) (off := 0) hc2 tA184 tZ184) ?_
      refine pM (.lit _ _ _) ?_
      refine pM (.int _ _) ?_
      obtain ⟨c3, hc3, hk⟩ := bs hk
      refine pX hc3 tE28 tZ184 ?_
      refine pLp (.agg [_, _]) (rd2 (lm := 0) (off := 0) hc3 tA184 tZ184) ?_
      obtain ⟨v4, hv4, hk⟩ := bs hk
      refine pCall (fun _ => f251_run hv4) ?_
      refine pU ?_
      refine pE ?_
      refine gn ?_
      refine wpL_cd (b := !v4) (fun hb => ?_) (fun hb => ?_)
      · replace hk := ct hb hk
        refine wpL_sq ?_
        refine wpL_rg ?_
        refine pA (.bool _) ?_
        refine pE ?_
        refine gn ?_
        refine wpL_rt ?_
        refine br (gr (gr (br (gr ?_))))
        replace hk := lx hx1 hk
        replace hk := Option.some.inj hk; subst hk; exact fin0 hO
      · replace hk := cf hb hk
        refine wpL_sk ?_
        refine bn (gn ?_)
        refine wpL_rg ?_
        refine pM (.int _ _) ?_
        refine pBi ?_
        refine pA (.int _ _) ?_
        refine pE ?_
        refine gn ?_
        cases hk; exact ⟨_, rfl, _, _, hO, St.hav _ ⟨rfl, rfl, rfl, trivial⟩⟩
    · replace hk := cf hb hk
      refine wpL_ex ?_
      refine ge (ge (be (gn ?_)))
      replace hk := lx hx1 hk
      refine wpL_sq ?_
      refine wpL_rg ?_
      refine pA (.bool _) ?_
      refine pE ?_
      refine gn ?_
      refine wpL_rt ?_
      replace hk := Option.some.inj hk; subst hk; exact fin0 hO
/-- laws.eqLayout -/
def f29 (aA0 : Layout) (aB1 : Layout) : Option Bool :=
  (bif (aA0.Sections != aB1.Sections) then some false else ((f130 aA0.Counters aB1.Counters).bind fun v3 => (bif !v3 then some false else some true)))
theorem f29_run {aA0 : Layout} {aB1 : Layout} {r : Bool} {l1 l2 : Nat} {H : Heap} {lk : Lk} (hk : f29 aA0 aB1 = some r) (hlk : 0 < lk.length := by simp) : runL Try.prog hh 29 [.agg [.int .i64 aA0.Sections, .lit l1 aA0.Counters.length ((flatL 0) aA0.Counters)], .agg [.int .i64 aB1.Sections, .lit l2 aB1.Counters.length ((flatL 0) aB1.Counters)]] H lk = some (.bool r, H) := by
  refine run_start Try.func29 rfl Try.ntmps29 Try.results29 rfl rfl fun hO => ?_
  unfold f29 at hk
  refine wpL_sq ?_
  refine wpL_rg ?_
  refine pBox (cs := [_, _]) hO tZ30 (fun b1 G hO => ?_)
  refine pBox (cs := [_, _]) hO tZ30 (fun b2 G hO => ?_)
  refine pA (.bool _) ?_
  refine pE ?_
  refine gn ?_
  refine wpL_sq ?_
  refine wpL_sq ?_
  refine wpL_rg ?_
  refine pF tF30_0 ?_
  refine pLo hO 1 (.int _ _) tA3 ?_
  refine pF tF30_0 ?_
  refine pLo hO 0 (.int _ _) tA3 ?_
  refine pBi ?_
  refine pE ?_
  refine gn ?_
  refine wpL_cd (b := (aA0.Sections != aB1.Sections)) (fun hb => ?_) (fun hb => ?_)
  · replace hk := ct hb hk
    refine wpL_sq ?_
    refine wpL_rg ?_
    refine pA (.bool _) ?_
    refine pE ?_
    refine gn ?_
    refine wpL_rt ?_
    refine gr ?_
    replace hk := Option.some.inj hk; subst hk; exact fin0 hO
  · replace hk := cf hb hk
    refine wpL_sk ?_
    refine gn ?_
    refine wpL_sq ?_
    refine wpL_sq ?_
    refine wpL_rg ?_
    refine pF tF30_1 ?_
    refine pLo hO 1 (.lit _ _ _) tA28 ?_
    refine pF tF30_1 ?_
    refine pLo hO 0 (.lit _ _ _) tA28 ?_
    obtain ⟨v3, hv3, hk⟩ := bs hk
    refine pCall (fun _ => f130_run hv3) ?_
    refine pU ?_
    refine pE ?_
    refine gn ?_
    refine wpL_cd (b := !v3) (fun hb => ?_) (fun hb => ?_)
    · replace hk := ct hb hk
      refine wpL_sq ?_
      refine wpL_rg ?_
      refine pA (.bool _) ?_
      refine pE ?_
      refine gn ?_
      refine wpL_rt ?_
      refine gr ?_
      replace hk := Option.some.inj hk; subst hk; exact fin0 hO
    · replace hk := cf hb hk
      refine wpL_sk ?_
      refine gn ?_
      refine wpL_sq ?_
      refine wpL_rg ?_
      refine pA (.bool _) ?_
      refine pE ?_
      refine gn ?_
      refine wpL_rt ?_
      replace hk := Option.some.inj hk; subst hk; exact fin0 hO
/-- laws.markCounterS -/
def f131_L1 : ((List Counter) × Int × Int) → Option (((List Counter) × Int × Int) ⊕ (List Counter × Int)) := fun s =>
  (bif decide (s.2.2 < (s.1.length : Int)) then ((getI s.1 s.2.2).bind fun c4 => ((getI (s.1.set s.2.2.toNat ({ c4 with From := s.2.1 })) s.2.2).bind fun c6 => some (.inl ((s.1.set s.2.2.toNat ({ c4 with From := s.2.1 })).set s.2.2.toNat ({ c6 with To := w64 (s.2.1 + (1:Int)) }), w64 ((w64 (s.2.1 + (1:Int))) + (1:Int)), w64 (s.2.2 + (1:Int)))))) else ((some (s.1, s.2.1)).map Sum.inr))
def f131 (aA0 : List Counter) (aK1 : Int) : Option (List Counter × Int) :=
  (loopO (f131_L1) (aA0, aK1, (0:Int)))
theorem f131_run {aA0 : List Counter} {aK1 : Int} {r : (List Counter × Int)} {v0 : V} {F0 : List Nat} {H : Heap} {lk : Lk} (hk : f131 aA0 aK1 = some r) (ha : TrIn H aA0 [v0] F0) (hF : ∀ b ∈ F0, b < H.length) (hS : ∀ b ∈ F0, unlocked lk b = true) (hlk : 0 < lk.length := by simp) : ∃ v H1, runL Try.prog hh 131 [v0, .int .i64 aK1] H lk = some (v, H1) ∧ v = .int .i64 r.2 ∧ TrIn H1 r.1 [v0] F0 ∧ H1.length = H.length ∧ ∀ b, b ∉ F0 → H1[b]? = H[b]? := by
  refine run_startR Try.func131 rfl Try.ntmps131 Try.results131 rfl rfl ?_
  have hO := tree_start ha hF
  have hFr := Sees.refl H F0
  unfold f131 at hk
  refine wpL_sq ?_
  refine wpL_rg ?_
  refine pA (.int _ _) ?_
  refine pE ?_
  refine gn ?_
  refine wpL_sq ?_
  refine wpL_sq ?_
  refine wpL_rg ?_
  refine pA (.int _ _) ?_
  refine pE ?_
  refine gn ?_
  refine wpL_bl ?_
  refine wpL_loopO (F := f131_L1) (fun s S' => ∃ (J : Nat → V) (G : Heap) (H1 : Heap), Sees H H1 F0 ∧ Owns H1 G [Tree F0 F0 s.1 [v0]] ∧ S' = ⟨hav [(0, v0), (1, .int .i64 s.2.1), (5, .int .i64 s.2.2)] J, G⟩) hk ⟨_, _, _, hFr, hO, St.hav _ ⟨rfl, rfl, rfl, trivial⟩⟩ ?_
  rintro ⟨x1, x2, x3⟩ _ y1 ⟨J, G, H1, hFr, hO, rfl⟩ hk hx1
  refine wpL_sq ?_
  refine wpL_sq ?_
  refine wpL_rg ?_
  refine pM (.int _ _) ?_
  refine pM v0 ?_
  refine pLenT hO 0 tS28 ?_
  refine pBi ?_
  refine pE ?_
  refine gn ?_
  refine wpL_cd (b := decide (x3 < (x1.length : Int))) (fun hb => ?_) (fun hb => ?_)
  · replace hk := ct hb hk
    refine wpL_sk ?_
    refine gn ?_
    refine wpL_sq ?_
    refine wpL_bl ?_
    refine wpL_sq ?_
    refine wpL_rg ?_
    refine pM v0 ?_
    refine pM (.int _ _) ?_
    refine pM (.int _ _) ?_
    obtain ⟨c4, hc4, hk⟩ := bs hk
    refine pXT hO 0 hc4 tE28 tZ184 (fun b5 hb5 => ?_)
    refine pF tF184_0 ?_
    refine pST foc_Counter_From (y' := x2) hO 0 hb5 hc4 tZ3 (fun _ => ⟨rfl, rfl⟩) hFr hS rfl (fun H1 G hFr hO => ?_)
    refine pE ?_
    refine gn ?_
    refine wpL_sq ?_
    refine wpL_rg ?_
    refine pM (.int _ _) ?_
    refine pBi ?_
    refine pA (.int _ _) ?_
    refine pE ?_
    refine gn ?_
    refine wpL_sq ?_
    refine wpL_rg ?_
    refine pM v0 ?_
    refine pM (.int _ _) ?_
    refine pM (.int _ _) ?_
    obtain ⟨c6, hc6, hk⟩ := bs hk
    refine pXT hO 0 hc6 tE28 tZ184 (fun b7 hb7 => ?_)
    refine pF tF184_1 ?_
    refine pST foc_Counter_To (y' := (w64 (x2 + (1:Int)))) hO 0 hb7 hc6 tZ3 (fun _ => ⟨rfl, rfl⟩) hFr hS rfl (fun H1 G hFr hO => ?_)
    refine pE ?_
    refine gn ?_
    refine wpL_rg ?_
    refine pM (.int _ _) ?_
    refine pBi ?_
    refine pA (.int _ _) ?_
    refine pE ?_
    refine bn (gn ?_)
    refine wpL_rg ?_
    refine pM (.int _ _) ?_
    refine pBi ?_
    refine pA (.int _ _) ?_
    refine pE ?_
    refine gn ?_
    cases hk; exact ⟨_, rfl, _, _, _, hFr, hO, St.hav _ ⟨rfl, rfl, rfl, trivial⟩⟩
  · replace hk := cf hb hk
    refine wpL_ex ?_
    refine ge (ge (be (gn ?_)))
    replace hk := lx hx1 hk
    refine wpL_sq ?_
    refine wpL_rg ?_
    refine pM (.int _ _) ?_
    refine pA (.int _ _) ?_
    refine pE ?_
    refine gn ?_
    refine wpL_rt ?_
    replace hk := Option.some.inj hk; subst hk; exact finT hO 0 hFr hF
/-- laws.markLayout -/
def f30 (aA0 : Layout) (aK1 : Int) : Option (Layout × Int) :=
  ((f131 aA0.Counters aK1).bind fun z3 => some ({ aA0 with Counters := z3.1 }, z3.2))
theorem f30_run {aA0 : Layout} {aK1 : Int} {r : (Layout × Int)} {v0 : List V} {F0 : List Nat} {H : Heap} {lk : Lk} (hk : f30 aA0 aK1 = some r) (ha : TrIn H aA0 v0 F0) (hF : ∀ b ∈ F0, b < H.length) (hS : ∀ b ∈ F0, unlocked lk b = true) (hlk : 0 < lk.length := by simp) : ∃ v H1, runL Try.prog hh 30 [.agg v0, .int .i64 aK1] H lk = some (v, H1) ∧ v = .int .i64 r.2 ∧ TrIn H1 r.1 v0 F0 ∧ H1.length = H.length ∧ ∀ b, b ∉ F0 → H1[b]? = H[b]? := by
  refine run_startR Try.func30 rfl Try.ntmps30 Try.results30 rfl rfl ?_
  have hO := tree_start ha hF
  have hFr := Sees.refl H F0
  unfold f30 at hk
  refine wpL_sq ?_
  refine wpL_rg ?_
  refine pBoxT hO 0 tZ30 (fun b1 G hO => ?_)
  refine pA (.int _ _) ?_
  refine pE ?_
  refine gn ?_
  refine wpL_sq ?_
  refine wpL_rg ?_
  refine pF tF30_1 ?_
  refine pLTs foc_Layout_Counters hO 0 1 tA28 (fun u2 fs2 hs2 => ?_)
  refine pM (.int _ _) ?_
  obtain ⟨z3, hz3, hk⟩ := bs hk
  refine pCT (y' := z3.1) (r := .int .i64 z3.2) hO 1 hs2 (fun _ h => h) hFr hS (fun hF1 hS1 ht1 => f131_run hz3 ht1 hF1 hS1) (fun H1 G hFr hO => ?_)
  refine pA (.int _ _) ?_
  refine pE ?_
  refine gn ?_
  refine wpL_sq ?_
  refine wpL_rg ?_
  refine pM (.int _ _) ?_
  refine pA (.int _ _) ?_
  refine pE ?_
  refine gn ?_
  refine wpL_rt ?_
  replace hk := Option.some.inj hk; subst hk; exact finT hO 1 hFr hF
/-- laws.markSectionS -/
def f134_L1 : ((List Section) × Int × Int) → Option (((List Section) × Int × Int) ⊕ (List Section × Int)) := fun s =>
  (bif decide (s.2.2 < (s.1.length : Int)) then ((getI s.1 s.2.2).bind fun c4 => ((getI (s.1.set s.2.2.toNat ({ c4 with Told := s.2.1 })) s.2.2).bind fun c6 => ((getI ((s.1.set s.2.2.toNat ({ c4 with Told := s.2.1 })).set s.2.2.toNat ({ c6 with Count := w64 (s.2.1 + (1:Int)) })) s.2.2).bind fun c8 => ((getI (((s.1.set s.2.2.toNat ({ c4 with Told := s.2.1 })).set s.2.2.toNat ({ c6 with Count := w64 (s.2.1 + (1:Int)) })).set s.2.2.toNat ({ c8 with Lost := ((Int.tmod (w64 ((w64 (s.2.1 + (1:Int))) + (1:Int))) (3:Int)) == (0:Int)) })) s.2.2).bind fun c10 => ((getI ((((s.1.set s.2.2.toNat ({ c4 with Told := s.2.1 })).set s.2.2.toNat ({ c6 with Count := w64 (s.2.1 + (1:Int)) })).set s.2.2.toNat ({ c8 with Lost := ((Int.tmod (w64 ((w64 (s.2.1 + (1:Int))) + (1:Int))) (3:Int)) == (0:Int)) })).set s.2.2.toNat ({ c10 with Sweep := ((Int.tmod (w64 ((w64 ((w64 (s.2.1 + (1:Int))) + (1:Int))) + (1:Int))) (3:Int)) == (0:Int)) })) s.2.2).bind fun c12 => some (.inl (((((s.1.set s.2.2.toNat ({ c4 with Told := s.2.1 })).set s.2.2.toNat ({ c6 with Count := w64 (s.2.1 + (1:Int)) })).set s.2.2.toNat ({ c8 with Lost := ((Int.tmod (w64 ((w64 (s.2.1 + (1:Int))) + (1:Int))) (3:Int)) == (0:Int)) })).set s.2.2.toNat ({ c10 with Sweep := ((Int.tmod (w64 ((w64 ((w64 (s.2.1 + (1:Int))) + (1:Int))) + (1:Int))) (3:Int)) == (0:Int)) })).set s.2.2.toNat ({ c12 with Last := w64 ((w64 ((w64 ((w64 (s.2.1 + (1:Int))) + (1:Int))) + (1:Int))) + (1:Int)) }), w64 ((w64 ((w64 ((w64 ((w64 (s.2.1 + (1:Int))) + (1:Int))) + (1:Int))) + (1:Int))) + (1:Int)), w64 (s.2.2 + (1:Int))))))))) else ((some (s.1, s.2.1)).map Sum.inr))
def f134 (aA0 : List Section) (aK1 : Int) : Option (List Section × Int) :=
  (loopO (f134_L1) (aA0, aK1, (0:Int)))
theorem f134_run {aA0 : List Section} {aK1 : Int} {r : (List Section × Int)} {v0 : V} {F0 : List Nat} {H : Heap} {lk : Lk} (hk : f134 aA0 aK1 = some r) (ha : TrIn H aA0 [v0] F0) (hF : ∀ b ∈ F0, b < H.length) (hS : ∀ b ∈ F0, unlocked lk b = true) (hlk : 0 < lk.length := by simp) : ∃ v H1, runL Try.prog hh 134 [v0, .int .i64 aK1] H lk = some (v, H1) ∧ v = .int .i64 r.2 ∧ TrIn H1 r.1 [v0] F0 ∧ H1.length = H.length ∧ ∀ b, b ∉ F0 → H1[b]? = H[b]? := by
  refine run_startR Try.func134 rfl Try.ntmps134 Try.results134 rfl rfl ?_
  have hO := tree_start ha hF
  have hFr := Sees.refl H F0
  unfold f134 at hk
  refine wpL_sq ?_
  refine wpL_rg ?_
  refine pA (.int _ _) ?_
  refine pE ?_
  refine gn ?_
  refine wpL_sq ?_
  refine wpL_sq ?_
  refine wpL_rg ?_
  refine pA (.int _ _) ?_
  refine pE ?_
  refine gn ?_
  refine wpL_bl ?_
  refine wpL_loopO (F := f134_L1) (fun s S' => ∃ (J : Nat → V) (G : Heap) (H1 : Heap), Sees H H1 F0 ∧ Owns H1 G [Tree F0 F0 s.1 [v0]] ∧ S' = ⟨hav [(0, v0), (1, .int .i64 s.2.1), (5, .int .i64 s.2.2)] J, G⟩) hk ⟨_, _, _, hFr, hO, St.hav _ ⟨rfl, rfl, rfl, trivial⟩⟩ ?_
  rintro ⟨x1, x2, x3⟩ _ y1 ⟨J, G, H1, hFr, hO, rfl⟩ hk hx1
  refine wpL_sq ?_
  refine wpL_sq ?_
  refine wpL_rg ?_
  refine pM (.int _ _) ?_
  refine pM v0 ?_
  refine pLenT hO 0 tS37 ?_
  refine pBi ?_
  refine pE ?_
  refine gn ?_
  refine wpL_cd (b := decide (x3 < (x1.length : Int))) (fun hb => ?_) (fun hb => ?_)
  · replace hk := ct hb hk
    refine wpL_sk ?_
    refine gn ?_
    refine wpL_sq ?_
    refine wpL_bl ?_
    refine wpL_sq ?_
    refine wpL_rg ?_
    refine pM v0 ?_
    refine pM (.int _ _) ?_
    refine pM (.int _ _) ?_
    obtain ⟨c4, hc4, hk⟩ := bs hk
    refine pXT hO 0 hc4 tE37 tZ233 (fun b5 hb5 => ?_)
    refine pF tF233_0 ?_
    refine pST foc_Section_Told (y' := x2) hO 0 hb5 hc4 tZ3 (fun _ => ⟨rfl, rfl⟩) hFr hS rfl (fun H1 G hFr hO => ?_)
    refine pE ?_
    refine gn ?_
    refine wpL_sq ?_
    refine wpL_rg ?_
    refine pM (.int _ _) ?_
    refine pBi ?_
    refine pA (.int _ _) ?_
    refine pE ?_
    refine gn ?_
    refine wpL_sq ?_
    refine wpL_rg ?_
    refine pM v0 ?_
    refine pM (.int _ _) ?_
    refine pM (.int _ _) ?_
    obtain ⟨c6, hc6, hk⟩ := bs hk
    refine pXT hO 0 hc6 tE37 tZ233 (fun b7 hb7 => ?_)
    refine pF tF233_1 ?_
    refine pST foc_Section_Count (y' := (w64 (x2 + (1:Int)))) hO 0 hb7 hc6 tZ3 (fun _ => ⟨rfl, rfl⟩) hFr hS rfl (fun H1 G hFr hO => ?_)
    refine pE ?_
    refine gn ?_
    refine wpL_sq ?_
    refine wpL_rg ?_
    refine pM (.int _ _) ?_
    refine pBi ?_
    refine pA (.int _ _) ?_
    refine pE ?_
    refine gn ?_
    refine wpL_sq ?_
    refine wpL_rg ?_
    refine pM v0 ?_
    refine pM (.int _ _) ?_
    refine pM (.int _ _) ?_
    refine pBi ?_
    refine pBi ?_
    obtain ⟨c8, hc8, hk⟩ := bs hk
    refine pXT hO 0 hc8 tE37 tZ233 (fun b9 hb9 => ?_)
    refine pF tF233_2 ?_
    refine pST foc_Section_Lost (y' := ((Int.tmod (w64 ((w64 (x2 + (1:Int))) + (1:Int))) (3:Int)) == (0:Int))) hO 0 hb9 hc8 tZ4 (fun _ => ⟨rfl, rfl⟩) hFr hS rfl (fun H1 G hFr hO => ?_)
    refine pE ?_
    refine gn ?_
    refine wpL_sq ?_
    refine wpL_rg ?_
    refine pM (.int _ _) ?_
    refine pBi ?_
    refine pA (.int _ _) ?_
    refine pE ?_
    refine gn ?_
    refine wpL_sq ?_
    refine wpL_rg ?_
    refine pM v0 ?_
    refine pM (.int _ _) ?_
    refine pM (.int _ _) ?_
    refine pBi ?_
    refine pBi ?_
    obtain ⟨c10, hc10, hk⟩ := bs hk
    refine pXT hO 0 hc10 tE37 tZ233 (fun b11 hb11 => ?_)
    refine pF tF233_3 ?_
    refine pST foc_Section_Sweep (y' := ((Int.tmod (w64 ((w64 ((w64 (x2 + (1:Int))) + (1:Int))) + (1:Int))) (3:Int)) == (0:Int))) hO 0 hb11 hc10 tZ4 (fun _ => ⟨rfl, rfl⟩) hFr hS rfl (fun H1 G hFr hO => ?_)
    refine pE ?_
    refine gn ?_
    refine wpL_sq ?_
    refine wpL_rg ?_
    refine pM (.int _ _) ?_
    refine pBi ?_
    refine pA (.int _ _) ?_
    refine pE ?_
    refine gn ?_
    refine wpL_sq ?_
    refine wpL_rg ?_
    refine pM v0 ?_
    refine pM (.int _ _) ?_
    refine pM (.int _ _) ?_
    obtain ⟨c12, hc12, hk⟩ := bs hk
    refine pXT hO 0 hc12 tE37 tZ233 (fun b13 hb13 => ?_)
    refine pF tF233_4 ?_
    refine pST foc_Section_Last (y' := (w64 ((w64 ((w64 ((w64 (x2 + (1:Int))) + (1:Int))) + (1:Int))) + (1:Int)))) hO 0 hb13 hc12 tZ3 (fun _ => ⟨rfl, rfl⟩) hFr hS rfl (fun H1 G hFr hO => ?_)
    refine pE ?_
    refine gn ?_
    refine wpL_rg ?_
    refine pM (.int _ _) ?_
    refine pBi ?_
    refine pA (.int _ _) ?_
    refine pE ?_
    refine bn (gn ?_)
    refine wpL_rg ?_
    refine pM (.int _ _) ?_
    refine pBi ?_
    refine pA (.int _ _) ?_
    refine pE ?_
    refine gn ?_
    cases hk; exact ⟨_, rfl, _, _, _, hFr, hO, St.hav _ ⟨rfl, rfl, rfl, trivial⟩⟩
  · replace hk := cf hb hk
    refine wpL_ex ?_
    refine ge (ge (be (gn ?_)))
    replace hk := lx hx1 hk
    refine wpL_sq ?_
    refine wpL_rg ?_
    refine pM (.int _ _) ?_
    refine pA (.int _ _) ?_
    refine pE ?_
    refine gn ?_
    refine wpL_rt ?_
    replace hk := Option.some.inj hk; subst hk; exact finT hO 0 hFr hF
/-- laws.markBoolS -/
def f135_L1 : ((List Bool) × Int × Int) → Option (((List Bool) × Int × Int) ⊕ (List Bool × Int)) := fun s =>
  (bif decide (s.2.2 < (s.1.length : Int)) then ((getI s.1 s.2.2).bind fun c4 => some (.inl (s.1.set s.2.2.toNat ((Int.tmod s.2.1 (3:Int)) == (0:Int)), w64 (s.2.1 + (1:Int)), w64 (s.2.2 + (1:Int))))) else ((some (s.1, s.2.1)).map Sum.inr))
def f135 (aA0 : List Bool) (aK1 : Int) : Option (List Bool × Int) :=
  (loopO (f135_L1) (aA0, aK1, (0:Int)))
theorem f135_run {aA0 : List Bool} {aK1 : Int} {r : (List Bool × Int)} {v0 : V} {F0 : List Nat} {H : Heap} {lk : Lk} (hk : f135 aA0 aK1 = some r) (ha : TrIn H aA0 [v0] F0) (hF : ∀ b ∈ F0, b < H.length) (hS : ∀ b ∈ F0, unlocked lk b = true) (hlk : 0 < lk.length := by simp) : ∃ v H1, runL Try.prog hh 135 [v0, .int .i64 aK1] H lk = some (v, H1) ∧ v = .int .i64 r.2 ∧ TrIn H1 r.1 [v0] F0 ∧ H1.length = H.length ∧ ∀ b, b ∉ F0 → H1[b]? = H[b]? := by
  refine run_startR Try.func135 rfl Try.ntmps135 Try.results135 rfl rfl ?_
  have hO := tree_start ha hF
  have hFr := Sees.refl H F0
  unfold f135 at hk
  refine wpL_sq ?_
  refine wpL_rg ?_
  refine pA (.int _ _) ?_
  refine pE ?_
  refine gn ?_
  refine wpL_sq ?_
  refine wpL_sq ?_
  refine wpL_rg ?_
  refine pA (.int _ _) ?_
  refine pE ?_
  refine gn ?_
  refine wpL_bl ?_
  refine wpL_loopO (F := f135_L1) (fun s S' => ∃ (J : Nat → V) (G : Heap) (H1 : Heap), Sees H H1 F0 ∧ Owns H1 G [Tree F0 F0 s.1 [v0]] ∧ S' = ⟨hav [(0, v0), (1, .int .i64 s.2.1), (5, .int .i64 s.2.2)] J, G⟩) hk ⟨_, _, _, hFr, hO, St.hav _ ⟨rfl, rfl, rfl, trivial⟩⟩ ?_
  rintro ⟨x1, x2, x3⟩ _ y1 ⟨J, G, H1, hFr, hO, rfl⟩ hk hx1
  refine wpL_sq ?_
  refine wpL_sq ?_
  refine wpL_rg ?_
  refine pM (.int _ _) ?_
  refine pM v0 ?_
  refine pLenT hO 0 tS38 ?_
  refine pBi ?_
  refine pE ?_
  refine gn ?_
  refine wpL_cd (b := decide (x3 < (x1.length : Int))) (fun hb => ?_) (fun hb => ?_)
  · replace hk := ct hb hk
    refine wpL_sk ?_
    refine gn ?_
    refine wpL_sq ?_
    refine wpL_bl ?_
    refine wpL_sq ?_
    refine wpL_rg ?_
    refine pM v0 ?_
    refine pM (.int _ _) ?_
    refine pM (.int _ _) ?_
    refine pBi ?_
    refine pBi ?_
    obtain ⟨c4, hc4, hk⟩ := bs hk
    refine pXT hO 0 hc4 tE38 tZ4 (fun b5 hb5 => ?_)
    refine pST (Foc.all (α := Bool)) (y' := ((Int.tmod x2 (3:Int)) == (0:Int))) hO 0 hb5 hc4 tZ4 (fun _ => ⟨rfl, rfl⟩) hFr hS rfl (fun H1 G hFr hO => ?_)
    refine pE ?_
    refine gn ?_
    refine wpL_rg ?_
    refine pM (.int _ _) ?_
    refine pBi ?_
    refine pA (.int _ _) ?_
    refine pE ?_
    refine bn (gn ?_)
    refine wpL_rg ?_
    refine pM (.int _ _) ?_
    refine pBi ?_
    refine pA (.int _ _) ?_
    refine pE ?_
    refine gn ?_
    cases hk; exact ⟨_, rfl, _, _, _, hFr, hO, St.hav _ ⟨rfl, rfl, rfl, trivial⟩⟩
  · replace hk := cf hb hk
    refine wpL_ex ?_
    refine ge (ge (be (gn ?_)))
    replace hk := lx hx1 hk
    refine wpL_sq ?_
    refine wpL_rg ?_
    refine pM (.int _ _) ?_
    refine pA (.int _ _) ?_
    refine pE ?_
    refine gn ?_
    refine wpL_rt ?_
    replace hk := Option.some.inj hk; subst hk; exact finT hO 0 hFr hF
/-- laws.markCountState -/
def f36 (aA0 : CountState) (aK1 : Int) : Option (CountState × Int) :=
  ((f134 aA0.Sections aK1).bind fun z3 => ((f135 (({ aA0 with Sections := z3.1 }).Dead) z3.2).bind fun z5 => some ({ { aA0 with Sections := z3.1 } with Dead := z5.1 }, z5.2)))
theorem f36_run {aA0 : CountState} {aK1 : Int} {r : (CountState × Int)} {v0 : List V} {F0 : List Nat} {H : Heap} {lk : Lk} (hk : f36 aA0 aK1 = some r) (ha : TrIn H aA0 v0 F0) (hF : ∀ b ∈ F0, b < H.length) (hS : ∀ b ∈ F0, unlocked lk b = true) (hlk : 0 < lk.length := by simp) : ∃ v H1, runL Try.prog hh 36 [.agg v0, .int .i64 aK1] H lk = some (v, H1) ∧ v = .int .i64 r.2 ∧ TrIn H1 r.1 v0 F0 ∧ H1.length = H.length ∧ ∀ b, b ∉ F0 → H1[b]? = H[b]? := by
  refine run_startR Try.func36 rfl Try.ntmps36 Try.results36 rfl rfl ?_
  have hO := tree_start ha hF
  have hFr := Sees.refl H F0
  unfold f36 at hk
  refine wpL_sq ?_
  refine wpL_rg ?_
  refine pBoxT hO 0 tZ40 (fun b1 G hO => ?_)
  refine pA (.int _ _) ?_
  refine pE ?_
  refine gn ?_
  refine wpL_sq ?_
  refine wpL_rg ?_
  refine pF tF40_1 ?_
  refine pLTs foc_CountState_Sections hO 0 1 tA37 (fun u2 fs2 hs2 => ?_)
  refine pM (.int _ _) ?_
  obtain ⟨z3, hz3, hk⟩ := bs hk
  refine pCT (y' := z3.1) (r := .int .i64 z3.2) hO 1 hs2 (fun _ h => h) hFr hS (fun hF1 hS1 ht1 => f134_run hz3 ht1 hF1 hS1) (fun H1 G hFr hO => ?_)
  refine pA (.int _ _) ?_
  refine pE ?_
  refine gn ?_
  refine wpL_sq ?_
  refine wpL_rg ?_
  refine pF tF40_2 ?_
  refine pLTs foc_CountState_Dead hO 0 1 tA38 (fun u4 fs4 hs4 => ?_)
  refine pM (.int _ _) ?_
  obtain ⟨z5, hz5, hk⟩ := bs hk
  refine pCT (y' := z5.1) (r := .int .i64 z5.2) hO 1 hs4 (fun _ h => h) hFr hS (fun hF1 hS1 ht1 => f135_run hz5 ht1 hF1 hS1) (fun H1 G hFr hO => ?_)
  refine pA (.int _ _) ?_
  refine pE ?_
  refine gn ?_
  refine wpL_sq ?_
  refine wpL_rg ?_
  refine pM (.int _ _) ?_
  refine pA (.int _ _) ?_
  refine pE ?_
  refine gn ?_
  refine wpL_rt ?_
  replace hk := Option.some.inj hk; subst hk; exact finT hO 1 hFr hF
/-- laws.heldSectionS -/
def f136_L1 (aA0 : List Section) : (Int × Int) → Option ((Int × Int) ⊕ Int) := fun s =>
  (bif decide (s.2 < (aA0.length : Int)) then ((getI aA0 s.2).bind fun c3 => (bif (c3.Told != s.1) then ((some (-1:Int)).map Sum.inr) else ((getI aA0 s.2).bind fun c4 => (bif (c4.Count != (w64 (s.1 + (1:Int)))) then ((some (-1:Int)).map Sum.inr) else ((getI aA0 s.2).bind fun c5 => (bif !(c5.Lost == ((Int.tmod (w64 ((w64 (s.1 + (1:Int))) + (1:Int))) (3:Int)) == (0:Int))) then ((some (-1:Int)).map Sum.inr) else ((getI aA0 s.2).bind fun c6 => (bif !(c6.Sweep == ((Int.tmod (w64 ((w64 ((w64 (s.1 + (1:Int))) + (1:Int))) + (1:Int))) (3:Int)) == (0:Int))) then ((some (-1:Int)).map Sum.inr) else ((getI aA0 s.2).bind fun c7 => (bif (c7.Last != (w64 ((w64 ((w64 ((w64 (s.1 + (1:Int))) + (1:Int))) + (1:Int))) + (1:Int)))) then ((some (-1:Int)).map Sum.inr) else some (.inl (w64 ((w64 ((w64 ((w64 ((w64 (s.1 + (1:Int))) + (1:Int))) + (1:Int))) + (1:Int))) + (1:Int)), w64 (s.2 + (1:Int)))))))))))))) else ((some s.1).map Sum.inr))
def f136 (aA0 : List Section) (aK1 : Int) : Option Int :=
  (loopO (f136_L1 aA0) (aK1, (0:Int)))
theorem f136_run {aA0 : List Section} {aK1 : Int} {r : Int} {l1 : Nat} {H : Heap} {lk : Lk} (hk : f136 aA0 aK1 = some r) (hlk : 0 < lk.length := by simp) : runL Try.prog hh 136 [.lit l1 aA0.length ((flatL 0) aA0), .int .i64 aK1] H lk = some (.int .i64 r, H) := by
  refine run_start Try.func136 rfl Try.ntmps136 Try.results136 rfl rfl fun hO => ?_
  unfold f136 at hk
  refine wpL_sq ?_
  refine wpL_rg ?_
  refine pA (.int _ _) ?_
  refine pE ?_
  refine gn ?_
  refine wpL_sq ?_
  refine wpL_sq ?_
  refine wpL_rg ?_
  refine pA (.int _ _) ?_
  refine pE ?_
  refine gn ?_
  refine wpL_bl ?_
  refine wpL_loopO (F := f136_L1 aA0) (fun s S' => ∃ (J : Nat → V) (G : Heap), Owns H G [] ∧ S' = ⟨hav [(0, .lit l1 aA0.length ((flatL 0) aA0)), (1, .int .i64 s.1), (5, .int .i64 s.2)] J, G⟩) hk ⟨_, _, hO, St.hav _ ⟨rfl, rfl, rfl, trivial⟩⟩ ?_
  rintro ⟨x1, x2⟩ _ y1 ⟨J, G, hO, rfl⟩ hk hx1
  refine wpL_sq ?_
  refine wpL_sq ?_
  refine wpL_rg ?_
  refine pM (.int _ _) ?_
  refine pM (.lit _ _ _) ?_
  refine pLen tS37 ?_
  refine pBi ?_
  refine pE ?_
  refine gn ?_
  refine wpL_cd (b := decide (x2 < (aA0.length : Int))) (fun hb => ?_) (fun hb => ?_)
  · replace hk := ct hb hk
    refine wpL_sk ?_
    refine gn ?_
    refine wpL_sq ?_
    refine wpL_bl ?_
    refine wpL_sq ?_
    refine wpL_sq ?_
    refine wpL_rg ?_
    refine pM (.lit _ _ _) ?_
    refine pM (.int _ _) ?_
    obtain ⟨c3, hc3, hk⟩ := bs hk
    refine pX hc3 tE37 tZ233 ?_
    refine pF tF233_0 ?_
    refine pLp (.int _ _) (rd1 (lm := 0) (off := 0) hc3 tA3) ?_
    refine pM (.int _ _) ?_
    refine pBi ?_
    refine pE ?_
    refine gn ?_
    refine wpL_cd (b := (c3.Told != x1)) (fun hb => ?_) (fun hb => ?_)
    · replace hk := ct hb hk
      refine wpL_sq ?_
      refine wpL_rg ?_
      refine pA (.int _ _) ?_
      refine pE ?_
      refine gn ?_
      refine wpL_rt ?_
      refine gr (br (gr (gr (br (gr ?_)))))
      replace hk := lx hx1 hk
      replace hk := Option.some.inj hk; subst hk; exact fin0 hO
    · replace hk := cf hb hk
      refine wpL_sk ?_
      refine gn ?_
      refine wpL_sq ?_
      refine wpL_rg ?_
      refine pM (.int _ _) ?_
      refine pBi ?_
      refine pA (.int _ _) ?_
      refine pE ?_
      refine gn ?_
      refine wpL_sq ?_
      refine wpL_sq ?_
      refine wpL_rg ?_
      refine pM (.lit _ _ _) ?_
      refine pM (.int _ _) ?_
      obtain ⟨c4, hc4, hk⟩ := bs hk
      refine pX hc4 tE37 tZ233 ?_
      refine pF tF233_1 ?_
      refine pLp (.int _ _) (rd1 (lm := 0) (off := 1) hc4 tA3) ?_
      refine pM (.int _ _) ?_
      refine pBi ?_
      refine pE ?_
      refine gn ?_
      refine wpL_cd (b := (c4.Count != (w64 (x1 + (1:Int))))) (fun hb => ?_) (fun hb => ?_)
      · replace hk := ct hb hk
        refine wpL_sq ?_
        refine wpL_rg ?_
        refine pA (.int _ _) ?_
        refine pE ?_
        refine gn ?_
        refine wpL_rt ?_
        refine gr (br (gr (gr (br (gr ?_)))))
        replace hk := lx hx1 hk
        replace hk := Option.some.inj hk; subst hk; exact fin0 hO
      · replace hk := cf hb hk
        refine wpL_sk ?_
        refine gn ?_
        refine wpL_sq ?_
        refine wpL_rg ?_
        refine pM (.int _ _) ?_
        refine pBi ?_
        refine pA (.int _ _) ?_
        refine pE ?_
        refine gn ?_
        refine wpL_sq ?_
        refine wpL_sq ?_
        refine wpL_rg ?_
        refine pM (.lit _ _ _) ?_
        refine pM (.int _ _) ?_
        obtain ⟨c5, hc5, hk⟩ := bs hk
        refine pX hc5 tE37 tZ233 ?_
        refine pF tF233_2 ?_
        refine pLp (.bool _) (rd1 (lm := 0) (off := 2) hc5 tA4) ?_
        refine pM (.int _ _) ?_
        refine pBi ?_
        refine pBi ?_
        refine pBn Try.underlying4 ?_
        refine pE ?_
        refine gn ?_
        refine wpL_cd (b := !(c5.Lost == ((Int.tmod (w64 ((w64 (x1 + (1:Int))) + (1:Int))) (3:Int)) == (0:Int)))) (fun hb => ?_) (fun hb => ?_)
        · replace hk := ct hb hk
          refine wpL_sq ?_
          refine wpL_rg ?_
          refine pA (.int _ _) ?_
          refine pE ?_
          refine gn ?_
          refine wpL_rt ?_
          refine gr (br (gr (gr (br (gr ?_)))))
          replace hk := lx hx1 hk
          replace hk := Option.some.inj hk; subst hk; exact fin0 hO
        · replace hk := cf hb hk
          refine wpL_sk ?_
          refine gn ?_
          refine wpL_sq ?_
          refine wpL_rg ?_
          refine pM (.int _ _) ?_
          refine pBi ?_
          refine pA (.int _ _) ?_
          refine pE ?_
          refine gn ?_
          refine wpL_sq ?_
          refine wpL_sq ?_
          refine wpL_rg ?_
          refine pM (.lit _ _ _) ?_
          refine pM (.int _ _) ?_
          obtain ⟨c6, hc6, hk⟩ := bs hk
          refine pX hc6 tE37 tZ233 ?_
          refine pF tF233_3 ?_
          refine pLp (.bool _) (rd1 (lm := 0) (off := 3) hc6 tA4) ?_
          refine pM (.int _ _) ?_
          refine pBi ?_
          refine pBi ?_
          refine pBn Try.underlying4 ?_
          refine pE ?_
          refine gn ?_
          refine wpL_cd (b := !(c6.Sweep == ((Int.tmod (w64 ((w64 ((w64 (x1 + (1:Int))) + (1:Int))) + (1:Int))) (3:Int)) == (0:Int)))) (fun hb => ?_) (fun hb => ?_)
          · replace hk := ct hb hk
            refine wpL_sq ?_
            refine wpL_rg ?_
            refine pA (.int _ _) ?_
            refine pE ?_
            refine gn ?_
            refine wpL_rt ?_
            refine gr (br (gr (gr (br (gr ?_)))))
            replace hk := lx hx1 hk
            replace hk := Option.some.inj hk; subst hk; exact fin0 hO
          · replace hk := cf hb hk
            refine wpL_sk ?_
            refine gn ?_
            refine wpL_sq ?_
            refine wpL_rg ?_
            refine pM (.int _ _) ?_
            refine pBi ?_
            refine pA (.int _ _) ?_
            refine pE ?_
            refine gn ?_
            refine wpL_sq ?_
            refine wpL_sq ?_
            refine wpL_rg ?_
            refine pM (.lit _ _ _) ?_
            refine pM (.int _ _) ?_
            obtain ⟨c7, hc7, hk⟩ := bs hk
            refine pX hc7 tE37 tZ233 ?_
            refine pF tF233_4 ?_
            refine pLp (.int _ _) (rd1 (lm := 0) (off := 4) hc7 tA3) ?_
            refine pM (.int _ _) ?_
            refine pBi ?_
            refine pE ?_
            refine gn ?_
            refine wpL_cd (b := (c7.Last != (w64 ((w64 ((w64 ((w64 (x1 + (1:Int))) + (1:Int))) + (1:Int))) + (1:Int))))) (fun hb => ?_) (fun hb => ?_)
            · replace hk := ct hb hk
              refine wpL_sq ?_
              refine wpL_rg ?_
              refine pA (.int _ _) ?_
              refine pE ?_
              refine gn ?_
              refine wpL_rt ?_
              refine gr (br (gr (gr (br (gr ?_)))))
              replace hk := lx hx1 hk
              replace hk := Option.some.inj hk; subst hk; exact fin0 hO
            · replace hk := cf hb hk
              refine wpL_sk ?_
              refine gn ?_
              refine wpL_rg ?_
              refine pM (.int _ _) ?_
              refine pBi ?_
              refine pA (.int _ _) ?_
              refine pE ?_
              refine bn (gn ?_)
              refine wpL_rg ?_
              refine pM (.int _ _) ?_
              refine pBi ?_
              refine pA (.int _ _) ?_
              refine pE ?_
              refine gn ?_
              cases hk; exact ⟨_, rfl, _, _, hO, St.hav _ ⟨rfl, rfl, rfl, trivial⟩⟩
  · replace hk := cf hb hk
    refine wpL_ex ?_
    refine ge (ge (be (gn ?_)))
    replace hk := lx hx1 hk
    refine wpL_sq ?_
    refine wpL_rg ?_
    refine pM (.int _ _) ?_
    refine pA (.int _ _) ?_
    refine pE ?_
    refine gn ?_
    refine wpL_rt ?_
    replace hk := Option.some.inj hk; subst hk; exact fin0 hO
/-- laws.heldBoolS -/
def f137_L1 (aA0 : List Bool) : (Int × Int) → Option ((Int × Int) ⊕ Int) := fun s =>
  (bif decide (s.2 < (aA0.length : Int)) then ((getI aA0 s.2).bind fun c3 => (bif !(c3 == ((Int.tmod s.1 (3:Int)) == (0:Int))) then ((some (-1:Int)).map Sum.inr) else some (.inl (w64 (s.1 + (1:Int)), w64 (s.2 + (1:Int)))))) else ((some s.1).map Sum.inr))
def f137 (aA0 : List Bool) (aK1 : Int) : Option Int :=
  (loopO (f137_L1 aA0) (aK1, (0:Int)))
theorem f137_run {aA0 : List Bool} {aK1 : Int} {r : Int} {l1 : Nat} {H : Heap} {lk : Lk} (hk : f137 aA0 aK1 = some r) (hlk : 0 < lk.length := by simp) : runL Try.prog hh 137 [.lit l1 aA0.length ((flatL 0) aA0), .int .i64 aK1] H lk = some (.int .i64 r, H) := by
  refine run_start Try.func137 rfl Try.ntmps137 Try.results137 rfl rfl fun hO => ?_
  unfold f137 at hk
  refine wpL_sq ?_
  refine wpL_rg ?_
  refine pA (.int _ _) ?_
  refine pE ?_
  refine gn ?_
  refine wpL_sq ?_
  refine wpL_sq ?_
  refine wpL_rg ?_
  refine pA (.int _ _) ?_
  refine pE ?_
  refine gn ?_
  refine wpL_bl ?_
  refine wpL_loopO (F := f137_L1 aA0) (fun s S' => ∃ (J : Nat → V) (G : Heap), Owns H G [] ∧ S' = ⟨hav [(0, .lit l1 aA0.length ((flatL 0) aA0)), (1, .int .i64 s.1), (5, .int .i64 s.2)] J, G⟩) hk ⟨_, _, hO, St.hav _ ⟨rfl, rfl, rfl, trivial⟩⟩ ?_
  rintro ⟨x1, x2⟩ _ y1 ⟨J, G, hO, rfl⟩ hk hx1
  refine wpL_sq ?_
  refine wpL_sq ?_
  refine wpL_rg ?_
  refine pM (.int _ _) ?_
  refine pM (.lit _ _ _) ?_
  refine pLen tS38 ?_
  refine pBi ?_
  refine pE ?_
  refine gn ?_
  refine wpL_cd (b := decide (x2 < (aA0.length : Int))) (fun hb => ?_) (fun hb => ?_)
  · replace hk := ct hb hk
    refine wpL_sk ?_
    refine gn ?_
    refine wpL_sq ?_
    refine wpL_bl ?_
    refine wpL_sq ?_
    refine wpL_sq ?_
    refine wpL_rg ?_
    refine pM (.lit _ _ _) ?_
    refine pM (.int _ _) ?_
    obtain ⟨c3, hc3, hk⟩ := bs hk
    refine pX hc3 tE38 tZ4 ?_
    refine pLp (.bool _) (rd1 (lm := 0) (off := 0) hc3 tA4) ?_
    refine pM (.int _ _) ?_
    refine pBi ?_
    refine pBi ?_
    refine pBn Try.underlying4 ?_
    refine pE ?_
    refine gn ?_
    refine wpL_cd (b := !(c3 == ((Int.tmod x1 (3:Int)) == (0:Int)))) (fun hb => ?_) (fun hb => ?_)
    · replace hk := ct hb hk
      refine wpL_sq ?_
      refine wpL_rg ?_
      refine pA (.int _ _) ?_
      refine pE ?_
      refine gn ?_
      refine wpL_rt ?_
      refine gr (br (gr (gr (br (gr ?_)))))
      replace hk := lx hx1 hk
      replace hk := Option.some.inj hk; subst hk; exact fin0 hO
    · replace hk := cf hb hk
      refine wpL_sk ?_
      refine gn ?_
      refine wpL_rg ?_
      refine pM (.int _ _) ?_
      refine pBi ?_
      refine pA (.int _ _) ?_
      refine pE ?_
      refine bn (gn ?_)
      refine wpL_rg ?_
      refine pM (.int _ _) ?_
      refine pBi ?_
      refine pA (.int _ _) ?_
      refine pE ?_
      refine gn ?_
      cases hk; exact ⟨_, rfl, _, _, hO, St.hav _ ⟨rfl, rfl, rfl, trivial⟩⟩
  · replace hk := cf hb hk
    refine wpL_ex ?_
    refine ge (ge (be (gn ?_)))
    replace hk := lx hx1 hk
    refine wpL_sq ?_
    refine wpL_rg ?_
    refine pM (.int _ _) ?_
    refine pA (.int _ _) ?_
    refine pE ?_
    refine gn ?_
    refine wpL_rt ?_
    replace hk := Option.some.inj hk; subst hk; exact fin0 hO
/-- laws.heldCountState -/
def f37 (aA0 : CountState) (aK1 : Int) : Option Int :=
  ((f136 aA0.Sections aK1).bind fun v2 => (bif decide (v2 < (0:Int)) then some (-1:Int) else ((f137 aA0.Dead v2).bind fun v3 => (bif decide (v3 < (0:Int)) then some (-1:Int) else some v3))))
theorem f37_run {aA0 : CountState} {aK1 : Int} {r : Int} {l1 l2 : Nat} {H : Heap} {lk : Lk} (hk : f37 aA0 aK1 = some r) (hlk : 0 < lk.length := by simp) : runL Try.prog hh 37 [.agg [.bool aA0.Ok, .lit l1 aA0.Sections.length ((flatL 0) aA0.Sections), .lit l2 aA0.Dead.length ((flatL 0) aA0.Dead)], .int .i64 aK1] H lk = some (.int .i64 r, H) := by
  refine run_start Try.func37 rfl Try.ntmps37 Try.results37 rfl rfl fun hO => ?_
  unfold f37 at hk
  refine wpL_sq ?_
  refine wpL_rg ?_
  refine pBox (cs := [_, _, _]) hO tZ40 (fun b1 G hO => ?_)
  refine pA (.int _ _) ?_
  refine pE ?_
  refine gn ?_
  refine wpL_sq ?_
  refine wpL_rg ?_
  refine pF tF40_1 ?_
  refine pLo hO 0 (.lit _ _ _) tA37 ?_
  refine pM (.int _ _) ?_
  obtain ⟨v2, hv2, hk⟩ := bs hk
  refine pCall (fun _ => f136_run hv2) ?_
  refine pA (.int _ _) ?_
  refine pE ?_
  refine gn ?_
  refine wpL_sq ?_
  refine wpL_sq ?_
  refine wpL_rg ?_
  refine pM (.int _ _) ?_
  refine pBi ?_
  refine pE ?_
  refine gn ?_
  refine wpL_cd (b := decide (v2 < (0:Int))) (fun hb => ?_) (fun hb => ?_)
  · replace hk := ct hb hk
    refine wpL_sq ?_
    refine wpL_rg ?_
    refine pA (.int _ _) ?_
    refine pE ?_
    refine gn ?_
    refine wpL_rt ?_
    refine gr ?_
    replace hk := Option.some.inj hk; subst hk; exact fin0 hO
  · replace hk := cf hb hk
    refine wpL_sk ?_
    refine gn ?_
    refine wpL_sq ?_
    refine wpL_rg ?_
    refine pF tF40_2 ?_
    refine pLo hO 0 (.lit _ _ _) tA38 ?_
    refine pM (.int _ _) ?_
    obtain ⟨v3, hv3, hk⟩ := bs hk
    refine pCall (fun _ => f137_run hv3) ?_
    refine pA (.int _ _) ?_
    refine pE ?_
    refine gn ?_
    refine wpL_sq ?_
    refine wpL_sq ?_
    refine wpL_rg ?_
    refine pM (.int _ _) ?_
    refine pBi ?_
    refine pE ?_
    refine gn ?_
    refine wpL_cd (b := decide (v3 < (0:Int))) (fun hb => ?_) (fun hb => ?_)
    · replace hk := ct hb hk
      refine wpL_sq ?_
      refine wpL_rg ?_
      refine pA (.int _ _) ?_
      refine pE ?_
      refine gn ?_
      refine wpL_rt ?_
      refine gr ?_
      replace hk := Option.some.inj hk; subst hk; exact fin0 hO
    · replace hk := cf hb hk
      refine wpL_sk ?_
      refine gn ?_
      refine wpL_sq ?_
      refine wpL_rg ?_
      refine pM (.int _ _) ?_
      refine pA (.int _ _) ?_
      refine pE ?_
      refine gn ?_
      refine wpL_rt ?_
      replace hk := Option.some.inj hk; subst hk; exact fin0 hO
/-- laws.FnExactBeginCount -/
def f4 (aAL0 : Layout) : Option Bool :=
  ((f24 aAL0 (1048576:Int)).bind fun v2 => (bif decide (v2 < (0:Int)) then some true else ((f26 aAL0).bind fun v3 => ((f33 v3).bind fun v5 => ((f26 aAL0).bind fun v8 => ((f34 v8).bind fun v11 => ((f35 v11 v5).bind fun v15 => (bif !v15 then some false else ((f26 aAL0).bind fun v17 => ((f29 v8 v17).bind fun v19 => (bif !v19 then some false else ((f30 v8 (1:Int)).bind fun z22 => ((bif decide (z22.2 < (0:Int)) then some true else ((f35 v11 v5).bind fun v24 => some (!v24))).bind fun t23 => (bif t23 then some false else ((f36 v11 (1:Int)).bind fun z26 => ((f37 z26.1 (1:Int)).bind fun v27 => (bif decide (v27 < (0:Int)) then some false else (bif (v27 != z26.2) then some false else ((f26 aAL0).bind fun v29 => ((f34 v29).bind fun v31 => ((f35 v31 v5).bind fun v35 => (bif !v35 then some false else ((f37 z26.1 (1:Int)).bind fun v37 => (bif decide (v37 < (0:Int)) then some false else (bif (v37 != z26.2) then some false else some true)))))))))))))))))))))))))
theorem f4_run {aAL0 : Layout} {r : Bool} {l1 : Nat} {H : Heap} {lk : Lk} (hk : f4 aAL0 = some r) (hlk : 0 < lk.length := by simp) (hlo : LkOk lk H.length := by simp [LkOk]) : runL Try.prog hh 4 [.agg [.int .i64 aAL0.Sections, .lit l1 aAL0.Counters.length ((flatL 0) aAL0.Counters)]] H lk = some (.bool r, H) := by
  refine run_start Try.func4 rfl Try.ntmps4 Try.results4 rfl rfl fun hO => ?_
  unfold f4 at hk
  refine wpL_sq ?_
  refine wpL_rg ?_
  refine pBox (cs := [_, _]) hO tZ24 (fun b1 G hO => ?_)
  refine pA (.bool _) ?_
  refine pE ?_
  refine gn ?_
  refine wpL_sq ?_
  refine wpL_rg ?_
  refine pA (.int _ _) ?_
  refine pE ?_
  refine gn ?_
  refine wpL_sq ?_
  refine wpL_rg ?_
  refine pLs hO 0 [_, _] tA24 tZ24 ?_
  refine pM (.int _ _) ?_
  obtain ⟨v2, hv2, hk⟩ := bs hk
  refine pCall (fun _ => f24_run hv2) ?_
  refine pA (.int _ _) ?_
  refine pE ?_
  refine gn ?_
  refine wpL_sq ?_
  refine wpL_sq ?_
  refine wpL_rg ?_
  refine pM (.int _ _) ?_
  refine pBi ?_
  refine pE ?_
  refine gn ?_
  refine wpL_cd (b := decide (v2 < (0:Int))) (fun hb => ?_) (fun hb => ?_)
  · replace hk := ct hb hk
    refine wpL_sq ?_
    refine wpL_rg ?_
    refine pA (.bool _) ?_
    refine pE ?_
    refine gn ?_
    refine wpL_rt ?_
    refine gr ?_
    replace hk := Option.some.inj hk; subst hk; exact fin0 hO
  · replace hk := cf hb hk
    refine wpL_sk ?_
    refine gn ?_
    refine wpL_sq ?_
    refine wpL_rg ?_
    refine pLs hO 0 [_, _] tA24 tZ24 ?_
    obtain ⟨v3, hv3, hk⟩ := bs hk
    refine pCNs hO (fun _ => f26_run hv3) (fun u4 F4 G hO => ?_)
    obtain ⟨v5, hv5, hk⟩ := bs hk
    obtain ⟨_, hm6⟩ := ls_Layout hO (j := 0) rfl (lk.length + 1) 7
    refine pCall (vs := [(.agg u4)]) (caps := []) (fun _ => f33_run hv5) ?_ (h3 := (la_cons hm6 la_nil))
    refine pNew hO tZ40 t040 (fun b7 G hO => ?_)
    refine pSt (xs := [_, _, _]) hO 0 tZ40 rfl (fun G hO => ?_)
    refine pE ?_
    refine gn ?_
    refine wpL_sq ?_
    refine wpL_rg ?_
    refine pLs hO 2 [_, _] tA24 tZ24 ?_
    obtain ⟨v8, hv8, hk⟩ := bs hk
    refine pCNs hO (fun _ => f26_run hv8) (fun u9 F9 G hO => ?_)
    refine pNew hO tZ30 t030 (fun b10 G hO => ?_)
    refine pStS hO 0 1 tZ30 rfl (fun G hO => ?_)
    refine pE ?_
    refine gn ?_
    refine wpL_sq ?_
    refine wpL_rg ?_
    refine pLdS hO 0 1 tA30 tZ30 ?_
    obtain ⟨v11, hv11, hk⟩ := bs hk
    obtain ⟨_, hm12⟩ := ls_Layout hO (j := 1) rfl (lk.length + 1) 7
    refine pCNs (vs := [(.agg u9)]) (caps := []) hO (fun _ => f34_run hv11) (fun u13 F13 G hO => ?_) (h3 := (la_cons hm12 la_nil))
    refine pNew hO tZ40 t040 (fun b14 G hO => ?_)
    refine pStS hO 0 1 tZ40 rfl (fun G hO => ?_)
    refine pE ?_
    refine gn ?_
    refine wpL_sq ?_
    refine wpL_sq ?_
    refine wpL_rg ?_
    refine pLdS hO 0 1 tA40 tZ40 ?_
    refine pLs hO 4 [_, _, _] tA40 tZ40 ?_
    obtain ⟨v15, hv15, hk⟩ := bs hk
    obtain ⟨_, hm16⟩ := ls_CountState hO (j := 1) rfl (lk.length + 1) 7
    refine pCall (vs := [(.agg u13), (.agg [_, _, _])]) (caps := []) (fun _ => f35_run hv15) ?_ (h3 := (la_cons hm16 (la_cons rfl la_nil)))
    refine pU ?_
    refine pE ?_
    refine gn ?_
    refine wpL_cd (b := !v15) (fun hb => ?_) (fun hb => ?_)
    · replace hk := ct hb hk
      refine wpL_sq ?_
      refine wpL_rg ?_
      refine pA (.bool _) ?_
      refine pE ?_
      refine gn ?_
      refine wpL_rt ?_
      refine gr ?_
      replace hk := Option.some.inj hk; subst hk; exact fin0 hO
    · replace hk := cf hb hk
      refine wpL_sk ?_
      refine gn ?_
      refine wpL_sq ?_
      refine wpL_sq ?_
      refine wpL_drw [(0, true), (1, true), (2, true), (3, false), (4, false)] [_, _, _, _, _] (by decide +kernel) (by rfl) ?_
      refine pLdS hO 2 3 tA30 tZ30 ?_
      refine pLs hO 6 [_, _] tA24 tZ24 ?_
      obtain ⟨v17, hv17, hk⟩ := bs hk
      refine pCNs hO (fun _ => f26_run hv17) (fun u18 F18 G hO => ?_)
      obtain ⟨v19, hv19, hk⟩ := bs hk
      obtain ⟨_, hm20⟩ := ls_Layout hO (j := 4) rfl (lk.length + 1) 7
      obtain ⟨_, hm21⟩ := ls_Layout hO (j := 0) rfl (lk.length + 1) 7
      refine pCall (vs := [(.agg u9), (.agg u18)]) (caps := []) (fun _ => f29_run hv19) ?_ (h3 := (la_cons hm20 (la_cons hm21 la_nil)))
      refine pU ?_
      refine pE ?_
      refine gn ?_
      refine wpL_cd (b := !v19) (fun hb => ?_) (fun hb => ?_)
      · replace hk := ct hb hk
        refine wpL_sq ?_
        refine wpL_rg ?_
        refine pA (.bool _) ?_
        refine pE ?_
        refine gn ?_
        refine wpL_rt ?_
        refine gr ?_
        replace hk := Option.some.inj hk; subst hk; exact fin0 hO
      · replace hk := cf hb hk
        refine wpL_sk ?_
        refine gn ?_
        refine wpL_sq ?_
        refine wpL_rg ?_
        refine pA (.int _ _) ?_
        refine pE ?_
        refine gn ?_
        refine wpL_sq ?_
        refine wpL_rg ?_
        refine pLdS hO 3 4 tA30 tZ30 ?_
        refine pM (.int _ _) ?_
        obtain ⟨z22, hz22, hk⟩ := bs hk
        refine pCTo (y' := z22.1) (r := .int .i64 z22.2) hO 4 (Sub.all hO (j := 4) rfl) hlo (fun hF1 hS1 ht1 => f30_run hz22 ht1 hF1 hS1) (fun G hO => ?_)
        refine pA (.int _ _) ?_
        refine pE ?_
        refine gn ?_
        refine wpL_sq ?_
        refine wpL_sq ?_
        refine wpL_rg ?_
        refine pM (.int _ _) ?_
        refine pBi ?_
        refine pM (.bool _) ?_
        obtain ⟨t23, ht, hk⟩ := bs hk
        refine wpR_mid (l1 := [_, _, _, _, _]) (fun S' => ∃ J, S' = ⟨hav [(1, .ptr b1 0), (4, .ptr b7 0), (6, .ptr b14 0), (42, .bool t23)] J, G⟩) ?_ ?_
        · refine bc (b := decide (z22.2 < (0:Int))) (fun hg1 => ?_) (fun hg1 => ?_)
          · replace hk := ct hg1 ht
            refine pGn hg1 ?_
            refine pGn hg1 ?_
            refine pGn hg1 ?_
            refine pGn hg1 ?_
            refine pPt hg1 (.bool _) ?_
            cases hk; exact pE ⟨_, St.hav _ ⟨rfl, rfl, rfl, rfl, trivial⟩⟩
          · replace hk := cf hg1 ht
            refine pGy hg1 ?_
            refine pLdS hO 1 2 tA40 tZ40 ?_
            refine pGy hg1 ?_
            refine pLs hO 5 [_, _, _] tA40 tZ40 ?_
            refine pGy hg1 ?_
            obtain ⟨v24, hv24, hk⟩ := bs hk
            obtain ⟨_, hm25⟩ := ls_CountState hO (j := 2) rfl (lk.length + 1) 7
            refine pCall (vs := [(.agg u13), (.agg [_, _, _])]) (caps := []) (fun _ => f35_run hv24) ?_ (h3 := (la_cons hm25 (la_cons rfl la_nil)))
            refine pGy hg1 ?_
            refine pU ?_
            refine pPf hg1 (.bool _) ?_
            cases hk; exact pE ⟨_, St.hav _ ⟨rfl, rfl, rfl, rfl, trivial⟩⟩
        · rintro _ ⟨J, rfl⟩
          refine pE ?_
          refine gn ?_
          refine wpL_cd (b := t23) (fun hb => ?_) (fun hb => ?_)
          · replace hk := ct hb hk
            refine wpL_sq ?_
            refine wpL_rg ?_
            refine pA (.bool _) ?_
            refine pE ?_
            refine gn ?_
            refine wpL_rt ?_
            refine gr ?_
            replace hk := Option.some.inj hk; subst hk; exact fin0 hO
          · replace hk := cf hb hk
            refine wpL_sk ?_
            refine gn ?_
            refine wpL_sq ?_
            refine wpL_rg ?_
            refine pA (.int _ _) ?_
            refine pE ?_
            refine gn ?_
            refine wpL_sq ?_
            refine wpL_rg ?_
            refine pLdS hO 1 2 tA40 tZ40 ?_
            refine pM (.int _ _) ?_
            obtain ⟨z26, hz26, hk⟩ := bs hk
            refine pCTo (y' := z26.1) (r := .int .i64 z26.2) hO 2 (Sub.all hO (j := 2) rfl) hlo (fun hF1 hS1 ht1 => f36_run hz26 ht1 hF1 hS1) (fun G hO => ?_)
            refine pA (.int _ _) ?_
            refine pE ?_
            refine gn ?_
            refine wpL_sq ?_
            refine wpL_rg ?_
            refine pA (.int _ _) ?_
            refine pE ?_
            refine gn ?_
            refine wpL_sq ?_
            refine wpL_rg ?_
            refine pLdS hO 1 2 tA40 tZ40 ?_
            refine pM (.int _ _) ?_
            obtain ⟨v27, hv27, hk⟩ := bs hk
            obtain ⟨_, hm28⟩ := ls_CountState hO (j := 2) rfl (lk.length + 1) 7
            refine pCall (vs := [(.agg u13), (.int _ _)]) (caps := []) (fun _ => f37_run hv27) ?_ (h3 := (la_cons hm28 (la_cons rfl la_nil)))
            refine pA (.int _ _) ?_
            refine pE ?_
            refine gn ?_
            refine wpL_sq ?_
            refine wpL_sq ?_
            refine wpL_rg ?_
            refine pM (.int _ _) ?_
            refine pBi ?_
            refine pE ?_
            refine gn ?_
            refine wpL_cd (b := decide (v27 < (0:Int))) (fun hb => ?_) (fun hb => ?_)
            · replace hk := ct hb hk
              refine wpL_sq ?_
              refine wpL_rg ?_
              refine pA (.bool _) ?_
              refine pE ?_
              refine gn ?_
              refine wpL_rt ?_
              refine gr ?_
              replace hk := Option.some.inj hk; subst hk; exact fin0 hO
            · replace hk := cf hb hk
              refine wpL_sk ?_
              refine gn ?_
              refine wpL_sq ?_
              refine wpL_sq ?_
              refine wpL_rg ?_
              refine pM (.int _ _) ?_
              refine pM (.int _ _) ?_
              refine pBi ?_
              refine pE ?_
              refine gn ?_
              refine wpL_cd (b := (v27 != z26.2)) (fun hb => ?_) (fun hb => ?_)
              · replace hk := ct hb hk
                refine wpL_sq ?_
                refine wpL_rg ?_
                refine pA (.bool _) ?_
                refine pE ?_
                refine gn ?_
                refine wpL_rt ?_
                refine gr ?_
                replace hk := Option.some.inj hk; subst hk; exact fin0 hO
              · replace hk := cf hb hk
                refine wpL_sk ?_
                refine gn ?_
                refine wpL_sq ?_
                refine wpL_rg ?_
                refine pLs hO 7 [_, _] tA24 tZ24 ?_
                obtain ⟨v29, hv29, hk⟩ := bs hk
                refine pCNs hO (fun _ => f26_run hv29) (fun u30 F30 G hO => ?_)
                obtain ⟨v31, hv31, hk⟩ := bs hk
                obtain ⟨_, hm32⟩ := ls_Layout hO (j := 0) rfl (lk.length + 1) 7
                refine pCNs (vs := [(.agg u30)]) (caps := []) hO (fun _ => f34_run hv31) (fun u33 F33 G hO => ?_) (h3 := (la_cons hm32 la_nil))
                refine pNew hO tZ40 t040 (fun b34 G hO => ?_)
                refine pStS hO 0 1 tZ40 rfl (fun G hO => ?_)
                refine pE ?_
                refine gn ?_
                refine wpL_sq ?_
                refine wpL_sq ?_
                refine wpL_rg ?_
                refine pLdS hO 0 1 tA40 tZ40 ?_
                refine pLs hO 8 [_, _, _] tA40 tZ40 ?_
                obtain ⟨v35, hv35, hk⟩ := bs hk
                obtain ⟨_, hm36⟩ := ls_CountState hO (j := 1) rfl (lk.length + 1) 7
                refine pCall (vs := [(.agg u33), (.agg [_, _, _])]) (caps := []) (fun _ => f35_run hv35) ?_ (h3 := (la_cons hm36 (la_cons rfl la_nil)))
                refine pU ?_
                refine pE ?_
                refine gn ?_
                refine wpL_cd (b := !v35) (fun hb => ?_) (fun hb => ?_)
                · replace hk := ct hb hk
                  refine wpL_sq ?_
                  refine wpL_rg ?_
                  refine pA (.bool _) ?_
                  refine pE ?_
                  refine gn ?_
                  refine wpL_rt ?_
                  refine gr ?_
                  replace hk := Option.some.inj hk; subst hk; exact fin0 hO
                · replace hk := cf hb hk
                  refine wpL_sk ?_
                  refine gn ?_
                  refine wpL_sq ?_
                  refine wpL_rg ?_
                  refine pA (.int _ _) ?_
                  refine pE ?_
                  refine gn ?_
                  refine wpL_sq ?_
                  refine wpL_rg ?_
                  refine pLdS hO 4 5 tA40 tZ40 ?_
                  refine pM (.int _ _) ?_
                  obtain ⟨v37, hv37, hk⟩ := bs hk
                  obtain ⟨_, hm38⟩ := ls_CountState hO (j := 5) rfl (lk.length + 1) 7
                  refine pCall (vs := [(.agg u13), (.int _ _)]) (caps := []) (fun _ => f37_run hv37) ?_ (h3 := (la_cons hm38 (la_cons rfl la_nil)))
                  refine pA (.int _ _) ?_
                  refine pE ?_
                  refine gn ?_
                  refine wpL_sq ?_
                  refine wpL_sq ?_
                  refine wpL_rg ?_
                  refine pM (.int _ _) ?_
                  refine pBi ?_
                  refine pE ?_
                  refine gn ?_
                  refine wpL_cd (b := decide (v37 < (0:Int))) (fun hb => ?_) (fun hb => ?_)
                  · replace hk := ct hb hk
                    refine wpL_sq ?_
                    refine wpL_rg ?_
                    refine pA (.bool _) ?_
                    refine pE ?_
                    refine gn ?_
                    refine wpL_rt ?_
                    refine gr ?_
                    replace hk := Option.some.inj hk; subst hk; exact fin0 hO
                  · replace hk := cf hb hk
                    refine wpL_sk ?_
                    refine gn ?_
                    refine wpL_sq ?_
                    refine wpL_sq ?_
                    refine wpL_rg ?_
                    refine pM (.int _ _) ?_
                    refine pM (.int _ _) ?_
                    refine pBi ?_
                    refine pE ?_
                    refine gn ?_
                    refine wpL_cd (b := (v37 != z26.2)) (fun hb => ?_) (fun hb => ?_)
                    · replace hk := ct hb hk
                      refine wpL_sq ?_
                      refine wpL_rg ?_
                      refine pA (.bool _) ?_
                      refine pE ?_
                      refine gn ?_
                      refine wpL_rt ?_
                      refine gr ?_
                      replace hk := Option.some.inj hk; subst hk; exact fin0 hO
                    · replace hk := cf hb hk
                      refine wpL_sk ?_
                      refine gn ?_
                      refine wpL_sq ?_
                      refine wpL_rg ?_
                      refine pA (.bool _) ?_
                      refine pE ?_
                      refine gn ?_
                      refine wpL_rt ?_
                      replace hk := Option.some.inj hk; subst hk; exact fin0 hO
end
end Go.Proofs.Ytkfekjcahepfnaa.K
