/-
  The functions that FnExactDoCount reaches, as typed Lean functions, and that the interpreter computes them. Part 1 of 2. No conditions.
-/
import Derived.Test.YtkfekjcahepfnaaKzk
import Derived.Test.YtkfekjcahepfnaaProg
set_option linter.unusedVariables false
set_option linter.unusedSimpArgs false
set_option maxRecDepth 100000
namespace Go.Proofs.Ytkfekjcahepfnaa.K
noncomputable section
def hh : Hints := { modes := fun k => bif Nat.beq k 30 || Nat.beq k 36 || Nat.beq k 75 || Nat.beq k 131 || Nat.beq k 134 || Nat.beq k 135 then [.exact] else [], thaw := fun k => Nat.beq k 26 || Nat.beq k 70 || Nat.beq k 71 || Nat.beq k 73 || Nat.beq k 128 || Nat.beq k 143 || Nat.beq k 185 || Nat.beq k 189 || Nat.beq k 192 || Nat.beq k 278 || Nat.beq k 279, grow := fun k => false, keep := fun k => false }
structure Counter where
  From : Int
  To : Int
instance : GoT Counter := ⟨2, by decide, fun l x => GoT.encL l x.From ++ (GoT.encL l x.To), fun x => by simp only [List.length_append, GoT.len]; rfl, fun x => by simp only [cleanL_append, GoT.clean]; rfl, fun x => by simp only [List.all_append, GoT.cell]; rfl⟩
instance : GoM Counter := GoM.via (fun x => (x.From, x.To) : Counter → Int × Int) rfl fun _ _ => rfl
instance : GoIv Counter := ⟨fun h => GoIv.inv (α := Int × Int) h⟩
instance : GoFl Counter := ⟨fun G x => GoFl.fl (α := Int × Int) G (x.From, x.To), fun l x => GoFl.lev (α := Int × Int) l (x.From, x.To), GoFl.pos (α := Int × Int)⟩
theorem foc_Counter_From : Foc Counter Int (fun x => x.From) (fun x y => { x with From := y }) 0 := Foc.via (α := Counter) (f := (fun x => (x.From, x.To) : Counter → Int × Int)) (hz := rfl) (he := fun _ _ => rfl) (Foc.fst) fun _ _ => rfl
theorem foc_Counter_To : Foc Counter Int (fun x => x.To) (fun x y => { x with To := y }) 1 := Foc.via (α := Counter) (f := (fun x => (x.From, x.To) : Counter → Int × Int)) (hz := rfl) (he := fun _ _ => rfl) (Foc.snd) fun _ _ => rfl
structure Layout where
  Sections : Int
  Counters : List Counter
instance : GoT Layout := ⟨2, by decide, fun l x => GoT.encL l x.Sections ++ (GoT.encL l x.Counters), fun x => by simp only [List.length_append, GoT.len]; rfl, fun x => by simp only [cleanL_append, GoT.clean]; rfl, fun x => by simp only [List.all_append, GoT.cell]; rfl⟩
instance : GoM Layout := GoM.via (fun x => (x.Sections, x.Counters) : Layout → Int × (List Counter)) rfl fun _ _ => rfl
theorem foc_Layout_Counters : Foc Layout (List Counter) (fun x => x.Counters) (fun x y => { x with Counters := y }) 1 := Foc.via (α := Layout) (f := (fun x => (x.Sections, x.Counters) : Layout → Int × (List Counter))) (hz := rfl) (he := fun _ _ => rfl) (Foc.snd) fun _ _ => rfl
theorem th_Layout {H : Heap} {d n : Nat} {rs rs1 : List Res} {cs : List V} {x : Layout} (h : ThV n H d rs cs (x.Sections, x.Counters) rs1) : ThV n H d rs cs x rs1 := h
theorem ls_Layout {H G : Heap} {rs : List Res} {S F : List Nat} {x : Layout} {cs : List V} {j : Nat} (hO : Owns H G rs) (hj : rs[j]? = some (Tree S F x cs)) (lv n : Nat) (hn : Nat.ble (GoM.dep Layout) n = true := by rfl) : ∃ M, lendV lv G (n + 1) (.agg cs) = some (.agg [.int .i64 x.Sections, .lit lv x.Counters.length ((flatL 0) x.Counters)], M) := by
  have h := ld_trS hO hj lv n hn
  have e : GoT.encL lv x = [.int .i64 x.Sections, .lit lv x.Counters.length ((flatL 0) x.Counters)] := by
    show ([.int .i64 x.Sections, .lit lv x.Counters.length (flatL lv x.Counters)] : List V) = _
    simp only [flat_lv]
  rwa [e] at h
structure Section where
  Told : Int
  Count : Int
  Lost : Bool
  Sweep : Bool
  Last : Int
instance : GoT Section := ⟨5, by decide, fun l x => GoT.encL l x.Told ++ (GoT.encL l x.Count ++ (GoT.encL l x.Lost ++ (GoT.encL l x.Sweep ++ (GoT.encL l x.Last)))), fun x => by simp only [List.length_append, GoT.len]; rfl, fun x => by simp only [cleanL_append, GoT.clean]; rfl, fun x => by simp only [List.all_append, GoT.cell]; rfl⟩
instance : GoM Section := GoM.via (fun x => (x.Told, x.Count, x.Lost, x.Sweep, x.Last) : Section → Int × Int × Bool × Bool × Int) rfl fun _ _ => rfl
instance : GoIv Section := ⟨fun h => GoIv.inv (α := Int × Int × Bool × Bool × Int) h⟩
instance : GoFl Section := ⟨fun G x => GoFl.fl (α := Int × Int × Bool × Bool × Int) G (x.Told, x.Count, x.Lost, x.Sweep, x.Last), fun l x => GoFl.lev (α := Int × Int × Bool × Bool × Int) l (x.Told, x.Count, x.Lost, x.Sweep, x.Last), GoFl.pos (α := Int × Int × Bool × Bool × Int)⟩
theorem foc_Section_Told : Foc Section Int (fun x => x.Told) (fun x y => { x with Told := y }) 0 := Foc.via (α := Section) (f := (fun x => (x.Told, x.Count, x.Lost, x.Sweep, x.Last) : Section → Int × Int × Bool × Bool × Int)) (hz := rfl) (he := fun _ _ => rfl) (Foc.fst) fun _ _ => rfl
theorem foc_Section_Count : Foc Section Int (fun x => x.Count) (fun x y => { x with Count := y }) 1 := Foc.via (α := Section) (f := (fun x => (x.Told, x.Count, x.Lost, x.Sweep, x.Last) : Section → Int × Int × Bool × Bool × Int)) (hz := rfl) (he := fun _ _ => rfl) (Foc.comp Foc.snd (Foc.fst)) fun _ _ => rfl
theorem foc_Section_Lost : Foc Section Bool (fun x => x.Lost) (fun x y => { x with Lost := y }) 2 := Foc.via (α := Section) (f := (fun x => (x.Told, x.Count, x.Lost, x.Sweep, x.Last) : Section → Int × Int × Bool × Bool × Int)) (hz := rfl) (he := fun _ _ => rfl) (Foc.comp Foc.snd (Foc.comp Foc.snd (Foc.fst))) fun _ _ => rfl
theorem foc_Section_Sweep : Foc Section Bool (fun x => x.Sweep) (fun x y => { x with Sweep := y }) 3 := Foc.via (α := Section) (f := (fun x => (x.Told, x.Count, x.Lost, x.Sweep, x.Last) : Section → Int × Int × Bool × Bool × Int)) (hz := rfl) (he := fun _ _ => rfl) (Foc.comp Foc.snd (Foc.comp Foc.snd (Foc.comp Foc.snd (Foc.fst)))) fun _ _ => rfl
theorem foc_Section_Last : Foc Section Int (fun x => x.Last) (fun x y => { x with Last := y }) 4 := Foc.via (α := Section) (f := (fun x => (x.Told, x.Count, x.Lost, x.Sweep, x.Last) : Section → Int × Int × Bool × Bool × Int)) (hz := rfl) (he := fun _ _ => rfl) (Foc.comp Foc.snd (Foc.comp Foc.snd (Foc.comp Foc.snd (Foc.snd)))) fun _ _ => rfl
structure CountState where
  Ok : Bool
  Sections : List Section
  Dead : List Bool
instance : GoT CountState := ⟨3, by decide, fun l x => GoT.encL l x.Ok ++ (GoT.encL l x.Sections ++ (GoT.encL l x.Dead)), fun x => by simp only [List.length_append, GoT.len]; rfl, fun x => by simp only [cleanL_append, GoT.clean]; rfl, fun x => by simp only [List.all_append, GoT.cell]; rfl⟩
instance : GoM CountState := GoM.via (fun x => (x.Ok, x.Sections, x.Dead) : CountState → Bool × (List Section) × (List Bool)) rfl fun _ _ => rfl
theorem foc_CountState_Sections : Foc CountState (List Section) (fun x => x.Sections) (fun x y => { x with Sections := y }) 1 := Foc.via (α := CountState) (f := (fun x => (x.Ok, x.Sections, x.Dead) : CountState → Bool × (List Section) × (List Bool))) (hz := rfl) (he := fun _ _ => rfl) (Foc.comp Foc.snd (Foc.fst)) fun _ _ => rfl
theorem foc_CountState_Dead : Foc CountState (List Bool) (fun x => x.Dead) (fun x y => { x with Dead := y }) 2 := Foc.via (α := CountState) (f := (fun x => (x.Ok, x.Sections, x.Dead) : CountState → Bool × (List Section) × (List Bool))) (hz := rfl) (he := fun _ _ => rfl) (Foc.comp Foc.snd (Foc.snd)) fun _ _ => rfl
theorem th_CountState {H : Heap} {d n : Nat} {rs rs1 : List Res} {cs : List V} {x : CountState} (h : ThV n H d rs cs (x.Ok, x.Sections, x.Dead) rs1) : ThV n H d rs cs x rs1 := h
theorem ls_CountState {H G : Heap} {rs : List Res} {S F : List Nat} {x : CountState} {cs : List V} {j : Nat} (hO : Owns H G rs) (hj : rs[j]? = some (Tree S F x cs)) (lv n : Nat) (hn : Nat.ble (GoM.dep CountState) n = true := by rfl) : ∃ M, lendV lv G (n + 1) (.agg cs) = some (.agg [.bool x.Ok, .lit lv x.Sections.length ((flatL 0) x.Sections), .lit lv x.Dead.length ((flatL 0) x.Dead)], M) := by
  have h := ld_trS hO hj lv n hn
  have e : GoT.encL lv x = [.bool x.Ok, .lit lv x.Sections.length ((flatL 0) x.Sections), .lit lv x.Dead.length ((flatL 0) x.Dead)] := by
    show ([.bool x.Ok, .lit lv x.Sections.length (flatL lv x.Sections), .lit lv x.Dead.length (flatL lv x.Dead)] : List V) = _
    simp only [flat_lv]
  rwa [e] at h
structure CountEvent where
  Op : Int
  Of : Int
  Dir : Int
instance : GoT CountEvent := ⟨3, by decide, fun l x => GoT.encL l x.Op ++ (GoT.encL l x.Of ++ (GoT.encL l x.Dir)), fun x => by simp only [List.length_append, GoT.len]; rfl, fun x => by simp only [cleanL_append, GoT.clean]; rfl, fun x => by simp only [List.all_append, GoT.cell]; rfl⟩
instance : GoM CountEvent := GoM.via (fun x => (x.Op, x.Of, x.Dir) : CountEvent → Int × Int × Int) rfl fun _ _ => rfl
instance : GoIv CountEvent := ⟨fun h => GoIv.inv (α := Int × Int × Int) h⟩
instance : GoFl CountEvent := ⟨fun G x => GoFl.fl (α := Int × Int × Int) G (x.Op, x.Of, x.Dir), fun l x => GoFl.lev (α := Int × Int × Int) l (x.Op, x.Of, x.Dir), GoFl.pos (α := Int × Int × Int)⟩
structure CountDone where
  Code : Int
  State : CountState
instance : GoT CountDone := ⟨4, by decide, fun l x => GoT.encL l x.Code ++ (GoT.encL l x.State), fun x => by simp only [List.length_append, GoT.len]; rfl, fun x => by simp only [cleanL_append, GoT.clean]; rfl, fun x => by simp only [List.all_append, GoT.cell]; rfl⟩
instance : GoM CountDone := GoM.via (fun x => (x.Code, x.State) : CountDone → Int × CountState) rfl fun _ _ => rfl
theorem foc_CountDone_State : Foc CountDone CountState (fun x => x.State) (fun x y => { x with State := y }) 1 := Foc.via (α := CountDone) (f := (fun x => (x.Code, x.State) : CountDone → Int × CountState)) (hz := rfl) (he := fun _ _ => rfl) (Foc.snd) fun _ _ => rfl
theorem th_CountDone {H : Heap} {d n : Nat} {rs rs1 : List Res} {cs : List V} {x : CountDone} (h : ThV n H d rs cs (x.Code, x.State) rs1) : ThV n H d rs cs x rs1 := h
theorem ls_CountDone {H G : Heap} {rs : List Res} {S F : List Nat} {x : CountDone} {cs : List V} {j : Nat} (hO : Owns H G rs) (hj : rs[j]? = some (Tree S F x cs)) (lv n : Nat) (hn : Nat.ble (GoM.dep CountDone) n = true := by rfl) : ∃ M, lendV lv G (n + 1) (.agg cs) = some (.agg [.int .i64 x.Code, .bool x.State.Ok, .lit lv x.State.Sections.length ((flatL 0) x.State.Sections), .lit lv x.State.Dead.length ((flatL 0) x.State.Dead)], M) := by
  have h := ld_trS hO hj lv n hn
  have e : GoT.encL lv x = [.int .i64 x.Code, .bool x.State.Ok, .lit lv x.State.Sections.length ((flatL 0) x.State.Sections), .lit lv x.State.Dead.length ((flatL 0) x.State.Dead)] := by
    show ([.int .i64 x.Code, .bool x.State.Ok, .lit lv x.State.Sections.length (flatL lv x.State.Sections), .lit lv x.State.Dead.length (flatL lv x.State.Dead)] : List V) = _
    simp only [flat_lv]
  rwa [e] at h
theorem tZ24 : szOf Try.prog 24 = some 2 := by rfl
theorem tZ105 : szOf Try.prog 105 = some 3 := by rfl
theorem tZ107 : szOf Try.prog 107 = some 3 := by rfl
theorem tA24 : aggT Try.prog 24 = some true := by rfl
theorem tF24_1 : fieldOff Try.prog 24 1 = some 1 := by rfl
theorem tA22 : aggT Try.prog 22 = some false := by rfl
theorem tS22 : strT Try.prog 22 = some false := by rfl
theorem tA105 : aggT Try.prog 105 = some true := by rfl
theorem tF105_1 : fieldOff Try.prog 105 1 = some 1 := by rfl
theorem tA103 : aggT Try.prog 103 = some false := by rfl
theorem tS103 : strT Try.prog 103 = some false := by rfl
theorem tF105_2 : fieldOff Try.prog 105 2 = some 2 := by rfl
theorem tA38 : aggT Try.prog 38 = some false := by rfl
theorem tS38 : strT Try.prog 38 = some false := by rfl
theorem tA107 : aggT Try.prog 107 = some true := by rfl
theorem tZ30 : szOf Try.prog 30 = some 2 := by rfl
theorem t030 : zeroOf Try.prog 30 = some [.int .i64 0, (.tl 0 [])] := by rfl
theorem tF24_0 : fieldOff Try.prog 24 0 = some 0 := by rfl
theorem tA3 : aggT Try.prog 3 = some false := by rfl
theorem tF30_0 : fieldOff Try.prog 30 0 = some 0 := by rfl
theorem tZ3 : szOf Try.prog 3 = some 1 := by rfl
theorem tE28 : elemT Try.prog 28 = some 184 := by rfl
theorem tZ184 : szOf Try.prog 184 = some 2 := by rfl
theorem tB184 : bytesOf Try.prog 184 = some 16 := by rfl
theorem t0184 : zeroOf Try.prog 184 = some [.int .i64 0, .int .i64 0] := by rfl
theorem tE22 : elemT Try.prog 22 = some 281 := by rfl
theorem tZ281 : szOf Try.prog 281 = some 2 := by rfl
theorem tA281 : aggT Try.prog 281 = some true := by rfl
theorem tF281_0 : fieldOff Try.prog 281 0 = some 0 := by rfl
theorem tF184_0 : fieldOff Try.prog 184 0 = some 0 := by rfl
theorem tF281_1 : fieldOff Try.prog 281 1 = some 1 := by rfl
theorem tF184_1 : fieldOff Try.prog 184 1 = some 1 := by rfl
theorem tA184 : aggT Try.prog 184 = some true := by rfl
theorem tF30_1 : fieldOff Try.prog 30 1 = some 1 := by rfl
theorem tZ28 : szOf Try.prog 28 = some 1 := by rfl
theorem tA30 : aggT Try.prog 30 = some true := by rfl
theorem tZ40 : szOf Try.prog 40 = some 3 := by rfl
theorem t040 : zeroOf Try.prog 40 = some [.bool false, (.tl 0 []), (.tl 0 [])] := by rfl
theorem tF105_0 : fieldOff Try.prog 105 0 = some 0 := by rfl
theorem tA4 : aggT Try.prog 4 = some false := by rfl
theorem tF40_0 : fieldOff Try.prog 40 0 = some 0 := by rfl
theorem tZ4 : szOf Try.prog 4 = some 1 := by rfl
theorem tE37 : elemT Try.prog 37 = some 233 := by rfl
theorem tZ233 : szOf Try.prog 233 = some 5 := by rfl
theorem tB233 : bytesOf Try.prog 233 = some 32 := by rfl
theorem t0233 : zeroOf Try.prog 233 = some [.int .i64 0, .int .i64 0, .bool false, .bool false, .int .i64 0] := by rfl
theorem tE103 : elemT Try.prog 103 = some 315 := by rfl
theorem tZ315 : szOf Try.prog 315 = some 5 := by rfl
theorem tA315 : aggT Try.prog 315 = some true := by rfl
theorem tF315_0 : fieldOff Try.prog 315 0 = some 0 := by rfl
theorem tF233_0 : fieldOff Try.prog 233 0 = some 0 := by rfl
theorem tF315_1 : fieldOff Try.prog 315 1 = some 1 := by rfl
theorem tF233_1 : fieldOff Try.prog 233 1 = some 1 := by rfl
theorem tF315_2 : fieldOff Try.prog 315 2 = some 2 := by rfl
theorem tF233_2 : fieldOff Try.prog 233 2 = some 2 := by rfl
theorem tF315_3 : fieldOff Try.prog 315 3 = some 3 := by rfl
theorem tF233_3 : fieldOff Try.prog 233 3 = some 3 := by rfl
theorem tF315_4 : fieldOff Try.prog 315 4 = some 4 := by rfl
theorem tF233_4 : fieldOff Try.prog 233 4 = some 4 := by rfl
theorem tA233 : aggT Try.prog 233 = some true := by rfl
theorem tF40_1 : fieldOff Try.prog 40 1 = some 1 := by rfl
theorem tZ37 : szOf Try.prog 37 = some 1 := by rfl
theorem tE38 : elemT Try.prog 38 = some 4 := by rfl
theorem tB4 : bytesOf Try.prog 4 = some 1 := by rfl
theorem t04 : zeroOf Try.prog 4 = some [.bool false] := by rfl
theorem tF40_2 : fieldOff Try.prog 40 2 = some 2 := by rfl
theorem tZ38 : szOf Try.prog 38 = some 1 := by rfl
theorem tA40 : aggT Try.prog 40 = some true := by rfl
theorem tZ113 : szOf Try.prog 113 = some 3 := by rfl
theorem t0113 : zeroOf Try.prog 113 = some [.int .i64 0, .int .i64 0, .int .i64 0] := by rfl
theorem tF107_0 : fieldOff Try.prog 107 0 = some 0 := by rfl
theorem tF113_0 : fieldOff Try.prog 113 0 = some 0 := by rfl
theorem tF107_1 : fieldOff Try.prog 107 1 = some 1 := by rfl
theorem tF113_1 : fieldOff Try.prog 113 1 = some 1 := by rfl
theorem tF107_2 : fieldOff Try.prog 107 2 = some 2 := by rfl
theorem tF113_2 : fieldOff Try.prog 113 2 = some 2 := by rfl
theorem tA113 : aggT Try.prog 113 = some true := by rfl
theorem tZ110 : szOf Try.prog 110 = some 4 := by rfl
theorem t0110 : zeroOf Try.prog 110 = some [.int .i64 0, .bool false, (.tl 0 []), (.tl 0 [])] := by rfl
theorem tA28 : aggT Try.prog 28 = some false := by rfl
theorem tS28 : strT Try.prog 28 = some false := by rfl
theorem tA37 : aggT Try.prog 37 = some false := by rfl
theorem tS37 : strT Try.prog 37 = some false := by rfl
theorem tE26 : elemT Try.prog 26 = some 3 := by rfl
theorem t03 : zeroOf Try.prog 3 = some [.int .i64 0] := by rfl
theorem tB3 : bytesOf Try.prog 3 = some 8 := by rfl
theorem tS26 : strT Try.prog 26 = some false := by rfl
theorem tP110 : placesK Try.prog 110 = some [(0, 1), (1, 3)] := by rfl
theorem tA110 : aggT Try.prog 110 = some true := by rfl
theorem tP40 : placesK Try.prog 40 = some [(0, 1), (1, 1), (2, 1)] := by rfl
theorem tP233 : placesK Try.prog 233 = some [(0, 1), (1, 1), (2, 1), (3, 1), (4, 1)] := by rfl
theorem tC278 : Try.f278.body.bind isClone = some 37 := by rfl
theorem tC279 : Try.f279.body.bind isClone = some 38 := by rfl
theorem tF110_0 : fieldOff Try.prog 110 0 = some 0 := by rfl
theorem tF110_1 : fieldOff Try.prog 110 1 = some 1 := by rfl
/-- laws.szCounterS -/
def f125 (aA0 : List Counter) (aLeft1 : Int) : Option Int :=
  (bif decide ((w64 (aLeft1 - (aA0.length : Int))) < (0:Int)) then some (-1:Int) else some (w64 (aLeft1 - (aA0.length : Int))))
theorem f125_run {aA0 : List Counter} {aLeft1 : Int} {r : Int} {l1 : Nat} {H : Heap} {lk : Lk} (hk : f125 aA0 aLeft1 = some r) (hlk : 0 < lk.length := by simp) : runL Try.prog hh 125 [.lit l1 aA0.length ((flatL 0) aA0), .int .i64 aLeft1] H lk = some (.int .i64 r, H) := by
  refine run_start Try.func125 rfl Try.ntmps125 Try.results125 rfl rfl fun hO => ?_
  unfold f125 at hk
  refine wpL_sq (wpL_rg ?_)
  refine pA (.int _ _) ?_
  refine pE (gn (wpL_sq (wpL_rg ?_)))
  refine pM (.int _ _) ?_
  refine pM (.lit _ _ _) ?_
  refine pLen tS22 ?_
  refine pBi ?_
  refine pA (.int _ _) ?_
  refine pE (gn (wpL_sq (wpL_sq (wpL_rg ?_))))
  refine pM (.int _ _) ?_
  refine pBi ?_
  refine pE (gn ?_)
  refine wpL_cd (b := decide ((w64 (aLeft1 - (aA0.length : Int))) < (0:Int))) (fun hb => ?_) (fun hb => ?_)
  · replace hk := ct hb hk
    refine wpL_sq (wpL_rg ?_)
    refine pA (.int _ _) ?_
    refine pE (gn (wpL_rt (gr ?_)))
    replace hk := Option.some.inj hk; subst hk; exact fin0 hO
  · replace hk := cf hb hk
    refine wpL_sk (gn (wpL_sq (wpL_rg ?_)))
    refine pM (.int _ _) ?_
    refine pA (.int _ _) ?_
    refine pE (gn (wpL_rt ?_))
    replace hk := Option.some.inj hk; subst hk; exact fin0 hO
/-- laws.szLayout -/
def f24 (aA0 : Layout) (aLeft1 : Int) : Option Int :=
  ((f125 aA0.Counters aLeft1).bind fun v2 => (bif decide (v2 < (0:Int)) then some (-1:Int) else some v2))
theorem f24_run {aA0 : Layout} {aLeft1 : Int} {r : Int} {l1 : Nat} {H : Heap} {lk : Lk} (hk : f24 aA0 aLeft1 = some r) (hlk : 0 < lk.length := by simp) : runL Try.prog hh 24 [.agg [.int .i64 aA0.Sections, .lit l1 aA0.Counters.length ((flatL 0) aA0.Counters)], .int .i64 aLeft1] H lk = some (.int .i64 r, H) := by
  refine run_start Try.func24 rfl Try.ntmps24 Try.results24 rfl rfl fun hO => ?_
  unfold f24 at hk
  refine wpL_sq (wpL_rg ?_)
  refine pBox (cs := [_, _]) hO tZ24 (fun b1 G hO => ?_)
  refine pA (.int _ _) ?_
  refine pE (gn (wpL_sq (wpL_rg ?_)))
  refine pF tF24_1 ?_
  refine pLo hO 0 (.lit _ _ _) tA22 ?_
  refine pM (.int _ _) ?_
  obtain ⟨v2, hv2, hk⟩ := bs hk
  refine pCall (fun _ => f125_run hv2) ?_
  refine pA (.int _ _) ?_
  refine pE (gn (wpL_sq (wpL_sq (wpL_rg ?_))))
  refine pM (.int _ _) ?_
  refine pBi ?_
  refine pE (gn ?_)
  refine wpL_cd (b := decide (v2 < (0:Int))) (fun hb => ?_) (fun hb => ?_)
  · replace hk := ct hb hk
    refine wpL_sq (wpL_rg ?_)
    refine pA (.int _ _) ?_
    refine pE (gn (wpL_rt (gr ?_)))
    replace hk := Option.some.inj hk; subst hk; exact fin0 hO
  · replace hk := cf hb hk
    refine wpL_sk (gn (wpL_sq (wpL_rg ?_)))
    refine pM (.int _ _) ?_
    refine pA (.int _ _) ?_
    refine pE (gn (wpL_rt ?_))
    replace hk := Option.some.inj hk; subst hk; exact fin0 hO
/-- laws.szSectionS -/
def f182 (aA0 : List Section) (aLeft1 : Int) : Option Int :=
  (bif decide ((w64 (aLeft1 - (aA0.length : Int))) < (0:Int)) then some (-1:Int) else some (w64 (aLeft1 - (aA0.length : Int))))
theorem f182_run {aA0 : List Section} {aLeft1 : Int} {r : Int} {l1 : Nat} {H : Heap} {lk : Lk} (hk : f182 aA0 aLeft1 = some r) (hlk : 0 < lk.length := by simp) : runL Try.prog hh 182 [.lit l1 aA0.length ((flatL 0) aA0), .int .i64 aLeft1] H lk = some (.int .i64 r, H) := by
  refine run_start Try.func182 rfl Try.ntmps182 Try.results182 rfl rfl fun hO => ?_
  unfold f182 at hk
  refine wpL_sq (wpL_rg ?_)
  refine pA (.int _ _) ?_
  refine pE (gn (wpL_sq (wpL_rg ?_)))
  refine pM (.int _ _) ?_
  refine pM (.lit _ _ _) ?_
  refine pLen tS103 ?_
  refine pBi ?_
  refine pA (.int _ _) ?_
  refine pE (gn (wpL_sq (wpL_sq (wpL_rg ?_))))
  refine pM (.int _ _) ?_
  refine pBi ?_
  refine pE (gn ?_)
  refine wpL_cd (b := decide ((w64 (aLeft1 - (aA0.length : Int))) < (0:Int))) (fun hb => ?_) (fun hb => ?_)
  · replace hk := ct hb hk
    refine wpL_sq (wpL_rg ?_)
    refine pA (.int _ _) ?_
    refine pE (gn (wpL_rt (gr ?_)))
    replace hk := Option.some.inj hk; subst hk; exact fin0 hO
  · replace hk := cf hb hk
    refine wpL_sk (gn (wpL_sq (wpL_rg ?_)))
    refine pM (.int _ _) ?_
    refine pA (.int _ _) ?_
    refine pE (gn (wpL_rt ?_))
    replace hk := Option.some.inj hk; subst hk; exact fin0 hO
/-- laws.szBoolS -/
def f139 (aA0 : List Bool) (aLeft1 : Int) : Option Int :=
  (bif decide ((w64 (aLeft1 - (aA0.length : Int))) < (0:Int)) then some (-1:Int) else some (w64 (aLeft1 - (aA0.length : Int))))
theorem f139_run {aA0 : List Bool} {aLeft1 : Int} {r : Int} {l1 : Nat} {H : Heap} {lk : Lk} (hk : f139 aA0 aLeft1 = some r) (hlk : 0 < lk.length := by simp) : runL Try.prog hh 139 [.lit l1 aA0.length ((flatL 0) aA0), .int .i64 aLeft1] H lk = some (.int .i64 r, H) := by
  refine run_start Try.func139 rfl Try.ntmps139 Try.results139 rfl rfl fun hO => ?_
  unfold f139 at hk
  refine wpL_sq (wpL_rg ?_)
  refine pA (.int _ _) ?_
  refine pE (gn (wpL_sq (wpL_rg ?_)))
  refine pM (.int _ _) ?_
  refine pM (.lit _ _ _) ?_
  refine pLen tS38 ?_
  refine pBi ?_
  refine pA (.int _ _) ?_
  refine pE (gn (wpL_sq (wpL_sq (wpL_rg ?_))))
  refine pM (.int _ _) ?_
  refine pBi ?_
  refine pE (gn ?_)
  refine wpL_cd (b := decide ((w64 (aLeft1 - (aA0.length : Int))) < (0:Int))) (fun hb => ?_) (fun hb => ?_)
  · replace hk := ct hb hk
    refine wpL_sq (wpL_rg ?_)
    refine pA (.int _ _) ?_
    refine pE (gn (wpL_rt (gr ?_)))
    replace hk := Option.some.inj hk; subst hk; exact fin0 hO
  · replace hk := cf hb hk
    refine wpL_sk (gn (wpL_sq (wpL_rg ?_)))
    refine pM (.int _ _) ?_
    refine pA (.int _ _) ?_
    refine pE (gn (wpL_rt ?_))
    replace hk := Option.some.inj hk; subst hk; exact fin0 hO
/-- laws.szCountState -/
def f69 (aA0 : CountState) (aLeft1 : Int) : Option Int :=
  ((f182 aA0.Sections aLeft1).bind fun v2 => (bif decide (v2 < (0:Int)) then some (-1:Int) else ((f139 aA0.Dead v2).bind fun v3 => (bif decide (v3 < (0:Int)) then some (-1:Int) else some v3))))
theorem f69_run {aA0 : CountState} {aLeft1 : Int} {r : Int} {l1 l2 : Nat} {H : Heap} {lk : Lk} (hk : f69 aA0 aLeft1 = some r) (hlk : 0 < lk.length := by simp) : runL Try.prog hh 69 [.agg [.bool aA0.Ok, .lit l1 aA0.Sections.length ((flatL 0) aA0.Sections), .lit l2 aA0.Dead.length ((flatL 0) aA0.Dead)], .int .i64 aLeft1] H lk = some (.int .i64 r, H) := by
  refine run_start Try.func69 rfl Try.ntmps69 Try.results69 rfl rfl fun hO => ?_
  unfold f69 at hk
  refine wpL_sq (wpL_rg ?_)
  refine pBox (cs := [_, _, _]) hO tZ105 (fun b1 G hO => ?_)
  refine pA (.int _ _) ?_
  refine pE (gn (wpL_sq (wpL_rg ?_)))
  refine pF tF105_1 ?_
  refine pLo hO 0 (.lit _ _ _) tA103 ?_
  refine pM (.int _ _) ?_
  obtain ⟨v2, hv2, hk⟩ := bs hk
  refine pCall (fun _ => f182_run hv2) ?_
  refine pA (.int _ _) ?_
  refine pE (gn (wpL_sq (wpL_sq (wpL_rg ?_))))
  refine pM (.int _ _) ?_
  refine pBi ?_
  refine pE (gn ?_)
  refine wpL_cd (b := decide (v2 < (0:Int))) (fun hb => ?_) (fun hb => ?_)
  · replace hk := ct hb hk
    refine wpL_sq (wpL_rg ?_)
    refine pA (.int _ _) ?_
    refine pE (gn (wpL_rt (gr ?_)))
    replace hk := Option.some.inj hk; subst hk; exact fin0 hO
  · replace hk := cf hb hk
    refine wpL_sk (gn (wpL_sq (wpL_rg ?_)))
    refine pF tF105_2 ?_
    refine pLo hO 0 (.lit _ _ _) tA38 ?_
    refine pM (.int _ _) ?_
    obtain ⟨v3, hv3, hk⟩ := bs hk
    refine pCall (fun _ => f139_run hv3) ?_
    refine pA (.int _ _) ?_
    refine pE (gn (wpL_sq (wpL_sq (wpL_rg ?_))))
    refine pM (.int _ _) ?_
    refine pBi ?_
    refine pE (gn ?_)
    refine wpL_cd (b := decide (v3 < (0:Int))) (fun hb => ?_) (fun hb => ?_)
    · replace hk := ct hb hk
      refine wpL_sq (wpL_rg ?_)
      refine pA (.int _ _) ?_
      refine pE (gn (wpL_rt (gr ?_)))
      replace hk := Option.some.inj hk; subst hk; exact fin0 hO
    · replace hk := cf hb hk
      refine wpL_sk (gn (wpL_sq (wpL_rg ?_)))
      refine pM (.int _ _) ?_
      refine pA (.int _ _) ?_
      refine pE (gn (wpL_rt ?_))
      replace hk := Option.some.inj hk; subst hk; exact fin0 hO
/-- laws.toCounter -/
def f249 (aA0 : Counter) : Option Counter :=
  some aA0
theorem f249_run {aA0 : Counter} {r : Counter} {H : Heap} {lk : Lk} (hk : f249 aA0 = some r) (hlk : 0 < lk.length := by simp) : runL Try.prog hh 249 [.agg [.int .i64 aA0.From, .int .i64 aA0.To]] H lk = some (.agg [.int .i64 r.From, .int .i64 r.To], H) := by
  refine run_start Try.func249 rfl Try.ntmps249 Try.results249 rfl rfl fun hO => ?_
  unfold f249 at hk
  refine wpL_sq (wpL_rg ?_)
  refine pBox (cs := [_, _]) hO tZ281 (fun b1 G hO => ?_)
  refine pNew hO tZ184 t0184 (fun b2 G hO => ?_)
  refine pE (gn (wpL_sq (wpL_rg ?_)))
  refine pNew hO tZ184 t0184 (fun b3 G hO => ?_)
  refine pE (gn (wpL_sq (wpL_rg ?_)))
  refine pF tF281_0 ?_
  refine pLo hO 2 (.int _ _) tA3 ?_
  refine pF tF184_0 ?_
  refine pSt (xs := [_]) hO 0 tZ3 rfl (fun G hO => ?_)
  refine pE (gn (wpL_sq (wpL_rg ?_)))
  refine pF tF281_1 ?_
  refine pLo hO 2 (.int _ _) tA3 ?_
  refine pF tF184_1 ?_
  refine pSt (xs := [_]) hO 0 tZ3 rfl (fun G hO => ?_)
  refine pE (gn (wpL_sq (wpL_rg ?_)))
  refine pLs hO 0 [_, _] tA184 tZ184 ?_
  refine pSt (xs := [_, _]) hO 1 tZ184 rfl (fun G hO => ?_)
  refine pE (gn (wpL_rt ?_))
  replace hk := Option.some.inj hk; subst hk; exact finZ hO (fz_agg (n := 2) (fz_c (fz_int _ _) (fz_c (fz_int _ _) (fz_n)))) (resS hO 1 [_, _] tA184 tZ184 resN)
/-- laws.toCounterS -/
def f128_L1 (aA0 : List Counter) : ((List Counter) × Int) → Option (((List Counter) × Int) ⊕ (List Counter)) := fun s =>
  (bif decide (s.2 < (aA0.length : Int)) then ((getI aA0 s.2).bind fun c5 => ((f249 c5).bind fun v6 => ((getI s.1 s.2).bind fun c7 => some (.inl (s.1.set s.2.toNat v6, w64 (s.2 + (1:Int))))))) else ((some s.1).map Sum.inr))
def f128 (aA0 : List Counter) : Option (List Counter) :=
  ((makeB 16 (aA0.length : Int)).bind fun m1 => (loopO (f128_L1 aA0) (List.replicate m1 (⟨0, 0⟩ : Counter), (0:Int))))
theorem f128_run {aA0 : List Counter} {r : (List Counter)} {l1 : Nat} {H : Heap} {lk : Lk} (hk : f128 aA0 = some r) (hlk : 0 < lk.length := by simp) : ∃ v H1, runL Try.prog hh 128 [.lit l1 aA0.length ((flatL 0) aA0)] H lk = some (v, H1) ∧ FreshL H r v H1 := by
  refine run_startR Try.func128 rfl Try.ntmps128 Try.results128 rfl rfl ?_
  have hO := Owns.nil H
  unfold f128 at hk
  refine wpL_sq (wpL_rg ?_)
  refine pA (.tl 0 []) ?_
  refine pE (gn (wpL_sq (wpL_rg ?_)))
  refine pM (.lit _ _ _) ?_
  refine pLen tS22 ?_
  obtain ⟨m1, hm1, hk⟩ := bs hk
  refine pMk hO hm1 (⟨0, 0⟩ : Counter) tE28 tZ184 tB184 t0184 (fun b2 G hO => ?_)
  refine pA (.sl _ _ _) ?_
  refine pE (gn (wpL_sq (wpL_sq (wpL_rg ?_))))
  refine pA (.int _ _) ?_
  refine pE (gn (wpL_bl ?_))
  refine wpL_loopO (F := f128_L1 aA0) (fun s S' => ∃ (J : Nat → V) (G : Heap), s.1.length = m1 ∧ Owns H G [.blk b2 (.cells 2 ((flatL 0) s.1))] ∧ S' = ⟨hav [(0, .lit l1 aA0.length ((flatL 0) aA0)), (3, .sl b2 0 m1), (4, .int .i64 s.2)] J, G⟩) hk ⟨_, _, List.length_replicate, hO, St.hav _ ⟨rfl, rfl, rfl, trivial⟩⟩ ?_
  rintro ⟨x3, x4⟩ _ y1 ⟨J, G, hl3, hO, rfl⟩ hk hx1
  refine wpL_sq (wpL_sq (wpL_rg ?_))
  refine pM (.int _ _) ?_
  refine pM (.lit _ _ _) ?_
  refine pLen tS22 ?_
  refine pBi ?_
  refine pE (gn ?_)
  refine wpL_cd (b := decide (x4 < (aA0.length : Int))) (fun hb => ?_) (fun hb => ?_)
  · replace hk := ct hb hk
    refine wpL_sk (gn (wpL_sq (wpL_bl (wpL_rg ?_))))
    refine pM (.sl _ _ _) ?_
    refine pM (.int _ _) ?_
    refine pM (.lit _ _ _) ?_
    refine pM (.int _ _) ?_
    obtain ⟨c5, hc5, hk⟩ := bs hk
    refine pX hc5 tE22 tZ281 ?_
    refine pLp (.agg [_, _]) (rd2 (lm := 0) (off := 0) hc5 tA281 tZ281) ?_
    obtain ⟨v6, hv6, hk⟩ := bs hk
    refine pCall (fun _ => f249_run hv6) ?_
    obtain ⟨c7, hc7, hk⟩ := bs hk
    refine pXm hl3 hc7 tE28 tZ184 ?_
    refine pSm hO 0 hc7 tZ184 rfl v6 (.agg [_, _]) (fun G hO => ?_)
    refine pE (bn (gn (wpL_rg ?_)))
    refine pM (.int _ _) ?_
    refine pBi ?_
    refine pA (.int _ _) ?_
    refine pE (gn ?_)
    cases hk; exact ⟨_, rfl, _, _, (List.length_set.trans hl3), hO, St.hav _ ⟨rfl, rfl, rfl, trivial⟩⟩
  · replace hk := cf hb hk
    refine wpL_ex (ge (ge (be (gn ?_))))
    replace hk := lx hx1 hk
    refine wpL_sq (wpL_rg ?_)
    refine pM (.sl _ _ _) ?_
    refine pA (.sl _ _ _) ?_
    refine pE (gn (wpL_rt ?_))
    replace hk := Option.some.inj hk; subst hk; exact finThL hO (th_made (xs := x3) hl3 hlk 0) (resT (.sl _ _ _) resN)
/-- laws.toLayout -/
def f26 (aA0 : Layout) : Option Layout :=
  ((f128 aA0.Counters).bind fun v4 => some ({ Sections := aA0.Sections, Counters := v4 } : Layout))
theorem f26_run {aA0 : Layout} {r : Layout} {l1 : Nat} {H : Heap} {lk : Lk} (hk : f26 aA0 = some r) (hlk : 0 < lk.length := by simp) : ∃ v H1, runL Try.prog hh 26 [.agg [.int .i64 aA0.Sections, .lit l1 aA0.Counters.length ((flatL 0) aA0.Counters)]] H lk = some (v, H1) ∧ FreshS H r v H1 := by
  refine run_startR Try.func26 rfl Try.ntmps26 Try.results26 rfl rfl ?_
  have hO := Owns.nil H
  unfold f26 at hk
  refine wpL_sq (wpL_rg ?_)
  refine pBox (cs := [_, _]) hO tZ24 (fun b1 G hO => ?_)
  refine pNew hO tZ30 t030 (fun b2 G hO => ?_)
  refine pE (gn (wpL_sq (wpL_rg ?_)))
  refine pNew hO tZ30 t030 (fun b3 G hO => ?_)
  refine pE (gn (wpL_sq (wpL_rg ?_)))
  refine pF tF24_0 ?_
  refine pLo hO 2 (.int _ _) tA3 ?_
  refine pF tF30_0 ?_
  refine pSt (xs := [_]) hO 0 tZ3 rfl (fun G hO => ?_)
  refine pE (gn (wpL_sq (wpL_rg ?_)))
  refine pF tF24_1 ?_
  refine pLo hO 2 (.lit _ _ _) tA22 ?_
  obtain ⟨v4, hv4, hk⟩ := bs hk
  refine pCN hO (fun _ => f128_run hv4) (fun u5 F5 G hO => ?_)
  refine pF tF30_1 ?_
  have hc6 := tl_cells hO (j := 0) rfl
  refine pSt (xs := [_]) hO 1 tZ28 rfl (fun G hO => ?_) (h3 := hc6.1) (h6 := one_cell hc6.2)
  refine pE (gn (wpL_sq (wpL_rg ?_)))
  refine pLs hO 1 [_, _] tA30 tZ30 ?_
  have hc7 := tl_cells hO (j := 0) rfl
  refine pSt (xs := [_, _]) hO 2 tZ30 rfl (fun G hO => ?_) (h6 := (all_c rfl (all_c hc7.2 all_n)))
  refine pE (gn (wpL_rt ?_))
  replace hk := Option.some.inj hk; subst hk; exact finThS hO (th_Layout (x := ({ Sections := aA0.Sections, Counters := v4 } : Layout)) (th_pair (c1 := [_]) (th_int aA0.Sections) (th_tree (x := v4) 0))) (resS hO 2 [_, _] tA30 tZ30 resN)
/-- laws.toSection -/
def f275 (aA0 : Section) : Option Section :=
  some aA0
theorem f275_run {aA0 : Section} {r : Section} {H : Heap} {lk : Lk} (hk : f275 aA0 = some r) (hlk : 0 < lk.length := by simp) : runL Try.prog hh 275 [.agg [.int .i64 aA0.Told, .int .i64 aA0.Count, .bool aA0.Lost, .bool aA0.Sweep, .int .i64 aA0.Last]] H lk = some (.agg [.int .i64 r.Told, .int .i64 r.Count, .bool r.Lost, .bool r.Sweep, .int .i64 r.Last], H) := by
  refine run_start Try.func275 rfl Try.ntmps275 Try.results275 rfl rfl fun hO => ?_
  unfold f275 at hk
  refine wpL_sq (wpL_rg ?_)
  refine pBox (cs := [_, _, _, _, _]) hO tZ315 (fun b1 G hO => ?_)
  refine pNew hO tZ233 t0233 (fun b2 G hO => ?_)
  refine pE (gn (wpL_sq (wpL_rg ?_)))
  refine pNew hO tZ233 t0233 (fun b3 G hO => ?_)
  refine pE (gn (wpL_sq (wpL_rg ?_)))
  refine pF tF315_0 ?_
  refine pLo hO 2 (.int _ _) tA3 ?_
  refine pF tF233_0 ?_
  refine pSt (xs := [_]) hO 0 tZ3 rfl (fun G hO => ?_)
  refine pE (gn (wpL_sq (wpL_rg ?_)))
  refine pF tF315_1 ?_
  refine pLo hO 2 (.int _ _) tA3 ?_
  refine pF tF233_1 ?_
  refine pSt (xs := [_]) hO 0 tZ3 rfl (fun G hO => ?_)
  refine pE (gn (wpL_sq (wpL_rg ?_)))
  refine pF tF315_2 ?_
  refine pLo hO 2 (.bool _) tA4 ?_
  refine pF tF233_2 ?_
  refine pSt (xs := [_]) hO 0 tZ4 rfl (fun G hO => ?_)
  refine pE (gn (wpL_sq (wpL_rg ?_)))
  refine pF tF315_3 ?_
  refine pLo hO 2 (.bool _) tA4 ?_
  refine pF tF233_3 ?_
  refine pSt (xs := [_]) hO 0 tZ4 rfl (fun G hO => ?_)
  refine pE (gn (wpL_sq (wpL_rg ?_)))
  refine pF tF315_4 ?_
  refine pLo hO 2 (.int _ _) tA3 ?_
  refine pF tF233_4 ?_
  refine pSt (xs := [_]) hO 0 tZ3 rfl (fun G hO => ?_)
  refine pE (gn (wpL_sq (wpL_rg ?_)))
  refine pLs hO 0 [_, _, _, _, _] tA233 tZ233 ?_
  refine pSt (xs := [_, _, _, _, _]) hO 1 tZ233 rfl (fun G hO => ?_)
  refine pE (gn (wpL_rt ?_))
  replace hk := Option.some.inj hk; subst hk; exact finZ hO (fz_agg (n := 2) (fz_c (fz_int _ _) (fz_c (fz_int _ _) (fz_c (fz_bool _) (fz_c (fz_bool _) (fz_c (fz_int _ _) (fz_n))))))) (resS hO 1 [_, _, _, _, _] tA233 tZ233 resN)
/-- laws.toSectionS -/
def f189_L1 (aA0 : List Section) : ((List Section) × Int) → Option (((List Section) × Int) ⊕ (List Section)) := fun s =>
  (bif decide (s.2 < (aA0.length : Int)) then ((getI aA0 s.2).bind fun c5 => ((f275 c5).bind fun v6 => ((getI s.1 s.2).bind fun c7 => some (.inl (s.1.set s.2.toNat v6, w64 (s.2 + (1:Int))))))) else ((some s.1).map Sum.inr))
def f189 (aA0 : List Section) : Option (List Section) :=
  ((makeB 32 (aA0.length : Int)).bind fun m1 => (loopO (f189_L1 aA0) (List.replicate m1 (⟨0, 0, false, false, 0⟩ : Section), (0:Int))))
theorem f189_run {aA0 : List Section} {r : (List Section)} {l1 : Nat} {H : Heap} {lk : Lk} (hk : f189 aA0 = some r) (hlk : 0 < lk.length := by simp) : ∃ v H1, runL Try.prog hh 189 [.lit l1 aA0.length ((flatL 0) aA0)] H lk = some (v, H1) ∧ FreshL H r v H1 := by
  refine run_startR Try.func189 rfl Try.ntmps189 Try.results189 rfl rfl ?_
  have hO := Owns.nil H
  unfold f189 at hk
  refine wpL_sq (wpL_rg ?_)
  refine pA (.tl 0 []) ?_
  refine pE (gn (wpL_sq (wpL_rg ?_)))
  refine pM (.lit _ _ _) ?_
  refine pLen tS103 ?_
  obtain ⟨m1, hm1, hk⟩ := bs hk
  refine pMk hO hm1 (⟨0, 0, false, false, 0⟩ : Section) tE37 tZ233 tB233 t0233 (fun b2 G hO => ?_)
  refine pA (.sl _ _ _) ?_
  refine pE (gn (wpL_sq (wpL_sq (wpL_rg ?_))))
  refine pA (.int _ _) ?_
  refine pE (gn (wpL_bl ?_))
  refine wpL_loopO (F := f189_L1 aA0) (fun s S' => ∃ (J : Nat → V) (G : Heap), s.1.length = m1 ∧ Owns H G [.blk b2 (.cells 5 ((flatL 0) s.1))] ∧ S' = ⟨hav [(0, .lit l1 aA0.length ((flatL 0) aA0)), (3, .sl b2 0 m1), (4, .int .i64 s.2)] J, G⟩) hk ⟨_, _, List.length_replicate, hO, St.hav _ ⟨rfl, rfl, rfl, trivial⟩⟩ ?_
  rintro ⟨x3, x4⟩ _ y1 ⟨J, G, hl3, hO, rfl⟩ hk hx1
  refine wpL_sq (wpL_sq (wpL_rg ?_))
  refine pM (.int _ _) ?_
  refine pM (.lit _ _ _) ?_
  refine pLen tS103 ?_
  refine pBi ?_
  refine pE (gn ?_)
  refine wpL_cd (b := decide (x4 < (aA0.length : Int))) (fun hb => ?_) (fun hb => ?_)
  · replace hk := ct hb hk
    refine wpL_sk (gn (wpL_sq (wpL_bl (wpL_rg ?_))))
    refine pM (.sl _ _ _) ?_
    refine pM (.int _ _) ?_
    refine pM (.lit _ _ _) ?_
    refine pM (.int _ _) ?_
    obtain ⟨c5, hc5, hk⟩ := bs hk
    refine pX hc5 tE103 tZ315 ?_
    refine pLp (.agg [_, _, _, _, _]) (rd2 (lm := 0) (off := 0) hc5 tA315 tZ315) ?_
    obtain ⟨v6, hv6, hk⟩ := bs hk
    refine pCall (fun _ => f275_run hv6) ?_
    obtain ⟨c7, hc7, hk⟩ := bs hk
    refine pXm hl3 hc7 tE37 tZ233 ?_
    refine pSm hO 0 hc7 tZ233 rfl v6 (.agg [_, _, _, _, _]) (fun G hO => ?_)
    refine pE (bn (gn (wpL_rg ?_)))
    refine pM (.int _ _) ?_
    refine pBi ?_
    refine pA (.int _ _) ?_
    refine pE (gn ?_)
    cases hk; exact ⟨_, rfl, _, _, (List.length_set.trans hl3), hO, St.hav _ ⟨rfl, rfl, rfl, trivial⟩⟩
  · replace hk := cf hb hk
    refine wpL_ex (ge (ge (be (gn ?_))))
    replace hk := lx hx1 hk
    refine wpL_sq (wpL_rg ?_)
    refine pM (.sl _ _ _) ?_
    refine pA (.sl _ _ _) ?_
    refine pE (gn (wpL_rt ?_))
    replace hk := Option.some.inj hk; subst hk; exact finThL hO (th_made (xs := x3) hl3 hlk 0) (resT (.sl _ _ _) resN)
/-- laws.toBoolS -/
def f143_L1 (aA0 : List Bool) : ((List Bool) × Int) → Option (((List Bool) × Int) ⊕ (List Bool)) := fun s =>
  (bif decide (s.2 < (aA0.length : Int)) then ((getI aA0 s.2).bind fun c5 => ((getI s.1 s.2).bind fun c6 => some (.inl (s.1.set s.2.toNat c5, w64 (s.2 + (1:Int)))))) else ((some s.1).map Sum.inr))
def f143 (aA0 : List Bool) : Option (List Bool) :=
  ((makeB 1 (aA0.length : Int)).bind fun m1 => (loopO (f143_L1 aA0) (List.replicate m1 (false : Bool), (0:Int))))
theorem f143_run {aA0 : List Bool} {r : (List Bool)} {l1 : Nat} {H : Heap} {lk : Lk} (hk : f143 aA0 = some r) (hlk : 0 < lk.length := by simp) : ∃ v H1, runL Try.prog hh 143 [.lit l1 aA0.length ((flatL 0) aA0)] H lk = some (v, H1) ∧ FreshL H r v H1 := by
  refine run_startR Try.func143 rfl Try.ntmps143 Try.results143 rfl rfl ?_
  have hO := Owns.nil H
  unfold f143 at hk
  refine wpL_sq (wpL_rg ?_)
  refine pA (.tl 0 []) ?_
  refine pE (gn (wpL_sq (wpL_rg ?_)))
  refine pM (.lit _ _ _) ?_
  refine pLen tS38 ?_
  obtain ⟨m1, hm1, hk⟩ := bs hk
  refine pMk hO hm1 (false : Bool) tE38 tZ4 tB4 t04 (fun b2 G hO => ?_)
  refine pA (.sl _ _ _) ?_
  refine pE (gn (wpL_sq (wpL_sq (wpL_rg ?_))))
  refine pA (.int _ _) ?_
  refine pE (gn (wpL_bl ?_))
  refine wpL_loopO (F := f143_L1 aA0) (fun s S' => ∃ (J : Nat → V) (G : Heap), s.1.length = m1 ∧ Owns H G [.blk b2 (.cells 1 ((flatL 0) s.1))] ∧ S' = ⟨hav [(0, .lit l1 aA0.length ((flatL 0) aA0)), (3, .sl b2 0 m1), (4, .int .i64 s.2)] J, G⟩) hk ⟨_, _, List.length_replicate, hO, St.hav _ ⟨rfl, rfl, rfl, trivial⟩⟩ ?_
  rintro ⟨x3, x4⟩ _ y1 ⟨J, G, hl3, hO, rfl⟩ hk hx1
  refine wpL_sq (wpL_sq (wpL_rg ?_))
  refine pM (.int _ _) ?_
  refine pM (.lit _ _ _) ?_
  refine pLen tS38 ?_
  refine pBi ?_
  refine pE (gn ?_)
  refine wpL_cd (b := decide (x4 < (aA0.length : Int))) (fun hb => ?_) (fun hb => ?_)
  · replace hk := ct hb hk
    refine wpL_sk (gn (wpL_sq (wpL_bl (wpL_rg ?_))))
    refine pM (.sl _ _ _) ?_
    refine pM (.int _ _) ?_
    refine pM (.lit _ _ _) ?_
    refine pM (.int _ _) ?_
    obtain ⟨c5, hc5, hk⟩ := bs hk
    refine pX hc5 tE38 tZ4 ?_
    refine pLp (.bool _) (rd1 (lm := 0) (off := 0) hc5 tA4) ?_
    obtain ⟨c6, hc6, hk⟩ := bs hk
    refine pXm hl3 hc6 tE38 tZ4 ?_
    refine pSm hO 0 hc6 tZ4 rfl c5 (.bool _) (fun G hO => ?_)
    refine pE (bn (gn (wpL_rg ?_)))
    refine pM (.int _ _) ?_
    refine pBi ?_
    refine pA (.int _ _) ?_
    refine pE (gn ?_)
    cases hk; exact ⟨_, rfl, _, _, (List.length_set.trans hl3), hO, St.hav _ ⟨rfl, rfl, rfl, trivial⟩⟩
  · replace hk := cf hb hk
    refine wpL_ex (ge (ge (be (gn ?_))))
    replace hk := lx hx1 hk
    refine wpL_sq (wpL_rg ?_)
    refine pM (.sl _ _ _) ?_
    refine pA (.sl _ _ _) ?_
    refine pE (gn (wpL_rt ?_))
    replace hk := Option.some.inj hk; subst hk; exact finThL hO (th_made (xs := x3) hl3 hlk 0) (resT (.sl _ _ _) resN)
/-- laws.toCountState -/
def f71 (aA0 : CountState) : Option CountState :=
  ((f189 aA0.Sections).bind fun v4 => ((f143 aA0.Dead).bind fun v7 => some ({ Ok := aA0.Ok, Sections := v4, Dead := v7 } : CountState)))
theorem f71_run {aA0 : CountState} {r : CountState} {l1 l2 : Nat} {H : Heap} {lk : Lk} (hk : f71 aA0 = some r) (hlk : 0 < lk.length := by simp) : ∃ v H1, runL Try.prog hh 71 [.agg [.bool aA0.Ok, .lit l1 aA0.Sections.length ((flatL 0) aA0.Sections), .lit l2 aA0.Dead.length ((flatL 0) aA0.Dead)]] H lk = some (v, H1) ∧ FreshS H r v H1 := by
  refine run_startR Try.func71 rfl Try.ntmps71 Try.results71 rfl rfl ?_
  have hO := Owns.nil H
  unfold f71 at hk
  refine wpL_sq (wpL_rg ?_)
  refine pBox (cs := [_, _, _]) hO tZ105 (fun b1 G hO => ?_)
  refine pNew hO tZ40 t040 (fun b2 G hO => ?_)
  refine pE (gn (wpL_sq (wpL_rg ?_)))
  refine pNew hO tZ40 t040 (fun b3 G hO => ?_)
  refine pE (gn (wpL_sq (wpL_rg ?_)))
  refine pF tF105_0 ?_
  refine pLo hO 2 (.bool _) tA4 ?_
  refine pF tF40_0 ?_
  refine pSt (xs := [_]) hO 0 tZ4 rfl (fun G hO => ?_)
  refine pE (gn (wpL_sq (wpL_rg ?_)))
  refine pF tF105_1 ?_
  refine pLo hO 2 (.lit _ _ _) tA103 ?_
  obtain ⟨v4, hv4, hk⟩ := bs hk
  refine pCN hO (fun _ => f189_run hv4) (fun u5 F5 G hO => ?_)
  refine pF tF40_1 ?_
  have hc6 := tl_cells hO (j := 0) rfl
  refine pSt (xs := [_]) hO 1 tZ37 rfl (fun G hO => ?_) (h3 := hc6.1) (h6 := one_cell hc6.2)
  refine pE (gn (wpL_sq (wpL_rg ?_)))
  refine pF tF105_2 ?_
  refine pLo hO 3 (.lit _ _ _) tA38 ?_
  obtain ⟨v7, hv7, hk⟩ := bs hk
  refine pCN hO (fun _ => f143_run hv7) (fun u8 F8 G hO => ?_)
  refine pF tF40_2 ?_
  have hc9 := tl_cells hO (j := 0) rfl
  refine pSt (xs := [_]) hO 2 tZ38 rfl (fun G hO => ?_) (h3 := hc9.1) (h6 := one_cell hc9.2)
  refine pE (gn (wpL_sq (wpL_rg ?_)))
  refine pLs hO 2 [_, _, _] tA40 tZ40 ?_
  have hc10 := tl_cells hO (j := 1) rfl
  have hc11 := tl_cells hO (j := 0) rfl
  refine pSt (xs := [_, _, _]) hO 3 tZ40 rfl (fun G hO => ?_) (h6 := (all_c rfl (all_c hc10.2 (all_c hc11.2 all_n))))
  refine pE (gn (wpL_rt ?_))
  replace hk := Option.some.inj hk; subst hk; exact finThS hO (th_CountState (x := ({ Ok := aA0.Ok, Sections := v4, Dead := v7 } : CountState)) (th_pair (c1 := [_]) (th_bool aA0.Ok) (th_pair (c1 := [_]) (th_tree (x := v4) 1) (th_tree (x := v7) 0)))) (resS hO 3 [_, _, _] tA40 tZ40 resN)
/-- laws.toCountEvent -/
def f72 (aA0 : CountEvent) : Option CountEvent :=
  some aA0
theorem f72_run {aA0 : CountEvent} {r : CountEvent} {H : Heap} {lk : Lk} (hk : f72 aA0 = some r) (hlk : 0 < lk.length := by simp) : runL Try.prog hh 72 [.agg [.int .i64 aA0.Op, .int .i64 aA0.Of, .int .i64 aA0.Dir]] H lk = some (.agg [.int .i64 r.Op, .int .i64 r.Of, .int .i64 r.Dir], H) := by
  refine run_start Try.func72 rfl Try.ntmps72 Try.results72 rfl rfl fun hO => ?_
  unfold f72 at hk
  refine wpL_sq (wpL_rg ?_)
  refine pBox (cs := [_, _, _]) hO tZ107 (fun b1 G hO => ?_)
  refine pNew hO tZ113 t0113 (fun b2 G hO => ?_)
  refine pE (gn (wpL_sq (wpL_rg ?_)))
  refine pNew hO tZ113 t0113 (fun b3 G hO => ?_)
  refine pE (gn (wpL_sq (wpL_rg ?_)))
  refine pF tF107_0 ?_
  refine pLo hO 2 (.int _ _) tA3 ?_
  refine pF tF113_0 ?_
  refine pSt (xs := [_]) hO 0 tZ3 rfl (fun G hO => ?_)
  refine pE (gn (wpL_sq (wpL_rg ?_)))
  refine pF tF107_1 ?_
  refine pLo hO 2 (.int _ _) tA3 ?_
  refine pF tF113_1 ?_
  refine pSt (xs := [_]) hO 0 tZ3 rfl (fun G hO => ?_)
  refine pE (gn (wpL_sq (wpL_rg ?_)))
  refine pF tF107_2 ?_
  refine pLo hO 2 (.int _ _) tA3 ?_
  refine pF tF113_2 ?_
  refine pSt (xs := [_]) hO 0 tZ3 rfl (fun G hO => ?_)
  refine pE (gn (wpL_sq (wpL_rg ?_)))
  refine pLs hO 0 [_, _, _] tA113 tZ113 ?_
  refine pSt (xs := [_, _, _]) hO 1 tZ113 rfl (fun G hO => ?_)
  refine pE (gn (wpL_rt ?_))
  replace hk := Option.some.inj hk; subst hk; exact finZ hO (fz_agg (n := 2) (fz_c (fz_int _ _) (fz_c (fz_int _ _) (fz_c (fz_int _ _) (fz_n))))) (resS hO 1 [_, _, _] tA113 tZ113 resN)
/-- spec.l14in -/
def f127 (aX0 : Int) (aA1 : Int) (aB2 : Int) : Option Bool :=
  some (decide (aX0 ≥ aA1) && decide (aX0 ≤ aB2))
theorem f127_run {aX0 : Int} {aA1 : Int} {aB2 : Int} {r : Bool} {H : Heap} {lk : Lk} (hk : f127 aX0 aA1 aB2 = some r) (hlk : 0 < lk.length := by simp) : runL Try.prog hh 127 [.int .i64 aX0, .int .i64 aA1, .int .i64 aB2] H lk = some (.bool r, H) := by
  refine run_start Try.func127 rfl Try.ntmps127 Try.results127 rfl rfl fun hO => ?_
  unfold f127 at hk
  refine wpL_sq (wpL_rg ?_)
  refine pA (.bool _) ?_
  refine pE (gn (wpL_sq (wpL_rg ?_)))
  refine pM (.int _ _) ?_
  refine pM (.int _ _) ?_
  refine pBi ?_
  refine pM (.bool _) ?_
  refine wpR_mid (l1 := [_, _, _, _]) (fun S' => ∃ J, S' = ⟨hav [(14, .bool (decide (aX0 ≥ aA1) && decide (aX0 ≤ aB2)))] J, H⟩) ?_ ?_
  · refine bc (b := decide (aX0 ≥ aA1)) (fun hg1 => ?_) (fun hg1 => ?_)
    · refine pGy hg1 ?_
      refine pM (.int _ _) ?_
      refine pGy hg1 ?_
      refine pM (.int _ _) ?_
      refine pGy hg1 ?_
      refine pBi ?_
      refine pPt hg1 (.bool _) ?_
      exact pE ⟨_, St.hav _ ⟨by rw [hg1]; rfl, trivial⟩⟩
    · refine pGn hg1 ?_
      refine pGn hg1 ?_
      refine pGn hg1 ?_
      refine pPf hg1 (.bool _) ?_
      exact pE ⟨_, St.hav _ ⟨by rw [hg1]; rfl, trivial⟩⟩
  · rintro _ ⟨J, rfl⟩
    refine pA (.bool _) ?_
    refine pE (gn (wpL_rt ?_))
    replace hk := Option.some.inj hk; subst hk; exact fin0 hO
/-- spec.LayoutOk -/
def f126_L1 (aL0 : Layout) : Int → Option (Int ⊕ Int) := fun s =>
  (bif decide (s < (aL0.Counters.length : Int)) then ((getI aL0.Counters s).bind fun c4 => ((f127 c4.From (-1:Int) (w64 (aL0.Sections - (1:Int)))).bind fun v6 => ((bif !v6 then some true else ((f127 c4.To (-1:Int) (w64 (aL0.Sections - (1:Int)))).bind fun v8 => some (!v8))).bind fun t7 => (bif (t7 || (c4.From == c4.To)) then ((some (2:Int)).map Sum.inr) else some (.inl (w64 (s + (1:Int)))))))) else ((some (0:Int)).map Sum.inr))
def f126 (aL0 : Layout) : Option Int :=
  ((f127 aL0.Sections (1:Int) (60:Int)).bind fun v2 => (bif (!v2 || decide ((aL0.Counters.length : Int) > (120:Int))) then some (1:Int) else (loopO (f126_L1 aL0) ((0:Int)))))
theorem f126_run {aL0 : Layout} {r : Int} {l1 : Nat} {H : Heap} {lk : Lk} (hk : f126 aL0 = some r) (hlk : 0 < lk.length := by simp) : runL Try.prog hh 126 [.agg [.int .i64 aL0.Sections, .lit l1 aL0.Counters.length ((flatL 0) aL0.Counters)]] H lk = some (.int .i64 r, H) := by
  refine run_start Try.func126 rfl Try.ntmps126 Try.results126 rfl rfl fun hO => ?_
  unfold f126 at hk
  refine wpL_sq (wpL_rg ?_)
  refine pBox (cs := [_, _]) hO tZ30 (fun b1 G hO => ?_)
  refine pA (.int _ _) ?_
  refine pE (gn (wpL_sq (wpL_sq (wpL_rg ?_))))
  refine pF tF30_0 ?_
  refine pLo hO 0 (.int _ _) tA3 ?_
  obtain ⟨v2, hv2, hk⟩ := bs hk
  refine pCall (fun _ => f127_run hv2) ?_
  refine pU ?_
  refine pM (.bool _) ?_
  refine wpR_mid (l1 := [_, _, _, _, _]) (fun S' => ∃ J, S' = ⟨hav [(1, .ptr b1 0), (14, .bool (!v2 || decide ((aL0.Counters.length : Int) > (120:Int))))] J, G⟩) ?_ ?_
  · refine bc (b := !v2) (fun hg1 => ?_) (fun hg1 => ?_)
    · refine pGn hg1 ?_
      refine pGn hg1 ?_
      refine pGn hg1 ?_
      refine pGn hg1 ?_
      refine pPt hg1 (.bool _) ?_
      exact pE ⟨_, St.hav _ ⟨rfl, by rw [hg1]; rfl, trivial⟩⟩
    · refine pGy hg1 ?_
      refine pF tF30_1 ?_
      refine pGy hg1 ?_
      refine pLo hO 0 (.lit _ _ _) tA28 ?_
      refine pGy hg1 ?_
      refine pLen tS28 ?_
      refine pGy hg1 ?_
      refine pBi ?_
      refine pPf hg1 (.bool _) ?_
      exact pE ⟨_, St.hav _ ⟨rfl, by rw [hg1]; rfl, trivial⟩⟩
  · rintro _ ⟨J, rfl⟩
    refine pE (gn ?_)
    refine wpL_cd (b := (!v2 || decide ((aL0.Counters.length : Int) > (120:Int)))) (fun hb => ?_) (fun hb => ?_)
    · replace hk := ct hb hk
      refine wpL_sq (wpL_rg ?_)
      refine pA (.int _ _) ?_
      refine pE (gn (wpL_rt (gr ?_)))
      replace hk := Option.some.inj hk; subst hk; exact fin0 hO
    · replace hk := cf hb hk
      refine wpL_sk (gn (wpL_sq (wpL_sq (wpL_rg ?_))))
      refine pF tF30_1 ?_
      refine pLo hO 0 (.lit _ _ _) tA28 ?_
      refine pLen tS28 ?_
      refine pM (.int _ _) ?_
      refine pE (gn (wpL_bl ?_))
      refine wpL_loopO (F := f126_L1 aL0) (fun s S' => ∃ (J : Nat → V) (G : Heap), Owns H G [.blk b1 (.cells 2 [.int .i64 aL0.Sections, .lit l1 aL0.Counters.length ((flatL 0) aL0.Counters)])] ∧ S' = ⟨hav [(1, .ptr b1 0), (16, .lit l1 aL0.Counters.length ((flatL 0) aL0.Counters)), (17, .int .i64 (aL0.Counters.length : Int)), (18, .int .i64 s)] J, G⟩) hk ⟨_, _, hO, St.hav _ ⟨rfl, rfl, rfl, rfl, trivial⟩⟩ ?_
      rintro x3 _ y1 ⟨J, G, hO, rfl⟩ hk hx1
      refine wpL_sq (wpL_rg ?_)
      refine pBi ?_
      refine pE (gn (wpL_sq ?_))
      refine wpL_cd (b := decide (x3 < (aL0.Counters.length : Int))) (fun hb => ?_) (fun hb => ?_)
      · replace hk := ct hb hk
        refine wpL_sk (gn (wpL_sq (wpL_bl (wpL_sq (wpL_rg ?_)))))
        obtain ⟨c4, hc4, hk⟩ := bs hk
        refine pX hc4 tE28 tZ184 ?_
        refine pLp (.agg [_, _]) (rd2 (lm := 0) (off := 0) hc4 tA184 tZ184) ?_
        refine pNew hO tZ184 t0184 (fun b5 G hO => ?_)
        refine pSt (xs := [_, _]) hO 0 tZ184 rfl (fun G hO => ?_)
        refine pE (gn (wpL_sq (wpL_rg ?_)))
        refine pF tF184_0 ?_
        refine pLo hO 0 (.int _ _) tA3 ?_
        refine pF tF30_0 ?_
        refine pLo hO 1 (.int _ _) tA3 ?_
        refine pBi ?_
        obtain ⟨v6, hv6, hk⟩ := bs hk
        refine pCall (fun _ => f127_run hv6) ?_
        refine pU ?_
        refine pM (.bool _) ?_
        obtain ⟨t7, ht, hk⟩ := bs hk
        refine wpR_mid (l1 := [_, _, _, _, _, _, _, _]) (fun S' => ∃ J, S' = ⟨hav [(1, .ptr b1 0), (4, .ptr b5 0), (16, .lit l1 aL0.Counters.length ((flatL 0) aL0.Counters)), (17, .int .i64 (aL0.Counters.length : Int)), (18, .int .i64 x3), (37, .bool t7)] J, G⟩) ?_ ?_
        · refine bc (b := !v6) (fun hg1 => ?_) (fun hg1 => ?_)
          · replace hk := ct hg1 ht
            refine pGn hg1 ?_
            refine pGn hg1 ?_
            refine pGn hg1 ?_
            refine pGn hg1 ?_
            refine pGn hg1 ?_
            refine pGn hg1 ?_
            refine pGn hg1 ?_
            refine pPt hg1 (.bool _) ?_
            cases hk; exact pE ⟨_, St.hav _ ⟨rfl, rfl, rfl, rfl, rfl, rfl, trivial⟩⟩
          · replace hk := cf hg1 ht
            refine pGy hg1 ?_
            refine pF tF184_1 ?_
            refine pGy hg1 ?_
            refine pLo hO 0 (.int _ _) tA3 ?_
            refine pGy hg1 ?_
            refine pF tF30_0 ?_
            refine pGy hg1 ?_
            refine pLo hO 1 (.int _ _) tA3 ?_
            refine pGy hg1 ?_
            refine pBi ?_
            refine pGy hg1 ?_
            obtain ⟨v8, hv8, hk⟩ := bs hk
            refine pCall (fun _ => f127_run hv8) ?_
            refine pGy hg1 ?_
            refine pU ?_
            refine pPf hg1 (.bool _) ?_
            cases hk; exact pE ⟨_, St.hav _ ⟨rfl, rfl, rfl, rfl, rfl, rfl, trivial⟩⟩
        · rintro _ ⟨J, rfl⟩
          refine pM (.bool _) ?_
          refine wpR_mid (l1 := [_, _, _, _, _, _]) (fun S' => ∃ J, S' = ⟨hav [(1, .ptr b1 0), (16, .lit l1 aL0.Counters.length ((flatL 0) aL0.Counters)), (17, .int .i64 (aL0.Counters.length : Int)), (18, .int .i64 x3), (44, .bool (t7 || (c4.From == c4.To)))] J, G⟩) ?_ ?_
          · refine bc (b := t7) (fun hg1 => ?_) (fun hg1 => ?_)
            · refine pGn hg1 ?_
              refine pGn hg1 ?_
              refine pGn hg1 ?_
              refine pGn hg1 ?_
              refine pGn hg1 ?_
              refine pPt hg1 (.bool _) ?_
              exact pE ⟨_, St.hav _ ⟨rfl, rfl, rfl, rfl, by rw [hg1]; rfl, trivial⟩⟩
            · refine pGy hg1 ?_
              refine pF tF184_0 ?_
              refine pGy hg1 ?_
              refine pLo hO 0 (.int _ _) tA3 ?_
              refine pGy hg1 ?_
              refine pF tF184_1 ?_
              refine pGy hg1 ?_
              refine pLo hO 0 (.int _ _) tA3 ?_
              refine pGy hg1 ?_
              refine pBi ?_
              refine pPf hg1 (.bool _) ?_
              exact pE ⟨_, St.hav _ ⟨rfl, rfl, rfl, rfl, by rw [hg1]; rfl, trivial⟩⟩
          · rintro _ ⟨J, rfl⟩
            refine pE (gn ?_)
            refine wpL_cd (b := (t7 || (c4.From == c4.To))) (fun hb => ?_) (fun hb => ?_)
            · replace hk := ct hb hk
              refine wpL_sq (wpL_rg ?_)
              refine pA (.int _ _) ?_
              refine pE (gn (wpL_rt (br (gr (gr (br (gr ?_)))))))
              replace hk := lx hx1 hk
              replace hk := Option.some.inj hk; subst hk; exact fin0 hO
            · replace hk := cf hb hk
              refine wpL_sk (bn (gn (wpL_rg ?_)))
              refine pBi ?_
              refine pM (.int _ _) ?_
              refine pE (gn ?_)
              cases hk; exact ⟨_, rfl, _, _, (Owns.pick hO [1] (by decide) rfl), St.hav _ ⟨rfl, rfl, rfl, rfl, trivial⟩⟩
      · replace hk := cf hb hk
        refine wpL_ex (ge (ge (be (gn ?_))))
        replace hk := lx hx1 hk
        refine wpL_sq (wpL_rg ?_)
        refine pA (.int _ _) ?_
        refine pE (gn (wpL_rt ?_))
        replace hk := Option.some.inj hk; subst hk; exact fin0 hO
/-- spec.Around -/
def f25_k2 (x7 : Int) (x8 : List Int) : Option (((List Int) × Int) ⊕ (List Int)) :=
  some (.inl (x8, w64 (x7 + (1:Int))))
def f25_L1 (aL0 : Layout) (aSection1 : Int) : ((List Int) × Int) → Option (((List Int) × Int) ⊕ (List Int)) := fun s =>
  (bif decide (s.2 < (aL0.Counters.length : Int)) then ((getI aL0.Counters s.2).bind fun c10 => (bif ((c10.From == aSection1) || (c10.To == aSection1)) then ((appB 8 s.1 ([s.2] : List Int)).bind fun z12 => (f25_k2 s.2 z12)) else (f25_k2 s.2 s.1))) else ((some s.1).map Sum.inr))
def f25 (aL0 : Layout) (aSection1 : Int) : Option (List Int) :=
  ((f126 aL0).bind fun v2 => ((bif (v2 != (0:Int)) then some true else ((f127 aSection1 (0:Int) (w64 (aL0.Sections - (1:Int)))).bind fun v4 => some (!v4))).bind fun t3 => (bif t3 then some ([] : List Int) else (loopO (f25_L1 aL0 aSection1) (([] : List Int), (0:Int))))))
theorem f25_run {aL0 : Layout} {aSection1 : Int} {r : (List Int)} {l1 : Nat} {H : Heap} {lk : Lk} (hk : f25 aL0 aSection1 = some r) (hlk : 0 < lk.length := by simp) : runL Try.prog hh 25 [.agg [.int .i64 aL0.Sections, .lit l1 aL0.Counters.length ((flatL 0) aL0.Counters)], .int .i64 aSection1] H lk = some (.lit 0 r.length ((flatL 0) r), H) := by
  refine run_start Try.func25 rfl Try.ntmps25 Try.results25 rfl rfl fun hO => ?_
  unfold f25 at hk
  refine wpL_sq (wpL_rg ?_)
  refine pBox (cs := [_, _]) hO tZ30 (fun b1 G hO => ?_)
  refine pA (.tl 0 []) ?_
  refine pE (gn (wpL_sq (wpL_sq (wpL_rg ?_))))
  refine pLs hO 0 [_, _] tA30 tZ30 ?_
  obtain ⟨v2, hv2, hk⟩ := bs hk
  refine pCall (fun _ => f126_run hv2) ?_
  refine pBi ?_
  refine pM (.bool _) ?_
  obtain ⟨t3, ht, hk⟩ := bs hk
  refine wpR_mid (l1 := [_, _, _, _, _, _, _]) (fun S' => ∃ J, S' = ⟨hav [(1, .int .i64 aSection1), (2, .ptr b1 0), (18, .bool t3)] J, G⟩) ?_ ?_
  · refine bc (b := (v2 != (0:Int))) (fun hg1 => ?_) (fun hg1 => ?_)
    · replace hk := ct hg1 ht
      refine pGn hg1 ?_
      refine pGn hg1 ?_
      refine pGn hg1 ?_
      refine pGn hg1 ?_
      refine pGn hg1 ?_
      refine pGn hg1 ?_
      refine pPt hg1 (.bool _) ?_
      cases hk; exact pE ⟨_, St.hav _ ⟨rfl, rfl, rfl, trivial⟩⟩
    · replace hk := cf hg1 ht
      refine pGy hg1 ?_
      refine pM (.int _ _) ?_
      refine pGy hg1 ?_
      refine pF tF30_0 ?_
      refine pGy hg1 ?_
      refine pLo hO 0 (.int _ _) tA3 ?_
      refine pGy hg1 ?_
      refine pBi ?_
      refine pGy hg1 ?_
      obtain ⟨v4, hv4, hk⟩ := bs hk
      refine pCall (fun _ => f127_run hv4) ?_
      refine pGy hg1 ?_
      refine pU ?_
      refine pPf hg1 (.bool _) ?_
      cases hk; exact pE ⟨_, St.hav _ ⟨rfl, rfl, rfl, trivial⟩⟩
  · rintro _ ⟨J, rfl⟩
    refine pE (gn ?_)
    refine wpL_cd (b := t3) (fun hb => ?_) (fun hb => ?_)
    · replace hk := ct hb hk
      refine wpL_sq (wpL_rg ?_)
      refine pA (.tl 0 []) ?_
      refine pE (gn (wpL_rt (gr ?_)))
      replace hk := Option.some.inj hk; subst hk; exact finZ hO (fz_nil (k := 0) Int) (resT (.tl 0 []) resN)
    · replace hk := cf hb hk
      refine wpL_sk (gn (wpL_sq (wpL_rg ?_)))
      refine pA (.tl 0 []) ?_
      refine pE (gn (wpL_sq (wpL_sq (wpL_rg ?_))))
      refine pF tF30_1 ?_
      refine pLo hO 0 (.lit _ _ _) tA28 ?_
      refine pLen tS28 ?_
      refine pM (.int _ _) ?_
      refine pE (gn (wpL_bl ?_))
      refine wpL_loopO (F := f25_L1 aL0 aSection1) (fun s S' => ∃ (o5 : V) (J : Nat → V) (G : Heap), Owns H G [.own o5 lk.length 1 s.1.length ((flatL 0) s.1)] ∧ S' = ⟨hav [(1, .int .i64 aSection1), (5, o5), (20, .lit l1 aL0.Counters.length ((flatL 0) aL0.Counters)), (21, .int .i64 (aL0.Counters.length : Int)), (22, .int .i64 s.2)] J, G⟩) hk ⟨(.tl 0 []), _, _, (Owns.pick (Owns.addTl hO lk.length ([] : List Int)) [0] (by decide) rfl), St.hav _ ⟨rfl, rfl, rfl, rfl, rfl, trivial⟩⟩ ?_
      rintro ⟨x5, x7⟩ _ y1 ⟨o5, J, G, hO, rfl⟩ hk hx1
      refine wpL_sq (wpL_rg ?_)
      refine pBi ?_
      refine pE (gn (wpL_sq ?_))
      refine wpL_cd (b := decide (x7 < (aL0.Counters.length : Int))) (fun hb => ?_) (fun hb => ?_)
      · replace hk := ct hb hk
        refine wpL_sk (gn ?_)
        refine wpL_mid (fun S' => ∃ (x8 : List Int) (o8 : V) (J : Nat → V) (G : Heap), f25_k2 x7 x8 = some y1 ∧ Owns H G [.own o8 lk.length 1 x8.length ((flatL 0) x8)] ∧ S' = ⟨hav [(1, .int .i64 aSection1), (5, o8), (20, .lit l1 aL0.Counters.length ((flatL 0) aL0.Counters)), (21, .int .i64 (aL0.Counters.length : Int)), (22, .int .i64 x7)] J, G⟩) ?_ ?_
        · refine wpL_bl (wpL_sq (wpL_rg ?_))
          refine pM (.int _ _) ?_
          obtain ⟨c10, hc10, hk⟩ := bs hk
          refine pX hc10 tE28 tZ184 ?_
          refine pLp (.agg [_, _]) (rd2 (lm := 0) (off := 0) hc10 tA184 tZ184) ?_
          refine pNew hO tZ184 t0184 (fun b11 G hO => ?_)
          refine pA (.int _ _) ?_
          refine pSt (xs := [_, _]) hO 0 tZ184 rfl (fun G hO => ?_)
          refine pE (gn (wpL_sq (wpL_rg ?_)))
          refine pF tF184_0 ?_
          refine pLo hO 0 (.int _ _) tA3 ?_
          refine pM (.int _ _) ?_
          refine pBi ?_
          refine pM (.bool _) ?_
          refine wpR_mid (l1 := [_, _, _, _, _]) (fun S' => ∃ J, S' = ⟨hav [(1, .int .i64 aSection1), (5, o5), (6, .int .i64 x7), (20, .lit l1 aL0.Counters.length ((flatL 0) aL0.Counters)), (21, .int .i64 (aL0.Counters.length : Int)), (22, .int .i64 x7), (36, .bool ((c10.From == aSection1) || (c10.To == aSection1)))] J, G⟩) ?_ ?_
          · refine bc (b := (c10.From == aSection1)) (fun hg1 => ?_) (fun hg1 => ?_)
            · refine pGn hg1 ?_
              refine pGn hg1 ?_
              refine pGn hg1 ?_
              refine pGn hg1 ?_
              refine pPt hg1 (.bool _) ?_
              exact pE ⟨_, St.hav _ ⟨rfl, rfl, rfl, rfl, rfl, rfl, by rw [hg1]; rfl, trivial⟩⟩
            · refine pGy hg1 ?_
              refine pF tF184_1 ?_
              refine pGy hg1 ?_
              refine pLo hO 0 (.int _ _) tA3 ?_
              refine pGy hg1 ?_
              refine pM (.int _ _) ?_
              refine pGy hg1 ?_
              refine pBi ?_
              refine pPf hg1 (.bool _) ?_
              exact pE ⟨_, St.hav _ ⟨rfl, rfl, rfl, rfl, rfl, rfl, by rw [hg1]; rfl, trivial⟩⟩
          · rintro _ ⟨J, rfl⟩
            refine pE (gn ?_)
            refine wpL_cd (b := ((c10.From == aSection1) || (c10.To == aSection1))) (fun hb => ?_) (fun hb => ?_)
            · replace hk := ct hb hk
              refine wpL_rg ?_
              refine pM o5 ?_
              refine pM (.int _ _) ?_
              refine pBs (ps := [(0, (.int _ _))]) ([x7] : List Int) tE26 tZ3 t03 (emb_cons (embx_int _ _) (emb_nil)) ?_
              obtain ⟨z12, hz12, hk⟩ := bs hk
              refine pAp (xs := x5) hO 1 hz12 (bears_tl ([x7] : List Int)) tE26 tZ3 tB3 t03 tE26 rfl (fun o12 G hno12 hO => ?_)
              refine pA o12 ?_
              refine pE (bn (gn ?_))
              exact ⟨z12, o12, _, _, hk, (Owns.pick hO [1] (by decide) rfl), St.hav _ ⟨rfl, rfl, rfl, rfl, rfl, trivial⟩⟩
            · replace hk := cf hb hk
              refine wpL_sk (bn (gn ?_))
              exact ⟨x5, o5, _, _, hk, (Owns.pick hO [1] (by decide) rfl), St.hav _ ⟨rfl, rfl, rfl, rfl, rfl, trivial⟩⟩
        · rintro _ ⟨x8, o8, J, G, hk, hO, rfl⟩
          refine wpL_rg ?_
          refine pBi ?_
          refine pM (.int _ _) ?_
          refine pE (gn ?_)
          cases hk; exact ⟨_, rfl, o8, _, _, hO, St.hav _ ⟨rfl, rfl, rfl, rfl, rfl, trivial⟩⟩
      · replace hk := cf hb hk
        refine wpL_ex (ge (ge (be (gn ?_))))
        replace hk := lx hx1 hk
        refine wpL_sq (wpL_rg ?_)
        refine pM o5 ?_
        refine pA o5 ?_
        refine pE (gn (wpL_rt ?_))
        replace hk := Option.some.inj hk; subst hk; exact finZ hO (fz_own (xs := x5) hlk 0) (resT o5 resN)
/-- spec.l15dead -/
def f187_L1 (aDead1 : List Bool) (v2 : (List Int)) : Int → Option (Int ⊕ Bool) := fun s =>
  (bif decide (s < (v2.length : Int)) then ((getI v2 s).bind fun c4 => ((getI aDead1 c4).bind fun c5 => (bif c5 then ((some true).map Sum.inr) else some (.inl (w64 (s + (1:Int))))))) else ((some false).map Sum.inr))
def f187 (aL0 : Layout) (aDead1 : List Bool) (aSection2 : Int) : Option Bool :=
  ((f25 aL0 aSection2).bind fun v2 => (loopO (f187_L1 aDead1 v2) ((0:Int))))
theorem f187_run {aL0 : Layout} {aDead1 : List Bool} {aSection2 : Int} {r : Bool} {l1 l2 : Nat} {H : Heap} {lk : Lk} (hk : f187 aL0 aDead1 aSection2 = some r) (hlk : 0 < lk.length := by simp) : runL Try.prog hh 187 [.agg [.int .i64 aL0.Sections, .lit l1 aL0.Counters.length ((flatL 0) aL0.Counters)], .lit l2 aDead1.length ((flatL 0) aDead1), .int .i64 aSection2] H lk = some (.bool r, H) := by
  refine run_start Try.func187 rfl Try.ntmps187 Try.results187 rfl rfl fun hO => ?_
  unfold f187 at hk
  refine wpL_sq (wpL_rg ?_)
  refine pBox (cs := [_, _]) hO tZ30 (fun b1 G hO => ?_)
  refine pA (.bool _) ?_
  refine pE (gn (wpL_sq (wpL_sq (wpL_rg ?_))))
  refine pLs hO 0 [_, _] tA30 tZ30 ?_
  refine pM (.int _ _) ?_
  obtain ⟨v2, hv2, hk⟩ := bs hk
  refine pCall (fun _ => f25_run hv2) ?_
  refine pLen tS26 ?_
  refine pM (.int _ _) ?_
  refine pE (gn (wpL_bl ?_))
  refine wpL_loopO (F := f187_L1 aDead1 v2) (fun s S' => ∃ (J : Nat → V) (G : Heap), Owns H G [] ∧ S' = ⟨hav [(1, .lit l2 aDead1.length ((flatL 0) aDead1)), (11, .lit 0 v2.length ((flatL 0) v2)), (12, .int .i64 (v2.length : Int)), (13, .int .i64 s)] J, G⟩) hk ⟨_, _, (Owns.pick hO [] (by decide) rfl), St.hav _ ⟨rfl, rfl, rfl, rfl, trivial⟩⟩ ?_
  rintro x3 _ y1 ⟨J, G, hO, rfl⟩ hk hx1
  refine wpL_sq (wpL_rg ?_)
  refine pBi ?_
  refine pE (gn (wpL_sq ?_))
  refine wpL_cd (b := decide (x3 < (v2.length : Int))) (fun hb => ?_) (fun hb => ?_)
  · replace hk := ct hb hk
    refine wpL_sk (gn (wpL_sq (wpL_bl (wpL_sq (wpL_rg ?_)))))
    obtain ⟨c4, hc4, hk⟩ := bs hk
    refine pX hc4 tE26 tZ3 ?_
    refine pLp (.int _ _) (rd1 (lm := 0) (off := 0) hc4 tA3) ?_
    refine pA (.int _ _) ?_
    refine pE (gn (wpL_sq (wpL_rg ?_)))
    refine pM (.lit _ _ _) ?_
    refine pM (.int _ _) ?_
    obtain ⟨c5, hc5, hk⟩ := bs hk
    refine pX hc5 tE38 tZ4 ?_
    refine pLp (.bool _) (rd1 (lm := 0) (off := 0) hc5 tA4) ?_
    refine pE (gn ?_)
    refine wpL_cd (b := c5) (fun hb => ?_) (fun hb => ?_)
    · replace hk := ct hb hk
      refine wpL_sq (wpL_rg ?_)
      refine pA (.bool _) ?_
      refine pE (gn (wpL_rt (br (gr (gr (br (gr ?_)))))))
      replace hk := lx hx1 hk
      replace hk := Option.some.inj hk; subst hk; exact fin0 hO
    · replace hk := cf hb hk
      refine wpL_sk (bn (gn (wpL_rg ?_)))
      refine pBi ?_
      refine pM (.int _ _) ?_
      refine pE (gn ?_)
      cases hk; exact ⟨_, rfl, _, _, hO, St.hav _ ⟨rfl, rfl, rfl, rfl, trivial⟩⟩
  · replace hk := cf hb hk
    refine wpL_ex (ge (ge (be (gn ?_))))
    replace hk := lx hx1 hk
    refine wpL_sq (wpL_rg ?_)
    refine pA (.bool _) ?_
    refine pE (gn (wpL_rt ?_))
    replace hk := Option.some.inj hk; subst hk; exact fin0 hO
/-- spec.l15told -/
def f188 (aL0 : Layout) (aDead1 : List Bool) (aSection2 : Int) (aX3 : Section) : Option Int :=
  ((f187 aL0 aDead1 aSection2).bind fun v3 => (bif v3 then some (3:Int) else (bif (aX3.Lost || ((aX3.Count != (0:Int)) && !aX3.Sweep)) then some (1:Int) else (bif aX3.Sweep then some (2:Int) else some (0:Int)))))
theorem f188_run {aL0 : Layout} {aDead1 : List Bool} {aSection2 : Int} {aX3 : Section} {r : Int} {l1 l2 : Nat} {H : Heap} {lk : Lk} (hk : f188 aL0 aDead1 aSection2 aX3 = some r) (hlk : 0 < lk.length := by simp) : runL Try.prog hh 188 [.agg [.int .i64 aL0.Sections, .lit l1 aL0.Counters.length ((flatL 0) aL0.Counters)], .lit l2 aDead1.length ((flatL 0) aDead1), .int .i64 aSection2, .agg [.int .i64 aX3.Told, .int .i64 aX3.Count, .bool aX3.Lost, .bool aX3.Sweep, .int .i64 aX3.Last]] H lk = some (.int .i64 r, H) := by
  refine run_start Try.func188 rfl Try.ntmps188 Try.results188 rfl rfl fun hO => ?_
  unfold f188 at hk
  refine wpL_sq (wpL_rg ?_)
  refine pBox (cs := [_, _]) hO tZ30 (fun b1 G hO => ?_)
  refine pBox (cs := [_, _, _, _, _]) hO tZ233 (fun b2 G hO => ?_)
  refine pA (.int _ _) ?_
  refine pE (gn (wpL_sq (wpL_sq (wpL_rg ?_))))
  refine pLs hO 1 [_, _] tA30 tZ30 ?_
  refine pM (.lit _ _ _) ?_
  refine pM (.int _ _) ?_
  obtain ⟨v3, hv3, hk⟩ := bs hk
  refine pCall (fun _ => f187_run hv3) ?_
  refine pE (gn ?_)
  refine wpL_cd (b := v3) (fun hb => ?_) (fun hb => ?_)
  · replace hk := ct hb hk
    refine wpL_sq (wpL_rg ?_)
    refine pA (.int _ _) ?_
    refine pE (gn (wpL_rt (gr ?_)))
    replace hk := Option.some.inj hk; subst hk; exact fin0 hO
  · replace hk := cf hb hk
    refine wpL_sk (gn (wpL_sq (wpL_sq (wpL_rg ?_))))
    refine pF tF233_2 ?_
    refine pLo hO 0 (.bool _) tA4 ?_
    refine pM (.bool _) ?_
    refine wpR_mid (l1 := [_, _, _, _, _, _, _, _, _]) (fun S' => ∃ J, S' = ⟨hav [(7, .ptr b2 0), (24, .bool (aX3.Lost || ((aX3.Count != (0:Int)) && !aX3.Sweep)))] J, G⟩) ?_ ?_
    · refine bc (b := aX3.Lost) (fun hg1 => ?_) (fun hg1 => ?_)
      · refine pGn hg1 ?_
        refine pGn hg1 ?_
        refine pGn hg1 ?_
        refine pGn hg1 ?_
        refine pGu ?_
        refine pGu ?_
        refine pGu ?_
        refine pGn hg1 ?_
        refine pPt hg1 (.bool _) ?_
        exact pE ⟨_, St.hav _ ⟨rfl, by rw [hg1]; rfl, trivial⟩⟩
      · refine pGy hg1 ?_
        refine pF tF233_1 ?_
        refine pGy hg1 ?_
        refine pLo hO 0 (.int _ _) tA3 ?_
        refine pGy hg1 ?_
        refine pBi ?_
        refine pGy hg1 ?_
        refine pM (.bool _) ?_
        refine wpR_mid (l1 := [_, _, _, _]) (fun S' => ∃ J, S' = ⟨hav [(7, .ptr b2 0), (15, .bool aX3.Lost), (23, .bool ((aX3.Count != (0:Int)) && !aX3.Sweep))] J, G⟩) ?_ ?_
        · refine bc (b := (aX3.Count != (0:Int))) (fun hg2 => ?_) (fun hg2 => ?_)
          · refine pGy hg2 ?_
            refine pF tF233_3 ?_
            refine pGy hg2 ?_
            refine pLo hO 0 (.bool _) tA4 ?_
            refine pGy hg2 ?_
            refine pU ?_
            refine pGy hg1 ?_
            refine pPt hg2 (.bool _) ?_
            exact pE ⟨_, St.hav _ ⟨rfl, rfl, by rw [hg2]; rfl, trivial⟩⟩
          · refine pGn hg2 ?_
            refine pGn hg2 ?_
            refine pGn hg2 ?_
            refine pGy hg1 ?_
            refine pPf hg2 (.bool _) ?_
            exact pE ⟨_, St.hav _ ⟨rfl, rfl, by rw [hg2]; rfl, trivial⟩⟩
        · rintro _ ⟨J, rfl⟩
          refine pPf hg1 (.bool _) ?_
          exact pE ⟨_, St.hav _ ⟨rfl, by rw [hg1]; rfl, trivial⟩⟩
    · rintro _ ⟨J, rfl⟩
      refine pE (gn ?_)
      refine wpL_cd (b := (aX3.Lost || ((aX3.Count != (0:Int)) && !aX3.Sweep))) (fun hb => ?_) (fun hb => ?_)
      · replace hk := ct hb hk
        refine wpL_sq (wpL_rg ?_)
        refine pA (.int _ _) ?_
        refine pE (gn (wpL_rt (gr ?_)))
        replace hk := Option.some.inj hk; subst hk; exact fin0 hO
      · replace hk := cf hb hk
        refine wpL_sk (gn (wpL_sq (wpL_sq (wpL_rg ?_))))
        refine pF tF233_3 ?_
        refine pLo hO 0 (.bool _) tA4 ?_
        refine pE (gn ?_)
        refine wpL_cd (b := aX3.Sweep) (fun hb => ?_) (fun hb => ?_)
        · replace hk := ct hb hk
          refine wpL_sq (wpL_rg ?_)
          refine pA (.int _ _) ?_
          refine pE (gn (wpL_rt (gr ?_)))
          replace hk := Option.some.inj hk; subst hk; exact fin0 hO
        · replace hk := cf hb hk
          refine wpL_sk (gn (wpL_sq (wpL_rg ?_)))
          refine pA (.int _ _) ?_
          refine pE (gn (wpL_rt ?_))
          replace hk := Option.some.inj hk; subst hk; exact fin0 hO
/-- spec.CountOk -/
def f183_L1 (aL0 : Layout) (aS1 : CountState) : Int → Option (Int ⊕ Bool) := fun s =>
  (bif decide (s < (aS1.Sections.length : Int)) then ((getI aS1.Sections s).bind fun c5 => ((f127 c5.Count (-1000000:Int) (1000000:Int)).bind fun v7 => ((bif !v7 then some true else ((f127 c5.Last (-1:Int) (1:Int)).bind fun v9 => some (!v9))).bind fun t8 => ((bif t8 then some true else ((f188 aL0 aS1.Dead s c5).bind fun v11 => some (c5.Told != v11))).bind fun t10 => (bif t10 then ((some false).map Sum.inr) else ((bif (decide (c5.Count < (0:Int)) && !c5.Lost) then some true else ((f187 aL0 aS1.Dead s).bind fun v13 => some (v13 && !c5.Lost))).bind fun t12 => (bif (t12 || (((c5.Sweep && (c5.Count == (0:Int))) && (c5.Last == (-1:Int))) && !c5.Lost)) then ((some false).map Sum.inr) else some (.inl (w64 (s + (1:Int))))))))))) else ((some true).map Sum.inr))
def f183 (aL0 : Layout) (aS1 : CountState) : Option Bool :=
  ((f126 aL0).bind fun v3 => (bif ((((v3 != (0:Int)) || !aS1.Ok) || ((aS1.Sections.length : Int) != aL0.Sections)) || ((aS1.Dead.length : Int) != (aL0.Counters.length : Int))) then some false else (loopO (f183_L1 aL0 aS1) ((0:Int)))))
theorem f183_run {aL0 : Layout} {aS1 : CountState} {r : Bool} {l1 l2 l3 : Nat} {H : Heap} {lk : Lk} (hk : f183 aL0 aS1 = some r) (hlk : 0 < lk.length := by simp) : runL Try.prog hh 183 [.agg [.int .i64 aL0.Sections, .lit l1 aL0.Counters.length ((flatL 0) aL0.Counters)], .agg [.bool aS1.Ok, .lit l2 aS1.Sections.length ((flatL 0) aS1.Sections), .lit l3 aS1.Dead.length ((flatL 0) aS1.Dead)]] H lk = some (.bool r, H) := by
  refine run_start Try.func183 rfl Try.ntmps183 Try.results183 rfl rfl fun hO => ?_
  unfold f183 at hk
  refine wpL_sq (wpL_rg ?_)
  refine pBox (cs := [_, _]) hO tZ30 (fun b1 G hO => ?_)
  refine pBox (cs := [_, _, _]) hO tZ40 (fun b2 G hO => ?_)
  refine pA (.bool _) ?_
  refine pE (gn (wpL_sq (wpL_sq (wpL_rg ?_))))
  refine pLs hO 1 [_, _] tA30 tZ30 ?_
  obtain ⟨v3, hv3, hk⟩ := bs hk
  refine pCall (fun _ => f126_run hv3) ?_
  refine pBi ?_
  refine pM (.bool _) ?_
  refine wpR_mid (l1 := [_, _, _, _]) (fun S' => ∃ J, S' = ⟨hav [(2, .ptr b1 0), (3, .ptr b2 0), (14, .bool ((v3 != (0:Int)) || !aS1.Ok))] J, G⟩) ?_ ?_
  · refine bc (b := (v3 != (0:Int))) (fun hg1 => ?_) (fun hg1 => ?_)
    · refine pGn hg1 ?_
      refine pGn hg1 ?_
      refine pGn hg1 ?_
      refine pPt hg1 (.bool _) ?_
      exact pE ⟨_, St.hav _ ⟨rfl, rfl, by rw [hg1]; rfl, trivial⟩⟩
    · refine pGy hg1 ?_
      refine pF tF40_0 ?_
      refine pGy hg1 ?_
      refine pLo hO 0 (.bool _) tA4 ?_
      refine pGy hg1 ?_
      refine pU ?_
      refine pPf hg1 (.bool _) ?_
      exact pE ⟨_, St.hav _ ⟨rfl, rfl, by rw [hg1]; rfl, trivial⟩⟩
  · rintro _ ⟨J, rfl⟩
    refine pM (.bool _) ?_
    refine wpR_mid (l1 := [_, _, _, _, _, _, _]) (fun S' => ∃ J, S' = ⟨hav [(2, .ptr b1 0), (3, .ptr b2 0), (22, .bool (((v3 != (0:Int)) || !aS1.Ok) || ((aS1.Sections.length : Int) != aL0.Sections)))] J, G⟩) ?_ ?_
    · refine bc (b := ((v3 != (0:Int)) || !aS1.Ok)) (fun hg1 => ?_) (fun hg1 => ?_)
      · refine pGn hg1 ?_
        refine pGn hg1 ?_
        refine pGn hg1 ?_
        refine pGn hg1 ?_
        refine pGn hg1 ?_
        refine pGn hg1 ?_
        refine pPt hg1 (.bool _) ?_
        exact pE ⟨_, St.hav _ ⟨rfl, rfl, by rw [hg1]; rfl, trivial⟩⟩
      · refine pGy hg1 ?_
        refine pF tF40_1 ?_
        refine pGy hg1 ?_
        refine pLo hO 0 (.lit _ _ _) tA37 ?_
        refine pGy hg1 ?_
        refine pLen tS37 ?_
        refine pGy hg1 ?_
        refine pF tF30_0 ?_
        refine pGy hg1 ?_
        refine pLo hO 1 (.int _ _) tA3 ?_
        refine pGy hg1 ?_
        refine pBi ?_
        refine pPf hg1 (.bool _) ?_
        exact pE ⟨_, St.hav _ ⟨rfl, rfl, by rw [hg1]; rfl, trivial⟩⟩
    · rintro _ ⟨J, rfl⟩
      refine pM (.bool _) ?_
      refine wpR_mid (l1 := [_, _, _, _, _, _, _, _]) (fun S' => ∃ J, S' = ⟨hav [(2, .ptr b1 0), (3, .ptr b2 0), (31, .bool ((((v3 != (0:Int)) || !aS1.Ok) || ((aS1.Sections.length : Int) != aL0.Sections)) || ((aS1.Dead.length : Int) != (aL0.Counters.length : Int))))] J, G⟩) ?_ ?_
      · refine bc (b := (((v3 != (0:Int)) || !aS1.Ok) || ((aS1.Sections.length : Int) != aL0.Sections))) (fun hg1 => ?_) (fun hg1 => ?_)
        · refine pGn hg1 ?_
          refine pGn hg1 ?_
          refine pGn hg1 ?_
          refine pGn hg1 ?_
          refine pGn hg1 ?_
          refine pGn hg1 ?_
          refine pGn hg1 ?_
          refine pPt hg1 (.bool _) ?_
          exact pE ⟨_, St.hav _ ⟨rfl, rfl, by rw [hg1]; rfl, trivial⟩⟩
        · refine pGy hg1 ?_
          refine pF tF40_2 ?_
          refine pGy hg1 ?_
          refine pLo hO 0 (.lit _ _ _) tA38 ?_
          refine pGy hg1 ?_
          refine pLen tS38 ?_
          refine pGy hg1 ?_
          refine pF tF30_1 ?_
          refine pGy hg1 ?_
          refine pLo hO 1 (.lit _ _ _) tA28 ?_
          refine pGy hg1 ?_
          refine pLen tS28 ?_
          refine pGy hg1 ?_
          refine pBi ?_
          refine pPf hg1 (.bool _) ?_
          exact pE ⟨_, St.hav _ ⟨rfl, rfl, by rw [hg1]; rfl, trivial⟩⟩
      · rintro _ ⟨J, rfl⟩
        refine pE (gn ?_)
        refine wpL_cd (b := ((((v3 != (0:Int)) || !aS1.Ok) || ((aS1.Sections.length : Int) != aL0.Sections)) || ((aS1.Dead.length : Int) != (aL0.Counters.length : Int)))) (fun hb => ?_) (fun hb => ?_)
        · replace hk := ct hb hk
          refine wpL_sq (wpL_rg ?_)
          refine pA (.bool _) ?_
          refine pE (gn (wpL_rt (gr ?_)))
          replace hk := Option.some.inj hk; subst hk; exact fin0 hO
        · replace hk := cf hb hk
          refine wpL_sk (gn (wpL_sq (wpL_sq (wpL_rg ?_))))
          refine pF tF40_1 ?_
          refine pLo hO 0 (.lit _ _ _) tA37 ?_
          refine pLen tS37 ?_
          refine pM (.int _ _) ?_
          refine pE (gn (wpL_bl ?_))
          refine wpL_loopO (F := f183_L1 aL0 aS1) (fun s S' => ∃ (J : Nat → V) (G : Heap), Owns H G [.blk b2 (.cells 3 [.bool aS1.Ok, .lit l2 aS1.Sections.length ((flatL 0) aS1.Sections), .lit l3 aS1.Dead.length ((flatL 0) aS1.Dead)]), .blk b1 (.cells 2 [.int .i64 aL0.Sections, .lit l1 aL0.Counters.length ((flatL 0) aL0.Counters)])] ∧ S' = ⟨hav [(2, .ptr b1 0), (3, .ptr b2 0), (33, .lit l2 aS1.Sections.length ((flatL 0) aS1.Sections)), (34, .int .i64 (aS1.Sections.length : Int)), (35, .int .i64 s)] J, G⟩) hk ⟨_, _, hO, St.hav _ ⟨rfl, rfl, rfl, rfl, rfl, trivial⟩⟩ ?_
          rintro x4 _ y1 ⟨J, G, hO, rfl⟩ hk hx1
          refine wpL_sq (wpL_rg ?_)
          refine pBi ?_
          refine pE (gn (wpL_sq ?_))
          refine wpL_cd (b := decide (x4 < (aS1.Sections.length : Int))) (fun hb => ?_) (fun hb => ?_)
          · replace hk := ct hb hk
            refine wpL_sk (gn (wpL_sq (wpL_bl (wpL_sq (wpL_rg ?_)))))
            refine pM (.int _ _) ?_
            obtain ⟨c5, hc5, hk⟩ := bs hk
            refine pX hc5 tE37 tZ233 ?_
            refine pLp (.agg [_, _, _, _, _]) (rd2 (lm := 0) (off := 0) hc5 tA233 tZ233) ?_
            refine pNew hO tZ233 t0233 (fun b6 G hO => ?_)
            refine pA (.int _ _) ?_
            refine pSt (xs := [_, _, _, _, _]) hO 0 tZ233 rfl (fun G hO => ?_)
            refine pE (gn (wpL_sq (wpL_sq ?_)))
            refine wpL_drw [(0, false), (1, true), (2, false), (3, false), (4, false), (5, false), (6, true), (7, false), (8, false), (9, false), (10, false), (11, true), (12, true), (13, true), (14, true), (15, true), (16, true), (17, true), (18, true), (19, false), (20, false)] [_, _, _, _, _, _, _, _, _, _, _, _, _, _, _, _, _, _, _, _, _] (by decide +kernel) (by rfl) ?_
            refine pF tF233_1 ?_
            refine pLo hO 0 (.int _ _) tA3 ?_
            obtain ⟨v7, hv7, hk⟩ := bs hk
            refine pCall (fun _ => f127_run hv7) ?_
            refine pU ?_
            refine pM (.bool _) ?_
            obtain ⟨t8, ht, hk⟩ := bs hk
            refine wpR_mid (l1 := [_, _, _, _, _]) (fun S' => ∃ J, S' = ⟨hav [(2, .ptr b1 0), (3, .ptr b2 0), (5, .int .i64 x4), (6, .ptr b6 0), (33, .lit l2 aS1.Sections.length ((flatL 0) aS1.Sections)), (34, .int .i64 (aS1.Sections.length : Int)), (35, .int .i64 x4), (49, .bool t8)] J, G⟩) ?_ ?_
            · refine bc (b := !v7) (fun hg1 => ?_) (fun hg1 => ?_)
              · replace hk := ct hg1 ht
                refine pGn hg1 ?_
                refine pGn hg1 ?_
                refine pGn hg1 ?_
                refine pGn hg1 ?_
                refine pPt hg1 (.bool _) ?_
                cases hk; exact pE ⟨_, St.hav _ ⟨rfl, rfl, rfl, rfl, rfl, rfl, rfl, rfl, trivial⟩⟩
              · replace hk := cf hg1 ht
                refine pGy hg1 ?_
                refine pF tF233_4 ?_
                refine pGy hg1 ?_
                refine pLo hO 0 (.int _ _) tA3 ?_
                refine pGy hg1 ?_
                obtain ⟨v9, hv9, hk⟩ := bs hk
                refine pCall (fun _ => f127_run hv9) ?_
                refine pGy hg1 ?_
                refine pU ?_
                refine pPf hg1 (.bool _) ?_
                cases hk; exact pE ⟨_, St.hav _ ⟨rfl, rfl, rfl, rfl, rfl, rfl, rfl, rfl, trivial⟩⟩
            · rintro _ ⟨J, rfl⟩
              refine pM (.bool _) ?_
              obtain ⟨t10, ht, hk⟩ := bs hk
              refine wpR_mid (l1 := [_, _, _, _, _, _, _, _, _, _]) (fun S' => ∃ J, S' = ⟨hav [(2, .ptr b1 0), (3, .ptr b2 0), (5, .int .i64 x4), (6, .ptr b6 0), (33, .lit l2 aS1.Sections.length ((flatL 0) aS1.Sections)), (34, .int .i64 (aS1.Sections.length : Int)), (35, .int .i64 x4), (60, .bool t10)] J, G⟩) ?_ ?_
              · refine bc (b := t8) (fun hg1 => ?_) (fun hg1 => ?_)
                · replace hk := ct hg1 ht
                  refine pGn hg1 ?_
                  refine pGn hg1 ?_
                  refine pGn hg1 ?_
                  refine pGn hg1 ?_
                  refine pGn hg1 ?_
                  refine pGn hg1 ?_
                  refine pGn hg1 ?_
                  refine pGn hg1 ?_
                  refine pGn hg1 ?_
                  refine pPt hg1 (.bool _) ?_
                  cases hk; exact pE ⟨_, St.hav _ ⟨rfl, rfl, rfl, rfl, rfl, rfl, rfl, rfl, trivial⟩⟩
                · replace hk := cf hg1 ht
                  refine pGy hg1 ?_
                  refine pF tF233_0 ?_
                  refine pGy hg1 ?_
                  refine pLo hO 0 (.int _ _) tA3 ?_
                  refine pGy hg1 ?_
                  refine pLs hO 2 [_, _] tA30 tZ30 ?_
                  refine pGy hg1 ?_
                  refine pF tF40_2 ?_
                  refine pGy hg1 ?_
                  refine pLo hO 1 (.lit _ _ _) tA38 ?_
                  refine pGy hg1 ?_
                  refine pM (.int _ _) ?_
                  refine pGy hg1 ?_
                  refine pLs hO 0 [_, _, _, _, _] tA233 tZ233 ?_
                  refine pGy hg1 ?_
                  obtain ⟨v11, hv11, hk⟩ := bs hk
                  refine pCall (fun _ => f188_run hv11) ?_
                  refine pGy hg1 ?_
                  refine pBi ?_
                  refine pPf hg1 (.bool _) ?_
                  cases hk; exact pE ⟨_, St.hav _ ⟨rfl, rfl, rfl, rfl, rfl, rfl, rfl, rfl, trivial⟩⟩
              · rintro _ ⟨J, rfl⟩
                refine pE (gn ?_)
                refine wpL_cd (b := t10) (fun hb => ?_) (fun hb => ?_)
                · replace hk := ct hb hk
                  refine wpL_sq (wpL_rg ?_)
                  refine pA (.bool _) ?_
                  refine pE (gn (wpL_rt (gr (br (gr (gr (br (gr ?_))))))))
                  replace hk := lx hx1 hk
                  replace hk := Option.some.inj hk; subst hk; exact fin0 hO
                · replace hk := cf hb hk
                  refine wpL_sk (gn (wpL_sq (wpL_rg ?_)))
                  refine pF tF233_1 ?_
                  refine pLo hO 0 (.int _ _) tA3 ?_
                  refine pBi ?_
                  refine pM (.bool _) ?_
                  refine wpR_mid (l1 := [_, _, _, _]) (fun S' => ∃ J, S' = ⟨hav [(2, .ptr b1 0), (3, .ptr b2 0), (5, .int .i64 x4), (6, .ptr b6 0), (33, .lit l2 aS1.Sections.length ((flatL 0) aS1.Sections)), (34, .int .i64 (aS1.Sections.length : Int)), (35, .int .i64 x4), (68, .bool (decide (c5.Count < (0:Int)) && !c5.Lost))] J, G⟩) ?_ ?_
                  · refine bc (b := decide (c5.Count < (0:Int))) (fun hg1 => ?_) (fun hg1 => ?_)
                    · refine pGy hg1 ?_
                      refine pF tF233_2 ?_
                      refine pGy hg1 ?_
                      refine pLo hO 0 (.bool _) tA4 ?_
                      refine pGy hg1 ?_
                      refine pU ?_
                      refine pPt hg1 (.bool _) ?_
                      exact pE ⟨_, St.hav _ ⟨rfl, rfl, rfl, rfl, rfl, rfl, rfl, by rw [hg1]; rfl, trivial⟩⟩
                    · refine pGn hg1 ?_
                      refine pGn hg1 ?_
                      refine pGn hg1 ?_
                      refine pPf hg1 (.bool _) ?_
                      exact pE ⟨_, St.hav _ ⟨rfl, rfl, rfl, rfl, rfl, rfl, rfl, by rw [hg1]; rfl, trivial⟩⟩
                  · rintro _ ⟨J, rfl⟩
                    refine pM (.bool _) ?_
                    obtain ⟨t12, ht, hk⟩ := bs hk
                    refine wpR_mid (l1 := [_, _, _, _, _, _, _, _, _, _, _]) (fun S' => ∃ J, S' = ⟨hav [(2, .ptr b1 0), (3, .ptr b2 0), (6, .ptr b6 0), (33, .lit l2 aS1.Sections.length ((flatL 0) aS1.Sections)), (34, .int .i64 (aS1.Sections.length : Int)), (35, .int .i64 x4), (80, .bool t12)] J, G⟩) ?_ ?_
                    · refine bc (b := (decide (c5.Count < (0:Int)) && !c5.Lost)) (fun hg1 => ?_) (fun hg1 => ?_)
                      · replace hk := ct hg1 ht
                        refine pGn hg1 ?_
                        refine pGn hg1 ?_
                        refine pGn hg1 ?_
                        refine pGn hg1 ?_
                        refine pGn hg1 ?_
                        refine pGn hg1 ?_
                        refine pGu ?_
                        refine pGu ?_
                        refine pGu ?_
                        refine pGn hg1 ?_
                        refine pPt hg1 (.bool _) ?_
                        cases hk; exact pE ⟨_, St.hav _ ⟨rfl, rfl, rfl, rfl, rfl, rfl, rfl, trivial⟩⟩
                      · replace hk := cf hg1 ht
                        refine pGy hg1 ?_
                        refine pLs hO 2 [_, _] tA30 tZ30 ?_
                        refine pGy hg1 ?_
                        refine pF tF40_2 ?_
                        refine pGy hg1 ?_
                        refine pLo hO 1 (.lit _ _ _) tA38 ?_
                        refine pGy hg1 ?_
                        refine pM (.int _ _) ?_
                        refine pGy hg1 ?_
                        obtain ⟨v13, hv13, hk⟩ := bs hk
                        refine pCall (fun _ => f187_run hv13) ?_
                        refine pGy hg1 ?_
                        refine pM (.bool _) ?_
                        refine wpR_mid (l1 := [_, _, _, _]) (fun S' => ∃ J, S' = ⟨hav [(2, .ptr b1 0), (3, .ptr b2 0), (6, .ptr b6 0), (33, .lit l2 aS1.Sections.length ((flatL 0) aS1.Sections)), (34, .int .i64 (aS1.Sections.length : Int)), (35, .int .i64 x4), (69, .bool (decide (c5.Count < (0:Int)) && !c5.Lost)), (79, .bool (v13 && !c5.Lost))] J, G⟩) ?_ ?_
                        · refine bc (b := v13) (fun hg2 => ?_) (fun hg2 => ?_)
                          · refine pGy hg2 ?_
                            refine pF tF233_2 ?_
                            refine pGy hg2 ?_
                            refine pLo hO 0 (.bool _) tA4 ?_
                            refine pGy hg2 ?_
                            refine pU ?_
                            refine pGy hg1 ?_
                            refine pPt hg2 (.bool _) ?_
                            exact pE ⟨_, St.hav _ ⟨rfl, rfl, rfl, rfl, rfl, rfl, rfl, by rw [hg2]; rfl, trivial⟩⟩
                          · refine pGn hg2 ?_
                            refine pGn hg2 ?_
                            refine pGn hg2 ?_
                            refine pGy hg1 ?_
                            refine pPf hg2 (.bool _) ?_
                            exact pE ⟨_, St.hav _ ⟨rfl, rfl, rfl, rfl, rfl, rfl, rfl, by rw [hg2]; rfl, trivial⟩⟩
                        · rintro _ ⟨J, rfl⟩
                          refine pPf hg1 (.bool _) ?_
                          cases hk; exact pE ⟨_, St.hav _ ⟨rfl, rfl, rfl, rfl, rfl, rfl, rfl, trivial⟩⟩
                    · rintro _ ⟨J, rfl⟩
                      refine pM (.bool _) ?_
                      refine wpR_mid (l1 := [_, _, _, _, _, _, _, _, _, _, _, _, _, _, _, _, _, _]) (fun S' => ∃ J, S' = ⟨hav [(2, .ptr b1 0), (3, .ptr b2 0), (33, .lit l2 aS1.Sections.length ((flatL 0) aS1.Sections)), (34, .int .i64 (aS1.Sections.length : Int)), (35, .int .i64 x4), (99, .bool (t12 || (((c5.Sweep && (c5.Count == (0:Int))) && (c5.Last == (-1:Int))) && !c5.Lost)))] J, G⟩) ?_ ?_
                      · refine bc (b := t12) (fun hg1 => ?_) (fun hg1 => ?_)
                        · refine pGn hg1 ?_
                          refine pGn hg1 ?_
                          refine pGn hg1 ?_
                          refine pGu ?_
                          refine pGu ?_
                          refine pGu ?_
                          refine pGn hg1 ?_
                          refine pGn hg1 ?_
                          refine pGu ?_
                          refine pGu ?_
                          refine pGu ?_
                          refine pGn hg1 ?_
                          refine pGn hg1 ?_
                          refine pGu ?_
                          refine pGu ?_
                          refine pGu ?_
                          refine pGn hg1 ?_
                          refine pPt hg1 (.bool _) ?_
                          exact pE ⟨_, St.hav _ ⟨rfl, rfl, rfl, rfl, rfl, by rw [hg1]; rfl, trivial⟩⟩
                        · refine pGy hg1 ?_
                          refine pF tF233_3 ?_
                          refine pGy hg1 ?_
                          refine pLo hO 0 (.bool _) tA4 ?_
                          refine pGy hg1 ?_
                          refine pM (.bool _) ?_
                          refine wpR_mid (l1 := [_, _, _, _]) (fun S' => ∃ J, S' = ⟨hav [(2, .ptr b1 0), (3, .ptr b2 0), (6, .ptr b6 0), (33, .lit l2 aS1.Sections.length ((flatL 0) aS1.Sections)), (34, .int .i64 (aS1.Sections.length : Int)), (35, .int .i64 x4), (81, .bool t12), (88, .bool (c5.Sweep && (c5.Count == (0:Int))))] J, G⟩) ?_ ?_
                          · refine bc (b := c5.Sweep) (fun hg2 => ?_) (fun hg2 => ?_)
                            · refine pGy hg2 ?_
                              refine pF tF233_1 ?_
                              refine pGy hg2 ?_
                              refine pLo hO 0 (.int _ _) tA3 ?_
                              refine pGy hg2 ?_
                              refine pBi ?_
                              refine pGy hg1 ?_
                              refine pPt hg2 (.bool _) ?_
                              exact pE ⟨_, St.hav _ ⟨rfl, rfl, rfl, rfl, rfl, rfl, rfl, by rw [hg2]; rfl, trivial⟩⟩
                            · refine pGn hg2 ?_
                              refine pGn hg2 ?_
                              refine pGn hg2 ?_
                              refine pGy hg1 ?_
                              refine pPf hg2 (.bool _) ?_
                              exact pE ⟨_, St.hav _ ⟨rfl, rfl, rfl, rfl, rfl, rfl, rfl, by rw [hg2]; rfl, trivial⟩⟩
                          · rintro _ ⟨J, rfl⟩
                            refine pGy hg1 ?_
                            refine pM (.bool _) ?_
                            refine wpR_mid (l1 := [_, _, _, _]) (fun S' => ∃ J, S' = ⟨hav [(2, .ptr b1 0), (3, .ptr b2 0), (6, .ptr b6 0), (33, .lit l2 aS1.Sections.length ((flatL 0) aS1.Sections)), (34, .int .i64 (aS1.Sections.length : Int)), (35, .int .i64 x4), (81, .bool t12), (93, .bool ((c5.Sweep && (c5.Count == (0:Int))) && (c5.Last == (-1:Int))))] J, G⟩) ?_ ?_
                            · refine bc (b := (c5.Sweep && (c5.Count == (0:Int)))) (fun hg2 => ?_) (fun hg2 => ?_)
                              · refine pGy hg2 ?_
                                refine pF tF233_4 ?_
                                refine pGy hg2 ?_
                                refine pLo hO 0 (.int _ _) tA3 ?_
                                refine pGy hg2 ?_
                                refine pBi ?_
                                refine pGy hg1 ?_
                                refine pPt hg2 (.bool _) ?_
                                exact pE ⟨_, St.hav _ ⟨rfl, rfl, rfl, rfl, rfl, rfl, rfl, by rw [hg2]; rfl, trivial⟩⟩
                              · refine pGn hg2 ?_
                                refine pGn hg2 ?_
                                refine pGn hg2 ?_
                                refine pGy hg1 ?_
                                refine pPf hg2 (.bool _) ?_
                                exact pE ⟨_, St.hav _ ⟨rfl, rfl, rfl, rfl, rfl, rfl, rfl, by rw [hg2]; rfl, trivial⟩⟩
                            · rintro _ ⟨J, rfl⟩
                              refine pGy hg1 ?_
                              refine pM (.bool _) ?_
                              refine wpR_mid (l1 := [_, _, _, _]) (fun S' => ∃ J, S' = ⟨hav [(2, .ptr b1 0), (3, .ptr b2 0), (33, .lit l2 aS1.Sections.length ((flatL 0) aS1.Sections)), (34, .int .i64 (aS1.Sections.length : Int)), (35, .int .i64 x4), (81, .bool t12), (98, .bool (((c5.Sweep && (c5.Count == (0:Int))) && (c5.Last == (-1:Int))) && !c5.Lost))] J, G⟩) ?_ ?_
                              · refine bc (b := ((c5.Sweep && (c5.Count == (0:Int))) && (c5.Last == (-1:Int)))) (fun hg2 => ?_) (fun hg2 => ?_)
                                · refine pGy hg2 ?_
                                  refine pF tF233_2 ?_
                                  refine pGy hg2 ?_
                                  refine pLo hO 0 (.bool _) tA4 ?_
                                  refine pGy hg2 ?_
                                  refine pU ?_
                                  refine pGy hg1 ?_
                                  refine pPt hg2 (.bool _) ?_
                                  exact pE ⟨_, St.hav _ ⟨rfl, rfl, rfl, rfl, rfl, rfl, by rw [hg2]; rfl, trivial⟩⟩
                                · refine pGn hg2 ?_
                                  refine pGn hg2 ?_
                                  refine pGn hg2 ?_
                                  refine pGy hg1 ?_
                                  refine pPf hg2 (.bool _) ?_
                                  exact pE ⟨_, St.hav _ ⟨rfl, rfl, rfl, rfl, rfl, rfl, by rw [hg2]; rfl, trivial⟩⟩
                              · rintro _ ⟨J, rfl⟩
                                refine pPf hg1 (.bool _) ?_
                                exact pE ⟨_, St.hav _ ⟨rfl, rfl, rfl, rfl, rfl, by rw [hg1]; rfl, trivial⟩⟩
                      · rintro _ ⟨J, rfl⟩
                        refine pE (gn ?_)
                        refine wpL_cd (b := (t12 || (((c5.Sweep && (c5.Count == (0:Int))) && (c5.Last == (-1:Int))) && !c5.Lost))) (fun hb => ?_) (fun hb => ?_)
                        · replace hk := ct hb hk
                          refine wpL_sq (wpL_rg ?_)
                          refine pA (.bool _) ?_
                          refine pE (gn (wpL_rt (br (gr (gr (br (gr ?_)))))))
                          replace hk := lx hx1 hk
                          replace hk := Option.some.inj hk; subst hk; exact fin0 hO
                        · replace hk := cf hb hk
                          refine wpL_sk (bn (gn (wpL_rg ?_)))
                          refine pBi ?_
                          refine pM (.int _ _) ?_
                          refine pE (gn ?_)
                          cases hk; exact ⟨_, rfl, _, _, (Owns.pick hO [1, 2] (by decide) rfl), St.hav _ ⟨rfl, rfl, rfl, rfl, rfl, trivial⟩⟩
          · replace hk := cf hb hk
            refine wpL_ex (ge (ge (be (gn ?_))))
            replace hk := lx hx1 hk
            refine wpL_sq (wpL_rg ?_)
            refine pA (.bool _) ?_
            refine pE (gn (wpL_rt ?_))
            replace hk := Option.some.inj hk; subst hk; exact fin0 hO
/-- spec.CountEventOk -/
def f184_k2 (aL0 : Layout) (aE1 : CountEvent) (x6 : Bool) : Option Bool :=
  (bif x6 then ((f127 aE1.Of (0:Int) (w64 ((aL0.Counters.length : Int) - (1:Int)))).bind fun v7 => some (v7 && (aE1.Dir == (0:Int)))) else (bif (aE1.Op == (5:Int)) then ((f127 aE1.Of (0:Int) (w64 (aL0.Sections - (1:Int)))).bind fun v8 => some (v8 && (aE1.Dir == (0:Int)))) else some false))
def f184_k1 (aL0 : Layout) (aE1 : CountEvent) (x4 : Bool) : Option Bool :=
  (bif x4 then ((f127 aE1.Of (0:Int) (w64 ((aL0.Counters.length : Int) - (1:Int)))).bind fun v5 => some (v5 && ((aE1.Dir == (1:Int)) || (aE1.Dir == (-1:Int))))) else (bif (aE1.Op == (3:Int)) then (f184_k2 aL0 aE1 (aE1.Op == (3:Int))) else (f184_k2 aL0 aE1 (aE1.Op == (4:Int)))))
def f184 (aL0 : Layout) (aE1 : CountEvent) : Option Bool :=
  ((f126 aL0).bind fun v3 => (bif (v3 != (0:Int)) then some false else (bif (aE1.Op == (1:Int)) then (f184_k1 aL0 aE1 (aE1.Op == (1:Int))) else (f184_k1 aL0 aE1 (aE1.Op == (2:Int))))))
theorem f184_run {aL0 : Layout} {aE1 : CountEvent} {r : Bool} {l1 : Nat} {H : Heap} {lk : Lk} (hk : f184 aL0 aE1 = some r) (hlk : 0 < lk.length := by simp) : runL Try.prog hh 184 [.agg [.int .i64 aL0.Sections, .lit l1 aL0.Counters.length ((flatL 0) aL0.Counters)], .agg [.int .i64 aE1.Op, .int .i64 aE1.Of, .int .i64 aE1.Dir]] H lk = some (.bool r, H) := by
  refine run_start Try.func184 rfl Try.ntmps184 Try.results184 rfl rfl fun hO => ?_
  unfold f184 at hk
  refine wpL_sq (wpL_rg ?_)
  refine pBox (cs := [_, _]) hO tZ30 (fun b1 G hO => ?_)
  refine pBox (cs := [_, _, _]) hO tZ113 (fun b2 G hO => ?_)
  refine pA (.bool _) ?_
  refine pE (gn (wpL_sq (wpL_sq (wpL_rg ?_))))
  refine pLs hO 1 [_, _] tA30 tZ30 ?_
  obtain ⟨v3, hv3, hk⟩ := bs hk
  refine pCall (fun _ => f126_run hv3) ?_
  refine pBi ?_
  refine pE (gn ?_)
  refine wpL_cd (b := (v3 != (0:Int))) (fun hb => ?_) (fun hb => ?_)
  · replace hk := ct hb hk
    refine wpL_sq (wpL_rg ?_)
    refine pA (.bool _) ?_
    refine pE (gn (wpL_rt (gr ?_)))
    replace hk := Option.some.inj hk; subst hk; exact fin0 hO
  · replace hk := cf hb hk
    refine wpL_sk (gn (wpL_sq (wpL_sq (wpL_rg ?_))))
    refine pF tF113_0 ?_
    refine pLo hO 0 (.int _ _) tA3 ?_
    refine pE (gn (wpL_bl ?_))
    refine wpL_mid (fun S' => ∃ (x4 : Bool) (J : Nat → V) (G : Heap), f184_k1 aL0 aE1 x4 = some r ∧ Owns H G [.blk b2 (.cells 3 [.int .i64 aE1.Op, .int .i64 aE1.Of, .int .i64 aE1.Dir]), .blk b1 (.cells 2 [.int .i64 aL0.Sections, .lit l1 aL0.Counters.length ((flatL 0) aL0.Counters)])] ∧ S' = ⟨hav [(2, .ptr b1 0), (3, .ptr b2 0), (9, .int .i64 aE1.Op), (10, .bool x4)] J, G⟩) ?_ ?_
    · refine wpL_sq (wpL_rg ?_)
      refine pBi ?_
      refine pA (.bool _) ?_
      refine pE (gn ?_)
      refine wpL_cd (b := (aE1.Op == (1:Int))) (fun hb => ?_) (fun hb => ?_)
      · replace hk := ct hb hk
        refine wpL_sk (gn ?_)
        exact ⟨(aE1.Op == (1:Int)), _, _, hk, hO, St.hav _ ⟨rfl, rfl, rfl, rfl, trivial⟩⟩
      · replace hk := cf hb hk
        refine wpL_rg ?_
        refine pBi ?_
        refine pA (.bool _) ?_
        refine pE (gn ?_)
        exact ⟨(aE1.Op == (2:Int)), _, _, hk, hO, St.hav _ ⟨rfl, rfl, rfl, rfl, trivial⟩⟩
    · rintro _ ⟨x4, J, G, hk, hO, rfl⟩
      refine wpL_cd (b := x4) (fun hb => ?_) (fun hb => ?_)
      · replace hk := ct hb hk
        refine wpL_sq (wpL_rg ?_)
        refine pF tF113_1 ?_
        refine pLo hO 0 (.int _ _) tA3 ?_
        refine pF tF30_1 ?_
        refine pLo hO 1 (.lit _ _ _) tA28 ?_
        refine pLen tS28 ?_
        refine pBi ?_
        obtain ⟨v5, hv5, hk⟩ := bs hk
        refine pCall (fun _ => f127_run hv5) ?_
        refine pM (.bool _) ?_
        refine wpR_mid (l1 := [_, _, _, _, _, _, _, _, _]) (fun S' => ∃ J, S' = ⟨hav [(29, .bool (v5 && ((aE1.Dir == (1:Int)) || (aE1.Dir == (-1:Int)))))] J, G⟩) ?_ ?_
        · refine bc (b := v5) (fun hg1 => ?_) (fun hg1 => ?_)
          · refine pGy hg1 ?_
            refine pF tF113_2 ?_
            refine pGy hg1 ?_
            refine pLo hO 0 (.int _ _) tA3 ?_
            refine pGy hg1 ?_
            refine pBi ?_
            refine pGy hg1 ?_
            refine pM (.bool _) ?_
            refine wpR_mid (l1 := [_, _, _, _]) (fun S' => ∃ J, S' = ⟨hav [(20, .bool v5), (28, .bool ((aE1.Dir == (1:Int)) || (aE1.Dir == (-1:Int))))] J, G⟩) ?_ ?_
            · refine bc (b := (aE1.Dir == (1:Int))) (fun hg2 => ?_) (fun hg2 => ?_)
              · refine pGn hg2 ?_
                refine pGn hg2 ?_
                refine pGn hg2 ?_
                refine pGy hg1 ?_
                refine pPt hg2 (.bool _) ?_
                exact pE ⟨_, St.hav _ ⟨rfl, by rw [hg2]; rfl, trivial⟩⟩
              · refine pGy hg2 ?_
                refine pF tF113_2 ?_
                refine pGy hg2 ?_
                refine pLo hO 0 (.int _ _) tA3 ?_
                refine pGy hg2 ?_
                refine pBi ?_
                refine pGy hg1 ?_
                refine pPf hg2 (.bool _) ?_
                exact pE ⟨_, St.hav _ ⟨rfl, by rw [hg2]; rfl, trivial⟩⟩
            · rintro _ ⟨J, rfl⟩
              refine pPt hg1 (.bool _) ?_
              exact pE ⟨_, St.hav _ ⟨by rw [hg1]; rfl, trivial⟩⟩
          · refine pGn hg1 ?_
            refine pGn hg1 ?_
            refine pGn hg1 ?_
            refine pGn hg1 ?_
            refine pGu ?_
            refine pGu ?_
            refine pGu ?_
            refine pGn hg1 ?_
            refine pPf hg1 (.bool _) ?_
            exact pE ⟨_, St.hav _ ⟨by rw [hg1]; rfl, trivial⟩⟩
        · rintro _ ⟨J, rfl⟩
          refine pA (.bool _) ?_
          refine pE (gn (wpL_rt (br (gr ?_))))
          replace hk := Option.some.inj hk; subst hk; exact fin0 hO
      · replace hk := cf hb hk
        refine wpL_mid (fun S' => ∃ (x6 : Bool) (J : Nat → V) (G : Heap), f184_k2 aL0 aE1 x6 = some r ∧ Owns H G [.blk b2 (.cells 3 [.int .i64 aE1.Op, .int .i64 aE1.Of, .int .i64 aE1.Dir]), .blk b1 (.cells 2 [.int .i64 aL0.Sections, .lit l1 aL0.Counters.length ((flatL 0) aL0.Counters)])] ∧ S' = ⟨hav [(2, .ptr b1 0), (3, .ptr b2 0), (9, .int .i64 aE1.Op), (30, .bool x6)] J, G⟩) ?_ ?_
        · refine wpL_sq (wpL_rg ?_)
          refine pBi ?_
          refine pA (.bool _) ?_
          refine pE (gn ?_)
          refine wpL_cd (b := (aE1.Op == (3:Int))) (fun hb => ?_) (fun hb => ?_)
          · replace hk := ct hb hk
            refine wpL_sk (gn ?_)
            exact ⟨(aE1.Op == (3:Int)), _, _, hk, hO, St.hav _ ⟨rfl, rfl, rfl, rfl, trivial⟩⟩
          · replace hk := cf hb hk
            refine wpL_rg ?_
            refine pBi ?_
            refine pA (.bool _) ?_
            refine pE (gn ?_)
            exact ⟨(aE1.Op == (4:Int)), _, _, hk, hO, St.hav _ ⟨rfl, rfl, rfl, rfl, trivial⟩⟩
        · rintro _ ⟨x6, J, G, hk, hO, rfl⟩
          refine wpL_cd (b := x6) (fun hb => ?_) (fun hb => ?_)
          · replace hk := ct hb hk
            refine wpL_sq (wpL_rg ?_)
            refine pF tF113_1 ?_
            refine pLo hO 0 (.int _ _) tA3 ?_
            refine pF tF30_1 ?_
            refine pLo hO 1 (.lit _ _ _) tA28 ?_
            refine pLen tS28 ?_
            refine pBi ?_
            obtain ⟨v7, hv7, hk⟩ := bs hk
            refine pCall (fun _ => f127_run hv7) ?_
            refine pM (.bool _) ?_
            refine wpR_mid (l1 := [_, _, _, _]) (fun S' => ∃ J, S' = ⟨hav [(44, .bool (v7 && (aE1.Dir == (0:Int))))] J, G⟩) ?_ ?_
            · refine bc (b := v7) (fun hg1 => ?_) (fun hg1 => ?_)
              · refine pGy hg1 ?_
                refine pF tF113_2 ?_
                refine pGy hg1 ?_
                refine pLo hO 0 (.int _ _) tA3 ?_
                refine pGy hg1 ?_
                refine pBi ?_
                refine pPt hg1 (.bool _) ?_
                exact pE ⟨_, St.hav _ ⟨by rw [hg1]; rfl, trivial⟩⟩
              · refine pGn hg1 ?_
                refine pGn hg1 ?_
                refine pGn hg1 ?_
                refine pPf hg1 (.bool _) ?_
                exact pE ⟨_, St.hav _ ⟨by rw [hg1]; rfl, trivial⟩⟩
            · rintro _ ⟨J, rfl⟩
              refine pA (.bool _) ?_
              refine pE (gn (wpL_rt (br (gr ?_))))
              replace hk := Option.some.inj hk; subst hk; exact fin0 hO
          · replace hk := cf hb hk
            refine wpL_sq (wpL_rg ?_)
            refine pBi ?_
            refine pA (.bool _) ?_
            refine pE (gn ?_)
            refine wpL_cd (b := (aE1.Op == (5:Int))) (fun hb => ?_) (fun hb => ?_)
            · replace hk := ct hb hk
              refine wpL_sq (wpL_rg ?_)
              refine pF tF113_1 ?_
              refine pLo hO 0 (.int _ _) tA3 ?_
              refine pF tF30_0 ?_
              refine pLo hO 1 (.int _ _) tA3 ?_
              refine pBi ?_
              obtain ⟨v8, hv8, hk⟩ := bs hk
              refine pCall (fun _ => f127_run hv8) ?_
              refine pM (.bool _) ?_
              refine wpR_mid (l1 := [_, _, _, _]) (fun S' => ∃ J, S' = ⟨hav [(57, .bool (v8 && (aE1.Dir == (0:Int))))] J, G⟩) ?_ ?_
              · refine bc (b := v8) (fun hg1 => ?_) (fun hg1 => ?_)
                · refine pGy hg1 ?_
                  refine pF tF113_2 ?_
                  refine pGy hg1 ?_
                  refine pLo hO 0 (.int _ _) tA3 ?_
                  refine pGy hg1 ?_
                  refine pBi ?_
                  refine pPt hg1 (.bool _) ?_
                  exact pE ⟨_, St.hav _ ⟨by rw [hg1]; rfl, trivial⟩⟩
                · refine pGn hg1 ?_
                  refine pGn hg1 ?_
                  refine pGn hg1 ?_
                  refine pPf hg1 (.bool _) ?_
                  exact pE ⟨_, St.hav _ ⟨by rw [hg1]; rfl, trivial⟩⟩
              · rintro _ ⟨J, rfl⟩
                refine pA (.bool _) ?_
                refine pE (gn (wpL_rt (br (gr ?_))))
                replace hk := Option.some.inj hk; subst hk; exact fin0 hO
            · replace hk := cf hb hk
              refine wpL_sk (bn (gn (wpL_sq (wpL_rg ?_))))
              refine pA (.bool _) ?_
              refine pE (gn (wpL_rt ?_))
              replace hk := Option.some.inj hk; subst hk; exact fin0 hO
/-- spec.l15copy -/
def f185_L2 (aS0 : CountState) : ((List Section) × (List Bool) × Int) → Option (((List Section) × (List Bool) × Int) ⊕ CountState) := fun s =>
  (bif decide (s.2.2 < (aS0.Dead.length : Int)) then ((getI aS0.Dead s.2.2).bind fun c16 => ((appB 1 s.2.1 ([c16] : List Bool)).bind fun z17 => some (.inl (s.1, z17, w64 (s.2.2 + (1:Int)))))) else ((some ({ Ok := aS0.Ok, Sections := s.1, Dead := s.2.1 } : CountState)).map Sum.inr))
def f185_L1 (aS0 : CountState) : ((List Section) × Int) → Option (((List Section) × Int) ⊕ CountState) := fun s =>
  (bif decide (s.2 < (aS0.Sections.length : Int)) then ((getI aS0.Sections s.2).bind fun c7 => ((appB 32 s.1 ([c7] : List Section)).bind fun z9 => some (.inl (z9, w64 (s.2 + (1:Int)))))) else ((loopO (f185_L2 aS0) (s.1, ([] : List Bool), (0:Int))).map Sum.inr))
def f185 (aS0 : CountState) : Option CountState :=
  (loopO (f185_L1 aS0) (([] : List Section), (0:Int)))
theorem f185_run {aS0 : CountState} {r : CountState} {l1 l2 : Nat} {H : Heap} {lk : Lk} (hk : f185 aS0 = some r) (hlk : 0 < lk.length := by simp) : ∃ v H1, runL Try.prog hh 185 [.agg [.bool aS0.Ok, .lit l1 aS0.Sections.length ((flatL 0) aS0.Sections), .lit l2 aS0.Dead.length ((flatL 0) aS0.Dead)]] H lk = some (v, H1) ∧ FreshS H r v H1 := by
  refine run_startR Try.func185 rfl Try.ntmps185 Try.results185 rfl rfl ?_
  have hO := Owns.nil H
  unfold f185 at hk
  refine wpL_sq (wpL_rg ?_)
  refine pBox (cs := [_, _, _]) hO tZ40 (fun b1 G hO => ?_)
  refine pNew hO tZ40 t040 (fun b2 G hO => ?_)
  refine pE (gn (wpL_sq (wpL_rg ?_)))
  refine pF tF40_0 ?_
  refine pLo hO 1 (.bool _) tA4 ?_
  refine pBd [_, _, _] t040 tP40 ?_
  refine pNew hO tZ40 t040 (fun b3 G hO => ?_)
  refine pSt (xs := [_, _, _]) hO 0 tZ40 rfl (fun G hO => ?_)
  refine pE (gn (wpL_sq (wpL_sq (wpL_rg ?_))))
  refine pF tF40_1 ?_
  refine pLo hO 2 (.lit _ _ _) tA37 ?_
  refine pLen tS37 ?_
  refine pM (.int _ _) ?_
  refine pE (gn (wpL_bl ?_))
  refine wpL_loopO (F := f185_L1 aS0) (fun s S' => ∃ (o4 : V) (J : Nat → V) (G : Heap), Nz o4 ∧ Owns H G [.own o4 lk.length 5 s.1.length ((flatL 0) s.1), .blk b3 (.cells 3 [.bool aS0.Ok, o4, (.tl 0 [])]), .blk b2 (.cells 3 [.bool false, (.tl 0 []), (.tl 0 [])]), .blk b1 (.cells 3 [.bool aS0.Ok, .lit l1 aS0.Sections.length ((flatL 0) aS0.Sections), .lit l2 aS0.Dead.length ((flatL 0) aS0.Dead)])] ∧ S' = ⟨hav [(1, .ptr b1 0), (2, .ptr b2 0), (3, .ptr b3 0), (12, .lit l1 aS0.Sections.length ((flatL 0) aS0.Sections)), (13, .int .i64 (aS0.Sections.length : Int)), (14, .int .i64 s.2)] J, G⟩) hk ⟨(.tl 0 []), _, _, Nz.nil, (Owns.addTl hO lk.length ([] : List Section)), St.hav _ ⟨rfl, rfl, rfl, rfl, rfl, rfl, trivial⟩⟩ ?_
  rintro ⟨x4, x6⟩ _ y1 ⟨o4, J, G, hno4, hO, rfl⟩ hk hx1
  refine wpL_sq (wpL_rg ?_)
  refine pBi ?_
  refine pE (gn (wpL_sq ?_))
  refine wpL_cd (b := decide (x6 < (aS0.Sections.length : Int))) (fun hb => ?_) (fun hb => ?_)
  · replace hk := ct hb hk
    refine wpL_sk (gn (wpL_sq (wpL_bl (wpL_sq (wpL_rg ?_)))))
    obtain ⟨c7, hc7, hk⟩ := bs hk
    refine pX hc7 tE37 tZ233 ?_
    refine pLp (.agg [_, _, _, _, _]) (rd2 (lm := 0) (off := 0) hc7 tA233 tZ233) ?_
    refine pNew hO tZ233 t0233 (fun b8 G hO => ?_)
    refine pSt (xs := [_, _, _, _, _]) hO 0 tZ233 rfl (fun G hO => ?_)
    refine pE (gn (wpL_rg ?_))
    refine pF tF40_1 ?_
    refine pLo hO 2 o4 tA37 ?_
    refine pLs hO 0 [_, _, _, _, _] tA233 tZ233 ?_
    refine pBs (ps := [(0, (.agg [_, _, _, _, _]))]) ([c7] : List Section) tE37 tZ233 t0233 (emb_cons (embx_agg (α := Section) c7) (emb_nil)) ?_
    obtain ⟨z9, hz9, hk⟩ := bs hk
    refine pAp (xs := x4) hO 1 hz9 (bears_tl ([c7] : List Section)) tE37 tZ233 tB233 t0233 tE37 rfl (fun o9 G hno9 hO => ?_)
    replace hno9 := hno9 hno4
    refine pF tF40_1 ?_
    have hc10 := own_cells hO (j := 1) rfl
    refine pSt (xs := [_]) hO 2 tZ37 rfl (fun G hO => ?_) (h3 := hc10.1) (h6 := one_cell hc10.2)
    refine pE (bn (gn (wpL_rg ?_)))
    refine pBi ?_
    refine pM (.int _ _) ?_
    refine pE (gn ?_)
    cases hk; exact ⟨_, rfl, o9, _, _, hno9, (Owns.pick hO [1, 2, 3, 4] (by decide) rfl), St.hav _ ⟨rfl, rfl, rfl, rfl, rfl, rfl, trivial⟩⟩
  · replace hk := cf hb hk
    refine wpL_ex (ge (ge (be (gn ?_))))
    replace hk := lx hx1 hk
    refine wpL_sq (wpL_sq (wpL_rg ?_))
    refine pF tF40_2 ?_
    refine pLo hO 3 (.lit _ _ _) tA38 ?_
    refine pLen tS38 ?_
    refine pM (.int _ _) ?_
    refine pE (gn (wpL_bl ?_))
    refine wpL_loopO (F := f185_L2 aS0) (fun s S' => ∃ (o11 : V) (o13 : V) (J : Nat → V) (G : Heap), Nz o11 ∧ Nz o13 ∧ Owns H G [.own o11 lk.length 5 s.1.length ((flatL 0) s.1), .own o13 lk.length 1 s.2.1.length ((flatL 0) s.2.1), .blk b3 (.cells 3 [.bool aS0.Ok, o11, o13]), .blk b2 (.cells 3 [.bool false, (.tl 0 []), (.tl 0 [])])] ∧ S' = ⟨hav [(2, .ptr b2 0), (3, .ptr b3 0), (26, .lit l2 aS0.Dead.length ((flatL 0) aS0.Dead)), (27, .int .i64 (aS0.Dead.length : Int)), (28, .int .i64 s.2.2)] J, G⟩) hk ⟨o4, (.tl 0 []), _, _, hno4, Nz.nil, (Owns.pick (Owns.addTl hO lk.length ([] : List Bool)) [1, 0, 2, 3] (by decide) rfl), St.hav _ ⟨rfl, rfl, rfl, rfl, rfl, trivial⟩⟩ ?_
    rintro ⟨x11, x13, x15⟩ _ y1 ⟨o11, o13, J, G, hno11, hno13, hO, rfl⟩ hk hx1
    refine wpL_sq (wpL_rg ?_)
    refine pBi ?_
    refine pE (gn (wpL_sq ?_))
    refine wpL_cd (b := decide (x15 < (aS0.Dead.length : Int))) (fun hb => ?_) (fun hb => ?_)
    · replace hk := ct hb hk
      refine wpL_sk (gn (wpL_sq (wpL_bl (wpL_sq (wpL_rg ?_)))))
      obtain ⟨c16, hc16, hk⟩ := bs hk
      refine pX hc16 tE38 tZ4 ?_
      refine pLp (.bool _) (rd1 (lm := 0) (off := 0) hc16 tA4) ?_
      refine pA (.bool _) ?_
      refine pE (gn (wpL_rg ?_))
      refine pF tF40_2 ?_
      refine pLo hO 2 o13 tA38 ?_
      refine pM (.bool _) ?_
      refine pBs (ps := [(0, (.bool _))]) ([c16] : List Bool) tE38 tZ4 t04 (emb_cons (embx_bool _) (emb_nil)) ?_
      obtain ⟨z17, hz17, hk⟩ := bs hk
      refine pAp (xs := x13) hO 1 hz17 (bears_tl ([c16] : List Bool)) tE38 tZ4 tB4 t04 tE38 rfl (fun o17 G hno17 hO => ?_)
      replace hno17 := hno17 hno13
      refine pF tF40_2 ?_
      have hc18 := own_cells hO (j := 1) rfl
      refine pSt (xs := [_]) hO 2 tZ38 rfl (fun G hO => ?_) (h3 := hc18.1) (h6 := one_cell hc18.2)
      refine pE (bn (gn (wpL_rg ?_)))
      refine pBi ?_
      refine pM (.int _ _) ?_
      refine pE (gn ?_)
      cases hk; exact ⟨_, rfl, o11, o17, _, _, hno11, hno17, hO, St.hav _ ⟨rfl, rfl, rfl, rfl, rfl, trivial⟩⟩
    · replace hk := cf hb hk
      refine wpL_ex (ge (ge (be (gn ?_))))
      replace hk := lx hx1 hk
      refine wpL_sq (wpL_rg ?_)
      refine pLs hO 2 [_, _, _] tA40 tZ40 ?_
      have hc19 := own_cells hO (j := 0) rfl
      have hc20 := own_cells hO (j := 1) rfl
      refine pSt (xs := [_, _, _]) hO 3 tZ40 rfl (fun G hO => ?_) (h6 := (all_c rfl (all_c hc19.2 (all_c hc20.2 all_n))))
      refine pE (gn (wpL_rt ?_))
      replace hk := Option.some.inj hk; subst hk; exact finThS hO (th_CountState (x := ({ Ok := aS0.Ok, Sections := x11, Dead := x13 } : CountState)) (th_pair (c1 := [_]) (th_bool aS0.Ok) (th_pair (c1 := [_]) (th_own (xs := x11) hno11 hlk 0) (th_own (xs := x13) hno13 hlk 0)))) (resS hO 3 [_, _, _] tA40 tZ40 resN)
/-- spec.l15add -/
def f186_k2 (aS0 : CountState) (aSection1 : Int) (aN2 : Int) (x7 : List Section) (c8 : Section) : Option CountState :=
  (bif ((c8.Sweep && decide (aN2 < (0:Int))) && (c8.Count == (0:Int))) then some ({ Ok := aS0.Ok, Sections := x7.set aSection1.toNat ({ c8 with Sweep := false }), Dead := aS0.Dead } : CountState) else some ({ Ok := aS0.Ok, Sections := x7, Dead := aS0.Dead } : CountState))
def f186_k1 (aS0 : CountState) (aSection1 : Int) (aN2 : Int) (x3 : List Section) (c4 : Section) : Option CountState :=
  (bif decide ((({ c4 with Last := aN2 } : Section).Count) < (0:Int)) then (f186_k2 aS0 aSection1 aN2 ((x3.set aSection1.toNat ({ c4 with Last := aN2 })).set aSection1.toNat ({ ({ c4 with Last := aN2 } : Section) with Lost := true })) ({ ({ c4 with Last := aN2 } : Section) with Lost := true } : Section)) else (f186_k2 aS0 aSection1 aN2 (x3.set aSection1.toNat ({ c4 with Last := aN2 })) ({ c4 with Last := aN2 } : Section)))
def f186 (aS0 : CountState) (aSection1 : Int) (aN2 : Int) : Option CountState :=
  (bif decide (aSection1 < (0:Int)) then some aS0 else ((getI aS0.Sections aSection1).bind fun c1 => ((f127 (w64 (c1.Count + aN2)) (-1000000:Int) (1000000:Int)).bind fun v12 => (bif v12 then (f186_k1 aS0 aSection1 aN2 (aS0.Sections.set aSection1.toNat ({ c1 with Count := w64 (c1.Count + aN2) })) ({ c1 with Count := w64 (c1.Count + aN2) } : Section)) else (f186_k1 aS0 aSection1 aN2 aS0.Sections c1)))))
theorem f186_run {aS0 : CountState} {aSection1 : Int} {aN2 : Int} {r : CountState} {q0 : Nat} {vp1 vp2 : V} {Fp1 Fp2 : List Nat} {H : Heap} {lk : Lk} (hk : f186 aS0 aSection1 aN2 = some r) (hO : Owns H H [.fblk (q0 :: (Fp1 ++ (Fp2 ++ []))) q0 (.cells 3 [.bool aS0.Ok, vp1, vp2]), Tree (q0 :: (Fp1 ++ (Fp2 ++ []))) Fp1 aS0.Sections [vp1], Tree (q0 :: (Fp1 ++ (Fp2 ++ []))) Fp2 aS0.Dead [vp2]]) (hS : ∀ b ∈ q0 :: (Fp1 ++ (Fp2 ++ [])), unlocked lk b = true) (hlt : ∀ b ∈ q0 :: (Fp1 ++ (Fp2 ++ [])), b < H.length) (hlk : 0 < lk.length := by simp) : ∃ v H1, runL Try.prog hh 186 [.ptr q0 0, .int .i64 aSection1, .int .i64 aN2] H lk = some (v, H1) ∧ v = .tup [] ∧ Owns H1 H1 [.fblk (q0 :: (Fp1 ++ (Fp2 ++ []))) q0 (.cells 3 [.bool r.Ok, vp1, vp2]), Tree (q0 :: (Fp1 ++ (Fp2 ++ []))) Fp1 r.Sections [vp1], Tree (q0 :: (Fp1 ++ (Fp2 ++ []))) Fp2 r.Dead [vp2]] ∧ H1.length = H.length ∧ ∀ b, b ∉ q0 :: (Fp1 ++ (Fp2 ++ [])) → H1[b]? = H[b]? := by
  refine run_startR Try.func186 rfl Try.ntmps186 Try.results186 rfl rfl ?_
  have hFr := Sees.refl H (q0 :: (Fp1 ++ (Fp2 ++ [])))
  unfold f186 at hk
  refine wpL_sq (wpL_sq (wpL_rg ?_))
  refine pM (.int _ _) ?_
  refine pBi ?_
  refine pE (gn ?_)
  refine wpL_cd (b := decide (aSection1 < (0:Int))) (fun hb => ?_) (fun hb => ?_)
  · replace hk := ct hb hk
    refine wpL_rt (gr ?_)
    replace hk := Option.some.inj hk; subst hk; exact finP hO hFr hlt rfl (nums_S rfl) rfl rfl rfl rfl (by first | exact Or.inl rfl | exact Or.inr rfl)
  · replace hk := cf hb hk
    refine wpL_sk (gn (wpL_sq (wpL_rg ?_)))
    refine pM (.ptr _ _) ?_
    refine pNil ?_
    refine pF tF40_1 ?_
    refine pLr hO 0 vp1 tA37 ?_
    refine pM (.int _ _) ?_
    obtain ⟨c1, hc1, hk⟩ := bs hk
    refine pXT hO 1 hc1 tE37 tZ233 (fun b2 hb2 => ?_)
    refine pA (.ptr _ _) ?_
    refine pE (gn ?_)
    refine wpL_mid (fun S' => ∃ (x3 : List Section) (c4 : Section) (J : Nat → V) (G : Heap) (H1 : Heap), f186_k1 aS0 aSection1 aN2 x3 c4 = some r ∧ getI x3 aSection1 = some c4 ∧ vp1 = .sl b2 0 x3.length ∧ Sees H H1 (q0 :: (Fp1 ++ (Fp2 ++ []))) ∧ Owns H1 G [.fblk (q0 :: (Fp1 ++ (Fp2 ++ []))) q0 (.cells 3 [.bool aS0.Ok, vp1, vp2]), Tree (q0 :: (Fp1 ++ (Fp2 ++ []))) Fp1 x3 [vp1], Tree (q0 :: (Fp1 ++ (Fp2 ++ []))) Fp2 aS0.Dead [vp2]] ∧ S' = ⟨hav [(2, .int .i64 aN2), (6, .ptr b2 (aSection1.toNat * 5))] J, G⟩) ?_ ?_
    · refine wpL_sq (wpL_rg ?_)
      refine pM (.ptr _ _) ?_
      refine pNil ?_
      refine pF tF233_1 ?_
      refine pLTv foc_Section_Count (.int _ _) hO 1 hb2 hc1 tA3 ?_
      refine pM (.int _ _) ?_
      refine pBi ?_
      obtain ⟨v12, hv12, hk⟩ := bs hk
      refine pCall (fun _ => f127_run hv12) ?_
      refine pE (gn ?_)
      refine wpL_cd (b := v12) (fun hb => ?_) (fun hb => ?_)
      · replace hk := ct hb hk
        refine wpL_rg ?_
        refine pM (.ptr _ _) ?_
        refine pNil ?_
        refine pF tF233_1 ?_
        refine pLTv foc_Section_Count (.int _ _) hO 1 hb2 hc1 tA3 ?_
        refine pM (.int _ _) ?_
        refine pBi ?_
        refine pNil ?_
        refine pF tF233_1 ?_
        refine pST foc_Section_Count (y' := (w64 (c1.Count + aN2))) hO 1 hb2 hc1 tZ3 (fun _ => ⟨rfl, rfl⟩) hFr hS rfl (fun H1 G hFr hO => ?_)
        have hc_13 := getI_set hc1 ({ c1 with Count := w64 (c1.Count + aN2) } : Section)
        have hv_13 := sl_set (j := aSection1.toNat) (y := ({ c1 with Count := w64 (c1.Count + aN2) } : Section)) hb2
        refine pE (gn ?_)
        exact ⟨aS0.Sections.set aSection1.toNat ({ c1 with Count := w64 (c1.Count + aN2) }), ({ c1 with Count := w64 (c1.Count + aN2) } : Section), _, _, _, hk, hc_13, hv_13, hFr, hO, St.hav _ ⟨rfl, rfl, trivial⟩⟩
      · replace hk := cf hb hk
        refine wpL_sk (gn ?_)
        exact ⟨aS0.Sections, c1, _, _, _, hk, hc1, hb2, hFr, hO, St.hav _ ⟨rfl, rfl, trivial⟩⟩
    · rintro _ ⟨x3, c4, J, G, H1, hk, hc4, hv5, hFr, hO, rfl⟩
      refine wpL_sq (wpL_rg ?_)
      refine pM (.ptr _ _) ?_
      refine pM (.int _ _) ?_
      refine pNil ?_
      refine pF tF233_4 ?_
      refine pST foc_Section_Last (y' := aN2) hO 1 hv5 hc4 tZ3 (fun _ => ⟨rfl, rfl⟩) hFr hS rfl (fun H1 G hFr hO => ?_)
      have hc_6 := getI_set hc4 ({ c4 with Last := aN2 } : Section)
      have hv_6 := sl_set (j := aSection1.toNat) (y := ({ c4 with Last := aN2 } : Section)) hv5
      refine pE (gn ?_)
      refine wpL_mid (fun S' => ∃ (x7 : List Section) (c8 : Section) (J : Nat → V) (G : Heap) (H1 : Heap), f186_k2 aS0 aSection1 aN2 x7 c8 = some r ∧ getI x7 aSection1 = some c8 ∧ vp1 = .sl b2 0 x7.length ∧ Sees H H1 (q0 :: (Fp1 ++ (Fp2 ++ []))) ∧ Owns H1 G [.fblk (q0 :: (Fp1 ++ (Fp2 ++ []))) q0 (.cells 3 [.bool aS0.Ok, vp1, vp2]), Tree (q0 :: (Fp1 ++ (Fp2 ++ []))) Fp1 x7 [vp1], Tree (q0 :: (Fp1 ++ (Fp2 ++ []))) Fp2 aS0.Dead [vp2]] ∧ S' = ⟨hav [(2, .int .i64 aN2), (6, .ptr b2 (aSection1.toNat * 5))] J, G⟩) ?_ ?_
      · refine wpL_sq (wpL_rg ?_)
        refine pM (.ptr _ _) ?_
        refine pNil ?_
        refine pF tF233_1 ?_
        refine pLTv foc_Section_Count (.int _ _) hO 1 hv_6 hc_6 tA3 ?_
        refine pBi ?_
        refine pE (gn ?_)
        refine wpL_cd (b := decide ((({ c4 with Last := aN2 } : Section).Count) < (0:Int))) (fun hb => ?_) (fun hb => ?_)
        · replace hk := ct hb hk
          refine wpL_rg ?_
          refine pM (.ptr _ _) ?_
          refine pNil ?_
          refine pF tF233_2 ?_
          refine pST foc_Section_Lost (y' := true) hO 1 hv_6 hc_6 tZ4 (fun _ => ⟨rfl, rfl⟩) hFr hS rfl (fun H1 G hFr hO => ?_)
          have hc_11 := getI_set hc_6 ({ ({ c4 with Last := aN2 } : Section) with Lost := true } : Section)
          have hv_11 := sl_set (j := aSection1.toNat) (y := ({ ({ c4 with Last := aN2 } : Section) with Lost := true } : Section)) hv_6
          refine pE (gn ?_)
          exact ⟨(x3.set aSection1.toNat ({ c4 with Last := aN2 })).set aSection1.toNat ({ ({ c4 with Last := aN2 } : Section) with Lost := true }), ({ ({ c4 with Last := aN2 } : Section) with Lost := true } : Section), _, _, _, hk, hc_11, hv_11, hFr, hO, St.hav _ ⟨rfl, rfl, trivial⟩⟩
        · replace hk := cf hb hk
          refine wpL_sk (gn ?_)
          exact ⟨x3.set aSection1.toNat ({ c4 with Last := aN2 }), ({ c4 with Last := aN2 } : Section), _, _, _, hk, hc_6, hv_6, hFr, hO, St.hav _ ⟨rfl, rfl, trivial⟩⟩
      · rintro _ ⟨x7, c8, J, G, H1, hk, hc8, hv9, hFr, hO, rfl⟩
        refine wpL_sq (wpL_rg ?_)
        refine pM (.ptr _ _) ?_
        refine pNil ?_
        refine pF tF233_3 ?_
        refine pLTv foc_Section_Sweep (.bool _) hO 1 hv9 hc8 tA4 ?_
        refine pM (.bool _) ?_
        refine wpR_mid (l1 := [_, _, _]) (fun S' => ∃ J, S' = ⟨hav [(6, .ptr b2 (aSection1.toNat * 5)), (49, .bool (c8.Sweep && decide (aN2 < (0:Int))))] J, G⟩) ?_ ?_
        · refine bc (b := c8.Sweep) (fun hg1 => ?_) (fun hg1 => ?_)
          · refine pGy hg1 ?_
            refine pM (.int _ _) ?_
            refine pGy hg1 ?_
            refine pBi ?_
            refine pPt hg1 (.bool _) ?_
            exact pE ⟨_, St.hav _ ⟨rfl, by rw [hg1]; rfl, trivial⟩⟩
          · refine pGn hg1 ?_
            refine pGn hg1 ?_
            refine pPf hg1 (.bool _) ?_
            exact pE ⟨_, St.hav _ ⟨rfl, by rw [hg1]; rfl, trivial⟩⟩
        · rintro _ ⟨J, rfl⟩
          refine pM (.bool _) ?_
          refine wpR_mid (l1 := [_, _, _, _, _, _]) (fun S' => ∃ J, S' = ⟨hav [(6, .ptr b2 (aSection1.toNat * 5)), (56, .bool ((c8.Sweep && decide (aN2 < (0:Int))) && (c8.Count == (0:Int))))] J, G⟩) ?_ ?_
          · refine bc (b := (c8.Sweep && decide (aN2 < (0:Int)))) (fun hg1 => ?_) (fun hg1 => ?_)
            · refine pGy hg1 ?_
              refine pM (.ptr _ _) ?_
              refine pGy hg1 ?_
              refine pNil ?_
              refine pGy hg1 ?_
              refine pF tF233_1 ?_
              refine pGy hg1 ?_
              refine pLTv foc_Section_Count (.int _ _) hO 1 hv9 hc8 tA3 ?_
              refine pGy hg1 ?_
              refine pBi ?_
              refine pPt hg1 (.bool _) ?_
              exact pE ⟨_, St.hav _ ⟨rfl, by rw [hg1]; rfl, trivial⟩⟩
            · refine pGn hg1 ?_
              refine pGn hg1 ?_
              refine pGn hg1 ?_
              refine pGn hg1 ?_
              refine pGn hg1 ?_
              refine pPf hg1 (.bool _) ?_
              exact pE ⟨_, St.hav _ ⟨rfl, by rw [hg1]; rfl, trivial⟩⟩
          · rintro _ ⟨J, rfl⟩
            refine pE (gn ?_)
            refine wpL_cd (b := ((c8.Sweep && decide (aN2 < (0:Int))) && (c8.Count == (0:Int)))) (fun hb => ?_) (fun hb => ?_)
            · replace hk := ct hb hk
              refine wpL_rg ?_
              refine pM (.ptr _ _) ?_
              refine pNil ?_
              refine pF tF233_3 ?_
              refine pST foc_Section_Sweep (y' := false) hO 1 hv9 hc8 tZ4 (fun _ => ⟨rfl, rfl⟩) hFr hS rfl (fun H1 G hFr hO => ?_)
              have hc_10 := getI_set hc8 ({ c8 with Sweep := false } : Section)
              have hv_10 := sl_set (j := aSection1.toNat) (y := ({ c8 with Sweep := false } : Section)) hv9
              refine pE ?_
              replace hk := Option.some.inj hk; subst hk; exact finP hO hFr hlt rfl (nums_S rfl) rfl rfl rfl rfl (by first | exact Or.inl rfl | exact Or.inr rfl)
            · replace hk := cf hb hk
              refine wpL_sk ?_
              replace hk := Option.some.inj hk; subst hk; exact finP hO hFr hlt rfl (nums_S rfl) rfl rfl rfl rfl (by first | exact Or.inl rfl | exact Or.inr rfl)
/-- spec.DoCount -/
def f70_L2 (aL0 : Layout) (x18 : Bool) (x19 : List Bool) (x20 : List Section) (x21 : Int) : ((List Section) × Int) → Option (((List Section) × Int) ⊕ CountDone) := fun s =>
  (bif decide (s.2 < (x20.length : Int)) then ((getI s.1 s.2).bind fun c24 => ((f188 aL0 x19 s.2 c24).bind fun v26 => ((getI s.1 s.2).bind fun c28 => some (.inl (s.1.set s.2.toNat ({ c28 with Told := v26 }), w64 (s.2 + (1:Int))))))) else ((some ({ Code := x21, State := ({ Ok := x18, Sections := s.1, Dead := x19 } : CountState) } : CountDone)).map Sum.inr))
def f70_k1 (aL0 : Layout) (x18 : Bool) (x19 : List Bool) (x20 : List Section) (x21 : Int) : Option CountDone :=
  (loopO (f70_L2 aL0 x18 x19 x20 x21) (x20, (0:Int)))
def f70_k5 (aL0 : Layout) (x40 : Int) (x41 : Bool) (x42 : List Section) (x43 : List Bool) : Option CountDone :=
  ((f186 ({ Ok := x41, Sections := x42, Dead := x43 } : CountState) x40 (1:Int)).bind fun z44 => (f70_k1 aL0 z44.Ok z44.Dead z44.Sections (0:Int)))
def f70_k4 (aL0 : Layout) (aE2 : CountEvent) (v8 : CountState) (x39 : Int) (x40 : Int) : Option CountDone :=
  (bif (aE2.Op == (1:Int)) then ((f186 v8 x39 (-1:Int)).bind fun z45 => (f70_k5 aL0 x40 z45.Ok z45.Sections z45.Dead)) else (f70_k5 aL0 x40 v8.Ok v8.Sections v8.Dead))
def f70_k7 (x52 : Int) (x53 : List Section) : Option (((List Section) × Int) ⊕ CountDone) :=
  some (.inl (x53, w64 (x52 + (1:Int))))
def f70_L6 (aL0 : Layout) (aE2 : CountEvent) (v8 : CountState) (c49 : Counter) (c50 : Counter) : ((List Section) × Int) → Option (((List Section) × Int) ⊕ CountDone) := fun s =>
  (bif decide (s.2 < (([c49.From, c50.To] : List Int).length : Int)) then ((getI ([c49.From, c50.To] : List Int) s.2).bind fun c54 => (bif decide (c54 ≥ (0:Int)) then ((getI s.1 c54).bind fun c55 => (f70_k7 s.2 (s.1.set c54.toNat ({ c55 with Lost := true })))) else (f70_k7 s.2 s.1))) else ((f70_k1 aL0 v8.Ok (v8.Dead.set aE2.Of.toNat true) s.1 (0:Int)).map Sum.inr))
def f70_k3 (aL0 : Layout) (aS1 : CountState) (aE2 : CountEvent) (v8 : CountState) (x35 : Bool) : Option CountDone :=
  (bif x35 then ((getI aL0.Counters aE2.Of).bind fun c36 => ((getI aS1.Dead aE2.Of).bind fun c38 => (bif c38 then (f70_k1 aL0 v8.Ok v8.Dead v8.Sections (2:Int)) else (bif decide (aE2.Dir < (0:Int)) then (f70_k4 aL0 aE2 v8 c36.To c36.From) else (f70_k4 aL0 aE2 v8 c36.From c36.To))))) else (bif (aE2.Op == (3:Int)) then ((getI v8.Dead aE2.Of).bind fun c46 => ((getI aL0.Counters aE2.Of).bind fun c49 => ((getI aL0.Counters aE2.Of).bind fun c50 => (loopO (f70_L6 aL0 aE2 v8 c49 c50) (v8.Sections, (0:Int)))))) else (bif (aE2.Op == (4:Int)) then ((getI v8.Dead aE2.Of).bind fun c58 => (f70_k1 aL0 v8.Ok (v8.Dead.set aE2.Of.toNat false) v8.Sections (0:Int))) else (bif (aE2.Op == (5:Int)) then ((f187 aL0 aS1.Dead aE2.Of).bind fun v61 => (bif v61 then (f70_k1 aL0 v8.Ok v8.Dead v8.Sections (3:Int)) else ((getI aS1.Sections aE2.Of).bind fun c62 => (bif decide (c62.Last > (0:Int)) then (f70_k1 aL0 v8.Ok v8.Dead v8.Sections (4:Int)) else ((getI v8.Sections aE2.Of).bind fun c63 => (f70_k1 aL0 v8.Ok v8.Dead (v8.Sections.set aE2.Of.toNat ({ Told := 0, Count := 0, Lost := false, Sweep := true, Last := 0 } : Section)) (0:Int))))))) else (f70_k1 aL0 v8.Ok v8.Dead v8.Sections (0:Int))))))
def f70 (aL0 : Layout) (aS1 : CountState) (aE2 : CountEvent) : Option CountDone :=
  ((f183 aL0 aS1).bind fun v5 => ((bif !v5 then some true else ((f184 aL0 aE2).bind fun v7 => some (!v7))).bind fun t6 => (bif t6 then some ({ Code := (1:Int), State := ({ Ok := false, Sections := ([] : List Section), Dead := ([] : List Bool) } : CountState) } : CountDone) else ((f185 aS1).bind fun v8 => (bif (aE2.Op == (1:Int)) then (f70_k3 aL0 aS1 aE2 v8 (aE2.Op == (1:Int))) else (f70_k3 aL0 aS1 aE2 v8 (aE2.Op == (2:Int))))))))
theorem f70_run {aL0 : Layout} {aS1 : CountState} {aE2 : CountEvent} {r : CountDone} {l1 l2 l3 : Nat} {H : Heap} {lk : Lk} (hk : f70 aL0 aS1 aE2 = some r) (hlk : 0 < lk.length := by simp) (hlo : LkOk lk H.length := by simp [LkOk]) : ∃ v H1, runL Try.prog hh 70 [.agg [.int .i64 aL0.Sections, .lit l1 aL0.Counters.length ((flatL 0) aL0.Counters)], .agg [.bool aS1.Ok, .lit l2 aS1.Sections.length ((flatL 0) aS1.Sections), .lit l3 aS1.Dead.length ((flatL 0) aS1.Dead)], .agg [.int .i64 aE2.Op, .int .i64 aE2.Of, .int .i64 aE2.Dir]] H lk = some (v, H1) ∧ FreshS H r v H1 := by
  refine run_startR Try.func70 rfl Try.ntmps70 Try.results70 rfl rfl ?_
  have hO := Owns.nil H
  unfold f70 at hk
  refine wpL_sq (wpL_rg ?_)
  refine pBox (cs := [_, _]) hO tZ30 (fun b1 G hO => ?_)
  refine pBox (cs := [_, _, _]) hO tZ40 (fun b2 G hO => ?_)
  refine pBox (cs := [_, _, _]) hO tZ113 (fun b3 G hO => ?_)
  refine pNew hO tZ110 t0110 (fun b4 G hO => ?_)
  refine pE (gn (wpL_sq (wpL_sq (wpL_rg ?_))))
  refine pLs hO 3 [_, _] tA30 tZ30 ?_
  refine pLs hO 2 [_, _, _] tA40 tZ40 ?_
  obtain ⟨v5, hv5, hk⟩ := bs hk
  refine pCall (fun _ => f183_run hv5) ?_
  refine pU ?_
  refine pM (.bool _) ?_
  obtain ⟨t6, ht, hk⟩ := bs hk
  refine wpR_mid (l1 := [_, _, _, _, _]) (fun S' => ∃ J, S' = ⟨hav [(3, .ptr b1 0), (4, .ptr b2 0), (5, .ptr b3 0), (6, .ptr b4 0), (24, .bool t6)] J, G⟩) ?_ ?_
  · refine bc (b := !v5) (fun hg1 => ?_) (fun hg1 => ?_)
    · replace hk := ct hg1 ht
      refine pGn hg1 ?_
      refine pGn hg1 ?_
      refine pGn hg1 ?_
      refine pGn hg1 ?_
      refine pPt hg1 (.bool _) ?_
      cases hk; exact pE ⟨_, St.hav _ ⟨rfl, rfl, rfl, rfl, rfl, trivial⟩⟩
    · replace hk := cf hg1 ht
      refine pGy hg1 ?_
      refine pLs hO 3 [_, _] tA30 tZ30 ?_
      refine pGy hg1 ?_
      refine pLs hO 1 [_, _, _] tA113 tZ113 ?_
      refine pGy hg1 ?_
      obtain ⟨v7, hv7, hk⟩ := bs hk
      refine pCall (fun _ => f184_run hv7) ?_
      refine pGy hg1 ?_
      refine pU ?_
      refine pPf hg1 (.bool _) ?_
      cases hk; exact pE ⟨_, St.hav _ ⟨rfl, rfl, rfl, rfl, rfl, trivial⟩⟩
  · rintro _ ⟨J, rfl⟩
    refine pE (gn ?_)
    refine wpL_cd (b := t6) (fun hb => ?_) (fun hb => ?_)
    · replace hk := ct hb hk
      refine wpL_sq (wpL_rg ?_)
      refine pBd [_, _, _, _] t0110 tP110 ?_
      refine pSt (xs := [_, _, _, _]) hO 0 tZ110 rfl (fun G hO => ?_)
      refine pE (gn (wpL_rt (gr ?_)))
      replace hk := Option.some.inj hk; subst hk; exact finThS hO (th_CountDone (x := ({ Code := (1:Int), State := ({ Ok := false, Sections := ([] : List Section), Dead := ([] : List Bool) } : CountState) } : CountDone)) (th_pair (c1 := [_]) (th_int (1:Int)) (th_CountState (x := ({ Ok := false, Sections := ([] : List Section), Dead := ([] : List Bool) } : CountState)) (th_pair (c1 := [_]) (th_bool false) (th_pair (c1 := [_]) (th_nil Section) (th_nil Bool)))))) (resS hO 0 [_, _, _, _] tA110 tZ110 resN)
    · replace hk := cf hb hk
      refine wpL_sk (gn (wpL_sq (wpL_rg ?_)))
      refine pLs hO 2 [_, _, _] tA40 tZ40 ?_
      obtain ⟨v8, hv8, hk⟩ := bs hk
      refine pCNs hO (fun _ => f185_run hv8) (fun u9 F9 G hO => ?_)
      replace hO : Owns H G (Tree [] _ ((v8.Ok, v8.Sections, v8.Dead) : Bool × (List Section) × (List Bool)) _ :: [.blk b4 (.cells 4 [.int .i64 0, .bool false, (.tl 0 []), (.tl 0 [])]), .blk b3 (.cells 3 [.int .i64 aE2.Op, .int .i64 aE2.Of, .int .i64 aE2.Dir]), .blk b2 (.cells 3 [.bool aS1.Ok, .lit l2 aS1.Sections.length ((flatL 0) aS1.Sections), .lit l3 aS1.Dead.length ((flatL 0) aS1.Dead)]), .blk b1 (.cells 2 [.int .i64 aL0.Sections, .lit l1 aL0.Counters.length ((flatL 0) aL0.Counters)])]) := hO
      obtain ⟨cs10, Fb10, he, hP⟩ := Owns.splitS hO
      clear hO; subst he; have hO := hP; clear hP
      obtain ⟨u11, cs11, F11, Fb11, he, hP⟩ := Owns.splitL hO
      clear hO; subst he; have hO := hP; clear hP
      obtain ⟨u13, rfl⟩ := Owns.lastL hO
      refine pNew hO tZ40 t040 (fun b15 G hO => ?_)
      have hc16 := tl_cells hO (j := 2) rfl
      have hc17 := tl_cells hO (j := 1) rfl
      refine pSt (xs := [_, _, _]) hO 0 tZ40 rfl (fun G hO => ?_) (h6 := (all_c rfl (all_c hc16.2 (all_c hc17.2 all_n))))
      refine pE (gn (wpL_sq (wpL_rg ?_)))
      refine pA (.int _ _) ?_
      refine pE (gn ?_)
      refine wpL_mid (fun S' => ∃ (x18 : Bool) (x19 : List Bool) (x20 : List Section) (x21 : Int) (J : Nat → V) (G : Heap), f70_k1 aL0 x18 x19 x20 x21 = some r ∧ Owns H G [.blk b15 (.cells 3 [.bool x18, u11, u13]), Tree [] Fb11 x19 [u13], Tree [] F11 x20 [u11], .blk b4 (.cells 4 [.int .i64 0, .bool false, (.tl 0 []), (.tl 0 [])]), .blk b1 (.cells 2 [.int .i64 aL0.Sections, .lit l1 aL0.Counters.length ((flatL 0) aL0.Counters)])] ∧ S' = ⟨hav [(3, .ptr b1 0), (6, .ptr b4 0), (7, .ptr b15 0), (8, .int .i64 x21)] J, G⟩) ?_ ?_
      · refine wpL_sq (wpL_rg ?_)
        refine pF tF113_0 ?_
        refine pLo hO 4 (.int _ _) tA3 ?_
        refine pE (gn (wpL_bl ?_))
        refine wpL_mid (fun S' => ∃ (x35 : Bool) (J : Nat → V) (G : Heap), f70_k3 aL0 aS1 aE2 v8 x35 = some r ∧ Owns H G [.blk b15 (.cells 3 [.bool v8.Ok, u11, u13]), Tree [] Fb11 v8.Dead [u13], Tree [] F11 v8.Sections [u11], .blk b4 (.cells 4 [.int .i64 0, .bool false, (.tl 0 []), (.tl 0 [])]), .blk b3 (.cells 3 [.int .i64 aE2.Op, .int .i64 aE2.Of, .int .i64 aE2.Dir]), .blk b2 (.cells 3 [.bool aS1.Ok, .lit l2 aS1.Sections.length ((flatL 0) aS1.Sections), .lit l3 aS1.Dead.length ((flatL 0) aS1.Dead)]), .blk b1 (.cells 2 [.int .i64 aL0.Sections, .lit l1 aL0.Counters.length ((flatL 0) aL0.Counters)])] ∧ S' = ⟨hav [(3, .ptr b1 0), (4, .ptr b2 0), (5, .ptr b3 0), (6, .ptr b4 0), (7, .ptr b15 0), (8, .int .i64 (0:Int)), (29, .int .i64 aE2.Op), (30, .bool x35)] J, G⟩) ?_ ?_
        · refine wpL_sq (wpL_rg ?_)
          refine pBi ?_
          refine pA (.bool _) ?_
          refine pE (gn ?_)
          refine wpL_cd (b := (aE2.Op == (1:Int))) (fun hb => ?_) (fun hb => ?_)
          · replace hk := ct hb hk
            refine wpL_sk (gn ?_)
            exact ⟨(aE2.Op == (1:Int)), _, _, hk, hO, St.hav _ ⟨rfl, rfl, rfl, rfl, rfl, rfl, rfl, rfl, trivial⟩⟩
          · replace hk := cf hb hk
            refine wpL_rg ?_
            refine pBi ?_
            refine pA (.bool _) ?_
            refine pE (gn ?_)
            exact ⟨(aE2.Op == (2:Int)), _, _, hk, hO, St.hav _ ⟨rfl, rfl, rfl, rfl, rfl, rfl, rfl, rfl, trivial⟩⟩
        · rintro _ ⟨x35, J, G, hk, hO, rfl⟩
          refine wpL_cd (b := x35) (fun hb => ?_) (fun hb => ?_)
          · replace hk := ct hb hk
            refine wpL_sq (wpL_rg ?_)
            refine pF tF30_1 ?_
            refine pLo hO 6 (.lit _ _ _) tA28 ?_
            refine pF tF113_1 ?_
            refine pLo hO 4 (.int _ _) tA3 ?_
            obtain ⟨c36, hc36, hk⟩ := bs hk
            refine pX hc36 tE28 tZ184 ?_
            refine pLp (.agg [_, _]) (rd2 (lm := 0) (off := 0) hc36 tA184 tZ184) ?_
            refine pNew hO tZ184 t0184 (fun b37 G hO => ?_)
            refine pSt (xs := [_, _]) hO 0 tZ184 rfl (fun G hO => ?_)
            refine pE (gn (wpL_sq (wpL_sq (wpL_rg ?_))))
            refine pF tF40_2 ?_
            refine pLo hO 6 (.lit _ _ _) tA38 ?_
            refine pF tF113_1 ?_
            refine pLo hO 5 (.int _ _) tA3 ?_
            obtain ⟨c38, hc38, hk⟩ := bs hk
            refine pX hc38 tE38 tZ4 ?_
            refine pLp (.bool _) (rd1 (lm := 0) (off := 0) hc38 tA4) ?_
            refine pE (gn ?_)
            refine wpL_cd (b := c38) (fun hb => ?_) (fun hb => ?_)
            · replace hk := ct hb hk
              refine wpL_sq (wpL_rg ?_)
              refine pA (.int _ _) ?_
              refine pE (gn (wpL_ex (ge (be (gn ?_)))))
              exact ⟨v8.Ok, v8.Dead, v8.Sections, (2:Int), _, _, hk, (Owns.pick hO [1, 2, 3, 4, 7] (by decide) rfl), St.hav _ ⟨rfl, rfl, rfl, rfl, trivial⟩⟩
            · replace hk := cf hb hk
              refine wpL_sk (gn (wpL_sq (wpL_rg ?_)))
              refine pF tF184_0 ?_
              refine pLo hO 0 (.int _ _) tA3 ?_
              refine pA (.int _ _) ?_
              refine pE (gn (wpL_sq (wpL_rg ?_)))
              refine pF tF184_1 ?_
              refine pLo hO 0 (.int _ _) tA3 ?_
              refine pA (.int _ _) ?_
              refine pE (gn ?_)
              refine wpL_mid (fun S' => ∃ (x39 : Int) (x40 : Int) (J : Nat → V) (G : Heap), f70_k4 aL0 aE2 v8 x39 x40 = some r ∧ Owns H G [.blk b15 (.cells 3 [.bool v8.Ok, u11, u13]), Tree [] Fb11 v8.Dead [u13], Tree [] F11 v8.Sections [u11], .blk b4 (.cells 4 [.int .i64 0, .bool false, (.tl 0 []), (.tl 0 [])]), .blk b3 (.cells 3 [.int .i64 aE2.Op, .int .i64 aE2.Of, .int .i64 aE2.Dir]), .blk b1 (.cells 2 [.int .i64 aL0.Sections, .lit l1 aL0.Counters.length ((flatL 0) aL0.Counters)])] ∧ S' = ⟨hav [(3, .ptr b1 0), (5, .ptr b3 0), (6, .ptr b4 0), (7, .ptr b15 0), (8, .int .i64 (0:Int)), (10, .int .i64 x39), (11, .int .i64 x40)] J, G⟩) ?_ ?_
              · refine wpL_sq (wpL_rg ?_)
                refine pF tF113_2 ?_
                refine pLo hO 5 (.int _ _) tA3 ?_
                refine pBi ?_
                refine pE (gn ?_)
                refine wpL_cd (b := decide (aE2.Dir < (0:Int))) (fun hb => ?_) (fun hb => ?_)
                · replace hk := ct hb hk
                  refine wpL_sq (wpL_rg ?_)
                  refine pF tF184_1 ?_
                  refine pLo hO 0 (.int _ _) tA3 ?_
                  refine pA (.int _ _) ?_
                  refine pE (gn (wpL_rg ?_))
                  refine pF tF184_0 ?_
                  refine pLo hO 0 (.int _ _) tA3 ?_
                  refine pA (.int _ _) ?_
                  refine pE (gn ?_)
                  exact ⟨c36.To, c36.From, _, _, hk, (Owns.pick hO [1, 2, 3, 4, 5, 7] (by decide) rfl), St.hav _ ⟨rfl, rfl, rfl, rfl, rfl, rfl, rfl, trivial⟩⟩
                · replace hk := cf hb hk
                  refine wpL_sk (gn ?_)
                  exact ⟨c36.From, c36.To, _, _, hk, (Owns.pick hO [1, 2, 3, 4, 5, 7] (by decide) rfl), St.hav _ ⟨rfl, rfl, rfl, rfl, rfl, rfl, rfl, trivial⟩⟩
              · rintro _ ⟨x39, x40, J, G, hk, hO, rfl⟩
                refine wpL_mid (fun S' => ∃ (x41 : Bool) (x42 : List Section) (x43 : List Bool) (J : Nat → V) (G : Heap), f70_k5 aL0 x40 x41 x42 x43 = some r ∧ Owns H G [.blk b15 (.cells 3 [.bool x41, u11, u13]), Tree [] F11 x42 [u11], Tree [] Fb11 x43 [u13], .blk b4 (.cells 4 [.int .i64 0, .bool false, (.tl 0 []), (.tl 0 [])]), .blk b1 (.cells 2 [.int .i64 aL0.Sections, .lit l1 aL0.Counters.length ((flatL 0) aL0.Counters)])] ∧ S' = ⟨hav [(3, .ptr b1 0), (6, .ptr b4 0), (7, .ptr b15 0), (8, .int .i64 (0:Int)), (11, .int .i64 x40)] J, G⟩) ?_ ?_
                · refine wpL_sq (wpL_rg ?_)
                  refine pF tF113_0 ?_
                  refine pLo hO 4 (.int _ _) tA3 ?_
                  refine pBi ?_
                  refine pE (gn ?_)
                  refine wpL_cd (b := (aE2.Op == (1:Int))) (fun hb => ?_) (fun hb => ?_)
                  · replace hk := ct hb hk
                    refine wpL_rg ?_
                    refine pM (.int _ _) ?_
                    replace hO := (Owns.pick hO [0, 2, 1, 3, 4, 5] (by decide) rfl : Owns H G ([.blk b15 (.cells 3 [.bool v8.Ok, u11, u13]), Tree [] F11 v8.Sections [u11], Tree [] Fb11 v8.Dead [u13]] ++ [.blk b4 (.cells 4 [.int .i64 0, .bool false, (.tl 0 []), (.tl 0 [])]), .blk b3 (.cells 3 [.int .i64 aE2.Op, .int .i64 aE2.Of, .int .i64 aE2.Dir]), .blk b1 (.cells 2 [.int .i64 aL0.Sections, .lit l1 aL0.Counters.length ((flatL 0) aL0.Counters)])]))
                    obtain ⟨z45, hz45, hk⟩ := bs hk
                    refine pCPd (rs0 := [.blk b15 (.cells 3 [.bool v8.Ok, u11, u13]), Tree [] F11 v8.Sections [u11], Tree [] Fb11 v8.Dead [u13]]) (rs0' := [.blk b15 (.cells 3 [.bool z45.Ok, u11, u13]), Tree [] F11 z45.Sections [u11], Tree [] Fb11 z45.Dead [u13]]) (rest := [.blk b4 (.cells 4 [.int .i64 0, .bool false, (.tl 0 []), (.tl 0 [])]), .blk b3 (.cells 3 [.int .i64 aE2.Op, .int .i64 aE2.Of, .int .i64 aE2.Dir]), .blk b1 (.cells 2 [.int .i64 aL0.Sections, .lit l1 aL0.Counters.length ((flatL 0) aL0.Counters)])]) (S := (b15 :: (F11 ++ (Fb11 ++ [])))) hO hlo (nums_S rfl) (nums_S' rfl) (Owns.lo hO) (fun hlt1 hun1 ho1 => f186_run hz45 ho1 hun1 hlt1) (fun G hO => ?_)
                    refine pE (gn ?_)
                    exact ⟨z45.Ok, z45.Sections, z45.Dead, _, _, hk, (Owns.pick hO [0, 1, 2, 3, 5] (by decide) rfl), St.hav _ ⟨rfl, rfl, rfl, rfl, rfl, trivial⟩⟩
                  · replace hk := cf hb hk
                    refine wpL_sk (gn ?_)
                    exact ⟨v8.Ok, v8.Sections, v8.Dead, _, _, hk, (Owns.pick hO [0, 2, 1, 3, 5] (by decide) rfl), St.hav _ ⟨rfl, rfl, rfl, rfl, rfl, trivial⟩⟩
                · rintro _ ⟨x41, x42, x43, J, G, hk, hO, rfl⟩
                  refine wpL_rg ?_
                  refine pM (.int _ _) ?_
                  replace hO := (Owns.pick hO [0, 1, 2, 3, 4] (by decide) rfl : Owns H G ([.blk b15 (.cells 3 [.bool x41, u11, u13]), Tree [] F11 x42 [u11], Tree [] Fb11 x43 [u13]] ++ [.blk b4 (.cells 4 [.int .i64 0, .bool false, (.tl 0 []), (.tl 0 [])]), .blk b1 (.cells 2 [.int .i64 aL0.Sections, .lit l1 aL0.Counters.length ((flatL 0) aL0.Counters)])]))
                  obtain ⟨z44, hz44, hk⟩ := bs hk
                  refine pCPd (rs0 := [.blk b15 (.cells 3 [.bool x41, u11, u13]), Tree [] F11 x42 [u11], Tree [] Fb11 x43 [u13]]) (rs0' := [.blk b15 (.cells 3 [.bool z44.Ok, u11, u13]), Tree [] F11 z44.Sections [u11], Tree [] Fb11 z44.Dead [u13]]) (rest := [.blk b4 (.cells 4 [.int .i64 0, .bool false, (.tl 0 []), (.tl 0 [])]), .blk b1 (.cells 2 [.int .i64 aL0.Sections, .lit l1 aL0.Counters.length ((flatL 0) aL0.Counters)])]) (S := (b15 :: (F11 ++ (Fb11 ++ [])))) hO hlo (nums_S rfl) (nums_S' rfl) (Owns.lo hO) (fun hlt1 hun1 ho1 => f186_run hz44 ho1 hun1 hlt1) (fun G hO => ?_)
                  refine pE (bn (gn ?_))
                  exact ⟨z44.Ok, z44.Dead, z44.Sections, (0:Int), _, _, hk, (Owns.pick hO [0, 2, 1, 3, 4] (by decide) rfl), St.hav _ ⟨rfl, rfl, rfl, rfl, trivial⟩⟩
          · replace hk := cf hb hk
            refine wpL_sq (wpL_rg ?_)
            refine pBi ?_
            refine pA (.bool _) ?_
            refine pE (gn ?_)
            refine wpL_cd (b := (aE2.Op == (3:Int))) (fun hb => ?_) (fun hb => ?_)
            · replace hk := ct hb hk
              refine wpL_sq (wpL_rg ?_)
              refine pF tF40_2 ?_
              refine pLo hO 0 u13 tA38 ?_
              refine pF tF113_1 ?_
              refine pLo hO 4 (.int _ _) tA3 ?_
              obtain ⟨c46, hc46, hk⟩ := bs hk
              refine pXT hO 1 hc46 tE38 tZ4 (fun b47 hb47 => ?_)
              refine pSTo (Foc.all (α := Bool)) (y' := true) hO 1 hb47 hc46 tZ4 (fun _ => ⟨rfl, rfl⟩) rfl (fun G hO => ?_)
              have hc_48 := getI_set hc46 true
              have hv_48 := sl_set (j := aE2.Of.toNat) (y := true) hb47
              refine pE (gn (wpL_sq ?_))
              refine wpL_drw [(0, true), (1, true), (2, true), (3, true), (4, true), (5, true), (6, true), (7, true), (8, true), (9, true), (10, true), (11, true), (12, true), (13, true), (14, false), (15, false), (16, true)] [_, _, _, _, _, _, _, _, _, _, _, _, _, _, _, _, _] (by decide +kernel) (by rfl) ?_
              refine pF tF30_1 ?_
              refine pLo hO 6 (.lit _ _ _) tA28 ?_
              refine pF tF113_1 ?_
              refine pLo hO 4 (.int _ _) tA3 ?_
              obtain ⟨c49, hc49, hk⟩ := bs hk
              refine pX hc49 tE28 tZ184 ?_
              refine pF tF184_0 ?_
              refine pLp (.int _ _) (rd1 (lm := 0) (off := 0) hc49 tA3) ?_
              refine pF tF30_1 ?_
              refine pLo hO 6 (.lit _ _ _) tA28 ?_
              refine pF tF113_1 ?_
              refine pLo hO 4 (.int _ _) tA3 ?_
              obtain ⟨c50, hc50, hk⟩ := bs hk
              refine pX hc50 tE28 tZ184 ?_
              refine pF tF184_1 ?_
              refine pLp (.int _ _) (rd1 (lm := 0) (off := 1) hc50 tA3) ?_
              refine pBs (ps := [(0, (.int _ _)), (1, (.int _ _))]) ([c49.From, c50.To] : List Int) tE26 tZ3 t03 (emb_cons (embx_int _ _) (emb_cons (embx_int _ _) (emb_nil))) ?_
              refine pLenO (bears_tl ([c49.From, c50.To] : List Int)) tS26 ?_
              refine pM (.int _ _) ?_
              refine pE (gn (wpL_bl ?_))
              refine wpL_loopO (F := f70_L6 aL0 aE2 v8 c49 c50) (fun s S' => ∃ (J : Nat → V) (G : Heap), Owns H G [.blk b15 (.cells 3 [.bool v8.Ok, u11, u13]), Tree [] Fb11 (v8.Dead.set aE2.Of.toNat true) [u13], Tree [] F11 s.1 [u11], .blk b4 (.cells 4 [.int .i64 0, .bool false, (.tl 0 []), (.tl 0 [])]), .blk b1 (.cells 2 [.int .i64 aL0.Sections, .lit l1 aL0.Counters.length ((flatL 0) aL0.Counters)])] ∧ S' = ⟨hav [(3, .ptr b1 0), (6, .ptr b4 0), (7, .ptr b15 0), (8, .int .i64 (0:Int)), (84, (.tl 2 ((flatL 0) ([c49.From, c50.To] : List Int)))), (85, .int .i64 (([c49.From, c50.To] : List Int).length : Int)), (86, .int .i64 s.2)] J, G⟩) hk ⟨_, _, (Owns.pick hO [0, 1, 2, 3, 6] (by decide) rfl), St.hav _ ⟨rfl, rfl, rfl, rfl, rfl, rfl, rfl, trivial⟩⟩ ?_
              rintro ⟨x51, x52⟩ _ y1 ⟨J, G, hO, rfl⟩ hk hx1
              refine wpL_sq (wpL_rg ?_)
              refine pBi ?_
              refine pE (gn (wpL_sq ?_))
              refine wpL_cd (b := decide (x52 < (([c49.From, c50.To] : List Int).length : Int))) (fun hb => ?_) (fun hb => ?_)
              · replace hk := ct hb hk
                refine wpL_sk (gn ?_)
                refine wpL_mid (fun S' => ∃ (x53 : List Section) (J : Nat → V) (G : Heap), f70_k7 x52 x53 = some y1 ∧ Owns H G [.blk b15 (.cells 3 [.bool v8.Ok, u11, u13]), Tree [] Fb11 (v8.Dead.set aE2.Of.toNat true) [u13], Tree [] F11 x53 [u11], .blk b4 (.cells 4 [.int .i64 0, .bool false, (.tl 0 []), (.tl 0 [])]), .blk b1 (.cells 2 [.int .i64 aL0.Sections, .lit l1 aL0.Counters.length ((flatL 0) aL0.Counters)])] ∧ S' = ⟨hav [(3, .ptr b1 0), (6, .ptr b4 0), (7, .ptr b15 0), (8, .int .i64 (0:Int)), (84, (.tl 2 ((flatL 0) ([c49.From, c50.To] : List Int)))), (85, .int .i64 (([c49.From, c50.To] : List Int).length : Int)), (86, .int .i64 x52)] J, G⟩) ?_ ?_
                · refine wpL_bl (wpL_sq (wpL_rg ?_))
                  obtain ⟨c54, hc54, hk⟩ := bs hk
                  refine pXt hc54 tE26 tZ3 ?_
                  refine pLp (.int _ _) (rd1 (lm := 0) (off := 0) hc54 tA3) ?_
                  refine pA (.int _ _) ?_
                  refine pE (gn (wpL_sq (wpL_rg ?_)))
                  refine pM (.int _ _) ?_
                  refine pBi ?_
                  refine pE (gn ?_)
                  refine wpL_cd (b := decide (c54 ≥ (0:Int))) (fun hb => ?_) (fun hb => ?_)
                  · replace hk := ct hb hk
                    refine wpL_rg ?_
                    refine pF tF40_1 ?_
                    refine pLo hO 0 u11 tA37 ?_
                    refine pM (.int _ _) ?_
                    obtain ⟨c55, hc55, hk⟩ := bs hk
                    refine pXT hO 2 hc55 tE37 tZ233 (fun b56 hb56 => ?_)
                    refine pF tF233_2 ?_
                    refine pSTo foc_Section_Lost (y' := true) hO 2 hb56 hc55 tZ4 (fun _ => ⟨rfl, rfl⟩) rfl (fun G hO => ?_)
                    have hc_57 := getI_set hc55 ({ c55 with Lost := true } : Section)
                    have hv_57 := sl_set (j := c54.toNat) (y := ({ c55 with Lost := true } : Section)) hb56
                    refine pE (bn (gn ?_))
                    exact ⟨x51.set c54.toNat ({ c55 with Lost := true }), _, _, hk, hO, St.hav _ ⟨rfl, rfl, rfl, rfl, rfl, rfl, rfl, trivial⟩⟩
                  · replace hk := cf hb hk
                    refine wpL_sk (bn (gn ?_))
                    exact ⟨x51, _, _, hk, hO, St.hav _ ⟨rfl, rfl, rfl, rfl, rfl, rfl, rfl, trivial⟩⟩
                · rintro _ ⟨x53, J, G, hk, hO, rfl⟩
                  refine wpL_rg ?_
                  refine pBi ?_
                  refine pM (.int _ _) ?_
                  refine pE (gn ?_)
                  cases hk; exact ⟨_, rfl, _, _, hO, St.hav _ ⟨rfl, rfl, rfl, rfl, rfl, rfl, rfl, trivial⟩⟩
              · replace hk := cf hb hk
                refine wpL_ex (ge (ge (be (bn (gn ?_)))))
                replace hk := lx hx1 hk
                exact ⟨v8.Ok, v8.Dead.set aE2.Of.toNat true, x51, (0:Int), _, _, hk, hO, St.hav _ ⟨rfl, rfl, rfl, rfl, trivial⟩⟩
            · replace hk := cf hb hk
              refine wpL_sq (wpL_rg ?_)
              refine pBi ?_
              refine pA (.bool _) ?_
              refine pE (gn ?_)
              refine wpL_cd (b := (aE2.Op == (4:Int))) (fun hb => ?_) (fun hb => ?_)
              · replace hk := ct hb hk
                refine wpL_rg ?_
                refine pF tF40_2 ?_
                refine pLo hO 0 u13 tA38 ?_
                refine pF tF113_1 ?_
                refine pLo hO 4 (.int _ _) tA3 ?_
                obtain ⟨c58, hc58, hk⟩ := bs hk
                refine pXT hO 1 hc58 tE38 tZ4 (fun b59 hb59 => ?_)
                refine pSTo (Foc.all (α := Bool)) (y' := false) hO 1 hb59 hc58 tZ4 (fun _ => ⟨rfl, rfl⟩) rfl (fun G hO => ?_)
                have hc_60 := getI_set hc58 false
                have hv_60 := sl_set (j := aE2.Of.toNat) (y := false) hb59
                refine pE (bn (gn ?_))
                exact ⟨v8.Ok, v8.Dead.set aE2.Of.toNat false, v8.Sections, (0:Int), _, _, hk, (Owns.pick hO [0, 1, 2, 3, 6] (by decide) rfl), St.hav _ ⟨rfl, rfl, rfl, rfl, trivial⟩⟩
              · replace hk := cf hb hk
                refine wpL_sq (wpL_rg ?_)
                refine pBi ?_
                refine pA (.bool _) ?_
                refine pE (gn ?_)
                refine wpL_cd (b := (aE2.Op == (5:Int))) (fun hb => ?_) (fun hb => ?_)
                · replace hk := ct hb hk
                  refine wpL_sq (wpL_sq (wpL_rg ?_))
                  refine pLs hO 6 [_, _] tA30 tZ30 ?_
                  refine pF tF40_2 ?_
                  refine pLo hO 5 (.lit _ _ _) tA38 ?_
                  refine pF tF113_1 ?_
                  refine pLo hO 4 (.int _ _) tA3 ?_
                  obtain ⟨v61, hv61, hk⟩ := bs hk
                  refine pCall (fun _ => f187_run hv61) ?_
                  refine pE (gn ?_)
                  refine wpL_cd (b := v61) (fun hb => ?_) (fun hb => ?_)
                  · replace hk := ct hb hk
                    refine wpL_sq (wpL_rg ?_)
                    refine pA (.int _ _) ?_
                    refine pE (gn (wpL_ex (ge (be (gn ?_)))))
                    exact ⟨v8.Ok, v8.Dead, v8.Sections, (3:Int), _, _, hk, (Owns.pick hO [0, 1, 2, 3, 6] (by decide) rfl), St.hav _ ⟨rfl, rfl, rfl, rfl, trivial⟩⟩
                  · replace hk := cf hb hk
                    refine wpL_sk (gn (wpL_sq (wpL_sq (wpL_rg ?_))))
                    refine pF tF40_1 ?_
                    refine pLo hO 5 (.lit _ _ _) tA37 ?_
                    refine pF tF113_1 ?_
                    refine pLo hO 4 (.int _ _) tA3 ?_
                    obtain ⟨c62, hc62, hk⟩ := bs hk
                    refine pX hc62 tE37 tZ233 ?_
                    refine pF tF233_4 ?_
                    refine pLp (.int _ _) (rd1 (lm := 0) (off := 4) hc62 tA3) ?_
                    refine pBi ?_
                    refine pE (gn ?_)
                    refine wpL_cd (b := decide (c62.Last > (0:Int))) (fun hb => ?_) (fun hb => ?_)
                    · replace hk := ct hb hk
                      refine wpL_sq (wpL_rg ?_)
                      refine pA (.int _ _) ?_
                      refine pE (gn (wpL_ex (ge (be (gn ?_)))))
                      exact ⟨v8.Ok, v8.Dead, v8.Sections, (4:Int), _, _, hk, (Owns.pick hO [0, 1, 2, 3, 6] (by decide) rfl), St.hav _ ⟨rfl, rfl, rfl, rfl, trivial⟩⟩
                    · replace hk := cf hb hk
                      refine wpL_sk (gn (wpL_rg ?_))
                      refine pF tF40_1 ?_
                      refine pLo hO 0 u11 tA37 ?_
                      refine pF tF113_1 ?_
                      refine pLo hO 4 (.int _ _) tA3 ?_
                      refine pBd [_, _, _, _, _] t0233 tP233 ?_
                      obtain ⟨c63, hc63, hk⟩ := bs hk
                      refine pXT hO 2 hc63 tE37 tZ233 (fun b64 hb64 => ?_)
                      refine pSTg (Foc.all (α := Section)) (({ Told := 0, Count := 0, Lost := false, Sweep := true, Last := 0 } : Section) : Section) hO 2 hb64 hc63 tZ233 rfl (fun G hO => ?_)
                      have hc_65 := getI_set hc63 ({ Told := 0, Count := 0, Lost := false, Sweep := true, Last := 0 } : Section)
                      have hv_65 := sl_set (j := aE2.Of.toNat) (y := ({ Told := 0, Count := 0, Lost := false, Sweep := true, Last := 0 } : Section)) hb64
                      refine pE (bn (gn ?_))
                      exact ⟨v8.Ok, v8.Dead, v8.Sections.set aE2.Of.toNat ({ Told := 0, Count := 0, Lost := false, Sweep := true, Last := 0 } : Section), (0:Int), _, _, hk, (Owns.pick hO [0, 1, 2, 3, 6] (by decide) rfl), St.hav _ ⟨rfl, rfl, rfl, rfl, trivial⟩⟩
                · replace hk := cf hb hk
                  refine wpL_sk (bn (gn ?_))
                  exact ⟨v8.Ok, v8.Dead, v8.Sections, (0:Int), _, _, hk, (Owns.pick hO [0, 1, 2, 3, 6] (by decide) rfl), St.hav _ ⟨rfl, rfl, rfl, rfl, trivial⟩⟩
      · rintro _ ⟨x18, x19, x20, x21, J, G, hk, hO, rfl⟩
        refine wpL_sq (wpL_sq (wpL_rg ?_))
        refine pF tF40_1 ?_
        refine pLo hO 0 u11 tA37 ?_
        refine pLenT hO 2 tS37 ?_
        refine pM (.int _ _) ?_
        refine pE (gn (wpL_bl ?_))
        refine wpL_loopO (F := f70_L2 aL0 x18 x19 x20 x21) (fun s S' => ∃ (J : Nat → V) (G : Heap), Owns H G [.blk b15 (.cells 3 [.bool x18, u11, u13]), Tree [] Fb11 x19 [u13], Tree [] F11 s.1 [u11], .blk b4 (.cells 4 [.int .i64 0, .bool false, (.tl 0 []), (.tl 0 [])]), .blk b1 (.cells 2 [.int .i64 aL0.Sections, .lit l1 aL0.Counters.length ((flatL 0) aL0.Counters)])] ∧ S' = ⟨hav [(3, .ptr b1 0), (6, .ptr b4 0), (7, .ptr b15 0), (8, .int .i64 x21), (129, .int .i64 (x20.length : Int)), (130, .int .i64 s.2)] J, G⟩) hk ⟨_, _, hO, St.hav _ ⟨rfl, rfl, rfl, rfl, rfl, rfl, trivial⟩⟩ ?_
        rintro ⟨x22, x23⟩ _ y1 ⟨J, G, hO, rfl⟩ hk hx1
        refine wpL_sq (wpL_rg ?_)
        refine pBi ?_
        refine pE (gn (wpL_sq ?_))
        refine wpL_cd (b := decide (x23 < (x20.length : Int))) (fun hb => ?_) (fun hb => ?_)
        · replace hk := ct hb hk
          refine wpL_sk (gn (wpL_sq (wpL_bl (wpL_sq (wpL_rg ?_)))))
          refine pM (.int _ _) ?_
          refine pA (.int _ _) ?_
          refine pE (gn ?_)
          refine wpL_drw [(0, true), (1, true), (2, true), (3, true), (4, true), (5, true), (6, true), (7, true), (8, true), (9, true), (10, true), (11, true), (12, true), (13, false), (14, false), (15, false)] [_, _, _, _, _, _, _, _, _, _, _, _, _, _, _, _] (by decide +kernel) (by rfl) ?_
          refine pF tF40_1 ?_
          refine pLo hO 0 u11 tA37 ?_
          refine pM (.int _ _) ?_
          refine pLs hO 4 [_, _] tA30 tZ30 ?_
          refine pF tF40_2 ?_
          refine pLo hO 0 u13 tA38 ?_
          refine pM (.int _ _) ?_
          refine pF tF40_1 ?_
          refine pLo hO 0 u11 tA37 ?_
          refine pM (.int _ _) ?_
          obtain ⟨c24, hc24, hk⟩ := bs hk
          refine pXT hO 2 hc24 tE37 tZ233 (fun b25 hb25 => ?_)
          refine pLTg (Foc.all (α := Section)) [_, _, _, _, _] hO 2 hb25 hc24 tA233 tZ233 ?_
          obtain ⟨v26, hv26, hk⟩ := bs hk
          obtain ⟨_, hm27⟩ := ld_trF hO (j := 1) rfl (lk.length + 1) 8
          refine pCall (vs := [(.agg [_, _]), u13, (.int _ _), (.agg [_, _, _, _, _])]) (caps := []) (fun _ => f188_run hv26) ?_ (h3 := (la_cons rfl (la_cons hm27 (la_cons rfl (la_cons rfl la_nil)))))
          obtain ⟨c28, hc28, hk⟩ := bs hk
          refine pXT hO 2 hc28 tE37 tZ233 (fun b29 hb29 => ?_)
          refine pF tF233_0 ?_
          refine pSTo foc_Section_Told (y' := v26) hO 2 hb29 hc28 tZ3 (fun _ => ⟨rfl, rfl⟩) rfl (fun G hO => ?_)
          have hc_30 := getI_set hc28 ({ c28 with Told := v26 } : Section)
          have hv_30 := sl_set (j := x23.toNat) (y := ({ c28 with Told := v26 } : Section)) hb29
          refine pE (bn (gn (wpL_rg ?_)))
          refine pBi ?_
          refine pM (.int _ _) ?_
          refine pE (gn ?_)
          cases hk; exact ⟨_, rfl, _, _, hO, St.hav _ ⟨rfl, rfl, rfl, rfl, rfl, rfl, trivial⟩⟩
        · replace hk := cf hb hk
          refine wpL_ex (ge (ge (be (gn ?_))))
          replace hk := lx hx1 hk
          refine wpL_sq (wpL_rg ?_)
          refine pM (.int _ _) ?_
          refine pLs hO 0 [_, _, _] tA40 tZ40 ?_
          have hc31 := tl_cells hO (j := 2) rfl
          have hc32 := tl_cells hO (j := 1) rfl
          refine pBd [.int .i64 x21, .bool x18, u11, u13] t0110 tP110 ?_ (ps := [(0, .int .i64 x21), (1, .agg [.bool x18, u11, u13])]) (h2 := (partsK_cons (i := 0) (off := 0) (sz := 1) (v := .int .i64 x21) (ce := [.int .i64 x21]) rfl (all_c rfl all_n) (partsK_cons (i := 1) (off := 1) (sz := 3) (v := .agg [.bool x18, u11, u13]) (ce := [.bool x18, u11, u13]) rfl (all_c rfl (all_c hc31.2 (all_c hc32.2 all_n))) rfl)))
          have hc33 := tl_cells hO (j := 2) rfl
          have hc34 := tl_cells hO (j := 1) rfl
          refine pSt (xs := [_, _, _, _]) hO 3 tZ110 rfl (fun G hO => ?_) (h6 := (all_c rfl (all_c rfl (all_c hc33.2 (all_c hc34.2 all_n)))))
          refine pE (gn (wpL_rt ?_))
          replace hk := Option.some.inj hk; subst hk; exact finThS hO (th_CountDone (x := ({ Code := x21, State := ({ Ok := x18, Sections := x22, Dead := x19 } : CountState) } : CountDone)) (th_pair (c1 := [_]) (th_int x21) (th_CountState (x := ({ Ok := x18, Sections := x22, Dead := x19 } : CountState)) (th_pair (c1 := [_]) (th_bool x18) (th_pair (c1 := [_]) (th_tree (x := x22) 2) (th_tree (x := x19) 1)))))) (resS hO 3 [_, _, _, _] tA110 tZ110 resN)
/-- impl.LayoutOk$1 -/
def f250 (aX0 : Int) (aA1 : Layout) : Option Bool :=
  some (decide (aX0 ≥ (-1:Int)) && decide (aX0 < aA1.Sections))
theorem f250_run {aX0 : Int} {aA1 : Layout} {r : Bool} {l1 : Nat} {H : Heap} {lk : Lk} {q0 : Nat} (hk : f250 aX0 aA1 = some r) (hq0 : H[q0]? = some (.cells 2 [.int .i64 aA1.Sections, .lit l1 aA1.Counters.length ((flatL 0) aA1.Counters)])) (hlk : 0 < lk.length := by simp) : runL Try.prog hh 250 [.int .i64 aX0, .ptr q0 0] H lk = some (.bool r, H) := by
  refine run_start Try.func250 rfl Try.ntmps250 Try.results250 rfl rfl fun hO => ?_
  unfold f250 at hk
  refine wpL_sq (wpL_rg ?_)
  refine pA (.bool _) ?_
  refine pE (gn (wpL_sq (wpL_rg ?_)))
  refine pM (.int _ _) ?_
  refine pBi ?_
  refine pM (.bool _) ?_
  refine wpR_mid (l1 := [_, _, _, _, _]) (fun S' => ∃ J, S' = ⟨hav [(11, .bool (decide (aX0 ≥ (-1:Int)) && decide (aX0 < aA1.Sections)))] J, H⟩) ?_ ?_
  · refine bc (b := decide (aX0 ≥ (-1:Int))) (fun hg1 => ?_) (fun hg1 => ?_)
    · refine pGy hg1 ?_
      refine pM (.int _ _) ?_
      refine pGy hg1 ?_
      refine pF tF30_0 ?_
      refine pGy hg1 ?_
      refine pLf (.int _ _) hO hq0 tA3 ?_
      refine pGy hg1 ?_
      refine pBi ?_
      refine pPt hg1 (.bool _) ?_
      exact pE ⟨_, St.hav _ ⟨by rw [hg1]; rfl, trivial⟩⟩
    · refine pGn hg1 ?_
      refine pGn hg1 ?_
      refine pGn hg1 ?_
      refine pGn hg1 ?_
      refine pPf hg1 (.bool _) ?_
      exact pE ⟨_, St.hav _ ⟨by rw [hg1]; rfl, trivial⟩⟩
  · rintro _ ⟨J, rfl⟩
    refine pA (.bool _) ?_
    refine pE (gn (wpL_rt ?_))
    replace hk := Option.some.inj hk; subst hk; exact fin0 hO
/-- impl.LayoutOk -/
def f129_L1 (aL0 : Layout) : Int → Option (Int ⊕ Int) := fun s =>
  (bif decide (s < (aL0.Counters.length : Int)) then ((getI aL0.Counters s).bind fun c3 => ((f250 c3.From aL0).bind fun v5 => ((bif !v5 then some true else ((f250 c3.To aL0).bind fun v7 => some (!v7))).bind fun t6 => (bif (t6 || (c3.From == c3.To)) then ((some (2:Int)).map Sum.inr) else some (.inl (w64 (s + (1:Int)))))))) else ((some (0:Int)).map Sum.inr))
def f129 (aL0 : Layout) : Option Int :=
  (bif ((decide (aL0.Sections < (1:Int)) || decide (aL0.Sections > (60:Int))) || decide ((aL0.Counters.length : Int) > (120:Int))) then some (1:Int) else (loopO (f129_L1 aL0) ((0:Int))))
theorem f129_run {aL0 : Layout} {r : Int} {l1 : Nat} {H : Heap} {lk : Lk} (hk : f129 aL0 = some r) (hlk : 0 < lk.length := by simp) : runL Try.prog hh 129 [.agg [.int .i64 aL0.Sections, .lit l1 aL0.Counters.length ((flatL 0) aL0.Counters)]] H lk = some (.int .i64 r, H) := by
  refine run_start Try.func129 rfl Try.ntmps129 Try.results129 rfl rfl fun hO => ?_
  unfold f129 at hk
  refine wpL_sq (wpL_rg ?_)
  refine pBox (cs := [_, _]) hO tZ30 (fun b1 G hO => ?_)
  refine pA (.int _ _) ?_
  refine pE (gn (wpL_sq (wpL_sq (wpL_rg ?_))))
  refine pF tF30_0 ?_
  refine pLo hO 0 (.int _ _) tA3 ?_
  refine pBi ?_
  refine pM (.bool _) ?_
  refine wpR_mid (l1 := [_, _, _, _]) (fun S' => ∃ J, S' = ⟨hav [(1, .ptr b1 0), (13, .bool (decide (aL0.Sections < (1:Int)) || decide (aL0.Sections > (60:Int))))] J, G⟩) ?_ ?_
  · refine bc (b := decide (aL0.Sections < (1:Int))) (fun hg1 => ?_) (fun hg1 => ?_)
    · refine pGn hg1 ?_
      refine pGn hg1 ?_
      refine pGn hg1 ?_
      refine pPt hg1 (.bool _) ?_
      exact pE ⟨_, St.hav _ ⟨rfl, by rw [hg1]; rfl, trivial⟩⟩
    · refine pGy hg1 ?_
      refine pF tF30_0 ?_
      refine pGy hg1 ?_
      refine pLo hO 0 (.int _ _) tA3 ?_
      refine pGy hg1 ?_
      refine pBi ?_
      refine pPf hg1 (.bool _) ?_
      exact pE ⟨_, St.hav _ ⟨rfl, by rw [hg1]; rfl, trivial⟩⟩
  · rintro _ ⟨J, rfl⟩
    refine pM (.bool _) ?_
    refine wpR_mid (l1 := [_, _, _, _, _]) (fun S' => ∃ J, S' = ⟨hav [(1, .ptr b1 0), (19, .bool ((decide (aL0.Sections < (1:Int)) || decide (aL0.Sections > (60:Int))) || decide ((aL0.Counters.length : Int) > (120:Int))))] J, G⟩) ?_ ?_
    · refine bc (b := (decide (aL0.Sections < (1:Int)) || decide (aL0.Sections > (60:Int)))) (fun hg1 => ?_) (fun hg1 => ?_)
      · refine pGn hg1 ?_
        refine pGn hg1 ?_
        refine pGn hg1 ?_
        refine pGn hg1 ?_
        refine pPt hg1 (.bool _) ?_
        exact pE ⟨_, St.hav _ ⟨rfl, by rw [hg1]; rfl, trivial⟩⟩
      · refine pGy hg1 ?_
        refine pF tF30_1 ?_
        refine pGy hg1 ?_
        refine pLo hO 0 (.lit _ _ _) tA28 ?_
        refine pGy hg1 ?_
        refine pLen tS28 ?_
        refine pGy hg1 ?_
        refine pBi ?_
        refine pPf hg1 (.bool _) ?_
        exact pE ⟨_, St.hav _ ⟨rfl, by rw [hg1]; rfl, trivial⟩⟩
    · rintro _ ⟨J, rfl⟩
      refine pE (gn ?_)
      refine wpL_cd (b := ((decide (aL0.Sections < (1:Int)) || decide (aL0.Sections > (60:Int))) || decide ((aL0.Counters.length : Int) > (120:Int)))) (fun hb => ?_) (fun hb => ?_)
      · replace hk := ct hb hk
        refine wpL_sq (wpL_rg ?_)
        refine pA (.int _ _) ?_
        refine pE (gn (wpL_rt (gr ?_)))
        replace hk := Option.some.inj hk; subst hk; exact fin0 hO
      · replace hk := cf hb hk
        refine wpL_sk (gn (wpL_sq (wpL_rg ?_)))
        refine pFn (vs := [_]) ?_
        refine pA (.fn _ _) ?_
        refine pE (gn (wpL_sq (wpL_sq (wpL_rg ?_))))
        refine pF tF30_1 ?_
        refine pLo hO 0 (.lit _ _ _) tA28 ?_
        refine pLen tS28 ?_
        refine pM (.int _ _) ?_
        refine pE (gn (wpL_bl ?_))
        refine wpL_loopO (F := f129_L1 aL0) (fun s S' => ∃ (J : Nat → V) (G : Heap), Owns H G [.blk b1 (.cells 2 [.int .i64 aL0.Sections, .lit l1 aL0.Counters.length ((flatL 0) aL0.Counters)])] ∧ S' = ⟨hav [(3, .fn 250 [.ptr b1 0]), (22, .lit l1 aL0.Counters.length ((flatL 0) aL0.Counters)), (23, .int .i64 (aL0.Counters.length : Int)), (24, .int .i64 s)] J, G⟩) hk ⟨_, _, hO, St.hav _ ⟨rfl, rfl, rfl, rfl, trivial⟩⟩ ?_
        rintro x2 _ y1 ⟨J, G, hO, rfl⟩ hk hx1
        refine wpL_sq (wpL_rg ?_)
        refine pBi ?_
        refine pE (gn (wpL_sq ?_))
        refine wpL_cd (b := decide (x2 < (aL0.Counters.length : Int))) (fun hb => ?_) (fun hb => ?_)
        · replace hk := ct hb hk
          refine wpL_sk (gn (wpL_sq (wpL_bl (wpL_sq (wpL_rg ?_)))))
          obtain ⟨c3, hc3, hk⟩ := bs hk
          refine pX hc3 tE28 tZ184 ?_
          refine pLp (.agg [_, _]) (rd2 (lm := 0) (off := 0) hc3 tA184 tZ184) ?_
          refine pNew hO tZ184 t0184 (fun b4 G hO => ?_)
          refine pSt (xs := [_, _]) hO 0 tZ184 rfl (fun G hO => ?_)
          refine pE (gn (wpL_sq (wpL_rg ?_)))
          refine pM (.fn _ _) ?_
          refine pF tF184_0 ?_
          refine pLo hO 0 (.int _ _) tA3 ?_
          obtain ⟨v5, hv5, hk⟩ := bs hk
          refine pCall (fun _ => f250_run hv5 (hO.get (k := 1) rfl).1) ?_
          refine pU ?_
          refine pM (.bool _) ?_
          obtain ⟨t6, ht, hk⟩ := bs hk
          refine wpR_mid (l1 := [_, _, _, _, _, _]) (fun S' => ∃ J, S' = ⟨hav [(3, .fn 250 [.ptr b1 0]), (5, .ptr b4 0), (22, .lit l1 aL0.Counters.length ((flatL 0) aL0.Counters)), (23, .int .i64 (aL0.Counters.length : Int)), (24, .int .i64 x2), (39, .bool t6)] J, G⟩) ?_ ?_
          · refine bc (b := !v5) (fun hg1 => ?_) (fun hg1 => ?_)
            · replace hk := ct hg1 ht
              refine pGn hg1 ?_
              refine pGn hg1 ?_
              refine pGn hg1 ?_
              refine pGn hg1 ?_
              refine pGn hg1 ?_
              refine pPt hg1 (.bool _) ?_
              cases hk; exact pE ⟨_, St.hav _ ⟨rfl, rfl, rfl, rfl, rfl, rfl, trivial⟩⟩
            · replace hk := cf hg1 ht
              refine pGy hg1 ?_
              refine pM (.fn _ _) ?_
              refine pGy hg1 ?_
              refine pF tF184_1 ?_
              refine pGy hg1 ?_
              refine pLo hO 0 (.int _ _) tA3 ?_
              refine pGy hg1 ?_
              obtain ⟨v7, hv7, hk⟩ := bs hk
              refine pCall (fun _ => f250_run hv7 (hO.get (k := 1) rfl).1) ?_
              refine pGy hg1 ?_
              refine pU ?_
              refine pPf hg1 (.bool _) ?_
              cases hk; exact pE ⟨_, St.hav _ ⟨rfl, rfl, rfl, rfl, rfl, rfl, trivial⟩⟩
          · rintro _ ⟨J, rfl⟩
            refine pM (.bool _) ?_
            refine wpR_mid (l1 := [_, _, _, _, _, _]) (fun S' => ∃ J, S' = ⟨hav [(3, .fn 250 [.ptr b1 0]), (22, .lit l1 aL0.Counters.length ((flatL 0) aL0.Counters)), (23, .int .i64 (aL0.Counters.length : Int)), (24, .int .i64 x2), (46, .bool (t6 || (c3.From == c3.To)))] J, G⟩) ?_ ?_
            · refine bc (b := t6) (fun hg1 => ?_) (fun hg1 => ?_)
              · refine pGn hg1 ?_
                refine pGn hg1 ?_
                refine pGn hg1 ?_
                refine pGn hg1 ?_
                refine pGn hg1 ?_
                refine pPt hg1 (.bool _) ?_
                exact pE ⟨_, St.hav _ ⟨rfl, rfl, rfl, rfl, by rw [hg1]; rfl, trivial⟩⟩
              · refine pGy hg1 ?_
                refine pF tF184_0 ?_
                refine pGy hg1 ?_
                refine pLo hO 0 (.int _ _) tA3 ?_
                refine pGy hg1 ?_
                refine pF tF184_1 ?_
                refine pGy hg1 ?_
                refine pLo hO 0 (.int _ _) tA3 ?_
                refine pGy hg1 ?_
                refine pBi ?_
                refine pPf hg1 (.bool _) ?_
                exact pE ⟨_, St.hav _ ⟨rfl, rfl, rfl, rfl, by rw [hg1]; rfl, trivial⟩⟩
            · rintro _ ⟨J, rfl⟩
              refine pE (gn ?_)
              refine wpL_cd (b := (t6 || (c3.From == c3.To))) (fun hb => ?_) (fun hb => ?_)
              · replace hk := ct hb hk
                refine wpL_sq (wpL_rg ?_)
                refine pA (.int _ _) ?_
                refine pE (gn (wpL_rt (br (gr (gr (br (gr ?_)))))))
                replace hk := lx hx1 hk
                replace hk := Option.some.inj hk; subst hk; exact fin0 hO
              · replace hk := cf hb hk
                refine wpL_sk (bn (gn (wpL_rg ?_)))
                refine pBi ?_
                refine pM (.int _ _) ?_
                refine pE (gn ?_)
                cases hk; exact ⟨_, rfl, _, _, (Owns.pick hO [1] (by decide) rfl), St.hav _ ⟨rfl, rfl, rfl, rfl, trivial⟩⟩
        · replace hk := cf hb hk
          refine wpL_ex (ge (ge (be (gn ?_))))
          replace hk := lx hx1 hk
          refine wpL_sq (wpL_rg ?_)
          refine pA (.int _ _) ?_
          refine pE (gn (wpL_rt ?_))
          replace hk := Option.some.inj hk; subst hk; exact fin0 hO
/-- impl.dead -/
def f277_L1 (aL0 : Layout) (aS1 : CountState) (aSection2 : Int) : Int → Option (Int ⊕ Bool) := fun s =>
  (bif decide (s < (aL0.Counters.length : Int)) then ((getI aL0.Counters s).bind fun c4 => ((getI aS1.Dead s).bind fun c6 => (bif (c6 && ((c4.From == aSection2) || (c4.To == aSection2))) then ((some true).map Sum.inr) else some (.inl (w64 (s + (1:Int))))))) else ((some false).map Sum.inr))
def f277 (aL0 : Layout) (aS1 : CountState) (aSection2 : Int) : Option Bool :=
  (loopO (f277_L1 aL0 aS1 aSection2) ((0:Int)))
theorem f277_run {aL0 : Layout} {aS1 : CountState} {aSection2 : Int} {r : Bool} {l1 l2 l3 : Nat} {H : Heap} {lk : Lk} (hk : f277 aL0 aS1 aSection2 = some r) (hlk : 0 < lk.length := by simp) : runL Try.prog hh 277 [.agg [.int .i64 aL0.Sections, .lit l1 aL0.Counters.length ((flatL 0) aL0.Counters)], .agg [.bool aS1.Ok, .lit l2 aS1.Sections.length ((flatL 0) aS1.Sections), .lit l3 aS1.Dead.length ((flatL 0) aS1.Dead)], .int .i64 aSection2] H lk = some (.bool r, H) := by
  refine run_start Try.func277 rfl Try.ntmps277 Try.results277 rfl rfl fun hO => ?_
  unfold f277 at hk
  refine wpL_sq (wpL_rg ?_)
  refine pBox (cs := [_, _]) hO tZ30 (fun b1 G hO => ?_)
  refine pBox (cs := [_, _, _]) hO tZ40 (fun b2 G hO => ?_)
  refine pA (.bool _) ?_
  refine pE (gn (wpL_sq (wpL_sq (wpL_rg ?_))))
  refine pF tF30_1 ?_
  refine pLo hO 1 (.lit _ _ _) tA28 ?_
  refine pLen tS28 ?_
  refine pM (.int _ _) ?_
  refine pE (gn (wpL_bl ?_))
  refine wpL_loopO (F := f277_L1 aL0 aS1 aSection2) (fun s S' => ∃ (J : Nat → V) (G : Heap), Owns H G [.blk b2 (.cells 3 [.bool aS1.Ok, .lit l2 aS1.Sections.length ((flatL 0) aS1.Sections), .lit l3 aS1.Dead.length ((flatL 0) aS1.Dead)])] ∧ S' = ⟨hav [(2, .int .i64 aSection2), (4, .ptr b2 0), (10, .lit l1 aL0.Counters.length ((flatL 0) aL0.Counters)), (11, .int .i64 (aL0.Counters.length : Int)), (12, .int .i64 s)] J, G⟩) hk ⟨_, _, (Owns.pick hO [0] (by decide) rfl), St.hav _ ⟨rfl, rfl, rfl, rfl, rfl, trivial⟩⟩ ?_
  rintro x3 _ y1 ⟨J, G, hO, rfl⟩ hk hx1
  refine wpL_sq (wpL_rg ?_)
  refine pBi ?_
  refine pE (gn (wpL_sq ?_))
  refine wpL_cd (b := decide (x3 < (aL0.Counters.length : Int))) (fun hb => ?_) (fun hb => ?_)
  · replace hk := ct hb hk
    refine wpL_sk (gn (wpL_sq (wpL_bl (wpL_sq (wpL_rg ?_)))))
    refine pM (.int _ _) ?_
    obtain ⟨c4, hc4, hk⟩ := bs hk
    refine pX hc4 tE28 tZ184 ?_
    refine pLp (.agg [_, _]) (rd2 (lm := 0) (off := 0) hc4 tA184 tZ184) ?_
    refine pNew hO tZ184 t0184 (fun b5 G hO => ?_)
    refine pA (.int _ _) ?_
    refine pSt (xs := [_, _]) hO 0 tZ184 rfl (fun G hO => ?_)
    refine pE (gn (wpL_sq (wpL_rg ?_)))
    refine pF tF40_2 ?_
    refine pLo hO 1 (.lit _ _ _) tA38 ?_
    refine pM (.int _ _) ?_
    obtain ⟨c6, hc6, hk⟩ := bs hk
    refine pX hc6 tE38 tZ4 ?_
    refine pLp (.bool _) (rd1 (lm := 0) (off := 0) hc6 tA4) ?_
    refine pM (.bool _) ?_
    refine wpR_mid (l1 := [_, _, _, _, _, _, _, _, _, _, _]) (fun S' => ∃ J, S' = ⟨hav [(2, .int .i64 aSection2), (4, .ptr b2 0), (10, .lit l1 aL0.Counters.length ((flatL 0) aL0.Counters)), (11, .int .i64 (aL0.Counters.length : Int)), (12, .int .i64 x3), (33, .bool (c6 && ((c4.From == aSection2) || (c4.To == aSection2))))] J, G⟩) ?_ ?_
    · refine bc (b := c6) (fun hg1 => ?_) (fun hg1 => ?_)
      · refine pGy hg1 ?_
        refine pF tF184_0 ?_
        refine pGy hg1 ?_
        refine pLo hO 0 (.int _ _) tA3 ?_
        refine pGy hg1 ?_
        refine pM (.int _ _) ?_
        refine pGy hg1 ?_
        refine pBi ?_
        refine pGy hg1 ?_
        refine pM (.bool _) ?_
        refine wpR_mid (l1 := [_, _, _, _, _]) (fun S' => ∃ J, S' = ⟨hav [(2, .int .i64 aSection2), (4, .ptr b2 0), (10, .lit l1 aL0.Counters.length ((flatL 0) aL0.Counters)), (11, .int .i64 (aL0.Counters.length : Int)), (12, .int .i64 x3), (22, .bool c6), (32, .bool ((c4.From == aSection2) || (c4.To == aSection2)))] J, G⟩) ?_ ?_
        · refine bc (b := (c4.From == aSection2)) (fun hg2 => ?_) (fun hg2 => ?_)
          · refine pGn hg2 ?_
            refine pGn hg2 ?_
            refine pGn hg2 ?_
            refine pGn hg2 ?_
            refine pGy hg1 ?_
            refine pPt hg2 (.bool _) ?_
            exact pE ⟨_, St.hav _ ⟨rfl, rfl, rfl, rfl, rfl, rfl, by rw [hg2]; rfl, trivial⟩⟩
          · refine pGy hg2 ?_
            refine pF tF184_1 ?_
            refine pGy hg2 ?_
            refine pLo hO 0 (.int _ _) tA3 ?_
            refine pGy hg2 ?_
            refine pM (.int _ _) ?_
            refine pGy hg2 ?_
            refine pBi ?_
            refine pGy hg1 ?_
            refine pPf hg2 (.bool _) ?_
            exact pE ⟨_, St.hav _ ⟨rfl, rfl, rfl, rfl, rfl, rfl, by rw [hg2]; rfl, trivial⟩⟩
        · rintro _ ⟨J, rfl⟩
          refine pPt hg1 (.bool _) ?_
          exact pE ⟨_, St.hav _ ⟨rfl, rfl, rfl, rfl, rfl, by rw [hg1]; rfl, trivial⟩⟩
      · refine pGn hg1 ?_
        refine pGn hg1 ?_
        refine pGn hg1 ?_
        refine pGn hg1 ?_
        refine pGn hg1 ?_
        refine pGu ?_
        refine pGu ?_
        refine pGu ?_
        refine pGu ?_
        refine pGn hg1 ?_
        refine pPf hg1 (.bool _) ?_
        exact pE ⟨_, St.hav _ ⟨rfl, rfl, rfl, rfl, rfl, by rw [hg1]; rfl, trivial⟩⟩
    · rintro _ ⟨J, rfl⟩
      refine pE (gn ?_)
      refine wpL_cd (b := (c6 && ((c4.From == aSection2) || (c4.To == aSection2)))) (fun hb => ?_) (fun hb => ?_)
      · replace hk := ct hb hk
        refine wpL_sq (wpL_rg ?_)
        refine pA (.bool _) ?_
        refine pE (gn (wpL_rt (br (gr (gr (br (gr ?_)))))))
        replace hk := lx hx1 hk
        replace hk := Option.some.inj hk; subst hk; exact fin0 hO
      · replace hk := cf hb hk
        refine wpL_sk (bn (gn (wpL_rg ?_)))
        refine pBi ?_
        refine pM (.int _ _) ?_
        refine pE (gn ?_)
        cases hk; exact ⟨_, rfl, _, _, (Owns.pick hO [1] (by decide) rfl), St.hav _ ⟨rfl, rfl, rfl, rfl, rfl, trivial⟩⟩
  · replace hk := cf hb hk
    refine wpL_ex (ge (ge (be (gn ?_))))
    replace hk := lx hx1 hk
    refine wpL_sq (wpL_rg ?_)
    refine pA (.bool _) ?_
    refine pE (gn (wpL_rt ?_))
    replace hk := Option.some.inj hk; subst hk; exact fin0 hO
/-- impl.told -/
def f276 (aL0 : Layout) (aS1 : CountState) (aSection2 : Int) : Option Int :=
  ((getI aS1.Sections aSection2).bind fun c3 => ((f277 aL0 aS1 aSection2).bind fun v5 => (bif v5 then some (3:Int) else (bif (c3.Lost || ((c3.Count != (0:Int)) && !c3.Sweep)) then some (1:Int) else (bif c3.Sweep then some (2:Int) else some (0:Int))))))
theorem f276_run {aL0 : Layout} {aS1 : CountState} {aSection2 : Int} {r : Int} {l1 l2 l3 : Nat} {H : Heap} {lk : Lk} (hk : f276 aL0 aS1 aSection2 = some r) (hlk : 0 < lk.length := by simp) : runL Try.prog hh 276 [.agg [.int .i64 aL0.Sections, .lit l1 aL0.Counters.length ((flatL 0) aL0.Counters)], .agg [.bool aS1.Ok, .lit l2 aS1.Sections.length ((flatL 0) aS1.Sections), .lit l3 aS1.Dead.length ((flatL 0) aS1.Dead)], .int .i64 aSection2] H lk = some (.int .i64 r, H) := by
  refine run_start Try.func276 rfl Try.ntmps276 Try.results276 rfl rfl fun hO => ?_
  unfold f276 at hk
  refine wpL_sq (wpL_rg ?_)
  refine pBox (cs := [_, _]) hO tZ30 (fun b1 G hO => ?_)
  refine pBox (cs := [_, _, _]) hO tZ40 (fun b2 G hO => ?_)
  refine pA (.int _ _) ?_
  refine pE (gn (wpL_sq (wpL_rg ?_)))
  refine pF tF40_1 ?_
  refine pLo hO 0 (.lit _ _ _) tA37 ?_
  refine pM (.int _ _) ?_
  obtain ⟨c3, hc3, hk⟩ := bs hk
  refine pX hc3 tE37 tZ233 ?_
  refine pLp (.agg [_, _, _, _, _]) (rd2 (lm := 0) (off := 0) hc3 tA233 tZ233) ?_
  refine pNew hO tZ233 t0233 (fun b4 G hO => ?_)
  refine pSt (xs := [_, _, _, _, _]) hO 0 tZ233 rfl (fun G hO => ?_)
  refine pE (gn (wpL_sq (wpL_bl (wpL_sq (wpL_rg ?_)))))
  refine pLs hO 2 [_, _] tA30 tZ30 ?_
  refine pLs hO 1 [_, _, _] tA40 tZ40 ?_
  refine pM (.int _ _) ?_
  obtain ⟨v5, hv5, hk⟩ := bs hk
  refine pCall (fun _ => f277_run hv5) ?_
  refine pA (.bool _) ?_
  refine pE (gn ?_)
  refine wpL_cd (b := v5) (fun hb => ?_) (fun hb => ?_)
  · replace hk := ct hb hk
    refine wpL_sq (wpL_rg ?_)
    refine pA (.int _ _) ?_
    refine pE (gn (wpL_rt (br (gr ?_))))
    replace hk := Option.some.inj hk; subst hk; exact fin0 hO
  · replace hk := cf hb hk
    refine wpL_sq (wpL_rg ?_)
    refine pF tF233_2 ?_
    refine pLo hO 0 (.bool _) tA4 ?_
    refine pM (.bool _) ?_
    refine wpR_mid (l1 := [_, _, _, _, _, _, _, _, _]) (fun S' => ∃ J, S' = ⟨hav [(7, .ptr b4 0), (30, .bool (c3.Lost || ((c3.Count != (0:Int)) && !c3.Sweep)))] J, G⟩) ?_ ?_
    · refine bc (b := c3.Lost) (fun hg1 => ?_) (fun hg1 => ?_)
      · refine pGn hg1 ?_
        refine pGn hg1 ?_
        refine pGn hg1 ?_
        refine pGn hg1 ?_
        refine pGu ?_
        refine pGu ?_
        refine pGu ?_
        refine pGn hg1 ?_
        refine pPt hg1 (.bool _) ?_
        exact pE ⟨_, St.hav _ ⟨rfl, by rw [hg1]; rfl, trivial⟩⟩
      · refine pGy hg1 ?_
        refine pF tF233_1 ?_
        refine pGy hg1 ?_
        refine pLo hO 0 (.int _ _) tA3 ?_
        refine pGy hg1 ?_
        refine pBi ?_
        refine pGy hg1 ?_
        refine pM (.bool _) ?_
        refine wpR_mid (l1 := [_, _, _, _]) (fun S' => ∃ J, S' = ⟨hav [(7, .ptr b4 0), (21, .bool c3.Lost), (29, .bool ((c3.Count != (0:Int)) && !c3.Sweep))] J, G⟩) ?_ ?_
        · refine bc (b := (c3.Count != (0:Int))) (fun hg2 => ?_) (fun hg2 => ?_)
          · refine pGy hg2 ?_
            refine pF tF233_3 ?_
            refine pGy hg2 ?_
            refine pLo hO 0 (.bool _) tA4 ?_
            refine pGy hg2 ?_
            refine pU ?_
            refine pGy hg1 ?_
            refine pPt hg2 (.bool _) ?_
            exact pE ⟨_, St.hav _ ⟨rfl, rfl, by rw [hg2]; rfl, trivial⟩⟩
          · refine pGn hg2 ?_
            refine pGn hg2 ?_
            refine pGn hg2 ?_
            refine pGy hg1 ?_
            refine pPf hg2 (.bool _) ?_
            exact pE ⟨_, St.hav _ ⟨rfl, rfl, by rw [hg2]; rfl, trivial⟩⟩
        · rintro _ ⟨J, rfl⟩
          refine pPf hg1 (.bool _) ?_
          exact pE ⟨_, St.hav _ ⟨rfl, by rw [hg1]; rfl, trivial⟩⟩
    · rintro _ ⟨J, rfl⟩
      refine pA (.bool _) ?_
      refine pE (gn ?_)
      refine wpL_cd (b := (c3.Lost || ((c3.Count != (0:Int)) && !c3.Sweep))) (fun hb => ?_) (fun hb => ?_)
      · replace hk := ct hb hk
        refine wpL_sq (wpL_rg ?_)
        refine pA (.int _ _) ?_
        refine pE (gn (wpL_rt (br (gr ?_))))
        replace hk := Option.some.inj hk; subst hk; exact fin0 hO
      · replace hk := cf hb hk
        refine wpL_sq (wpL_rg ?_)
        refine pF tF233_3 ?_
        refine pLo hO 0 (.bool _) tA4 ?_
        refine pA (.bool _) ?_
        refine pE (gn ?_)
        refine wpL_cd (b := c3.Sweep) (fun hb => ?_) (fun hb => ?_)
        · replace hk := ct hb hk
          refine wpL_sq (wpL_rg ?_)
          refine pA (.int _ _) ?_
          refine pE (gn (wpL_rt (br (gr ?_))))
          replace hk := Option.some.inj hk; subst hk; exact fin0 hO
        · replace hk := cf hb hk
          refine wpL_sk (bn (gn (wpL_sq (wpL_rg ?_))))
          refine pA (.int _ _) ?_
          refine pE (gn (wpL_rt ?_))
          replace hk := Option.some.inj hk; subst hk; exact fin0 hO
/-- impl.CountOk -/
def f190_L1 (aL0 : Layout) (aS1 : CountState) : Int → Option (Int ⊕ Bool) := fun s =>
  (bif decide (s < (aS1.Sections.length : Int)) then ((getI aS1.Sections s).bind fun c5 => ((bif (((decide (c5.Count < (-1000000:Int)) || decide (c5.Count > (1000000:Int))) || decide (c5.Last < (-1:Int))) || decide (c5.Last > (1:Int))) then some true else ((f276 aL0 aS1 s).bind fun v8 => some (c5.Told != v8))).bind fun t7 => (bif t7 then ((some false).map Sum.inr) else ((bif decide (c5.Count < (0:Int)) then some true else ((f277 aL0 aS1 s).bind fun v10 => some v10)).bind fun t9 => (bif ((t9 && !c5.Lost) || (((c5.Sweep && (c5.Count == (0:Int))) && (c5.Last == (-1:Int))) && !c5.Lost)) then ((some false).map Sum.inr) else some (.inl (w64 (s + (1:Int))))))))) else ((some true).map Sum.inr))
def f190 (aL0 : Layout) (aS1 : CountState) : Option Bool :=
  ((f129 aL0).bind fun v3 => (bif ((((v3 != (0:Int)) || !aS1.Ok) || ((aS1.Sections.length : Int) != aL0.Sections)) || ((aS1.Dead.length : Int) != (aL0.Counters.length : Int))) then some false else (loopO (f190_L1 aL0 aS1) ((0:Int)))))
theorem f190_run {aL0 : Layout} {aS1 : CountState} {r : Bool} {l1 l2 l3 : Nat} {H : Heap} {lk : Lk} (hk : f190 aL0 aS1 = some r) (hlk : 0 < lk.length := by simp) : runL Try.prog hh 190 [.agg [.int .i64 aL0.Sections, .lit l1 aL0.Counters.length ((flatL 0) aL0.Counters)], .agg [.bool aS1.Ok, .lit l2 aS1.Sections.length ((flatL 0) aS1.Sections), .lit l3 aS1.Dead.length ((flatL 0) aS1.Dead)]] H lk = some (.bool r, H) := by
  refine run_start Try.func190 rfl Try.ntmps190 Try.results190 rfl rfl fun hO => ?_
  unfold f190 at hk
  refine wpL_sq (wpL_rg ?_)
  refine pBox (cs := [_, _]) hO tZ30 (fun b1 G hO => ?_)
  refine pBox (cs := [_, _, _]) hO tZ40 (fun b2 G hO => ?_)
  refine pA (.bool _) ?_
  refine pE (gn (wpL_sq (wpL_sq (wpL_rg ?_))))
  refine pLs hO 1 [_, _] tA30 tZ30 ?_
  obtain ⟨v3, hv3, hk⟩ := bs hk
  refine pCall (fun _ => f129_run hv3) ?_
  refine pBi ?_
  refine pM (.bool _) ?_
  refine wpR_mid (l1 := [_, _, _, _]) (fun S' => ∃ J, S' = ⟨hav [(2, .ptr b1 0), (3, .ptr b2 0), (14, .bool ((v3 != (0:Int)) || !aS1.Ok))] J, G⟩) ?_ ?_
  · refine bc (b := (v3 != (0:Int))) (fun hg1 => ?_) (fun hg1 => ?_)
    · refine pGn hg1 ?_
      refine pGn hg1 ?_
      refine pGn hg1 ?_
      refine pPt hg1 (.bool _) ?_
      exact pE ⟨_, St.hav _ ⟨rfl, rfl, by rw [hg1]; rfl, trivial⟩⟩
    · refine pGy hg1 ?_
      refine pF tF40_0 ?_
      refine pGy hg1 ?_
      refine pLo hO 0 (.bool _) tA4 ?_
      refine pGy hg1 ?_
      refine pU ?_
      refine pPf hg1 (.bool _) ?_
      exact pE ⟨_, St.hav _ ⟨rfl, rfl, by rw [hg1]; rfl, trivial⟩⟩
  · rintro _ ⟨J, rfl⟩
    refine pM (.bool _) ?_
    refine wpR_mid (l1 := [_, _, _, _, _, _, _]) (fun S' => ∃ J, S' = ⟨hav [(2, .ptr b1 0), (3, .ptr b2 0), (22, .bool (((v3 != (0:Int)) || !aS1.Ok) || ((aS1.Sections.length : Int) != aL0.Sections)))] J, G⟩) ?_ ?_
    · refine bc (b := ((v3 != (0:Int)) || !aS1.Ok)) (fun hg1 => ?_) (fun hg1 => ?_)
      · refine pGn hg1 ?_
        refine pGn hg1 ?_
        refine pGn hg1 ?_
        refine pGn hg1 ?_
        refine pGn hg1 ?_
        refine pGn hg1 ?_
        refine pPt hg1 (.bool _) ?_
        exact pE ⟨_, St.hav _ ⟨rfl, rfl, by rw [hg1]; rfl, trivial⟩⟩
      · refine pGy hg1 ?_
        refine pF tF40_1 ?_
        refine pGy hg1 ?_
        refine pLo hO 0 (.lit _ _ _) tA37 ?_
        refine pGy hg1 ?_
        refine pLen tS37 ?_
        refine pGy hg1 ?_
        refine pF tF30_0 ?_
        refine pGy hg1 ?_
        refine pLo hO 1 (.int _ _) tA3 ?_
        refine pGy hg1 ?_
        refine pBi ?_
        refine pPf hg1 (.bool _) ?_
        exact pE ⟨_, St.hav _ ⟨rfl, rfl, by rw [hg1]; rfl, trivial⟩⟩
    · rintro _ ⟨J, rfl⟩
      refine pM (.bool _) ?_
      refine wpR_mid (l1 := [_, _, _, _, _, _, _, _]) (fun S' => ∃ J, S' = ⟨hav [(2, .ptr b1 0), (3, .ptr b2 0), (31, .bool ((((v3 != (0:Int)) || !aS1.Ok) || ((aS1.Sections.length : Int) != aL0.Sections)) || ((aS1.Dead.length : Int) != (aL0.Counters.length : Int))))] J, G⟩) ?_ ?_
      · refine bc (b := (((v3 != (0:Int)) || !aS1.Ok) || ((aS1.Sections.length : Int) != aL0.Sections))) (fun hg1 => ?_) (fun hg1 => ?_)
        · refine pGn hg1 ?_
          refine pGn hg1 ?_
          refine pGn hg1 ?_
          refine pGn hg1 ?_
          refine pGn hg1 ?_
          refine pGn hg1 ?_
          refine pGn hg1 ?_
          refine pPt hg1 (.bool _) ?_
          exact pE ⟨_, St.hav _ ⟨rfl, rfl, by rw [hg1]; rfl, trivial⟩⟩
        · refine pGy hg1 ?_
          refine pF tF40_2 ?_
          refine pGy hg1 ?_
          refine pLo hO 0 (.lit _ _ _) tA38 ?_
          refine pGy hg1 ?_
          refine pLen tS38 ?_
          refine pGy hg1 ?_
          refine pF tF30_1 ?_
          refine pGy hg1 ?_
          refine pLo hO 1 (.lit _ _ _) tA28 ?_
          refine pGy hg1 ?_
          refine pLen tS28 ?_
          refine pGy hg1 ?_
          refine pBi ?_
          refine pPf hg1 (.bool _) ?_
          exact pE ⟨_, St.hav _ ⟨rfl, rfl, by rw [hg1]; rfl, trivial⟩⟩
      · rintro _ ⟨J, rfl⟩
        refine pE (gn ?_)
        refine wpL_cd (b := ((((v3 != (0:Int)) || !aS1.Ok) || ((aS1.Sections.length : Int) != aL0.Sections)) || ((aS1.Dead.length : Int) != (aL0.Counters.length : Int)))) (fun hb => ?_) (fun hb => ?_)
        · replace hk := ct hb hk
          refine wpL_sq (wpL_rg ?_)
          refine pA (.bool _) ?_
          refine pE (gn (wpL_rt (gr ?_)))
          replace hk := Option.some.inj hk; subst hk; exact fin0 hO
        · replace hk := cf hb hk
          refine wpL_sk (gn (wpL_sq (wpL_sq (wpL_rg ?_))))
          refine pF tF40_1 ?_
          refine pLo hO 0 (.lit _ _ _) tA37 ?_
          refine pLen tS37 ?_
          refine pM (.int _ _) ?_
          refine pE (gn (wpL_bl ?_))
          refine wpL_loopO (F := f190_L1 aL0 aS1) (fun s S' => ∃ (J : Nat → V) (G : Heap), Owns H G [.blk b2 (.cells 3 [.bool aS1.Ok, .lit l2 aS1.Sections.length ((flatL 0) aS1.Sections), .lit l3 aS1.Dead.length ((flatL 0) aS1.Dead)]), .blk b1 (.cells 2 [.int .i64 aL0.Sections, .lit l1 aL0.Counters.length ((flatL 0) aL0.Counters)])] ∧ S' = ⟨hav [(2, .ptr b1 0), (3, .ptr b2 0), (33, .lit l2 aS1.Sections.length ((flatL 0) aS1.Sections)), (34, .int .i64 (aS1.Sections.length : Int)), (35, .int .i64 s)] J, G⟩) hk ⟨_, _, hO, St.hav _ ⟨rfl, rfl, rfl, rfl, rfl, trivial⟩⟩ ?_
          rintro x4 _ y1 ⟨J, G, hO, rfl⟩ hk hx1
          refine wpL_sq (wpL_rg ?_)
          refine pBi ?_
          refine pE (gn (wpL_sq ?_))
          refine wpL_cd (b := decide (x4 < (aS1.Sections.length : Int))) (fun hb => ?_) (fun hb => ?_)
          · replace hk := ct hb hk
            refine wpL_sk (gn (wpL_sq (wpL_bl (wpL_sq (wpL_rg ?_)))))
            refine pM (.int _ _) ?_
            obtain ⟨c5, hc5, hk⟩ := bs hk
            refine pX hc5 tE37 tZ233 ?_
            refine pLp (.agg [_, _, _, _, _]) (rd2 (lm := 0) (off := 0) hc5 tA233 tZ233) ?_
            refine pNew hO tZ233 t0233 (fun b6 G hO => ?_)
            refine pA (.int _ _) ?_
            refine pSt (xs := [_, _, _, _, _]) hO 0 tZ233 rfl (fun G hO => ?_)
            refine pE (gn (wpL_sq (wpL_sq ?_)))
            refine wpL_drw [(0, false), (1, true), (2, false), (3, false), (4, false), (5, true), (6, false), (7, false), (8, false), (9, false), (10, true), (11, false), (12, false), (13, false), (14, false), (15, true), (16, false), (17, false), (18, false), (19, true), (20, true), (21, true), (22, true), (23, true), (24, true), (25, false), (26, false)] [_, _, _, _, _, _, _, _, _, _, _, _, _, _, _, _, _, _, _, _, _, _, _, _, _, _, _] (by decide +kernel) (by rfl) ?_
            refine pF tF233_1 ?_
            refine pLo hO 0 (.int _ _) tA3 ?_
            refine pBi ?_
            refine pM (.bool _) ?_
            refine wpR_mid (l1 := [_, _, _, _]) (fun S' => ∃ J, S' = ⟨hav [(2, .ptr b1 0), (3, .ptr b2 0), (5, .int .i64 x4), (6, .ptr b6 0), (33, .lit l2 aS1.Sections.length ((flatL 0) aS1.Sections)), (34, .int .i64 (aS1.Sections.length : Int)), (35, .int .i64 x4), (47, .bool (decide (c5.Count < (-1000000:Int)) || decide (c5.Count > (1000000:Int))))] J, G⟩) ?_ ?_
            · refine bc (b := decide (c5.Count < (-1000000:Int))) (fun hg1 => ?_) (fun hg1 => ?_)
              · refine pGn hg1 ?_
                refine pGn hg1 ?_
                refine pGn hg1 ?_
                refine pPt hg1 (.bool _) ?_
                exact pE ⟨_, St.hav _ ⟨rfl, rfl, rfl, rfl, rfl, rfl, rfl, by rw [hg1]; rfl, trivial⟩⟩
              · refine pGy hg1 ?_
                refine pF tF233_1 ?_
                refine pGy hg1 ?_
                refine pLo hO 0 (.int _ _) tA3 ?_
                refine pGy hg1 ?_
                refine pBi ?_
                refine pPf hg1 (.bool _) ?_
                exact pE ⟨_, St.hav _ ⟨rfl, rfl, rfl, rfl, rfl, rfl, rfl, by rw [hg1]; rfl, trivial⟩⟩
            · rintro _ ⟨J, rfl⟩
              refine pM (.bool _) ?_
              refine wpR_mid (l1 := [_, _, _, _]) (fun S' => ∃ J, S' = ⟨hav [(2, .ptr b1 0), (3, .ptr b2 0), (5, .int .i64 x4), (6, .ptr b6 0), (33, .lit l2 aS1.Sections.length ((flatL 0) aS1.Sections)), (34, .int .i64 (aS1.Sections.length : Int)), (35, .int .i64 x4), (52, .bool ((decide (c5.Count < (-1000000:Int)) || decide (c5.Count > (1000000:Int))) || decide (c5.Last < (-1:Int))))] J, G⟩) ?_ ?_
              · refine bc (b := (decide (c5.Count < (-1000000:Int)) || decide (c5.Count > (1000000:Int)))) (fun hg1 => ?_) (fun hg1 => ?_)
                · refine pGn hg1 ?_
                  refine pGn hg1 ?_
                  refine pGn hg1 ?_
                  refine pPt hg1 (.bool _) ?_
                  exact pE ⟨_, St.hav _ ⟨rfl, rfl, rfl, rfl, rfl, rfl, rfl, by rw [hg1]; rfl, trivial⟩⟩
                · refine pGy hg1 ?_
                  refine pF tF233_4 ?_
                  refine pGy hg1 ?_
                  refine pLo hO 0 (.int _ _) tA3 ?_
                  refine pGy hg1 ?_
                  refine pBi ?_
                  refine pPf hg1 (.bool _) ?_
                  exact pE ⟨_, St.hav _ ⟨rfl, rfl, rfl, rfl, rfl, rfl, rfl, by rw [hg1]; rfl, trivial⟩⟩
              · rintro _ ⟨J, rfl⟩
                refine pM (.bool _) ?_
                refine wpR_mid (l1 := [_, _, _, _]) (fun S' => ∃ J, S' = ⟨hav [(2, .ptr b1 0), (3, .ptr b2 0), (5, .int .i64 x4), (6, .ptr b6 0), (33, .lit l2 aS1.Sections.length ((flatL 0) aS1.Sections)), (34, .int .i64 (aS1.Sections.length : Int)), (35, .int .i64 x4), (57, .bool (((decide (c5.Count < (-1000000:Int)) || decide (c5.Count > (1000000:Int))) || decide (c5.Last < (-1:Int))) || decide (c5.Last > (1:Int))))] J, G⟩) ?_ ?_
                · refine bc (b := ((decide (c5.Count < (-1000000:Int)) || decide (c5.Count > (1000000:Int))) || decide (c5.Last < (-1:Int)))) (fun hg1 => ?_) (fun hg1 => ?_)
                  · refine pGn hg1 ?_
                    refine pGn hg1 ?_
                    refine pGn hg1 ?_
                    refine pPt hg1 (.bool _) ?_
                    exact pE ⟨_, St.hav _ ⟨rfl, rfl, rfl, rfl, rfl, rfl, rfl, by rw [hg1]; rfl, trivial⟩⟩
                  · refine pGy hg1 ?_
                    refine pF tF233_4 ?_
                    refine pGy hg1 ?_
                    refine pLo hO 0 (.int _ _) tA3 ?_
                    refine pGy hg1 ?_
                    refine pBi ?_
                    refine pPf hg1 (.bool _) ?_
                    exact pE ⟨_, St.hav _ ⟨rfl, rfl, rfl, rfl, rfl, rfl, rfl, by rw [hg1]; rfl, trivial⟩⟩
                · rintro _ ⟨J, rfl⟩
                  refine pM (.bool _) ?_
                  obtain ⟨t7, ht, hk⟩ := bs hk
                  refine wpR_mid (l1 := [_, _, _, _, _, _, _, _]) (fun S' => ∃ J, S' = ⟨hav [(2, .ptr b1 0), (3, .ptr b2 0), (5, .int .i64 x4), (6, .ptr b6 0), (33, .lit l2 aS1.Sections.length ((flatL 0) aS1.Sections)), (34, .int .i64 (aS1.Sections.length : Int)), (35, .int .i64 x4), (66, .bool t7)] J, G⟩) ?_ ?_
                  · refine bc (b := (((decide (c5.Count < (-1000000:Int)) || decide (c5.Count > (1000000:Int))) || decide (c5.Last < (-1:Int))) || decide (c5.Last > (1:Int)))) (fun hg1 => ?_) (fun hg1 => ?_)
                    · replace hk := ct hg1 ht
                      refine pGn hg1 ?_
                      refine pGn hg1 ?_
                      refine pGn hg1 ?_
                      refine pGn hg1 ?_
                      refine pGn hg1 ?_
                      refine pGn hg1 ?_
                      refine pGn hg1 ?_
                      refine pPt hg1 (.bool _) ?_
                      cases hk; exact pE ⟨_, St.hav _ ⟨rfl, rfl, rfl, rfl, rfl, rfl, rfl, rfl, trivial⟩⟩
                    · replace hk := cf hg1 ht
                      refine pGy hg1 ?_
                      refine pF tF233_0 ?_
                      refine pGy hg1 ?_
                      refine pLo hO 0 (.int _ _) tA3 ?_
                      refine pGy hg1 ?_
                      refine pLs hO 2 [_, _] tA30 tZ30 ?_
                      refine pGy hg1 ?_
                      refine pLs hO 1 [_, _, _] tA40 tZ40 ?_
                      refine pGy hg1 ?_
                      refine pM (.int _ _) ?_
                      refine pGy hg1 ?_
                      obtain ⟨v8, hv8, hk⟩ := bs hk
                      refine pCall (fun _ => f276_run hv8) ?_
                      refine pGy hg1 ?_
                      refine pBi ?_
                      refine pPf hg1 (.bool _) ?_
                      cases hk; exact pE ⟨_, St.hav _ ⟨rfl, rfl, rfl, rfl, rfl, rfl, rfl, rfl, trivial⟩⟩
                  · rintro _ ⟨J, rfl⟩
                    refine pE (gn ?_)
                    refine wpL_cd (b := t7) (fun hb => ?_) (fun hb => ?_)
                    · replace hk := ct hb hk
                      refine wpL_sq (wpL_rg ?_)
                      refine pA (.bool _) ?_
                      refine pE (gn (wpL_rt (gr (br (gr (gr (br (gr ?_))))))))
                      replace hk := lx hx1 hk
                      replace hk := Option.some.inj hk; subst hk; exact fin0 hO
                    · replace hk := cf hb hk
                      refine wpL_sk (gn (wpL_sq (wpL_rg ?_)))
                      refine pF tF233_1 ?_
                      refine pLo hO 0 (.int _ _) tA3 ?_
                      refine pBi ?_
                      refine pM (.bool _) ?_
                      obtain ⟨t9, ht, hk⟩ := bs hk
                      refine wpR_mid (l1 := [_, _, _, _, _]) (fun S' => ∃ J, S' = ⟨hav [(2, .ptr b1 0), (3, .ptr b2 0), (6, .ptr b6 0), (33, .lit l2 aS1.Sections.length ((flatL 0) aS1.Sections)), (34, .int .i64 (aS1.Sections.length : Int)), (35, .int .i64 x4), (75, .bool t9)] J, G⟩) ?_ ?_
                      · refine bc (b := decide (c5.Count < (0:Int))) (fun hg1 => ?_) (fun hg1 => ?_)
                        · replace hk := ct hg1 ht
                          refine pGn hg1 ?_
                          refine pGn hg1 ?_
                          refine pGn hg1 ?_
                          refine pGn hg1 ?_
                          refine pPt hg1 (.bool _) ?_
                          cases hk; exact pE ⟨_, St.hav _ ⟨rfl, rfl, rfl, rfl, rfl, rfl, rfl, trivial⟩⟩
                        · replace hk := cf hg1 ht
                          refine pGy hg1 ?_
                          refine pLs hO 2 [_, _] tA30 tZ30 ?_
                          refine pGy hg1 ?_
                          refine pLs hO 1 [_, _, _] tA40 tZ40 ?_
                          refine pGy hg1 ?_
                          refine pM (.int _ _) ?_
                          refine pGy hg1 ?_
                          obtain ⟨v10, hv10, hk⟩ := bs hk
                          refine pCall (fun _ => f277_run hv10) ?_
                          refine pPf hg1 (.bool _) ?_
                          cases hk; exact pE ⟨_, St.hav _ ⟨rfl, rfl, rfl, rfl, rfl, rfl, rfl, trivial⟩⟩
                      · rintro _ ⟨J, rfl⟩
                        refine pM (.bool _) ?_
                        refine wpR_mid (l1 := [_, _, _, _]) (fun S' => ∃ J, S' = ⟨hav [(2, .ptr b1 0), (3, .ptr b2 0), (6, .ptr b6 0), (33, .lit l2 aS1.Sections.length ((flatL 0) aS1.Sections)), (34, .int .i64 (aS1.Sections.length : Int)), (35, .int .i64 x4), (80, .bool (t9 && !c5.Lost))] J, G⟩) ?_ ?_
                        · refine bc (b := t9) (fun hg1 => ?_) (fun hg1 => ?_)
                          · refine pGy hg1 ?_
                            refine pF tF233_2 ?_
                            refine pGy hg1 ?_
                            refine pLo hO 0 (.bool _) tA4 ?_
                            refine pGy hg1 ?_
                            refine pU ?_
                            refine pPt hg1 (.bool _) ?_
                            exact pE ⟨_, St.hav _ ⟨rfl, rfl, rfl, rfl, rfl, rfl, by rw [hg1]; rfl, trivial⟩⟩
                          · refine pGn hg1 ?_
                            refine pGn hg1 ?_
                            refine pGn hg1 ?_
                            refine pPf hg1 (.bool _) ?_
                            exact pE ⟨_, St.hav _ ⟨rfl, rfl, rfl, rfl, rfl, rfl, by rw [hg1]; rfl, trivial⟩⟩
                        · rintro _ ⟨J, rfl⟩
                          refine pM (.bool _) ?_
                          refine wpR_mid (l1 := [_, _, _, _, _, _, _, _, _, _, _, _, _, _, _, _, _, _]) (fun S' => ∃ J, S' = ⟨hav [(2, .ptr b1 0), (3, .ptr b2 0), (33, .lit l2 aS1.Sections.length ((flatL 0) aS1.Sections)), (34, .int .i64 (aS1.Sections.length : Int)), (35, .int .i64 x4), (99, .bool ((t9 && !c5.Lost) || (((c5.Sweep && (c5.Count == (0:Int))) && (c5.Last == (-1:Int))) && !c5.Lost)))] J, G⟩) ?_ ?_
                          · refine bc (b := (t9 && !c5.Lost)) (fun hg1 => ?_) (fun hg1 => ?_)
                            · refine pGn hg1 ?_
                              refine pGn hg1 ?_
                              refine pGn hg1 ?_
                              refine pGu ?_
                              refine pGu ?_
                              refine pGu ?_
                              refine pGn hg1 ?_
                              refine pGn hg1 ?_
                              refine pGu ?_
                              refine pGu ?_
                              refine pGu ?_
                              refine pGn hg1 ?_
                              refine pGn hg1 ?_
                              refine pGu ?_
                              refine pGu ?_
                              refine pGu ?_
                              refine pGn hg1 ?_
                              refine pPt hg1 (.bool _) ?_
                              exact pE ⟨_, St.hav _ ⟨rfl, rfl, rfl, rfl, rfl, by rw [hg1]; rfl, trivial⟩⟩
                            · refine pGy hg1 ?_
                              refine pF tF233_3 ?_
                              refine pGy hg1 ?_
                              refine pLo hO 0 (.bool _) tA4 ?_
                              refine pGy hg1 ?_
                              refine pM (.bool _) ?_
                              refine wpR_mid (l1 := [_, _, _, _]) (fun S' => ∃ J, S' = ⟨hav [(2, .ptr b1 0), (3, .ptr b2 0), (6, .ptr b6 0), (33, .lit l2 aS1.Sections.length ((flatL 0) aS1.Sections)), (34, .int .i64 (aS1.Sections.length : Int)), (35, .int .i64 x4), (81, .bool (t9 && !c5.Lost)), (88, .bool (c5.Sweep && (c5.Count == (0:Int))))] J, G⟩) ?_ ?_
                              · refine bc (b := c5.Sweep) (fun hg2 => ?_) (fun hg2 => ?_)
                                · refine pGy hg2 ?_
                                  refine pF tF233_1 ?_
                                  refine pGy hg2 ?_
                                  refine pLo hO 0 (.int _ _) tA3 ?_
                                  refine pGy hg2 ?_
                                  refine pBi ?_
                                  refine pGy hg1 ?_
                                  refine pPt hg2 (.bool _) ?_
                                  exact pE ⟨_, St.hav _ ⟨rfl, rfl, rfl, rfl, rfl, rfl, rfl, by rw [hg2]; rfl, trivial⟩⟩
                                · refine pGn hg2 ?_
                                  refine pGn hg2 ?_
                                  refine pGn hg2 ?_
                                  refine pGy hg1 ?_
                                  refine pPf hg2 (.bool _) ?_
                                  exact pE ⟨_, St.hav _ ⟨rfl, rfl, rfl, rfl, rfl, rfl, rfl, by rw [hg2]; rfl, trivial⟩⟩
                              · rintro _ ⟨J, rfl⟩
                                refine pGy hg1 ?_
                                refine pM (.bool _) ?_
                                refine wpR_mid (l1 := [_, _, _, _]) (fun S' => ∃ J, S' = ⟨hav [(2, .ptr b1 0), (3, .ptr b2 0), (6, .ptr b6 0), (33, .lit l2 aS1.Sections.length ((flatL 0) aS1.Sections)), (34, .int .i64 (aS1.Sections.length : Int)), (35, .int .i64 x4), (81, .bool (t9 && !c5.Lost)), (93, .bool ((c5.Sweep && (c5.Count == (0:Int))) && (c5.Last == (-1:Int))))] J, G⟩) ?_ ?_
                                · refine bc (b := (c5.Sweep && (c5.Count == (0:Int)))) (fun hg2 => ?_) (fun hg2 => ?_)
                                  · refine pGy hg2 ?_
                                    refine pF tF233_4 ?_
                                    refine pGy hg2 ?_
                                    refine pLo hO 0 (.int _ _) tA3 ?_
                                    refine pGy hg2 ?_
                                    refine pBi ?_
                                    refine pGy hg1 ?_
                                    refine pPt hg2 (.bool _) ?_
                                    exact pE ⟨_, St.hav _ ⟨rfl, rfl, rfl, rfl, rfl, rfl, rfl, by rw [hg2]; rfl, trivial⟩⟩
                                  · refine pGn hg2 ?_
                                    refine pGn hg2 ?_
                                    refine pGn hg2 ?_
                                    refine pGy hg1 ?_
                                    refine pPf hg2 (.bool _) ?_
                                    exact pE ⟨_, St.hav _ ⟨rfl, rfl, rfl, rfl, rfl, rfl, rfl, by rw [hg2]; rfl, trivial⟩⟩
                                · rintro _ ⟨J, rfl⟩
                                  refine pGy hg1 ?_
                                  refine pM (.bool _) ?_
                                  refine wpR_mid (l1 := [_, _, _, _]) (fun S' => ∃ J, S' = ⟨hav [(2, .ptr b1 0), (3, .ptr b2 0), (33, .lit l2 aS1.Sections.length ((flatL 0) aS1.Sections)), (34, .int .i64 (aS1.Sections.length : Int)), (35, .int .i64 x4), (81, .bool (t9 && !c5.Lost)), (98, .bool (((c5.Sweep && (c5.Count == (0:Int))) && (c5.Last == (-1:Int))) && !c5.Lost))] J, G⟩) ?_ ?_
                                  · refine bc (b := ((c5.Sweep && (c5.Count == (0:Int))) && (c5.Last == (-1:Int)))) (fun hg2 => ?_) (fun hg2 => ?_)
                                    · refine pGy hg2 ?_
                                      refine pF tF233_2 ?_
                                      refine pGy hg2 ?_
                                      refine pLo hO 0 (.bool _) tA4 ?_
                                      refine pGy hg2 ?_
                                      refine pU ?_
                                      refine pGy hg1 ?_
                                      refine pPt hg2 (.bool _) ?_
                                      exact pE ⟨_, St.hav _ ⟨rfl, rfl, rfl, rfl, rfl, rfl, by rw [hg2]; rfl, trivial⟩⟩
                                    · refine pGn hg2 ?_
                                      refine pGn hg2 ?_
                                      refine pGn hg2 ?_
                                      refine pGy hg1 ?_
                                      refine pPf hg2 (.bool _) ?_
                                      exact pE ⟨_, St.hav _ ⟨rfl, rfl, rfl, rfl, rfl, rfl, by rw [hg2]; rfl, trivial⟩⟩
                                  · rintro _ ⟨J, rfl⟩
                                    refine pPf hg1 (.bool _) ?_
                                    exact pE ⟨_, St.hav _ ⟨rfl, rfl, rfl, rfl, rfl, by rw [hg1]; rfl, trivial⟩⟩
                          · rintro _ ⟨J, rfl⟩
                            refine pE (gn ?_)
                            refine wpL_cd (b := ((t9 && !c5.Lost) || (((c5.Sweep && (c5.Count == (0:Int))) && (c5.Last == (-1:Int))) && !c5.Lost))) (fun hb => ?_) (fun hb => ?_)
                            · replace hk := ct hb hk
                              refine wpL_sq (wpL_rg ?_)
                              refine pA (.bool _) ?_
                              refine pE (gn (wpL_rt (br (gr (gr (br (gr ?_)))))))
                              replace hk := lx hx1 hk
                              replace hk := Option.some.inj hk; subst hk; exact fin0 hO
                            · replace hk := cf hb hk
                              refine wpL_sk (bn (gn (wpL_rg ?_)))
                              refine pBi ?_
                              refine pM (.int _ _) ?_
                              refine pE (gn ?_)
                              cases hk; exact ⟨_, rfl, _, _, (Owns.pick hO [1, 2] (by decide) rfl), St.hav _ ⟨rfl, rfl, rfl, rfl, rfl, trivial⟩⟩
          · replace hk := cf hb hk
            refine wpL_ex (ge (ge (be (gn ?_))))
            replace hk := lx hx1 hk
            refine wpL_sq (wpL_rg ?_)
            refine pA (.bool _) ?_
            refine pE (gn (wpL_rt ?_))
            replace hk := Option.some.inj hk; subst hk; exact fin0 hO
/-- impl.CountEventOk -/
def f191_k2 (aL0 : Layout) (aE1 : CountEvent) (x5 : Bool) : Option Bool :=
  (bif x5 then some ((decide (aE1.Of ≥ (0:Int)) && decide (aE1.Of < (aL0.Counters.length : Int))) && (aE1.Dir == (0:Int))) else (bif (aE1.Op == (5:Int)) then some ((decide (aE1.Of ≥ (0:Int)) && decide (aE1.Of < aL0.Sections)) && (aE1.Dir == (0:Int))) else some false))
def f191_k1 (aL0 : Layout) (aE1 : CountEvent) (x4 : Bool) : Option Bool :=
  (bif x4 then some ((decide (aE1.Of ≥ (0:Int)) && decide (aE1.Of < (aL0.Counters.length : Int))) && ((aE1.Dir == (1:Int)) || (aE1.Dir == (-1:Int)))) else (bif (aE1.Op == (3:Int)) then (f191_k2 aL0 aE1 (aE1.Op == (3:Int))) else (f191_k2 aL0 aE1 (aE1.Op == (4:Int)))))
def f191 (aL0 : Layout) (aE1 : CountEvent) : Option Bool :=
  ((f129 aL0).bind fun v3 => (bif (v3 != (0:Int)) then some false else (bif (aE1.Op == (1:Int)) then (f191_k1 aL0 aE1 (aE1.Op == (1:Int))) else (f191_k1 aL0 aE1 (aE1.Op == (2:Int))))))
theorem f191_run {aL0 : Layout} {aE1 : CountEvent} {r : Bool} {l1 : Nat} {H : Heap} {lk : Lk} (hk : f191 aL0 aE1 = some r) (hlk : 0 < lk.length := by simp) : runL Try.prog hh 191 [.agg [.int .i64 aL0.Sections, .lit l1 aL0.Counters.length ((flatL 0) aL0.Counters)], .agg [.int .i64 aE1.Op, .int .i64 aE1.Of, .int .i64 aE1.Dir]] H lk = some (.bool r, H) := by
  refine run_start Try.func191 rfl Try.ntmps191 Try.results191 rfl rfl fun hO => ?_
  unfold f191 at hk
  refine wpL_sq (wpL_rg ?_)
  refine pBox (cs := [_, _]) hO tZ30 (fun b1 G hO => ?_)
  refine pBox (cs := [_, _, _]) hO tZ113 (fun b2 G hO => ?_)
  refine pA (.bool _) ?_
  refine pE (gn (wpL_sq (wpL_sq (wpL_rg ?_))))
  refine pLs hO 1 [_, _] tA30 tZ30 ?_
  obtain ⟨v3, hv3, hk⟩ := bs hk
  refine pCall (fun _ => f129_run hv3) ?_
  refine pBi ?_
  refine pE (gn ?_)
  refine wpL_cd (b := (v3 != (0:Int))) (fun hb => ?_) (fun hb => ?_)
  · replace hk := ct hb hk
    refine wpL_sq (wpL_rg ?_)
    refine pA (.bool _) ?_
    refine pE (gn (wpL_rt (gr ?_)))
    replace hk := Option.some.inj hk; subst hk; exact fin0 hO
  · replace hk := cf hb hk
    refine wpL_sk (gn (wpL_sq (wpL_rg ?_)))
    refine pF tF113_1 ?_
    refine pLo hO 0 (.int _ _) tA3 ?_
    refine pBi ?_
    refine pM (.bool _) ?_
    refine wpR_mid (l1 := [_, _, _, _, _, _, _]) (fun S' => ∃ J, S' = ⟨hav [(2, .ptr b1 0), (3, .ptr b2 0), (19, .bool (decide (aE1.Of ≥ (0:Int)) && decide (aE1.Of < (aL0.Counters.length : Int))))] J, G⟩) ?_ ?_
    · refine bc (b := decide (aE1.Of ≥ (0:Int))) (fun hg1 => ?_) (fun hg1 => ?_)
      · refine pGy hg1 ?_
        refine pF tF113_1 ?_
        refine pGy hg1 ?_
        refine pLo hO 0 (.int _ _) tA3 ?_
        refine pGy hg1 ?_
        refine pF tF30_1 ?_
        refine pGy hg1 ?_
        refine pLo hO 1 (.lit _ _ _) tA28 ?_
        refine pGy hg1 ?_
        refine pLen tS28 ?_
        refine pGy hg1 ?_
        refine pBi ?_
        refine pPt hg1 (.bool _) ?_
        exact pE ⟨_, St.hav _ ⟨rfl, rfl, by rw [hg1]; rfl, trivial⟩⟩
      · refine pGn hg1 ?_
        refine pGn hg1 ?_
        refine pGn hg1 ?_
        refine pGn hg1 ?_
        refine pGn hg1 ?_
        refine pGn hg1 ?_
        refine pPf hg1 (.bool _) ?_
        exact pE ⟨_, St.hav _ ⟨rfl, rfl, by rw [hg1]; rfl, trivial⟩⟩
    · rintro _ ⟨J, rfl⟩
      refine pA (.bool _) ?_
      refine pE (gn (wpL_sq (wpL_sq (wpL_rg ?_))))
      refine pF tF113_0 ?_
      refine pLo hO 0 (.int _ _) tA3 ?_
      refine pE (gn (wpL_bl ?_))
      refine wpL_mid (fun S' => ∃ (x4 : Bool) (J : Nat → V) (G : Heap), f191_k1 aL0 aE1 x4 = some r ∧ Owns H G [.blk b2 (.cells 3 [.int .i64 aE1.Op, .int .i64 aE1.Of, .int .i64 aE1.Dir]), .blk b1 (.cells 2 [.int .i64 aL0.Sections, .lit l1 aL0.Counters.length ((flatL 0) aL0.Counters)])] ∧ S' = ⟨hav [(2, .ptr b1 0), (3, .ptr b2 0), (5, .bool (decide (aE1.Of ≥ (0:Int)) && decide (aE1.Of < (aL0.Counters.length : Int)))), (21, .int .i64 aE1.Op), (22, .bool x4)] J, G⟩) ?_ ?_
      · refine wpL_sq (wpL_rg ?_)
        refine pBi ?_
        refine pA (.bool _) ?_
        refine pE (gn ?_)
        refine wpL_cd (b := (aE1.Op == (1:Int))) (fun hb => ?_) (fun hb => ?_)
        · replace hk := ct hb hk
          refine wpL_sk (gn ?_)
          exact ⟨(aE1.Op == (1:Int)), _, _, hk, hO, St.hav _ ⟨rfl, rfl, rfl, rfl, rfl, trivial⟩⟩
        · replace hk := cf hb hk
          refine wpL_rg ?_
          refine pBi ?_
          refine pA (.bool _) ?_
          refine pE (gn ?_)
          exact ⟨(aE1.Op == (2:Int)), _, _, hk, hO, St.hav _ ⟨rfl, rfl, rfl, rfl, rfl, trivial⟩⟩
      · rintro _ ⟨x4, J, G, hk, hO, rfl⟩
        refine wpL_cd (b := x4) (fun hb => ?_) (fun hb => ?_)
        · replace hk := ct hb hk
          refine wpL_sq (wpL_rg ?_)
          refine pM (.bool _) ?_
          refine pM (.bool _) ?_
          refine wpR_mid (l1 := [_, _, _, _, _, _, _, _, _]) (fun S' => ∃ J, S' = ⟨hav [(35, .bool ((decide (aE1.Of ≥ (0:Int)) && decide (aE1.Of < (aL0.Counters.length : Int))) && ((aE1.Dir == (1:Int)) || (aE1.Dir == (-1:Int)))))] J, G⟩) ?_ ?_
          · refine bc (b := (decide (aE1.Of ≥ (0:Int)) && decide (aE1.Of < (aL0.Counters.length : Int)))) (fun hg1 => ?_) (fun hg1 => ?_)
            · refine pGy hg1 ?_
              refine pF tF113_2 ?_
              refine pGy hg1 ?_
              refine pLo hO 0 (.int _ _) tA3 ?_
              refine pGy hg1 ?_
              refine pBi ?_
              refine pGy hg1 ?_
              refine pM (.bool _) ?_
              refine wpR_mid (l1 := [_, _, _, _]) (fun S' => ∃ J, S' = ⟨hav [(26, .bool (decide (aE1.Of ≥ (0:Int)) && decide (aE1.Of < (aL0.Counters.length : Int)))), (34, .bool ((aE1.Dir == (1:Int)) || (aE1.Dir == (-1:Int))))] J, G⟩) ?_ ?_
              · refine bc (b := (aE1.Dir == (1:Int))) (fun hg2 => ?_) (fun hg2 => ?_)
                · refine pGn hg2 ?_
                  refine pGn hg2 ?_
                  refine pGn hg2 ?_
                  refine pGy hg1 ?_
                  refine pPt hg2 (.bool _) ?_
                  exact pE ⟨_, St.hav _ ⟨rfl, by rw [hg2]; rfl, trivial⟩⟩
                · refine pGy hg2 ?_
                  refine pF tF113_2 ?_
                  refine pGy hg2 ?_
                  refine pLo hO 0 (.int _ _) tA3 ?_
                  refine pGy hg2 ?_
                  refine pBi ?_
                  refine pGy hg1 ?_
                  refine pPf hg2 (.bool _) ?_
                  exact pE ⟨_, St.hav _ ⟨rfl, by rw [hg2]; rfl, trivial⟩⟩
              · rintro _ ⟨J, rfl⟩
                refine pPt hg1 (.bool _) ?_
                exact pE ⟨_, St.hav _ ⟨by rw [hg1]; rfl, trivial⟩⟩
            · refine pGn hg1 ?_
              refine pGn hg1 ?_
              refine pGn hg1 ?_
              refine pGn hg1 ?_
              refine pGu ?_
              refine pGu ?_
              refine pGu ?_
              refine pGn hg1 ?_
              refine pPf hg1 (.bool _) ?_
              exact pE ⟨_, St.hav _ ⟨by rw [hg1]; rfl, trivial⟩⟩
          · rintro _ ⟨J, rfl⟩
            refine pA (.bool _) ?_
            refine pE (gn (wpL_rt (br (gr ?_))))
            replace hk := Option.some.inj hk; subst hk; exact fin0 hO
        · replace hk := cf hb hk
          refine wpL_mid (fun S' => ∃ (x5 : Bool) (J : Nat → V) (G : Heap), f191_k2 aL0 aE1 x5 = some r ∧ Owns H G [.blk b2 (.cells 3 [.int .i64 aE1.Op, .int .i64 aE1.Of, .int .i64 aE1.Dir]), .blk b1 (.cells 2 [.int .i64 aL0.Sections, .lit l1 aL0.Counters.length ((flatL 0) aL0.Counters)])] ∧ S' = ⟨hav [(2, .ptr b1 0), (3, .ptr b2 0), (5, .bool (decide (aE1.Of ≥ (0:Int)) && decide (aE1.Of < (aL0.Counters.length : Int)))), (21, .int .i64 aE1.Op), (36, .bool x5)] J, G⟩) ?_ ?_
          · refine wpL_sq (wpL_rg ?_)
            refine pBi ?_
            refine pA (.bool _) ?_
            refine pE (gn ?_)
            refine wpL_cd (b := (aE1.Op == (3:Int))) (fun hb => ?_) (fun hb => ?_)
            · replace hk := ct hb hk
              refine wpL_sk (gn ?_)
              exact ⟨(aE1.Op == (3:Int)), _, _, hk, hO, St.hav _ ⟨rfl, rfl, rfl, rfl, rfl, trivial⟩⟩
            · replace hk := cf hb hk
              refine wpL_rg ?_
              refine pBi ?_
              refine pA (.bool _) ?_
              refine pE (gn ?_)
              exact ⟨(aE1.Op == (4:Int)), _, _, hk, hO, St.hav _ ⟨rfl, rfl, rfl, rfl, rfl, trivial⟩⟩
          · rintro _ ⟨x5, J, G, hk, hO, rfl⟩
            refine wpL_cd (b := x5) (fun hb => ?_) (fun hb => ?_)
            · replace hk := ct hb hk
              refine wpL_sq (wpL_rg ?_)
              refine pM (.bool _) ?_
              refine pM (.bool _) ?_
              refine wpR_mid (l1 := [_, _, _, _]) (fun S' => ∃ J, S' = ⟨hav [(44, .bool ((decide (aE1.Of ≥ (0:Int)) && decide (aE1.Of < (aL0.Counters.length : Int))) && (aE1.Dir == (0:Int))))] J, G⟩) ?_ ?_
              · refine bc (b := (decide (aE1.Of ≥ (0:Int)) && decide (aE1.Of < (aL0.Counters.length : Int)))) (fun hg1 => ?_) (fun hg1 => ?_)
                · refine pGy hg1 ?_
                  refine pF tF113_2 ?_
                  refine pGy hg1 ?_
                  refine pLo hO 0 (.int _ _) tA3 ?_
                  refine pGy hg1 ?_
                  refine pBi ?_
                  refine pPt hg1 (.bool _) ?_
                  exact pE ⟨_, St.hav _ ⟨by rw [hg1]; rfl, trivial⟩⟩
                · refine pGn hg1 ?_
                  refine pGn hg1 ?_
                  refine pGn hg1 ?_
                  refine pPf hg1 (.bool _) ?_
                  exact pE ⟨_, St.hav _ ⟨by rw [hg1]; rfl, trivial⟩⟩
              · rintro _ ⟨J, rfl⟩
                refine pA (.bool _) ?_
                refine pE (gn (wpL_rt (br (gr ?_))))
                replace hk := Option.some.inj hk; subst hk; exact fin0 hO
            · replace hk := cf hb hk
              refine wpL_sq (wpL_rg ?_)
              refine pBi ?_
              refine pA (.bool _) ?_
              refine pE (gn ?_)
              refine wpL_cd (b := (aE1.Op == (5:Int))) (fun hb => ?_) (fun hb => ?_)
              · replace hk := ct hb hk
                refine wpL_sq (wpL_rg ?_)
                refine pF tF113_1 ?_
                refine pLo hO 0 (.int _ _) tA3 ?_
                refine pBi ?_
                refine pM (.bool _) ?_
                refine wpR_mid (l1 := [_, _, _, _, _, _]) (fun S' => ∃ J, S' = ⟨hav [(3, .ptr b2 0), (56, .bool (decide (aE1.Of ≥ (0:Int)) && decide (aE1.Of < aL0.Sections)))] J, G⟩) ?_ ?_
                · refine bc (b := decide (aE1.Of ≥ (0:Int))) (fun hg1 => ?_) (fun hg1 => ?_)
                  · refine pGy hg1 ?_
                    refine pF tF113_1 ?_
                    refine pGy hg1 ?_
                    refine pLo hO 0 (.int _ _) tA3 ?_
                    refine pGy hg1 ?_
                    refine pF tF30_0 ?_
                    refine pGy hg1 ?_
                    refine pLo hO 1 (.int _ _) tA3 ?_
                    refine pGy hg1 ?_
                    refine pBi ?_
                    refine pPt hg1 (.bool _) ?_
                    exact pE ⟨_, St.hav _ ⟨rfl, by rw [hg1]; rfl, trivial⟩⟩
                  · refine pGn hg1 ?_
                    refine pGn hg1 ?_
                    refine pGn hg1 ?_
                    refine pGn hg1 ?_
                    refine pGn hg1 ?_
                    refine pPf hg1 (.bool _) ?_
                    exact pE ⟨_, St.hav _ ⟨rfl, by rw [hg1]; rfl, trivial⟩⟩
                · rintro _ ⟨J, rfl⟩
                  refine pM (.bool _) ?_
                  refine wpR_mid (l1 := [_, _, _, _]) (fun S' => ∃ J, S' = ⟨hav [(61, .bool ((decide (aE1.Of ≥ (0:Int)) && decide (aE1.Of < aL0.Sections)) && (aE1.Dir == (0:Int))))] J, G⟩) ?_ ?_
                  · refine bc (b := (decide (aE1.Of ≥ (0:Int)) && decide (aE1.Of < aL0.Sections))) (fun hg1 => ?_) (fun hg1 => ?_)
                    · refine pGy hg1 ?_
                      refine pF tF113_2 ?_
                      refine pGy hg1 ?_
                      refine pLo hO 0 (.int _ _) tA3 ?_
                      refine pGy hg1 ?_
                      refine pBi ?_
                      refine pPt hg1 (.bool _) ?_
                      exact pE ⟨_, St.hav _ ⟨by rw [hg1]; rfl, trivial⟩⟩
                    · refine pGn hg1 ?_
                      refine pGn hg1 ?_
                      refine pGn hg1 ?_
                      refine pPf hg1 (.bool _) ?_
                      exact pE ⟨_, St.hav _ ⟨by rw [hg1]; rfl, trivial⟩⟩
                  · rintro _ ⟨J, rfl⟩
                    refine pA (.bool _) ?_
                    refine pE (gn (wpL_rt (br (gr ?_))))
                    replace hk := Option.some.inj hk; subst hk; exact fin0 hO
              · replace hk := cf hb hk
                refine wpL_sk (bn (gn (wpL_sq (wpL_rg ?_))))
                refine pA (.bool _) ?_
                refine pE (gn (wpL_rt ?_))
                replace hk := Option.some.inj hk; subst hk; exact fin0 hO
/-- impl.doCount$1 -/
def f280_k2 (aSection0 : Int) (aBy1 : Int) (aA2 : CountState) (x7 : List Section) (c8 : Section) : Option CountState :=
  (bif ((c8.Sweep && (c8.Count == (0:Int))) && (aBy1 == (-1:Int))) then some ({ Ok := aA2.Ok, Sections := x7.set aSection0.toNat ({ c8 with Sweep := false }), Dead := aA2.Dead } : CountState) else some ({ Ok := aA2.Ok, Sections := x7, Dead := aA2.Dead } : CountState))
def f280_k1 (aSection0 : Int) (aBy1 : Int) (aA2 : CountState) (x3 : List Section) (c4 : Section) : Option CountState :=
  (bif decide ((({ c4 with Last := aBy1 } : Section).Count) < (0:Int)) then (f280_k2 aSection0 aBy1 aA2 ((x3.set aSection0.toNat ({ c4 with Last := aBy1 })).set aSection0.toNat ({ ({ c4 with Last := aBy1 } : Section) with Lost := true })) ({ ({ c4 with Last := aBy1 } : Section) with Lost := true } : Section)) else (f280_k2 aSection0 aBy1 aA2 (x3.set aSection0.toNat ({ c4 with Last := aBy1 })) ({ c4 with Last := aBy1 } : Section)))
def f280 (aSection0 : Int) (aBy1 : Int) (aA2 : CountState) : Option CountState :=
  (bif decide (aSection0 < (0:Int)) then some aA2 else ((getI aA2.Sections aSection0).bind fun c1 => (bif (decide ((w64 (c1.Count + aBy1)) ≥ (-1000000:Int)) && decide ((w64 (c1.Count + aBy1)) ≤ (1000000:Int))) then (f280_k1 aSection0 aBy1 aA2 (aA2.Sections.set aSection0.toNat ({ c1 with Count := w64 (c1.Count + aBy1) })) ({ c1 with Count := w64 (c1.Count + aBy1) } : Section)) else (f280_k1 aSection0 aBy1 aA2 aA2.Sections c1))))
theorem f280_run {aSection0 : Int} {aBy1 : Int} {aA2 : CountState} {r : CountState} {q0 : Nat} {vp1 vp2 : V} {Fp1 Fp2 : List Nat} {H : Heap} {lk : Lk} (hk : f280 aSection0 aBy1 aA2 = some r) (hO : Owns H H [.fblk (q0 :: (Fp1 ++ (Fp2 ++ []))) q0 (.cells 3 [.bool aA2.Ok, vp1, vp2]), Tree (q0 :: (Fp1 ++ (Fp2 ++ []))) Fp1 aA2.Sections [vp1], Tree (q0 :: (Fp1 ++ (Fp2 ++ []))) Fp2 aA2.Dead [vp2]]) (hS : ∀ b ∈ q0 :: (Fp1 ++ (Fp2 ++ [])), unlocked lk b = true) (hlt : ∀ b ∈ q0 :: (Fp1 ++ (Fp2 ++ [])), b < H.length) (hlk : 0 < lk.length := by simp) : ∃ v H1, runL Try.prog hh 280 [.int .i64 aSection0, .int .i64 aBy1, .ptr q0 0] H lk = some (v, H1) ∧ v = .tup [] ∧ Owns H1 H1 [.fblk (q0 :: (Fp1 ++ (Fp2 ++ []))) q0 (.cells 3 [.bool r.Ok, vp1, vp2]), Tree (q0 :: (Fp1 ++ (Fp2 ++ []))) Fp1 r.Sections [vp1], Tree (q0 :: (Fp1 ++ (Fp2 ++ []))) Fp2 r.Dead [vp2]] ∧ H1.length = H.length ∧ ∀ b, b ∉ q0 :: (Fp1 ++ (Fp2 ++ [])) → H1[b]? = H[b]? := by
  refine run_startR Try.func280 rfl Try.ntmps280 Try.results280 rfl rfl ?_
  have hFr := Sees.refl H (q0 :: (Fp1 ++ (Fp2 ++ [])))
  unfold f280 at hk
  refine wpL_sq (wpL_sq (wpL_rg ?_))
  refine pM (.int _ _) ?_
  refine pBi ?_
  refine pE (gn ?_)
  refine wpL_cd (b := decide (aSection0 < (0:Int))) (fun hb => ?_) (fun hb => ?_)
  · replace hk := ct hb hk
    refine wpL_rt (gr ?_)
    replace hk := Option.some.inj hk; subst hk; exact finP hO hFr hlt rfl (nums_S rfl) rfl rfl rfl rfl (by first | exact Or.inl rfl | exact Or.inr rfl)
  · replace hk := cf hb hk
    refine wpL_sk (gn (wpL_sq (wpL_rg ?_)))
    refine pF tF40_1 ?_
    refine pLr hO 0 vp1 tA37 ?_
    refine pM (.int _ _) ?_
    obtain ⟨c1, hc1, hk⟩ := bs hk
    refine pXT hO 1 hc1 tE37 tZ233 (fun b2 hb2 => ?_)
    refine pA (.ptr _ _) ?_
    refine pE (gn ?_)
    refine wpL_mid (fun S' => ∃ (x3 : List Section) (c4 : Section) (J : Nat → V) (G : Heap) (H1 : Heap), f280_k1 aSection0 aBy1 aA2 x3 c4 = some r ∧ getI x3 aSection0 = some c4 ∧ vp1 = .sl b2 0 x3.length ∧ Sees H H1 (q0 :: (Fp1 ++ (Fp2 ++ []))) ∧ Owns H1 G [.fblk (q0 :: (Fp1 ++ (Fp2 ++ []))) q0 (.cells 3 [.bool aA2.Ok, vp1, vp2]), Tree (q0 :: (Fp1 ++ (Fp2 ++ []))) Fp1 x3 [vp1], Tree (q0 :: (Fp1 ++ (Fp2 ++ []))) Fp2 aA2.Dead [vp2]] ∧ S' = ⟨hav [(1, .int .i64 aBy1), (5, .ptr b2 (aSection0.toNat * 5))] J, G⟩) ?_ ?_
    · refine wpL_sq (wpL_rg ?_)
      refine pM (.ptr _ _) ?_
      refine pNil ?_
      refine pF tF233_1 ?_
      refine pLTv foc_Section_Count (.int _ _) hO 1 hb2 hc1 tA3 ?_
      refine pM (.int _ _) ?_
      refine pBi ?_
      refine pA (.int _ _) ?_
      refine pE (gn (wpL_sq (wpL_rg ?_)))
      refine pM (.int _ _) ?_
      refine pBi ?_
      refine pM (.bool _) ?_
      refine wpR_mid (l1 := [_, _, _]) (fun S' => ∃ J, S' = ⟨hav [(1, .int .i64 aBy1), (5, .ptr b2 (aSection0.toNat * 5)), (6, .int .i64 (w64 (c1.Count + aBy1))), (24, .bool (decide ((w64 (c1.Count + aBy1)) ≥ (-1000000:Int)) && decide ((w64 (c1.Count + aBy1)) ≤ (1000000:Int))))] J, H⟩) ?_ ?_
      · refine bc (b := decide ((w64 (c1.Count + aBy1)) ≥ (-1000000:Int))) (fun hg1 => ?_) (fun hg1 => ?_)
        · refine pGy hg1 ?_
          refine pM (.int _ _) ?_
          refine pGy hg1 ?_
          refine pBi ?_
          refine pPt hg1 (.bool _) ?_
          exact pE ⟨_, St.hav _ ⟨rfl, rfl, rfl, by rw [hg1]; rfl, trivial⟩⟩
        · refine pGn hg1 ?_
          refine pGn hg1 ?_
          refine pPf hg1 (.bool _) ?_
          exact pE ⟨_, St.hav _ ⟨rfl, rfl, rfl, by rw [hg1]; rfl, trivial⟩⟩
      · rintro _ ⟨J, rfl⟩
        refine pE (gn ?_)
        refine wpL_cd (b := (decide ((w64 (c1.Count + aBy1)) ≥ (-1000000:Int)) && decide ((w64 (c1.Count + aBy1)) ≤ (1000000:Int)))) (fun hb => ?_) (fun hb => ?_)
        · replace hk := ct hb hk
          refine wpL_rg ?_
          refine pM (.ptr _ _) ?_
          refine pM (.int _ _) ?_
          refine pNil ?_
          refine pF tF233_1 ?_
          refine pST foc_Section_Count (y' := (w64 (c1.Count + aBy1))) hO 1 hb2 hc1 tZ3 (fun _ => ⟨rfl, rfl⟩) hFr hS rfl (fun H1 G hFr hO => ?_)
          have hc_12 := getI_set hc1 ({ c1 with Count := w64 (c1.Count + aBy1) } : Section)
          have hv_12 := sl_set (j := aSection0.toNat) (y := ({ c1 with Count := w64 (c1.Count + aBy1) } : Section)) hb2
          refine pE (gn ?_)
          exact ⟨aA2.Sections.set aSection0.toNat ({ c1 with Count := w64 (c1.Count + aBy1) }), ({ c1 with Count := w64 (c1.Count + aBy1) } : Section), _, _, _, hk, hc_12, hv_12, hFr, hO, St.hav _ ⟨rfl, rfl, trivial⟩⟩
        · replace hk := cf hb hk
          refine wpL_sk (gn ?_)
          exact ⟨aA2.Sections, c1, _, _, _, hk, hc1, hb2, hFr, hO, St.hav _ ⟨rfl, rfl, trivial⟩⟩
    · rintro _ ⟨x3, c4, J, G, H1, hk, hc4, hv5, hFr, hO, rfl⟩
      refine wpL_sq (wpL_rg ?_)
      refine pM (.ptr _ _) ?_
      refine pM (.int _ _) ?_
      refine pNil ?_
      refine pF tF233_4 ?_
      refine pST foc_Section_Last (y' := aBy1) hO 1 hv5 hc4 tZ3 (fun _ => ⟨rfl, rfl⟩) hFr hS rfl (fun H1 G hFr hO => ?_)
      have hc_6 := getI_set hc4 ({ c4 with Last := aBy1 } : Section)
      have hv_6 := sl_set (j := aSection0.toNat) (y := ({ c4 with Last := aBy1 } : Section)) hv5
      refine pE (gn ?_)
      refine wpL_mid (fun S' => ∃ (x7 : List Section) (c8 : Section) (J : Nat → V) (G : Heap) (H1 : Heap), f280_k2 aSection0 aBy1 aA2 x7 c8 = some r ∧ getI x7 aSection0 = some c8 ∧ vp1 = .sl b2 0 x7.length ∧ Sees H H1 (q0 :: (Fp1 ++ (Fp2 ++ []))) ∧ Owns H1 G [.fblk (q0 :: (Fp1 ++ (Fp2 ++ []))) q0 (.cells 3 [.bool aA2.Ok, vp1, vp2]), Tree (q0 :: (Fp1 ++ (Fp2 ++ []))) Fp1 x7 [vp1], Tree (q0 :: (Fp1 ++ (Fp2 ++ []))) Fp2 aA2.Dead [vp2]] ∧ S' = ⟨hav [(1, .int .i64 aBy1), (5, .ptr b2 (aSection0.toNat * 5))] J, G⟩) ?_ ?_
      · refine wpL_sq (wpL_rg ?_)
        refine pM (.ptr _ _) ?_
        refine pNil ?_
        refine pF tF233_1 ?_
        refine pLTv foc_Section_Count (.int _ _) hO 1 hv_6 hc_6 tA3 ?_
        refine pBi ?_
        refine pE (gn ?_)
        refine wpL_cd (b := decide ((({ c4 with Last := aBy1 } : Section).Count) < (0:Int))) (fun hb => ?_) (fun hb => ?_)
        · replace hk := ct hb hk
          refine wpL_rg ?_
          refine pM (.ptr _ _) ?_
          refine pNil ?_
          refine pF tF233_2 ?_
          refine pST foc_Section_Lost (y' := true) hO 1 hv_6 hc_6 tZ4 (fun _ => ⟨rfl, rfl⟩) hFr hS rfl (fun H1 G hFr hO => ?_)
          have hc_11 := getI_set hc_6 ({ ({ c4 with Last := aBy1 } : Section) with Lost := true } : Section)
          have hv_11 := sl_set (j := aSection0.toNat) (y := ({ ({ c4 with Last := aBy1 } : Section) with Lost := true } : Section)) hv_6
          refine pE (gn ?_)
          exact ⟨(x3.set aSection0.toNat ({ c4 with Last := aBy1 })).set aSection0.toNat ({ ({ c4 with Last := aBy1 } : Section) with Lost := true }), ({ ({ c4 with Last := aBy1 } : Section) with Lost := true } : Section), _, _, _, hk, hc_11, hv_11, hFr, hO, St.hav _ ⟨rfl, rfl, trivial⟩⟩
        · replace hk := cf hb hk
          refine wpL_sk (gn ?_)
          exact ⟨x3.set aSection0.toNat ({ c4 with Last := aBy1 }), ({ c4 with Last := aBy1 } : Section), _, _, _, hk, hc_6, hv_6, hFr, hO, St.hav _ ⟨rfl, rfl, trivial⟩⟩
      · rintro _ ⟨x7, c8, J, G, H1, hk, hc8, hv9, hFr, hO, rfl⟩
        refine wpL_sq (wpL_rg ?_)
        refine pM (.ptr _ _) ?_
        refine pNil ?_
        refine pF tF233_3 ?_
        refine pLTv foc_Section_Sweep (.bool _) hO 1 hv9 hc8 tA4 ?_
        refine pM (.bool _) ?_
        refine wpR_mid (l1 := [_, _, _, _, _, _]) (fun S' => ∃ J, S' = ⟨hav [(1, .int .i64 aBy1), (5, .ptr b2 (aSection0.toNat * 5)), (51, .bool (c8.Sweep && (c8.Count == (0:Int))))] J, G⟩) ?_ ?_
        · refine bc (b := c8.Sweep) (fun hg1 => ?_) (fun hg1 => ?_)
          · refine pGy hg1 ?_
            refine pM (.ptr _ _) ?_
            refine pGy hg1 ?_
            refine pNil ?_
            refine pGy hg1 ?_
            refine pF tF233_1 ?_
            refine pGy hg1 ?_
            refine pLTv foc_Section_Count (.int _ _) hO 1 hv9 hc8 tA3 ?_
            refine pGy hg1 ?_
            refine pBi ?_
            refine pPt hg1 (.bool _) ?_
            exact pE ⟨_, St.hav _ ⟨rfl, rfl, by rw [hg1]; rfl, trivial⟩⟩
          · refine pGn hg1 ?_
            refine pGn hg1 ?_
            refine pGn hg1 ?_
            refine pGn hg1 ?_
            refine pGn hg1 ?_
            refine pPf hg1 (.bool _) ?_
            exact pE ⟨_, St.hav _ ⟨rfl, rfl, by rw [hg1]; rfl, trivial⟩⟩
        · rintro _ ⟨J, rfl⟩
          refine pM (.bool _) ?_
          refine wpR_mid (l1 := [_, _, _]) (fun S' => ∃ J, S' = ⟨hav [(5, .ptr b2 (aSection0.toNat * 5)), (55, .bool ((c8.Sweep && (c8.Count == (0:Int))) && (aBy1 == (-1:Int))))] J, G⟩) ?_ ?_
          · refine bc (b := (c8.Sweep && (c8.Count == (0:Int)))) (fun hg1 => ?_) (fun hg1 => ?_)
            · refine pGy hg1 ?_
              refine pM (.int _ _) ?_
              refine pGy hg1 ?_
              refine pBi ?_
              refine pPt hg1 (.bool _) ?_
              exact pE ⟨_, St.hav _ ⟨rfl, by rw [hg1]; rfl, trivial⟩⟩
            · refine pGn hg1 ?_
              refine pGn hg1 ?_
              refine pPf hg1 (.bool _) ?_
              exact pE ⟨_, St.hav _ ⟨rfl, by rw [hg1]; rfl, trivial⟩⟩
          · rintro _ ⟨J, rfl⟩
            refine pE (gn ?_)
            refine wpL_cd (b := ((c8.Sweep && (c8.Count == (0:Int))) && (aBy1 == (-1:Int)))) (fun hb => ?_) (fun hb => ?_)
            · replace hk := ct hb hk
              refine wpL_rg ?_
              refine pM (.ptr _ _) ?_
              refine pNil ?_
              refine pF tF233_3 ?_
              refine pST foc_Section_Sweep (y' := false) hO 1 hv9 hc8 tZ4 (fun _ => ⟨rfl, rfl⟩) hFr hS rfl (fun H1 G hFr hO => ?_)
              have hc_10 := getI_set hc8 ({ c8 with Sweep := false } : Section)
              have hv_10 := sl_set (j := aSection0.toNat) (y := ({ c8 with Sweep := false } : Section)) hv9
              refine pE ?_
              replace hk := Option.some.inj hk; subst hk; exact finP hO hFr hlt rfl (nums_S rfl) rfl rfl rfl rfl (by first | exact Or.inl rfl | exact Or.inr rfl)
            · replace hk := cf hb hk
              refine wpL_sk ?_
              replace hk := Option.some.inj hk; subst hk; exact finP hO hFr hlt rfl (nums_S rfl) rfl rfl rfl rfl (by first | exact Or.inl rfl | exact Or.inr rfl)
/-- impl.doCount$2 -/
def f281 (aSection0 : Int) (aA1 : CountState) : Option CountState :=
  (bif decide (aSection0 ≥ (0:Int)) then ((getI aA1.Sections aSection0).bind fun c1 => some ({ Ok := aA1.Ok, Sections := aA1.Sections.set aSection0.toNat ({ c1 with Lost := true }), Dead := aA1.Dead } : CountState)) else some aA1)
theorem f281_run {aSection0 : Int} {aA1 : CountState} {r : CountState} {q0 : Nat} {vp1 vp2 : V} {Fp1 Fp2 : List Nat} {H : Heap} {lk : Lk} (hk : f281 aSection0 aA1 = some r) (hO : Owns H H [.fblk (q0 :: (Fp1 ++ (Fp2 ++ []))) q0 (.cells 3 [.bool aA1.Ok, vp1, vp2]), Tree (q0 :: (Fp1 ++ (Fp2 ++ []))) Fp1 aA1.Sections [vp1], Tree (q0 :: (Fp1 ++ (Fp2 ++ []))) Fp2 aA1.Dead [vp2]]) (hS : ∀ b ∈ q0 :: (Fp1 ++ (Fp2 ++ [])), unlocked lk b = true) (hlt : ∀ b ∈ q0 :: (Fp1 ++ (Fp2 ++ [])), b < H.length) (hlk : 0 < lk.length := by simp) : ∃ v H1, runL Try.prog hh 281 [.int .i64 aSection0, .ptr q0 0] H lk = some (v, H1) ∧ v = .tup [] ∧ Owns H1 H1 [.fblk (q0 :: (Fp1 ++ (Fp2 ++ []))) q0 (.cells 3 [.bool r.Ok, vp1, vp2]), Tree (q0 :: (Fp1 ++ (Fp2 ++ []))) Fp1 r.Sections [vp1], Tree (q0 :: (Fp1 ++ (Fp2 ++ []))) Fp2 r.Dead [vp2]] ∧ H1.length = H.length ∧ ∀ b, b ∉ q0 :: (Fp1 ++ (Fp2 ++ [])) → H1[b]? = H[b]? := by
  refine run_startR Try.func281 rfl Try.ntmps281 Try.results281 rfl rfl ?_
  have hFr := Sees.refl H (q0 :: (Fp1 ++ (Fp2 ++ [])))
  unfold f281 at hk
  refine wpL_sq (wpL_rg ?_)
  refine pM (.int _ _) ?_
  refine pBi ?_
  refine pE (gn ?_)
  refine wpL_cd (b := decide (aSection0 ≥ (0:Int))) (fun hb => ?_) (fun hb => ?_)
  · replace hk := ct hb hk
    refine wpL_rg ?_
    refine pF tF40_1 ?_
    refine pLr hO 0 vp1 tA37 ?_
    refine pM (.int _ _) ?_
    obtain ⟨c1, hc1, hk⟩ := bs hk
    refine pXT hO 1 hc1 tE37 tZ233 (fun b2 hb2 => ?_)
    refine pF tF233_2 ?_
    refine pST foc_Section_Lost (y' := true) hO 1 hb2 hc1 tZ4 (fun _ => ⟨rfl, rfl⟩) hFr hS rfl (fun H1 G hFr hO => ?_)
    have hc_3 := getI_set hc1 ({ c1 with Lost := true } : Section)
    have hv_3 := sl_set (j := aSection0.toNat) (y := ({ c1 with Lost := true } : Section)) hb2
    refine pE ?_
    replace hk := Option.some.inj hk; subst hk; exact finP hO hFr hlt rfl (nums_S rfl) rfl rfl rfl rfl (by first | exact Or.inl rfl | exact Or.inr rfl)
  · replace hk := cf hb hk
    refine wpL_sk ?_
    replace hk := Option.some.inj hk; subst hk; exact finP hO hFr hlt rfl (nums_S rfl) rfl rfl rfl rfl (by first | exact Or.inl rfl | exact Or.inr rfl)
end
end Go.Proofs.Ytkfekjcahepfnaa.K
